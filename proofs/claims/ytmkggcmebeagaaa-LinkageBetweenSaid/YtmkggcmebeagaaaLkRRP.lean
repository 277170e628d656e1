/- The reference's list of clusters, and its choice. Plain. -/
import Derived.Test.YtmkggcmebeagaaaLkHt
namespace Go.Proofs.Ytmkggcmebeagaaa
set_option linter.unusedVariables false
set_option linter.unusedSimpArgs false
namespace Lk
/-- the clusters in the order of their heads -/
def rC (c : Cl) (n : Nat) : List (List Nat) := (live c n).map c
theorem rC_length (c : Cl) (n : Nat) : (rC c n).length = (live c n).length := by simp [rC]
theorem rC_start (n : Nat) : rC (start n) n = (List.range n).map fun i => [i] := by
  unfold rC; rw [start_live]
  exact List.map_congr_left fun i hi => by simp [start, List.mem_range.1 hi]
theorem rC_get {c : Cl} {n i : Nat} (h : i < (rC c n).length) : (rC c n)[i] = c ((live c n)[i]'(by rw [← rC_length]; exact h)) := by simp [rC]
theorem live_get {c : Cl} {n i : Nat} (h : i < (live c n).length) : (live c n)[i] < n ∧ c (live c n)[i] ≠ [] := by
  have := List.getElem_mem h
  obtain ⟨h1, h2⟩ := List.mem_filter.1 this
  exact ⟨List.mem_range.1 h1, by simpa using h2⟩
theorem live_sorted (c : Cl) (n : Nat) : (live c n).Pairwise (· < ·) := List.Pairwise.filter _ List.pairwise_lt_range
theorem live_nodup (c : Cl) (n : Nat) : (live c n).Nodup := (live_sorted c n).imp fun h => Nat.ne_of_lt h

/-- the pairs of a list -/
def pairsOf : List Nat → List (Nat × Nat)
  | [] => []
  | x :: l => l.map (fun y => (x, y)) ++ pairsOf l
theorem prs_pairs (c : Cl) (n : Nat) : prs c n = pairsOf (live c n) := by
  have key : ∀ k s, s + k = n → (List.range' s k).flatMap (prsAt c n) = pairsOf ((List.range' s k).filter fun i => decide (c i ≠ [])) := by
    intro k
    induction k with
    | zero => intro s _; rfl
    | succ k ih =>
      intro s hs
      rw [List.range'_succ, List.flatMap_cons, ih (s + 1) (by omega), List.filter_cons]
      by_cases h : c s = []
      · have : decide (c s ≠ []) = false := by simp [h]
        rw [if_neg (by rw [this]; simp)]
        unfold prsAt
        rw [if_pos h, List.nil_append]
      · have : decide (c s ≠ []) = true := by simp [h]
        rw [if_pos this]
        unfold prsAt
        rw [if_neg h]
        show _ = List.map _ _ ++ _
        have e : n - (s + 1) = k := by omega
        rw [e]
  unfold prs live
  rw [List.range_eq_range']
  exact key n 0 (by omega)
/-- the pairs before a place -/
def pp (L : List Nat) (i j : Nat) : List (Nat × Nat) := ((List.range i).flatMap fun a => (L.drop (a + 1)).map fun y => (L.getD a 0, y)) ++ ((L.drop (i + 1)).take (j - (i + 1))).map fun y => (L.getD i 0, y)
theorem pp_start (L : List Nat) : pp L 0 1 = [] := by simp [pp]
theorem pp_next {L : List Nat} {i j : Nat} (hij : i < j) (hj : j < L.length) : pp L i (j + 1) = pp L i j ++ [(L[i], L[j])] := by
  unfold pp
  rw [List.append_assoc]
  congr 1
  have e : j + 1 - (i + 1) = j - (i + 1) + 1 := by omega
  have hl : j - (i + 1) < (L.drop (i + 1)).length := by rw [List.length_drop]; omega
  rw [e, ← List.take_append_getElem hl, List.map_append, List.map_singleton, List.getElem_drop]
  have e2 : i + 1 + (j - (i + 1)) = j := by omega
  simp only [e2]
  rw [List.getD_eq_getElem?_getD, List.getElem?_eq_getElem (by omega), Option.getD_some]
theorem pp_row {L : List Nat} {i : Nat} (_hi : i < L.length) : pp L i L.length = pp L (i + 1) (i + 1 + 1) := by
  unfold pp
  have h1 : (L.drop (i + 1)).take (L.length - (i + 1)) = L.drop (i + 1) := List.take_of_length_le (by rw [List.length_drop]; omega)
  rw [h1, List.range_succ, List.flatMap_append]
  simp
theorem pp_end (L : List Nat) : pp L L.length (L.length + 1) = pairsOf L := by
  have key : ∀ (K : List Nat) (pre : List Nat), L = pre ++ K → (List.range' pre.length K.length).flatMap (fun a => (L.drop (a + 1)).map fun y => (L.getD a 0, y)) = pairsOf K := by
    intro K
    induction K with
    | nil => intros; rfl
    | cons x K ih =>
      intro pre hL
      have h1 := ih (pre ++ [x]) (by rw [hL]; simp)
      rw [List.length_cons, List.range'_succ, List.flatMap_cons]
      have e1 : (pre ++ [x]).length = pre.length + 1 := by simp
      rw [e1] at h1
      rw [h1]
      show _ = List.map _ _ ++ _
      congr 1
      have e2 : L.drop (pre.length + 1) = K := by rw [hL]; simp
      have e3 : L.getD pre.length 0 = x := by rw [hL]; simp
      rw [e2, e3]
  have := key L [] rfl
  unfold pp
  simp only [List.drop_eq_nil_of_le (show L.length ≤ L.length + 1 by omega), List.take_nil, List.map_nil, List.append_nil]
  rw [List.range_eq_range']
  exact this
/-- what the reference holds for the nearest pair -/
def RBest (L : List Nat) (r : Nat × Nat → Int × Int) (o : Option (Nat × Nat)) (x y : Int) (f : Int × Int) : Prop :=
  match o with
  | none => x = -1 ∧ y = -1 ∧ f = (0, 0)
  | some q => ∃ i j : Nat, x = i ∧ y = j ∧ i < j ∧ j < L.length ∧ L[i]? = some q.1 ∧ L[j]? = some q.2 ∧ f = red (r q)
theorem filter_cut {L : List Nat} (hnd : L.Nodup) {j : Nat} (hj : j < L.length) : L.filter (fun k => decide (k ≠ L[j])) = L.take j ++ L.drop (j + 1) := by
  obtain ⟨b, hb⟩ : ∃ b, L[j] = b := ⟨_, rfl⟩
  have hL : L.take j ++ b :: L.drop (j + 1) = L := by rw [← hb, ← List.drop_eq_getElem_cons hj, List.take_append_drop]
  have hn : (L.take j ++ b :: L.drop (j + 1)).Nodup := by rw [hL]; exact hnd
  obtain ⟨_, h2, h3⟩ := List.nodup_append.1 hn
  have h4 := (List.nodup_cons.1 h2).1
  rw [hb]
  have e1 : (L.take j).filter (fun k => decide (k ≠ b)) = L.take j := by
    rw [List.filter_eq_self]
    intro k hk
    have : k ≠ b := fun e => h3 k hk b (List.mem_cons_self ..) e
    simpa using this
  have e2 : (L.drop (j + 1)).filter (fun k => decide (k ≠ b)) = L.drop (j + 1) := by
    rw [List.filter_eq_self]
    intro k hk
    have : k ≠ b := fun e => h4 (e ▸ hk)
    simpa using this
  have e3 : L.filter (fun k => decide (k ≠ b)) = (L.take j ++ b :: L.drop (j + 1)).filter (fun k => decide (k ≠ b)) := by rw [hL]
  rw [e3, List.filter_append, List.filter_cons, e1, e2]
  simp
/-- a union, in the list -/
theorem rC_unite {c : Cl} {n i j : Nat} (hij : i < j) (hj : j < (live c n).length) :
    rC (unite c ((live c n)[i]) ((live c n)[j])) n = ((rC c n).set i (c ((live c n)[i]) ++ c ((live c n)[j]))).take j ++ ((rC c n).set i (c ((live c n)[i]) ++ c ((live c n)[j]))).drop (j + 1) := by
  have hnd := live_nodup c n
  have hi : i < (live c n).length := by omega
  have hne : (live c n)[i] ≠ (live c n)[j] := fun e => by
    have := List.pairwise_iff_getElem.1 (live_sorted c n) i j hi hj hij
    omega
  have ha := live_get hi
  have hb := live_get hj
  obtain ⟨A, hA⟩ : ∃ A, (live c n)[i] = A := ⟨_, rfl⟩
  obtain ⟨B, hB⟩ : ∃ B, (live c n)[j] = B := ⟨_, rfl⟩
  have hl : live (unite c A B) n = (live c n).take j ++ (live c n).drop (j + 1) := by
    rw [← filter_cut hnd hj, hB]
    unfold live
    rw [List.filter_filter]
    refine List.filter_congr fun k _ => ?_
    rw [← Bool.decide_and, decide_eq_decide]
    rw [hA] at ha
    rw [hA, hB] at hne
    simp only [unite]
    by_cases e1 : k = A
    · rw [if_pos e1]; subst e1
      simp [ha.2, hne]
    · rw [if_neg e1]
      by_cases e2 : k = B
      · rw [if_pos e2]; simp [e2]
      · rw [if_neg e2]; simp [e2]
  have hs : (List.map c (live c n)).set i (c A ++ c B) = (live c n).map fun k => if k = A then c A ++ c B else c k := by
    apply List.ext_getElem
    · simp
    · intro t h1 h2
      simp only [List.length_map] at h2
      simp only [List.getElem_set, List.getElem_map]
      by_cases e : i = t
      · subst e; rw [if_pos rfl, if_pos hA]
      · rw [if_neg e, if_neg fun h => e ((List.getElem_inj hnd).1 (hA.trans h.symm))]
  have hmem : ∀ k ∈ (live c n).take j ++ (live c n).drop (j + 1), k ≠ B := fun k hk => by
    rw [← filter_cut hnd hj, hB] at hk
    simpa using (List.mem_filter.1 hk).2
  unfold rC
  rw [hA, hB, hl, hs, ← List.map_take, ← List.map_drop, ← List.map_append]
  refine List.map_congr_left fun k hk => ?_
  simp only [unite]
  by_cases e : k = A
  · rw [if_pos e, if_pos e]
  · rw [if_neg e, if_neg e, if_neg (hmem k hk)]
theorem prs_idx {c : Cl} {n a b : Nat} (hab : a < b) (hb : b < (live c n).length) : ((live c n)[a], (live c n)[b]) ∈ prs c n := by
  have h1 := live_get (c := c) (n := n) (i := a) (by omega)
  have h2 := live_get hb
  exact mem_prs.2 ⟨List.pairwise_iff_getElem.1 (live_sorted c n) a b (by omega) hb hab, h2.1, h1.2, h2.2⟩
/-- a reduced distance of few points -/
structure Sm (f : Int × Int) : Prop where
  n0 : 0 ≤ f.1
  n1 : f.1 ≤ 215504279044096
  d0 : 0 ≤ f.2
  d1 : f.2 ≤ 196
theorem sm_of (m : Mt) {d : Nat → Nat → Int} {n : Nat} {c : Cl} (hd : Dist n d) (hc : Base n c) (hn : n ≤ 14) {q : Nat × Nat} (hq : q ∈ prs c n) : Sm (red (rat m d c q)) ∧ 1 ≤ (red (rat m d c q)).2 := by
  obtain ⟨h1, h2, h3, h4⟩ := mem_prs.1 hq
  obtain ⟨b1, b2, b3, b4, b5⟩ := hd.num_bd hc m h3 h4
  have hl := red_low (p := rat m d c q) b1 b3
  have hden : (rat m d c q).2 ≤ 196 := by
    have a := hc.len q.1
    have b := hc.len q.2
    unfold rat
    cases m <;> simp only [den] <;> try omega
    have : (c q.1).length * (c q.2).length ≤ 14 * 14 := Nat.mul_le_mul (by omega) (by omega)
    have e : (((c q.1).length * (c q.2).length : Nat) : Int) = (c q.1).length * (c q.2).length := Int.natCast_mul ..
    omega
  have hb := low_bd hl b5 b3
  have g1 := hl.n0
  have g2 := hl.d1
  have g3 := hl.dle
  exact ⟨⟨g1, by omega, by omega, by omega⟩, g2⟩
theorem rbest_sm {m : Mt} {d : Nat → Nat → Int} {n : Nat} {c : Cl} (hd : Dist n d) (hc : Base n c) (hn : n ≤ 14) {o : Option (Nat × Nat)} {x y : Int} {f : Int × Int} (h : RBest (live c n) (rat m d c) o x y f) : Sm f ∧ (x = -1 ∨ 0 ≤ x) := by
  cases o with
  | none => obtain ⟨rfl, _, rfl⟩ := h; exact ⟨⟨by simp, by simp, by simp, by simp⟩, .inl rfl⟩
  | some q =>
    obtain ⟨i, j, rfl, rfl, hij, hj, h1, h2, rfl⟩ := h
    obtain ⟨_, e1⟩ := List.getElem?_eq_some_iff.1 h1
    obtain ⟨_, e2⟩ := List.getElem?_eq_some_iff.1 h2
    have hm := prs_idx hij hj
    rw [e1, e2] at hm
    exact ⟨(sm_of m hd hc hn hm).1, .inr (by omega)⟩
theorem rbest_next {m : Mt} {d : Nat → Nat → Int} {n : Nat} {c : Cl} (hd : Dist n d) (hc : Base n c) {l : List (Nat × Nat)} {x y : Int} {f : Int × Int} (h : RBest (live c n) (rat m d c) (pick (rat m d c) l) x y f)
    {a b : Nat} (hab : a < b) (hb : b < (live c n).length) {F : Int × Int} (hF : red (rat m d c ((live c n)[a], (live c n)[b])) = F) :
    ((x < 0 ∨ F.1 * f.2 < f.1 * F.2) → RBest (live c n) (rat m d c) (pick (rat m d c) (l ++ [((live c n)[a], (live c n)[b])])) a b F) ∧
    (¬ (x < 0 ∨ F.1 * f.2 < f.1 * F.2) → RBest (live c n) (rat m d c) (pick (rat m d c) (l ++ [((live c n)[a], (live c n)[b])])) x y f) := by
  rw [pick_snoc]
  have hm := prs_idx (c := c) (n := n) hab hb
  have new : RBest (live c n) (rat m d c) (some ((live c n)[a], (live c n)[b])) a b F := ⟨a, b, rfl, rfl, hab, hb, List.getElem?_eq_getElem (by omega), List.getElem?_eq_getElem hb, hF.symm⟩
  cases hp : pick (rat m d c) l with
  | none =>
    rw [hp] at h
    obtain ⟨rfl, _, rfl⟩ := h
    simp only [pickF]
    exact ⟨fun _ => new, fun hn => absurd (.inl (by omega)) hn⟩
  | some q =>
    rw [hp] at h
    obtain ⟨i, j, rfl, rfl, hij, hj, h1, h2, rfl⟩ := h
    obtain ⟨_, e1⟩ := List.getElem?_eq_some_iff.1 h1
    obtain ⟨_, e2⟩ := List.getElem?_eq_some_iff.1 h2
    have hq := prs_idx hij hj
    rw [e1, e2] at hq
    have bd : ∀ q ∈ prs c n, 0 ≤ (rat m d c q).1 ∧ 1 ≤ (rat m d c q).2 := fun q hq => by
      obtain ⟨_, _, h3, h4⟩ := mem_prs.1 hq
      obtain ⟨b1, _, b3, _⟩ := hd.num_bd hc m h3 h4
      exact ⟨b1, b3⟩
    have hiff := lt_red (bd _ hm).1 (bd _ hm).2 (bd _ hq).1 (bd _ hq).2
    rw [hF] at hiff
    unfold lt at hiff
    simp only [pickF]
    constructor
    · intro hh
      have : lt (rat m d c ((live c n)[a], (live c n)[b])) (rat m d c q) := hiff.1 (by rcases hh with hh | hh; omega; exact hh)
      rw [if_pos this]; exact new
    · intro hh
      have : ¬ lt (rat m d c ((live c n)[a], (live c n)[b])) (rat m d c q) := fun k => hh (.inr (hiff.2 k))
      rw [if_neg this]
      exact ⟨i, j, rfl, rfl, hij, hj, h1, h2, rfl⟩
end Lk
end Go.Proofs.Ytmkggcmebeagaaa
