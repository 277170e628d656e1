/- Equal distances; multiplied distances. Plain. -/
import Derived.Test.YtmkggcmebeagaaaDoorLkHt
namespace Go.Proofs.YtmkggcmebeagaaaDoor
set_option linter.unusedVariables false
set_option linter.unusedSimpArgs false
namespace Lk
theorem fold1_rep (m : Mt) (x : Int) : ∀ k : Nat, fold1 m.jn (List.replicate (k + 1) x) = match m with | .average => (k + 1 : Nat) * x | _ => x
  | 0 => by cases m <;> simp [fold1]
  | k + 1 => by
    rw [List.replicate_succ, fold1_cons _ _ (by simp), fold1_rep m x k]
    cases m <;> simp only [Mt.jn]
    · simp
    · simp
    · have : (((k + 1 + 1 : Nat) : Int)) = ((k + 1 : Nat) : Int) + 1 := by omega
      rw [this, Int.add_mul, Int.one_mul, Int.add_comm]
theorem num_even (m : Mt) {d : Nat → Nat → Int} {x : Int} {A B : List Nat} (hA : A ≠ []) (hB : B ≠ []) (h : ∀ a ∈ A, ∀ b ∈ B, d a b = x) : num m d A B = x * den m A B := by
  have hl : cross d A B = List.replicate (A.length * B.length) x := List.eq_replicate_iff.2 ⟨cross_length .., fun y hy => by
    obtain ⟨a, ha, b, hb, rfl⟩ := mem_cross hy
    exact h a ha b hb⟩
  have hp : 0 < A.length * B.length := Nat.mul_pos (List.length_pos_iff.2 hA) (List.length_pos_iff.2 hB)
  obtain ⟨k, hk⟩ : ∃ k, A.length * B.length = k + 1 := ⟨A.length * B.length - 1, by omega⟩
  unfold num
  rw [hl, hk, fold1_rep]
  cases m <;> simp only [den]
  · simp
  · simp
  · rw [← Int.natCast_mul, hk, Int.mul_comm]
theorem pick_head {r : Nat × Nat → Int × Int} {p : Nat × Nat} : ∀ {l : List (Nat × Nat)}, (∀ q ∈ l, ¬ lt (r q) (r p)) → pick r (p :: l) = some p := by
  intro l h
  unfold pick
  rw [List.foldl_cons]
  show l.foldl (pickF r) (some p) = some p
  induction l with
  | nil => rfl
  | cons q l ih =>
    rw [List.foldl_cons]
    have : pickF r (some p) q = some p := by
      simp only [pickF]; rw [if_neg (h q (List.mem_cons_self ..))]
    rw [this]
    exact ih fun q hq => h q (List.mem_cons_of_mem _ hq)
/-- the clusters after t merges, if all distances are equal -/
def evC (n t : Nat) : Cl := fun i => if i = 0 then List.range (t + 1) else if i ≤ t then [] else if i < n then [i] else []
theorem evC_prs {n t : Nat} (h : t + 1 < n) : ∃ l, prs (evC n t) n = (0, t + 1) :: l := by
  have e0 : evC n t 0 ≠ [] := by simp [evC]
  have h1 : prsAt (evC n t) n 0 = (0, t + 1) :: (((List.range' (t + 2) (n - (t + 2))).filter fun j => decide (evC n t j ≠ [])).map fun j => (0, j)) := by
    unfold prsAt
    rw [if_neg e0]
    have hs : List.range' (0 + 1) (n - (0 + 1)) = List.range' 1 t ++ (t + 1) :: List.range' (t + 2) (n - (t + 2)) := by
      have e : n - (0 + 1) = t + (n - (t + 2) + 1) := by omega
      rw [e, Nat.zero_add, ← List.range'_append_1, Nat.add_comm 1 t, List.range'_succ]
    have hz : (List.range' 1 t).filter (fun j => decide (evC n t j ≠ [])) = [] := by
      rw [List.filter_eq_nil_iff]
      intro j hj
      obtain ⟨h1, h2⟩ := List.mem_range'_1.1 hj
      simp [evC, show j ≠ 0 by omega, show j ≤ t by omega]
    have hy : decide (evC n t (t + 1) ≠ []) = true := by simp [evC, h]
    rw [hs, List.filter_append, hz, List.nil_append, List.filter_cons, if_pos hy, List.map_cons]
  refine ⟨(((List.range' (t + 2) (n - (t + 2))).filter fun j => decide (evC n t j ≠ [])).map fun j => (0, j)) ++ (List.range' 1 (n - 1)).flatMap (prsAt (evC n t) n), ?_⟩
  unfold prs
  obtain ⟨k, rfl⟩ : ∃ k, n = k + 1 := ⟨n - 1, by omega⟩
  rw [List.range_eq_range', List.range'_succ, List.flatMap_cons, h1]
  simp
theorem evC_base (n t : Nat) (h : t < n) : Base n (evC n t) := by
  have hm : ∀ i, ∀ x ∈ evC n t i, x < n ∧ ((i = 0 ∧ x ≤ t) ∨ (t < i ∧ x = i)) := by
    intro i x hx
    unfold evC at hx
    split at hx
    · have := List.mem_range.1 hx; omega
    · split at hx
      · cases hx
      · split at hx
        · have := List.mem_singleton.1 hx; omega
        · cases hx
  refine ⟨fun i hi => ?_, fun i x hx => (hm i x hx).1, fun i => ?_, fun i j x hx hy => ?_⟩
  · unfold evC; rw [if_neg (by omega), if_neg (by omega), if_neg (by omega)]
  · unfold evC
    split
    · exact List.nodup_range
    · split
      · exact List.nodup_nil
      · split
        · simp
        · exact List.nodup_nil
  · have h1 := hm i x hx
    have h2 := hm j x hy
    omega
theorem ev_choice (m : Mt) {d : Nat → Nat → Int} {n t : Nat} {x : Int} (hd : ∀ a b, a < n → b < n → a ≠ b → d a b = x) (h : t + 1 < n) : choice m d n (evC n t) = (0, t + 1) ∧ rat m d (evC n t) (0, t + 1) = (x * den m (evC n t 0) (evC n t (t + 1)), den m (evC n t 0) (evC n t (t + 1))) := by
  have hb := evC_base n t (by omega)
  have hr : ∀ q ∈ prs (evC n t) n, rat m d (evC n t) q = (x * den m (evC n t q.1) (evC n t q.2), den m (evC n t q.1) (evC n t q.2)) := fun q hq => by
    obtain ⟨h1, h2, h3, h4⟩ := mem_prs.1 hq
    unfold rat
    rw [num_even m h3 h4 fun a ha b hb' => hd a b (hb.mem _ _ ha) (hb.mem _ _ hb') fun e => by
      subst e
      have := hb.disj _ _ _ ha hb'
      omega]
  obtain ⟨l, hl⟩ := evC_prs (n := n) (t := t) h
  have hm : (0, t + 1) ∈ prs (evC n t) n := by rw [hl]; exact List.mem_cons_self ..
  refine ⟨?_, hr _ hm⟩
  unfold choice
  rw [hl, pick_head, Option.getD_some]
  intro q hq
  have hq' : q ∈ prs (evC n t) n := by rw [hl]; exact List.mem_cons_of_mem _ hq
  rw [hr q hq', hr _ hm]
  unfold lt
  simp only
  generalize den m (evC n t q.1) (evC n t q.2) = u
  generalize den m (evC n t 0) (evC n t (t + 1)) = v
  have : x * u * v = x * v * u := by ac_rfl
  omega
theorem ev_st (m : Mt) {d : Nat → Nat → Int} {n : Nat} {x : Int} (hd : ∀ a b, a < n → b < n → a ≠ b → d a b = x) (hn : 1 ≤ n) : ∀ t, t ≤ n - 1 → st m d n t = evC n t
  | 0, _ => by
    funext i
    simp only [st, start, evC]
    by_cases hi : i = 0
    · subst hi; rw [if_pos (by omega), if_pos rfl]; rfl
    · simp only [if_neg hi, show ¬ i ≤ 0 by omega, if_false]
  | t + 1, h => by
    have ih := ev_st m hd hn t (by omega)
    have hc := (ev_choice m hd (t := t) (by omega)).1
    simp only [st, ih, hc]
    funext i
    simp only [unite]
    by_cases hi : i = 0
    · subst hi
      rw [if_pos rfl]
      have e1 : evC n t 0 = List.range (t + 1) := by simp [evC]
      have e2 : evC n t (t + 1) = [t + 1] := by simp [evC, show t + 1 < n by omega, show ¬ t + 1 ≤ t by omega]
      have e3 : evC n (t + 1) 0 = List.range (t + 1 + 1) := by simp [evC]
      rw [e1, e2, e3, List.range_succ (n := t + 1)]
    · rw [if_neg hi]
      by_cases h2 : i = t + 1
      · subst h2; rw [if_pos rfl]; simp only [evC]; rw [if_neg (by omega), if_pos (by omega)]
      · rw [if_neg h2]
        simp only [evC]
        rw [if_neg hi, if_neg hi]
        by_cases h3 : i ≤ t
        · simp only [if_pos h3, show i ≤ t + 1 by omega, if_true]
        · simp only [if_neg h3, show ¬ i ≤ t + 1 by omega, if_false]
/-- with equal distances the point 0 takes one point after the other -/
theorem ev_run (m : Mt) {d : Nat → Nat → Int} {n t : Nat} {x : Int} (hx : 0 ≤ x) (hd : ∀ a b, a < n → b < n → a ≠ b → d a b = x) (h : t < (runL m d n).length) : (runL m d n)[t] = ⟨0, t + 1, (x, 1), t + 2⟩ := by
  have hl : t < n - 1 := by simpa [runL] using h
  rw [runL_get]
  have hs := ev_st m hd (by omega) t (by omega)
  obtain ⟨hc, hr⟩ := ev_choice m hd (t := t) (by omega)
  unfold mgOf
  rw [hs, hc, hr]
  have e0 : (evC n t 0).length = t + 1 := by simp [evC]
  have e1 : (evC n t (t + 1)).length = 1 := by simp [evC, show t + 1 < n by omega, show ¬ t + 1 ≤ t by omega]
  have hden : 1 ≤ den m (evC n t 0) (evC n t (t + 1)) := den_pos m (by intro e; rw [e] at e0; cases e0) (by intro e; rw [e] at e1; cases e1)
  simp only [e0, e1]
  have hred : red (x * den m (evC n t 0) (evC n t (t + 1)), den m (evC n t 0) (evC n t (t + 1))) = (x, 1) := by
    refine (red_eq (q := (x, 1)) (Int.mul_nonneg hx (by omega)) hden hx (Int.le_refl 1) (by simp)).trans (red_one hx)
  rw [hred]

/-! ### multiplied distances -/
theorem jn_scale (m : Mt) {c : Int} (hc : 0 ≤ c) (x y : Int) : m.jn (c * x) (c * y) = c * m.jn x y := by
  rcases Int.lt_or_eq_of_le hc with h | h
  · cases m <;> simp only [Mt.jn, Int.mul_lt_mul_left h]
    · split <;> rfl
    · split <;> rfl
    · rw [Int.mul_add]
  · subst h
    cases m <;> simp [Mt.jn]
theorem fold1_scale (m : Mt) {c : Int} (hc : 0 ≤ c) : ∀ l : List Int, fold1 m.jn (l.map fun x => c * x) = c * fold1 m.jn l
  | [] => by simp [fold1]
  | x :: l => by
    by_cases hl : l = []
    · subst hl; simp [fold1]
    · rw [List.map_cons, fold1_cons _ _ (by simpa using hl), fold1_cons _ _ hl, fold1_scale m hc l]
      exact jn_scale m hc _ _
theorem num_scale (m : Mt) (d : Nat → Nat → Int) {c : Int} (hc : 0 ≤ c) (A B : List Nat) : num m (fun a b => c * d a b) A B = c * num m d A B := by
  unfold num
  rw [← fold1_scale m hc]
  congr 1
  unfold cross
  rw [List.map_flatMap]
  simp [List.map_map, Function.comp_def]
theorem scale_choice (m : Mt) (d : Nat → Nat → Int) {c : Int} (hc : 0 < c) (n : Nat) (C : Cl) : choice m (fun a b => c * d a b) n C = choice m d n C := by
  unfold choice
  rw [pick_congr]
  intro p _ q _
  unfold lt rat
  simp only
  rw [num_scale m d (by omega), num_scale m d (by omega)]
  generalize num m d (C p.1) (C p.2) = a
  generalize num m d (C q.1) (C q.2) = b
  generalize den m (C p.1) (C p.2) = u
  generalize den m (C q.1) (C q.2) = v
  rw [Int.mul_assoc, Int.mul_assoc]
  exact Int.mul_lt_mul_left hc
theorem scale_st (m : Mt) (d : Nat → Nat → Int) {c : Int} (hc : 0 < c) (n : Nat) : ∀ t, st m (fun a b => c * d a b) n t = st m d n t
  | 0 => rfl
  | t + 1 => by simp only [st]; rw [scale_st m d hc n t, scale_choice m d hc]
theorem low_le {p q : Int × Int} (h : Low p q) {M : Int} (h0 : p.1 ≤ p.2 * M) (h1 : 1 ≤ p.2) : q.1 ≤ q.2 * M := by
  have e := h.eq
  have hd := h.d1
  rcases Int.lt_or_le (q.2 * M) q.1 with hh | hh
  · exfalso
    have a1 : (q.2 * M + 1) * p.2 ≤ q.1 * p.2 := Int.mul_le_mul_of_nonneg_right hh (by omega)
    have a2 : p.1 * q.2 ≤ p.2 * M * q.2 := Int.mul_le_mul_of_nonneg_right h0 (by omega)
    have a3 : p.2 * M * q.2 = (q.2 * M) * p.2 := by ac_rfl
    rw [Int.add_mul] at a1
    omega
  · exact hh
/-- two merges, of distances and of multiplied ones -/
structure SC (m : Mt) (d : Nat → Nat → Int) (c n t : Nat) (A B N E N' E' s : Nat) : Prop where
  eq : ∀ h, (runL m d n)[t]'h = ⟨A, B, ((N : Int), (E : Int)), s⟩
  eq' : ∀ h, (runL m (fun a b => (c : Int) * d a b) n)[t]'h = ⟨A, B, ((N' : Int), (E' : Int)), s⟩
  cross : N * c * E' = N' * E
  b1 : N * c ≤ 225 * 1073741824 * 1000
  b2 : E' ≤ 225
  b3 : E ≤ 225
  b4 : N' ≤ 225 * 1073741824 * 1000
  b5 : N ≤ 225 * 1073741824
theorem sc_of (m : Mt) {d : Nat → Nat → Int} {c n t : Nat} (hn : n ≤ 30) (hc : 1 ≤ c) (hc2 : c ≤ 1000) (hsym : ∀ x y, x < n → y < n → d x y = d y x) (hb : ∀ x y, x < n → y < n → 0 ≤ d x y ∧ d x y ≤ 1073741824) (h : t < n - 1) :
    ∃ A B N E N' E' s, SC m d c n t A B N E N' E' s := by
  have hd : Dist n d := ⟨by omega, hsym, fun x y hx hy => by have := hb x y hx hy; omega⟩
  have h1 := st_ok m d n t (by omega)
  have hm1 := mem_prs.1 (choice_mem m d (c := st m d n t) (n := n) (by omega))
  obtain ⟨n1, n2⟩ := num_bd m (d := d) (M := 1073741824) hm1.2.2.1 hm1.2.2.2 fun a ha b hb' => hb a b (h1.1.base.mem _ _ ha) (h1.1.base.mem _ _ hb')
  have hden := ht_den m (d := d) h (by omega)
  have hpos := den_pos m hm1.2.2.1 hm1.2.2.2
  have hs' := scale_st m d (c := (c : Int)) (by omega) n t
  have hch := scale_choice m d (c := (c : Int)) (by omega) n (st m d n t)
  have hr1 : (ht m d n t).1 = num m d (st m d n t (choice m d n (st m d n t)).1) (st m d n t (choice m d n (st m d n t)).2) := rfl
  have hr2 : (ht m d n t).2 = den m (st m d n t (choice m d n (st m d n t)).1) (st m d n t (choice m d n (st m d n t)).2) := rfl
  have hrat : rat m (fun a b => (c : Int) * d a b) (st m d n t) (choice m d n (st m d n t)) = ((c : Int) * (ht m d n t).1, (ht m d n t).2) := by
    unfold rat; rw [num_scale m d (by omega)]; rfl
  rw [← hr1, ← hr2] at n2
  rw [← hr1] at n1
  rw [← hr2] at hpos
  have eqA : mgOf m d n (st m d n t) = ⟨(choice m d n (st m d n t)).1, (choice m d n (st m d n t)).2, red (ht m d n t), (st m d n t (choice m d n (st m d n t)).1).length + (st m d n t (choice m d n (st m d n t)).2).length⟩ := rfl
  have eqB : mgOf m (fun a b => (c : Int) * d a b) n (st m (fun a b => (c : Int) * d a b) n t) = ⟨(choice m d n (st m d n t)).1, (choice m d n (st m d n t)).2, red ((c : Int) * (ht m d n t).1, (ht m d n t).2), (st m d n t (choice m d n (st m d n t)).1).length + (st m d n t (choice m d n (st m d n t)).2).length⟩ := by
    unfold mgOf; rw [hs', hch, hrat]
  generalize ht m d n t = p at *
  have hd4 : p.2 ≤ 225 := by
    have : (n : Int) * n ≤ 30 * 30 := Int.mul_le_mul (by omega) (by omega) (by omega) (by omega)
    omega
  have hcI : (0 : Int) ≤ c := by omega
  have l1 := red_low n1 hpos
  have l2 := red_low (p := ((c : Int) * p.1, p.2)) (Int.mul_nonneg hcI n1) hpos
  have u1 := low_le l1 n2 hpos
  have u2 := low_le l2 (M := 1073741824 * 1000) (by
    simp only
    have a1 : (c : Int) * p.1 ≤ c * (p.2 * 1073741824) := Int.mul_le_mul_of_nonneg_left n2 hcI
    have a2 : (c : Int) * (p.2 * 1073741824) ≤ 1000 * (p.2 * 1073741824) := Int.mul_le_mul_of_nonneg_right (by omega) (by omega)
    omega) hpos
  have d1 := l1.dle
  have d2 := l2.dle
  have g1 := l1.d1
  have g2 := l2.d1
  have k1 := l1.n0
  have k2 := l2.n0
  have q1 := l1.eq
  have q2 := l2.eq
  generalize red p = x at *
  generalize red ((c : Int) * p.1, p.2) = y at *
  obtain ⟨x1, x2⟩ := x
  obtain ⟨y1, y2⟩ := y
  simp only at *
  obtain ⟨N, rfl⟩ := Int.eq_ofNat_of_zero_le k1
  obtain ⟨E, rfl⟩ := Int.eq_ofNat_of_zero_le (show 0 ≤ x2 by omega)
  obtain ⟨N', rfl⟩ := Int.eq_ofNat_of_zero_le k2
  obtain ⟨E', rfl⟩ := Int.eq_ofNat_of_zero_le (show 0 ≤ y2 by omega)
  have hNb : N ≤ 225 * 1073741824 := by omega
  refine ⟨_, _, N, E, N', E', _, fun hh => by rw [runL_get]; exact eqA, fun hh => by rw [runL_get]; exact eqB, ?_, ?_, by omega, by omega, by omega, hNb⟩
  · have e : (N : Int) * c * E' * p.2 = N' * E * p.2 := by
      calc (N : Int) * c * E' * p.2 = (N * p.2) * (c * E') := by ac_rfl
        _ = (p.1 * E) * (c * E') := by rw [q1]
        _ = ((c * p.1) * E') * E := by ac_rfl
        _ = (N' * p.2) * E := by rw [q2]
        _ = N' * E * p.2 := by ac_rfl
    have := Int.eq_of_mul_eq_mul_right (by omega) e
    exact_mod_cast this
  · exact Nat.mul_le_mul hNb hc2
end Lk
end Go.Proofs.YtmkggcmebeagaaaDoor
