/- Plain facts on agglomerative clustering: distances of unions, the choice of a pair, the merges. Nothing of the program. -/
namespace Go.Proofs.Ytmkggcmebeagaaa
set_option linter.unusedVariables false
set_option linter.unusedSimpArgs false
namespace Lk

/-- the methods -/
inductive Mt where | single | complete | average
def Mt.num : Mt → Int | .single => 1 | .complete => 2 | .average => 3
/-- the distance of a union, of those of its parts -/
def Mt.jn : Mt → Int → Int → Int
  | .single, x, y => if x < y then x else y
  | .complete, x, y => if x < y then y else x
  | .average, x, y => x + y
theorem Mt.jn_comm (m : Mt) (x y : Int) : m.jn x y = m.jn y x := by cases m <;> simp only [Mt.jn] <;> (try split) <;> (try split) <;> omega
theorem Mt.jn_assoc (m : Mt) (x y z : Int) : m.jn (m.jn x y) z = m.jn x (m.jn y z) := by
  cases m <;> simp only [Mt.jn]
  · by_cases h1 : x < y <;> by_cases h2 : y < z <;> by_cases h3 : x < z <;> simp only [h1, h2, h3, if_true, if_false] <;> omega
  · by_cases h1 : x < y <;> by_cases h2 : y < z <;> by_cases h3 : x < z <;> simp only [h1, h2, h3, if_true, if_false] <;> omega
  · omega

def fold1 (f : Int → Int → Int) : List Int → Int
  | [] => 0
  | [x] => x
  | x :: y :: l => f x (fold1 f (y :: l))
theorem fold1_cons (f : Int → Int → Int) (x : Int) {l : List Int} (h : l ≠ []) : fold1 f (x :: l) = f x (fold1 f l) := by
  cases l with
  | nil => exact absurd rfl h
  | cons y l => rfl
theorem fold1_append (m : Mt) : ∀ {l k : List Int}, l ≠ [] → k ≠ [] → fold1 m.jn (l ++ k) = m.jn (fold1 m.jn l) (fold1 m.jn k)
  | [], _, h, _ => absurd rfl h
  | [x], k, _, h => by rw [List.singleton_append, fold1_cons _ _ h]; rfl
  | x :: y :: l, k, _, h => by
    rw [List.cons_append, fold1_cons _ _ (by simp), fold1_append m (by simp) h, fold1_cons _ x (by simp), Mt.jn_assoc]
theorem fold1_perm (m : Mt) {l k : List Int} (h : l.Perm k) : fold1 m.jn l = fold1 m.jn k := by
  induction h with
  | nil => rfl
  | cons x h ih =>
    rename_i l k
    by_cases hl : l = []
    · subst hl
      rw [h.nil_eq]
    · have hk : k ≠ [] := fun e => hl (by subst e; exact h.eq_nil)
      rw [fold1_cons _ _ hl, fold1_cons _ _ hk, ih]
  | swap x y l =>
    cases l with
    | nil => simp only [fold1]; exact m.jn_comm _ _
    | cons z l =>
      rw [fold1_cons m.jn y (l := x :: z :: l) (by simp), fold1_cons m.jn x (l := z :: l) (by simp), fold1_cons m.jn x (l := y :: z :: l) (by simp), fold1_cons m.jn y (l := z :: l) (by simp), ← m.jn_assoc, ← m.jn_assoc, m.jn_comm x y]
  | trans _ _ ih1 ih2 => rw [ih1, ih2]

/-- all distances between two lists of points -/
def cross (d : Nat → Nat → Int) (A B : List Nat) : List Int := A.flatMap fun a => B.map fun b => d a b
/-- the distance between two lists of points, not divided -/
def num (m : Mt) (d : Nat → Nat → Int) (A B : List Nat) : Int := fold1 m.jn (cross d A B)
def den (m : Mt) (A B : List Nat) : Int := match m with | .average => (A.length : Int) * B.length | _ => 1

theorem cross_ne {d : Nat → Nat → Int} {A B : List Nat} (hA : A ≠ []) (hB : B ≠ []) : cross d A B ≠ [] := by
  obtain ⟨a, A, rfl⟩ := List.exists_cons_of_ne_nil hA
  obtain ⟨b, B, rfl⟩ := List.exists_cons_of_ne_nil hB
  simp [cross]
theorem cross_length (d : Nat → Nat → Int) (A B : List Nat) : (cross d A B).length = A.length * B.length := by
  induction A with
  | nil => simp [cross]
  | cons a A ih => simp only [cross, List.flatMap_cons, List.length_append, List.length_map, List.length_cons] at ih ⊢; rw [ih, Nat.add_mul]; omega
theorem cross_append (d : Nat → Nat → Int) (A A' B : List Nat) : cross d (A ++ A') B = cross d A B ++ cross d A' B := by simp [cross]
theorem num_append (m : Mt) (d : Nat → Nat → Int) {A A' B : List Nat} (hA : A ≠ []) (hA' : A' ≠ []) (hB : B ≠ []) : num m d (A ++ A') B = m.jn (num m d A B) (num m d A' B) := by
  unfold num; rw [cross_append, fold1_append m (cross_ne hA hB) (cross_ne hA' hB)]
theorem cross_perm (d : Nat → Nat → Int) {A A' : List Nat} (h : A.Perm A') (B : List Nat) : (cross d A B).Perm (cross d A' B) := h.flatMap_right _
theorem num_perm (m : Mt) (d : Nat → Nat → Int) {A A' : List Nat} (h : A.Perm A') (B : List Nat) : num m d A B = num m d A' B := fold1_perm m (cross_perm d h B)
theorem cross_cons_right (d : Nat → Nat → Int) (x : Nat) (A : List Nat) : ∀ B : List Nat, (cross d B (x :: A)).Perm (B.map (fun b => d b x) ++ cross d B A)
  | [] => .nil
  | b :: B => by
    have ih := cross_cons_right d x A B
    simp only [cross, List.flatMap_cons, List.map_cons, List.cons_append] at ih ⊢
    refine .cons _ ?_
    refine ((List.Perm.refl (A.map fun c => d b c)).append ih).trans ?_
    rw [← List.append_assoc, ← List.append_assoc]
    exact List.perm_append_comm.append_right _
theorem cross_comm (d : Nat → Nat → Int) : ∀ (A B : List Nat), (∀ a ∈ A, ∀ b ∈ B, d a b = d b a) → (cross d A B).Perm (cross d B A)
  | [], B, _ => by simp [cross]
  | a :: A, B, h => by
    have ih := cross_comm d A B fun x hx => h x (List.mem_cons_of_mem _ hx)
    refine List.Perm.trans ?_ (cross_cons_right d a A B).symm
    have e : B.map (fun b => d a b) = B.map (fun b => d b a) := List.map_congr_left fun b hb => h a (List.mem_cons_self ..) b hb
    simp only [cross, List.flatMap_cons] at ih ⊢
    rw [e]
    exact ih.append_left _
theorem num_comm (m : Mt) (d : Nat → Nat → Int) {A B : List Nat} (h : ∀ a ∈ A, ∀ b ∈ B, d a b = d b a) : num m d A B = num m d B A := fold1_perm m (cross_comm d A B h)
theorem den_comm (m : Mt) (A B : List Nat) : den m A B = den m B A := by cases m <;> simp [den, Int.mul_comm]
theorem den_pos (m : Mt) {A B : List Nat} (hA : A ≠ []) (hB : B ≠ []) : 1 ≤ den m A B := by
  have h1 : 0 < A.length := List.length_pos_iff.2 hA
  have h2 : 0 < B.length := List.length_pos_iff.2 hB
  cases m <;> simp only [den] <;> try omega
  have h3 : 0 < A.length * B.length := Nat.mul_pos h1 h2
  have h4 : ((A.length * B.length : Nat) : Int) = (A.length : Int) * B.length := Int.natCast_mul ..
  omega
theorem mem_cross {d : Nat → Nat → Int} {A B : List Nat} {x : Int} (h : x ∈ cross d A B) : ∃ a ∈ A, ∃ b ∈ B, x = d a b := by
  simp only [cross, List.mem_flatMap, List.mem_map] at h
  obtain ⟨a, ha, b, hb, rfl⟩ := h
  exact ⟨a, ha, b, hb, rfl⟩

/-- what all numbers of a list have, the fold of min and max has, too -/
theorem fold1_mem {m : Mt} (hm : m ≠ .average) : ∀ {l : List Int}, l ≠ [] → fold1 m.jn l ∈ l
  | [], h => absurd rfl h
  | [x], _ => by simp [fold1]
  | x :: y :: l, _ => by
    rw [fold1_cons _ _ (by simp)]
    have ih := fold1_mem hm (l := y :: l) (by simp)
    cases m with
    | average => exact absurd rfl hm
    | single => simp only [Mt.jn]; split; exact List.mem_cons_self ..; exact List.mem_cons_of_mem _ ih
    | complete => simp only [Mt.jn]; split; exact List.mem_cons_of_mem _ ih; exact List.mem_cons_self ..
theorem fold1_sum : ∀ (l : List Int) (M : Int), (∀ x ∈ l, 0 ≤ x ∧ x ≤ M) → 0 ≤ fold1 Mt.average.jn l ∧ fold1 Mt.average.jn l ≤ l.length * M
  | [], M, _ => by simp [fold1]
  | [x], M, h => by have := h x (by simp); simp [fold1]; omega
  | x :: y :: l, M, h => by
    rw [fold1_cons _ _ (by simp)]
    have ih := fold1_sum (y :: l) M fun z hz => h z (List.mem_cons_of_mem _ hz)
    have hx := h x (List.mem_cons_self ..)
    simp only [Mt.jn]
    rw [List.length_cons]
    have e : ((((y :: l).length + 1 : Nat) : Int)) * M = (y :: l).length * M + M := by rw [Int.natCast_add, Int.add_mul]; simp
    rw [e]
    omega
theorem num_bd (m : Mt) {d : Nat → Nat → Int} {A B : List Nat} {M : Int} (hA : A ≠ []) (hB : B ≠ []) (h : ∀ a ∈ A, ∀ b ∈ B, 0 ≤ d a b ∧ d a b ≤ M) : 0 ≤ num m d A B ∧ num m d A B ≤ den m A B * M := by
  have h' : ∀ x ∈ cross d A B, 0 ≤ x ∧ x ≤ M := fun x hx => by
    obtain ⟨a, ha, b, hb, rfl⟩ := mem_cross hx
    exact h a ha b hb
  by_cases hm : m = .average
  · subst hm
    have := fold1_sum _ M h'
    rw [cross_length, Int.natCast_mul] at this
    exact this
  · have := h' _ (fold1_mem hm (cross_ne (d := d) hA hB))
    cases m with
    | average => exact absurd rfl hm
    | single => simpa [den, num] using this
    | complete => simpa [den, num] using this

/-! ### the choice of a pair -/

/-- fractions by their order -/
def lt (p q : Int × Int) : Prop := p.1 * q.2 < q.1 * p.2
instance (p q : Int × Int) : Decidable (lt p q) := inferInstanceAs (Decidable (_ < _))

def pickF (r : Nat × Nat → Int × Int) : Option (Nat × Nat) → Nat × Nat → Option (Nat × Nat)
  | none, p => some p
  | some q, p => if lt (r p) (r q) then some p else some q
def pick (r : Nat × Nat → Int × Int) (l : List (Nat × Nat)) : Option (Nat × Nat) := l.foldl (pickF r) none

theorem pick_snoc (r : Nat × Nat → Int × Int) (l : List (Nat × Nat)) (p : Nat × Nat) : pick r (l ++ [p]) = pickF r (pick r l) p := by simp [pick]
theorem pick_none {r : Nat × Nat → Int × Int} {l : List (Nat × Nat)} : pick r l = none ↔ l = [] := by
  rcases List.eq_nil_or_concat l with rfl | ⟨l, p, rfl⟩
  · simp [pick]
  · rw [List.concat_eq_append, pick_snoc]
    cases pick r l with
    | none => simp [pickF]
    | some q => simp only [pickF]; split <;> simp
theorem pick_mem {r : Nat × Nat → Int × Int} {l : List (Nat × Nat)} {p : Nat × Nat} (h : pick r l = some p) : p ∈ l := by
  have : ∀ (n : Nat) (l : List (Nat × Nat)) (p : Nat × Nat), l.length = n → pick r l = some p → p ∈ l := by
    intro n
    induction n with
    | zero => intro l p hl h; rw [List.length_eq_zero_iff.1 hl] at h; cases h
    | succ n ih =>
      intro l p hl h
      rcases List.eq_nil_or_concat l with rfl | ⟨l, q, rfl⟩
      · cases hl
      · rw [List.concat_eq_append] at hl h ⊢
        rw [pick_snoc] at h
        have hl' : l.length = n := by simpa using hl
        cases hp : pick r l with
        | none => rw [hp] at h; simp only [pickF] at h; cases h; simp
        | some p' =>
          rw [hp] at h
          simp only [pickF] at h
          split at h
          · cases h; simp
          · cases h; exact List.mem_append_left _ (ih l _ hl' hp)
  exact this _ l p rfl h

/-- a choice by other fractions of the same order -/
theorem pick_congr {r s : Nat × Nat → Int × Int} {l : List (Nat × Nat)} (h : ∀ p ∈ l, ∀ q ∈ l, lt (r p) (r q) ↔ lt (s p) (s q)) : pick r l = pick s l := by
  have : ∀ (k : List (Nat × Nat)) (o : Option (Nat × Nat)), (∀ p ∈ k, p ∈ l) → (∀ p, o = some p → p ∈ l) → k.foldl (pickF r) o = k.foldl (pickF s) o := by
    intro k
    induction k with
    | nil => intros; rfl
    | cons p k ih =>
      intro o hk ho
      have e : pickF r o p = pickF s o p := by
        cases o with
        | none => rfl
        | some q =>
          have hh := h p (hk p (List.mem_cons_self ..)) q (ho q rfl)
          simp only [pickF]
          by_cases hlt : lt (r p) (r q)
          · rw [if_pos hlt, if_pos (hh.1 hlt)]
          · rw [if_neg hlt, if_neg (fun x => hlt (hh.2 x))]
      rw [List.foldl_cons, List.foldl_cons, e]
      refine ih _ (fun q hq => hk q (List.mem_cons_of_mem _ hq)) fun q hq => ?_
      cases o with
      | none => simp only [pickF] at hq; cases hq; exact hk _ (List.mem_cons_self ..)
      | some q' =>
        simp only [pickF] at hq
        split at hq
        · cases hq; exact hk _ (List.mem_cons_self ..)
        · cases hq; exact ho _ rfl
  exact this l none (fun _ h => h) fun _ h => by cases h

/-- the chosen pair is least, and none before it is as small -/
theorem pick_least {r : Nat × Nat → Int × Int} {l : List (Nat × Nat)} {p : Nat × Nat} (hpos : ∀ q ∈ l, 1 ≤ (r q).2) (h : pick r l = some p) :
    ∃ a b, l = a ++ p :: b ∧ (∀ q ∈ a, lt (r p) (r q)) ∧ ∀ q ∈ l, ¬ lt (r q) (r p) := by
  have tr : ∀ {x y z : Int × Int}, 1 ≤ x.2 → 1 ≤ y.2 → 1 ≤ z.2 → lt x y → ¬ lt z y → lt x z := by
    intro x y z hx hy hz h1 h2
    unfold lt at *
    -- x/.. < y/.. <= z/..
    have h3 : y.1 * z.2 ≤ z.1 * y.2 := by omega
    have h4 : x.1 * y.2 * z.2 < y.1 * x.2 * z.2 := Int.mul_lt_mul_of_pos_right h1 (by omega)
    have h5 : y.1 * z.2 * x.2 ≤ z.1 * y.2 * x.2 := Int.mul_le_mul_of_nonneg_right h3 (by omega)
    have e1 : y.1 * x.2 * z.2 = y.1 * z.2 * x.2 := by rw [Int.mul_assoc, Int.mul_comm x.2, ← Int.mul_assoc]
    have e2 : x.1 * y.2 * z.2 = x.1 * z.2 * y.2 := by rw [Int.mul_assoc, Int.mul_comm y.2, ← Int.mul_assoc]
    have e3 : z.1 * y.2 * x.2 = z.1 * x.2 * y.2 := by rw [Int.mul_assoc, Int.mul_comm y.2, ← Int.mul_assoc]
    have h6 : x.1 * z.2 * y.2 < z.1 * x.2 * y.2 := by omega
    exact Int.lt_of_mul_lt_mul_right h6 (by omega)
  have irr : ∀ x : Int × Int, ¬ lt x x := fun x h => by unfold lt at h; omega
  have : ∀ (n : Nat) (l : List (Nat × Nat)) (p : Nat × Nat), l.length = n → (∀ q ∈ l, 1 ≤ (r q).2) → pick r l = some p →
      ∃ a b, l = a ++ p :: b ∧ (∀ q ∈ a, lt (r p) (r q)) ∧ ∀ q ∈ l, ¬ lt (r q) (r p) := by
    intro n
    induction n with
    | zero => intro l p hl _ h; rw [List.length_eq_zero_iff.1 hl] at h; cases h
    | succ n ih =>
      intro l p hl hpos h
      rcases List.eq_nil_or_concat l with rfl | ⟨l, q, rfl⟩
      · cases hl
      · rw [List.concat_eq_append] at hl h hpos ⊢
        rw [pick_snoc] at h
        have hl' : l.length = n := by simpa using hl
        have hpos' : ∀ q ∈ l, 1 ≤ (r q).2 := fun x hx => hpos x (List.mem_append_left _ hx)
        have hq := hpos q (by simp)
        cases hp : pick r l with
        | none =>
          rw [hp] at h; simp only [pickF] at h; cases h
          obtain rfl := pick_none.1 hp
          exact ⟨[], [], rfl, fun _ h => (by cases h), fun x hx => by
            obtain rfl : x = p := by simpa using hx
            exact irr _⟩
        | some p' =>
          rw [hp] at h
          simp only [pickF] at h
          obtain ⟨a, b, hl2, h1, h2⟩ := ih l p' hl' hpos' hp
          have hp' := hpos' p' (pick_mem hp)
          split at h
          · rename_i hlt
            cases h
            refine ⟨l, [], rfl, fun x hx => ?_, fun x hx => ?_⟩
            · have hx2 := hpos' x hx
              exact tr hq hp' hx2 hlt (h2 x hx)
            · rcases List.mem_append.1 hx with hx | hx
              · intro hc
                have hx2 := hpos' x hx
                have h3 := tr hx2 hq hp' hc (fun hh => by unfold lt at hlt hh; omega)
                exact h2 x hx h3
              · obtain rfl : x = p := by simpa using hx
                exact irr _
          · rename_i hlt
            cases h
            refine ⟨a, b ++ [q], by rw [hl2]; simp, h1, fun x hx => ?_⟩
            rcases List.mem_append.1 hx with hx | hx
            · exact h2 x hx
            · have : x = q := by simpa using hx
              subst this; exact hlt
  exact this _ l p rfl hpos h

/-! ### clusters -/

/-- clusters by their heads: none is there where the list is empty -/
abbrev Cl := Nat → List Nat
def unite (c : Cl) (i j : Nat) : Cl := fun k => if k = i then c i ++ c j else if k = j then [] else c k
def live (c : Cl) (n : Nat) : List Nat := (List.range n).filter fun i => decide (c i ≠ [])
def prsAt (c : Cl) (n i : Nat) : List (Nat × Nat) := if c i = [] then [] else ((List.range' (i + 1) (n - (i + 1))).filter fun j => decide (c j ≠ [])).map fun j => (i, j)
/-- the pairs of clusters -/
def prs (c : Cl) (n : Nat) : List (Nat × Nat) := (List.range n).flatMap (prsAt c n)
theorem mem_prs {c : Cl} {n : Nat} {p : Nat × Nat} : p ∈ prs c n ↔ p.1 < p.2 ∧ p.2 < n ∧ c p.1 ≠ [] ∧ c p.2 ≠ [] := by
  obtain ⟨i, j⟩ := p
  simp only [prs, prsAt, List.mem_flatMap, List.mem_range]
  constructor
  · rintro ⟨a, ha, h⟩
    split at h
    · cases h
    · rename_i hc
      simp only [List.mem_map, List.mem_filter, List.mem_range'_1, decide_eq_true_eq] at h
      obtain ⟨b, ⟨hb, hcb⟩, he⟩ := h
      cases he
      exact ⟨by omega, by omega, hc, hcb⟩
  · rintro ⟨h1, h2, h3, h4⟩
    refine ⟨i, by omega, ?_⟩
    rw [if_neg h3]
    simp only [List.mem_map, List.mem_filter, List.mem_range'_1, decide_eq_true_eq]
    exact ⟨j, ⟨by omega, h4⟩, rfl⟩

/-- the fraction of a pair of clusters -/
def rat (m : Mt) (d : Nat → Nat → Int) (c : Cl) (p : Nat × Nat) : Int × Int := (num m d (c p.1) (c p.2), den m (c p.1) (c p.2))
/-- in lowest terms -/
def red (p : Int × Int) : Int × Int := (p.1 / (Int.gcd p.1 p.2 : Int), p.2 / (Int.gcd p.1 p.2 : Int))

structure Mg where
  a : Nat
  b : Nat
  f : Int × Int
  size : Nat

/-- what holds of the clusters: each one begins with its number; they have no point in common -/
structure Part (n : Nat) (c : Cl) : Prop where
  out : ∀ i, n ≤ i → c i = []
  head : ∀ i, c i ≠ [] → (c i).head? = some i
  mem : ∀ i, ∀ x ∈ c i, i ≤ x ∧ x < n
  nodup : ∀ i, (c i).Nodup
  disj : ∀ i j x, x ∈ c i → x ∈ c j → i = j
  cover : ∀ x, x < n → ∃ i, x ∈ c i

def start (n : Nat) : Cl := fun i => if i < n then [i] else []
theorem start_part (n : Nat) : Part n (start n) := by
  refine ⟨fun i h => by simp [start]; omega, fun i h => ?_, fun i x hx => ?_, fun i => ?_, fun i j x h1 h2 => ?_, fun x hx => ⟨x, by simp [start, hx]⟩⟩
  · simp only [start] at h ⊢; split at h
    · rename_i hh; rw [if_pos hh]; rfl
    · exact absurd rfl h
  · simp only [start] at hx; split at hx
    · have : x = i := by simpa using hx
      omega
    · cases hx
  · simp only [start]; split <;> simp
  · simp only [start] at h1 h2; split at h1 <;> split at h2
    · have a : x = i := by simpa using h1
      have b : x = j := by simpa using h2
      omega
    · cases h2
    · cases h1
    · cases h1
theorem Part.unite {n : Nat} {c : Cl} (h : Part n c) {i j : Nat} (hij : i < j) (hi : c i ≠ []) (hj : c j ≠ []) : Part n (unite c i j) := by
  have hjn : j < n := Nat.lt_of_not_le fun hh => hj (h.out j hh)
  refine ⟨fun k hk => ?_, fun k hk => ?_, fun k x hx => ?_, fun k => ?_, fun k l x hx hy => ?_, fun x hx => ?_⟩
  · simp only [Lk.unite]; rw [if_neg (by omega), if_neg (by omega)]; exact h.out k hk
  · simp only [Lk.unite] at hk ⊢
    split
    · rename_i e; subst e
      rw [List.head?_append, h.head k hi]; rfl
    · rename_i e; rw [if_neg e] at hk
      split at hk
      · exact absurd rfl hk
      · rename_i e2; rw [if_neg e2]; exact h.head k hk
  · simp only [Lk.unite] at hx
    split at hx
    · rename_i e; subst e
      rcases List.mem_append.1 hx with hx | hx
      · exact h.mem _ x hx
      · have := h.mem _ x hx; omega
    · split at hx
      · cases hx
      · exact h.mem _ x hx
  · simp only [Lk.unite]
    split
    · exact List.nodup_append.2 ⟨h.nodup i, h.nodup j, fun a ha b hb e => by subst e; have := h.disj _ _ _ ha hb; omega⟩
    · split
      · exact List.nodup_nil
      · exact h.nodup k
  · have loc : ∀ k, x ∈ Lk.unite c i j k → ∃ k', x ∈ c k' ∧ k ≠ j ∧ (k' = k ∨ (k = i ∧ k' = j)) := by
      intro k hx
      simp only [Lk.unite] at hx
      split at hx
      · rename_i e; subst e
        rcases List.mem_append.1 hx with hx | hx
        · exact ⟨k, hx, by omega, .inl rfl⟩
        · exact ⟨j, hx, by omega, .inr ⟨rfl, rfl⟩⟩
      · split at hx
        · cases hx
        · rename_i e; exact ⟨k, hx, e, .inl rfl⟩
    obtain ⟨k', h1, h2, h3⟩ := loc k hx
    obtain ⟨l', h4, h5, h6⟩ := loc l hy
    have := h.disj _ _ _ h1 h4
    omega
  · obtain ⟨k, hk⟩ := h.cover x hx
    by_cases e : k = j
    · exact ⟨i, by simp only [Lk.unite, if_true]; exact List.mem_append_right _ (e ▸ hk)⟩
    · by_cases e2 : k = i
      · exact ⟨i, by simp only [Lk.unite, if_true]; exact List.mem_append_left _ (e2 ▸ hk)⟩
      · exact ⟨k, by simp only [Lk.unite]; rw [if_neg e2, if_neg e]; exact hk⟩

theorem live_unite_length {n : Nat} {c : Cl} {i j : Nat} (hij : i ≠ j) (hin : i < n) (hjn : j < n) (hi : c i ≠ []) (hj : c j ≠ []) : (live (unite c i j) n).length + 1 = (live c n).length := by
  have e : live (unite c i j) n = (live c n).filter (fun k => decide (k ≠ j)) := by
    unfold live
    rw [List.filter_filter]
    refine List.filter_congr fun k _ => ?_
    by_cases h1 : k = i
    · subst h1
      simp [Lk.unite, hi, hij]
    · by_cases h2 : k = j
      · subst h2; simp [Lk.unite, h1]
      · simp [Lk.unite, h1, h2]
  have hm : j ∈ live c n := by simp [live, hjn, hj]
  have hnd : (live c n).Nodup := List.nodup_range.filter _
  have : ∀ l : List Nat, l.Nodup → j ∈ l → (l.filter (fun k => decide (k ≠ j))).length + 1 = l.length := by
    intro l hl hm
    induction l with
    | nil => cases hm
    | cons x l ih =>
      obtain ⟨h1, h2⟩ := List.nodup_cons.1 hl
      by_cases hx : x = j
      · subst hx
        have hf : l.filter (fun k => decide (k ≠ x)) = l := List.filter_eq_self.2 fun y hy => by simp; rintro rfl; exact h1 hy
        rw [List.filter_cons, if_neg (by simp), hf]; rfl
      · rcases List.mem_cons.1 hm with h | h
        · exact absurd h.symm hx
        · have := ih h2 h
          simp only [List.filter_cons, hx, ne_eq, not_false_eq_true, decide_true, if_true, List.length_cons] at this ⊢
          omega
  rw [e]
  exact this _ hnd hm

/-- as long as there are two clusters, there is a pair -/
theorem prs_ne {n : Nat} {c : Cl} (h : 2 ≤ (live c n).length) : prs c n ≠ [] := by
  obtain ⟨x, y, l, hl⟩ : ∃ x y l, live c n = x :: y :: l := by
    match live c n, h with
    | x :: y :: l, _ => exact ⟨x, y, l, rfl⟩
  have hp : (live c n).Pairwise (· < ·) := List.pairwise_lt_range.filter _
  rw [hl] at hp
  have hxy : x < y := (List.pairwise_cons.1 hp).1 y (List.mem_cons_self ..)
  have hx : x ∈ live c n := by rw [hl]; simp
  have hy : y ∈ live c n := by rw [hl]; simp
  simp [live] at hx hy
  intro e
  have : (x, y) ∈ prs c n := mem_prs.2 ⟨hxy, hy.1, hx.2, hy.2⟩
  rw [e] at this
  cases this

/-! ### the merges -/

/-- the pair that is united -/
def choice (m : Mt) (d : Nat → Nat → Int) (n : Nat) (c : Cl) : Nat × Nat := (pick (rat m d c) (prs c n)).getD (0, 0)
/-- the clusters after so many merges -/
def st (m : Mt) (d : Nat → Nat → Int) (n : Nat) : Nat → Cl
  | 0 => start n
  | t + 1 => unite (st m d n t) (choice m d n (st m d n t)).1 (choice m d n (st m d n t)).2
/-- a merge -/
def mgOf (m : Mt) (d : Nat → Nat → Int) (n : Nat) (c : Cl) : Mg :=
  ⟨(choice m d n c).1, (choice m d n c).2, red (rat m d c (choice m d n c)), (c (choice m d n c).1).length + (c (choice m d n c).2).length⟩
def runL (m : Mt) (d : Nat → Nat → Int) (n : Nat) : List Mg := (List.range (n - 1)).map fun t => mgOf m d n (st m d n t)

theorem rat_pos (m : Mt) (d : Nat → Nat → Int) {c : Cl} {n : Nat} : ∀ q ∈ prs c n, 1 ≤ (rat m d c q).2 := fun _ hq => den_pos m (mem_prs.1 hq).2.2.1 (mem_prs.1 hq).2.2.2
theorem choice_some (m : Mt) (d : Nat → Nat → Int) {c : Cl} {n : Nat} (h : 2 ≤ (live c n).length) : pick (rat m d c) (prs c n) = some (choice m d n c) := by
  cases hp : pick (rat m d c) (prs c n) with
  | none => exact absurd (pick_none.1 hp) (prs_ne h)
  | some p => rw [choice, hp]; rfl
theorem choice_mem (m : Mt) (d : Nat → Nat → Int) {c : Cl} {n : Nat} (h : 2 ≤ (live c n).length) : choice m d n c ∈ prs c n := pick_mem (choice_some m d h)
theorem choice_least (m : Mt) (d : Nat → Nat → Int) {c : Cl} {n : Nat} (h : 2 ≤ (live c n).length) :
    ∃ a b, prs c n = a ++ choice m d n c :: b ∧ (∀ q ∈ a, lt (rat m d c (choice m d n c)) (rat m d c q)) ∧ ∀ q ∈ prs c n, ¬ lt (rat m d c q) (rat m d c (choice m d n c)) :=
  pick_least (rat_pos m d) (choice_some m d h)

theorem start_live (n : Nat) : live (start n) n = List.range n := List.filter_eq_self.2 fun i hi => by simp [start]; exact List.mem_range.1 hi
theorem st_ok (m : Mt) (d : Nat → Nat → Int) (n : Nat) : ∀ t, t ≤ n - 1 → Part n (st m d n t) ∧ (live (st m d n t) n).length = n - t
  | 0, _ => ⟨start_part n, by rw [st, start_live]; simp⟩
  | t + 1, h => by
    obtain ⟨h1, h2⟩ := st_ok m d n t (by omega)
    obtain ⟨g1, g2, g3, g4⟩ := mem_prs.1 (choice_mem m d (c := st m d n t) (n := n) (by omega))
    refine ⟨h1.unite g1 g3 g4, ?_⟩
    have := live_unite_length (n := n) (by omega) (by omega) g2 g3 g4
    rw [st]
    omega

/-- when all are one, it has all points -/
theorem one_all {n : Nat} {c : Cl} (h : Part n c) (hl : (live c n).length = 1) : (c 0).length = n := by
  obtain ⟨x, hx⟩ := List.length_eq_one_iff.1 hl
  have hxm : x ∈ live c n := by rw [hx]; simp
  have hxn : x < n := by simp [live] at hxm; exact hxm.1
  have hall : ∀ y, y < n → y ∈ c x := fun y hy => by
    obtain ⟨i, hi⟩ := h.cover y hy
    have hne : c i ≠ [] := fun e => by rw [e] at hi; cases hi
    have hin : i < n := Nat.lt_of_not_le fun hh => hne (h.out i hh)
    have : i ∈ live c n := by simp [live, hin, hne]
    rw [hx] at this
    obtain rfl : i = x := by simpa using this
    exact hi
  have h0 := (h.mem x 0 (hall 0 (by omega))).1
  obtain rfl : x = 0 := by omega
  have hp : (c 0).Perm (List.range n) := by
    refine (List.perm_ext_iff_of_nodup (h.nodup 0) List.nodup_range).2 fun y => ⟨fun hy => List.mem_range.2 (h.mem 0 y hy).2, fun hy => hall y (List.mem_range.1 hy)⟩
  rw [hp.length_eq, List.length_range]

/-! ### lowest terms -/

theorem cop_of (a b : Nat) (h : 0 < Nat.gcd a b) : Nat.gcd (a / Nat.gcd a b) (b / Nat.gcd a b) = 1 := by
  rw [Nat.gcd_div (Nat.gcd_dvd_left ..) (Nat.gcd_dvd_right ..), Nat.div_self h]
theorem red_nat (a b : Nat) : red ((a : Int), (b : Int)) = (((a / Nat.gcd a b : Nat) : Int), ((b / Nat.gcd a b : Nat) : Int)) := by
  simp [red, Int.gcd]
theorem red_unique {n d n0 d0 : Nat} (hd : 0 < d) (hd0 : 0 < d0) (h : n0 * d = n * d0) (hg : Nat.gcd n d = 1) : red ((n0 : Int), (d0 : Int)) = ((n : Int), (d : Int)) := by
  rw [red_nat]
  have hgp : 0 < Nat.gcd n0 d0 := Nat.gcd_pos_of_pos_right _ hd0
  obtain ⟨g, hgd⟩ : ∃ g, Nat.gcd n0 d0 = g := ⟨_, rfl⟩
  have h1 : n0 / g * g = n0 := Nat.div_mul_cancel (hgd ▸ Nat.gcd_dvd_left ..)
  have h2 : d0 / g * g = d0 := Nat.div_mul_cancel (hgd ▸ Nat.gcd_dvd_right ..)
  have hc : Nat.gcd (n0 / g) (d0 / g) = 1 := by rw [← hgd]; exact cop_of _ _ (by omega)
  rw [hgd] at hgp ⊢
  obtain ⟨x, hx⟩ : ∃ x, n0 / g = x := ⟨_, rfl⟩
  obtain ⟨y, hy⟩ : ∃ y, d0 / g = y := ⟨_, rfl⟩
  rw [hx] at h1 hc ⊢
  rw [hy] at h2 hc ⊢
  have hyp : 0 < y := Nat.pos_of_ne_zero fun e => by rw [e] at h2; omega
  have hxy : x * d = n * y := by
    have e1 : x * d * g = n0 * d := by rw [← h1]; ac_rfl
    have e2 : n * y * g = n * d0 := by rw [← h2]; ac_rfl
    exact Nat.eq_of_mul_eq_mul_right hgp (by rw [e1, e2, h])
  have d1 : d ∣ y := Nat.Coprime.dvd_of_dvd_mul_left (Nat.coprime_comm.1 hg) (by rw [← hxy]; exact Nat.dvd_mul_left ..)
  have d2 : y ∣ d := Nat.Coprime.dvd_of_dvd_mul_left (Nat.coprime_comm.1 hc) (by rw [hxy]; exact Nat.dvd_mul_left ..)
  obtain rfl := Nat.dvd_antisymm d1 d2
  obtain rfl := Nat.eq_of_mul_eq_mul_right hd hxy
  rfl

/-- what lowest terms are -/
structure Low (p q : Int × Int) : Prop where
  n0 : 0 ≤ q.1
  d1 : 1 ≤ q.2
  eq : p.1 * q.2 = q.1 * p.2
  gcd : Int.gcd q.1 q.2 = 1
  dle : q.2 ≤ p.2
theorem red_low {p : Int × Int} (h0 : 0 ≤ p.1) (h1 : 1 ≤ p.2) : Low p (red p) := by
  obtain ⟨n, d⟩ := p
  obtain ⟨a, rfl⟩ := Int.eq_ofNat_of_zero_le h0
  obtain ⟨b, rfl⟩ := Int.eq_ofNat_of_zero_le (a := d) (by simp at h1; omega)
  have hb : 0 < b := by simp at h1; omega
  rw [red_nat]
  have hgp : 0 < Nat.gcd a b := Nat.gcd_pos_of_pos_right _ hb
  have e1 : a / Nat.gcd a b * Nat.gcd a b = a := Nat.div_mul_cancel (Nat.gcd_dvd_left ..)
  have e2 : b / Nat.gcd a b * Nat.gcd a b = b := Nat.div_mul_cancel (Nat.gcd_dvd_right ..)
  have hc : Nat.gcd (a / Nat.gcd a b) (b / Nat.gcd a b) = 1 := cop_of _ _ (by omega)
  have hle := Nat.div_le_self b (Nat.gcd a b)
  generalize Nat.gcd a b = g at *
  generalize a / g = x at *
  generalize b / g = y at *
  have hy : 0 < y := Nat.pos_of_ne_zero fun e => by rw [e] at e2; omega
  refine ⟨Int.natCast_nonneg _, by simp only; omega, ?_, by simpa [Int.gcd] using hc, by simp only; omega⟩
  have : a * y = x * b := by subst e1; subst e2; ac_rfl
  simp only
  exact_mod_cast this
theorem red_of_low {p q : Int × Int} (h0 : 0 ≤ p.1) (h1 : 1 ≤ p.2) (hq0 : 0 ≤ q.1) (hq1 : 1 ≤ q.2) (he : p.1 * q.2 = q.1 * p.2) (hg : Int.gcd q.1 q.2 = 1) : red p = q := by
  obtain ⟨n, d⟩ := p
  obtain ⟨x, y⟩ := q
  obtain ⟨a, rfl⟩ := Int.eq_ofNat_of_zero_le h0
  obtain ⟨b, rfl⟩ := Int.eq_ofNat_of_zero_le (a := d) (by simp at h1; omega)
  obtain ⟨u, rfl⟩ := Int.eq_ofNat_of_zero_le hq0
  obtain ⟨v, rfl⟩ := Int.eq_ofNat_of_zero_le (a := y) (by simp at hq1; omega)
  simp only at h1 hq1 he hg
  exact red_unique (by omega) (by omega) (by exact_mod_cast he) (by simpa [Int.gcd] using hg)
/-- equal fractions have the same lowest terms -/
theorem red_eq {p q : Int × Int} (hp0 : 0 ≤ p.1) (hp1 : 1 ≤ p.2) (hq0 : 0 ≤ q.1) (hq1 : 1 ≤ q.2) (h : p.1 * q.2 = q.1 * p.2) : red p = red q := by
  have hl := red_low hq0 hq1
  refine red_of_low hp0 hp1 hl.n0 hl.d1 ?_ hl.gcd
  have h1 : p.1 * (red q).2 * q.2 = (red q).1 * p.2 * q.2 := by
    have e1 : p.1 * (red q).2 * q.2 = p.1 * q.2 * (red q).2 := by ac_rfl
    have e2 : (red q).1 * p.2 * q.2 = (red q).1 * q.2 * p.2 := by ac_rfl
    rw [e1, e2, h, ← hl.eq]; ac_rfl
  exact Int.eq_of_mul_eq_mul_right (by omega) h1
theorem red_one {x : Int} (h : 0 ≤ x) : red (x, 1) = (x, 1) := red_of_low h (Int.le_refl _) h (Int.le_refl _) rfl (by simp)

theorem lt_iff {p q r s : Int × Int} (hp : 1 ≤ p.2) (hq : 1 ≤ q.2) (hr : 1 ≤ r.2) (hs : 1 ≤ s.2) (e1 : p.1 * r.2 = r.1 * p.2) (e2 : q.1 * s.2 = s.1 * q.2) : lt p q ↔ lt r s := by
  unfold lt
  have a1 : p.1 * q.2 * (r.2 * s.2) = r.1 * s.2 * (p.2 * q.2) := by
    have : p.1 * q.2 * (r.2 * s.2) = p.1 * r.2 * (q.2 * s.2) := by ac_rfl
    rw [this, e1]; ac_rfl
  have a2 : q.1 * p.2 * (r.2 * s.2) = s.1 * r.2 * (p.2 * q.2) := by
    have : q.1 * p.2 * (r.2 * s.2) = q.1 * s.2 * (p.2 * r.2) := by ac_rfl
    rw [this, e2]; ac_rfl
  have h1 : 0 < r.2 * s.2 := Int.mul_pos (by omega) (by omega)
  have h2 : 0 < p.2 * q.2 := Int.mul_pos (by omega) (by omega)
  constructor
  · intro h
    have := Int.mul_lt_mul_of_pos_right h h1
    rw [a1, a2] at this
    exact Int.lt_of_mul_lt_mul_right this (by omega)
  · intro h
    have := Int.mul_lt_mul_of_pos_right h h2
    rw [← a1, ← a2] at this
    exact Int.lt_of_mul_lt_mul_right this (by omega)
theorem lt_red {p q : Int × Int} (hp0 : 0 ≤ p.1) (hp : 1 ≤ p.2) (hq0 : 0 ≤ q.1) (hq : 1 ≤ q.2) : lt (red p) (red q) ↔ lt p q := by
  have h1 := red_low hp0 hp
  have h2 := red_low hq0 hq
  exact (lt_iff hp hq h1.d1 h2.d1 h1.eq h2.eq).symm
theorem lt_not_trans {x y z : Int × Int} (hx : 1 ≤ x.2) (hy : 1 ≤ y.2) (hz : 1 ≤ z.2) (h1 : ¬ lt y x) (h2 : ¬ lt z y) : ¬ lt z x := by
  unfold lt at *
  have h3 : x.1 * y.2 ≤ y.1 * x.2 := by omega
  have h4 : y.1 * z.2 ≤ z.1 * y.2 := by omega
  have h5 := Int.mul_le_mul_of_nonneg_right h3 (show 0 ≤ z.2 by omega)
  have h6 := Int.mul_le_mul_of_nonneg_right h4 (show 0 ≤ x.2 by omega)
  have e1 : y.1 * x.2 * z.2 = y.1 * z.2 * x.2 := by ac_rfl
  have e2 : x.1 * y.2 * z.2 = x.1 * z.2 * y.2 := by ac_rfl
  have e3 : z.1 * y.2 * x.2 = z.1 * x.2 * y.2 := by ac_rfl
  have h7 : x.1 * z.2 * y.2 ≤ z.1 * x.2 * y.2 := by omega
  have := Int.le_of_mul_le_mul_right h7 (by omega)
  omega

/-- the denominator of a union -/
def jden (m : Mt) (p q : Int) : Int := match m with | .average => p + q | _ => p
/-- a union is not nearer than both its parts -/
theorem jn_not_lt (m : Mt) {p q x : Int × Int} (hp : ¬ lt p x) (hq : ¬ lt q x) (h2 : m ≠ .average → p.2 = q.2) :
    ¬ lt (m.jn p.1 q.1, jden m p.2 q.2) x := by
  unfold lt at *
  cases m
  · have e := h2 (by intro h; cases h)
    simp only [Mt.jn, jden]
    split
    · exact hp
    · rw [e]; exact hq
  · have e := h2 (by intro h; cases h)
    simp only [Mt.jn, jden]
    split
    · rw [e]; exact hq
    · exact hp
  · simp only [Mt.jn, jden]
    rw [Int.add_mul, Int.mul_add]
    omega

/-- heights do not decrease -/
theorem unite_not_nearer (m : Mt) {d : Nat → Nat → Int} {n : Nat} {c : Cl} {i j : Nat} (hd : ∀ x y, d x y = d y x) (hij : i < j) (hjn : j < n) (hi : c i ≠ []) (hj : c j ≠ [])
    {x : Int × Int} (h : ∀ q ∈ prs c n, ¬ lt (rat m d c q) x) : ∀ q ∈ prs (unite c i j) n, ¬ lt (rat m d (unite c i j) q) x := by
  rintro ⟨a, b⟩ hq
  obtain ⟨h1, h2, h3, h4⟩ := mem_prs.1 hq
  simp only at h1 h2 h3 h4
  have hsym : ∀ a b, a ≠ b → a < n → b < n → c a ≠ [] → c b ≠ [] → ¬ lt (num m d (c a) (c b), den m (c a) (c b)) x := by
    intro a b hab ha hb h3 h4
    rcases Nat.lt_or_gt_of_ne hab with hh | hh
    · exact h (a, b) (mem_prs.2 ⟨hh, hb, h3, h4⟩)
    · have := h (b, a) (mem_prs.2 ⟨hh, ha, h4, h3⟩)
      rw [num_comm m d (fun _ _ _ _ => hd _ _), den_comm]; exact this
  have key : ∀ k, k ≠ i → k ≠ j → k < n → c k ≠ [] → ¬ lt (num m d (c i ++ c j) (c k), den m (c i ++ c j) (c k)) x := by
    intro k hki hkj hk hck
    rw [num_append m d hi hj hck]
    have e : den m (c i ++ c j) (c k) = jden m (den m (c i) (c k)) (den m (c j) (c k)) := by
      cases m <;> simp only [den, jden]
      rw [List.length_append, Int.natCast_add, Int.add_mul]
    have := jn_not_lt m (p := (num m d (c i) (c k), den m (c i) (c k))) (q := (num m d (c j) (c k), den m (c j) (c k))) (hsym i k (by omega) (by omega) hk hi hck) (hsym j k (by omega) hjn hk hj hck) (by cases m <;> simp [den])
    rw [e]
    exact this
  have hbj : b ≠ j := fun e => by subst e; simp only [Lk.unite, if_true] at h4; rw [if_neg (by omega)] at h4; exact h4 rfl
  have haj : a ≠ j := fun e => by subst e; simp only [Lk.unite, if_true] at h3; rw [if_neg (by omega)] at h3; exact h3 rfl
  simp only [rat]
  by_cases ha : a = i
  · subst ha
    have e1 : Lk.unite c a j a = c a ++ c j := by simp [Lk.unite]
    have e2 : Lk.unite c a j b = c b := by simp only [Lk.unite]; rw [if_neg (by omega), if_neg hbj]
    rw [e1, e2]
    rw [e2] at h4
    exact key b (by omega) hbj h2 h4
  · have e1 : Lk.unite c i j a = c a := by simp only [Lk.unite]; rw [if_neg ha, if_neg haj]
    rw [e1] at h3 ⊢
    by_cases hb : b = i
    · subst hb
      have e2 : Lk.unite c b j b = c b ++ c j := by simp [Lk.unite]
      rw [e2, num_comm m d (fun _ _ _ _ => hd _ _), den_comm]
      exact key a (by omega) haj (by omega) h3
    · have e2 : Lk.unite c i j b = c b := by simp only [Lk.unite]; rw [if_neg hb, if_neg hbj]
      rw [e2] at h4 ⊢
      exact hsym a b (by omega) (by omega) h2 h3 h4
end Lk
end Go.Proofs.Ytmkggcmebeagaaa
