/- The state of a clustering as the program keeps it: a list of distances, changed by unions. Plain. -/
import Derived.Test.YtmkggcmebeagaaaLkPlain
namespace Go.Proofs.Ytmkggcmebeagaaa
set_option linter.unusedVariables false
set_option linter.unusedSimpArgs false
namespace Lk

theorem idx_inj {n p q i k : Nat} (hq : q < n) (hk : k < n) (h : p * n + q = i * n + k) : p = i ∧ q = k := by
  rcases Nat.lt_trichotomy p i with h1 | h1 | h1
  · exfalso
    have : (p + 1) * n ≤ i * n := Nat.mul_le_mul_right n h1
    rw [Nat.add_mul] at this
    omega
  · subst h1; exact ⟨rfl, by omega⟩
  · exfalso
    have : (i + 1) * n ≤ p * n := Nat.mul_le_mul_right n h1
    rw [Nat.add_mul] at this
    omega
theorem idx_lt {n i j : Nat} (hi : i < n) (hj : j < n) : i * n + j < n * n := by
  have : (i + 1) * n ≤ n * n := Nat.mul_le_mul_right n hi
  rw [Nat.add_mul] at this
  omega

/-- a join as int64 has it -/
def Mt.jnw (m : Mt) (x y : Int) : Int := match m with | .average => ((x + y) + 9223372036854775808) % 18446744073709551616 - 9223372036854775808 | _ => m.jn x y
theorem Mt.jnw_eq (m : Mt) {x y : Int} (h0 : 0 ≤ x) (h1 : x ≤ 4611686018427387903) (h2 : 0 ≤ y) (h3 : y ≤ 4611686018427387903) : m.jnw x y = m.jn x y := by
  cases m <;> simp only [Mt.jnw, Mt.jn]
  omega

def uStep (m : Mt) (n i j : Nat) (E : List Int) (k : Nat) : List Int :=
  if k = i ∨ k = j then E else (E.set (i * n + k) (m.jnw (E.getD (i * n + k) 0) (E.getD (j * n + k) 0))).set (k * n + i) (m.jnw (E.getD (i * n + k) 0) (E.getD (j * n + k) 0))
/-- the distances while a union is made -/
def uD (m : Mt) (n i j : Nat) (D : List Int) : Nat → List Int
  | 0 => D
  | k + 1 => uStep m n i j (uD m n i j D k) k
theorem uStep_length (m : Mt) (n i j : Nat) (E : List Int) (k : Nat) : (uStep m n i j E k).length = E.length := by unfold uStep; split <;> simp
theorem uD_length (m : Mt) (n i j : Nat) (D : List Int) : ∀ k, (uD m n i j D k).length = D.length
  | 0 => rfl
  | k + 1 => by rw [uD, uStep_length, uD_length m n i j D k]

theorem getD_set (l : List Int) (p q : Nat) (v : Int) : (l.set p v).getD q 0 = if p = q ∧ p < l.length then v else l.getD q 0 := by
  simp only [List.getD_eq_getElem?_getD, List.getElem?_set]
  by_cases h : p = q
  · subst h
    by_cases h2 : p < l.length
    · simp [h2]
    · simp [h2]
  · simp [h]

theorem uD_get (m : Mt) {n i j : Nat} {D : List Int} (hD : D.length = n * n) (hi : i < n) (hj : j < n) (hij : i ≠ j) : ∀ k, k ≤ n → ∀ p q, p < n → q < n →
    (uD m n i j D k).getD (p * n + q) 0 = if p = i ∧ q < k ∧ q ≠ i ∧ q ≠ j then m.jnw (D.getD (i * n + q) 0) (D.getD (j * n + q) 0)
      else if q = i ∧ p < k ∧ p ≠ i ∧ p ≠ j then m.jnw (D.getD (i * n + p) 0) (D.getD (j * n + p) 0) else D.getD (p * n + q) 0
  | 0, _, p, q, _, _ => by rw [if_neg (by omega), if_neg (by omega)]; rfl
  | k + 1, hk, p, q, hp, hq => by
    have ih := uD_get m hD hi hj hij k (by omega)
    rw [uD, uStep]
    by_cases hs : k = i ∨ k = j
    · rw [if_pos hs, ih p q hp hq]
      by_cases h1 : p = i ∧ q < k ∧ q ≠ i ∧ q ≠ j
      · rw [if_pos h1, if_pos (show p = i ∧ q < k + 1 ∧ q ≠ i ∧ q ≠ j by omega)]
      · rw [if_neg h1, if_neg (show ¬ (p = i ∧ q < k + 1 ∧ q ≠ i ∧ q ≠ j) by omega)]
        by_cases h2 : q = i ∧ p < k ∧ p ≠ i ∧ p ≠ j
        · rw [if_pos h2, if_pos (show q = i ∧ p < k + 1 ∧ p ≠ i ∧ p ≠ j by omega)]
        · rw [if_neg h2, if_neg (show ¬ (q = i ∧ p < k + 1 ∧ p ≠ i ∧ p ≠ j) by omega)]
    · rw [if_neg hs]
      have hki : k ≠ i := fun h => hs (.inl h)
      have hkj : k ≠ j := fun h => hs (.inr h)
      have l1 : i * n + k < (uD m n i j D k).length := by rw [uD_length, hD]; exact idx_lt hi (by omega)
      have l2 : k * n + i < (uD m n i j D k).length := by rw [uD_length, hD]; exact idx_lt (by omega) hi
      have a1 := ih i k hi (by omega)
      rw [if_neg (show ¬ (i = i ∧ k < k ∧ k ≠ i ∧ k ≠ j) by omega), if_neg (show ¬ (k = i ∧ i < k ∧ i ≠ i ∧ i ≠ j) by omega)] at a1
      have a2 := ih j k hj (by omega)
      rw [if_neg (show ¬ (j = i ∧ k < k ∧ k ≠ i ∧ k ≠ j) by omega), if_neg (show ¬ (k = i ∧ j < k ∧ j ≠ i ∧ j ≠ j) by omega)] at a2
      rw [getD_set, getD_set, a1, a2, List.length_set]
      by_cases e1 : k * n + i = p * n + q
      · obtain ⟨rfl, rfl⟩ := idx_inj hi hq e1
        rw [if_pos ⟨rfl, l2⟩, if_neg (show ¬ (k = i ∧ i < k + 1 ∧ i ≠ i ∧ i ≠ j) by omega), if_pos (show i = i ∧ k < k + 1 ∧ k ≠ i ∧ k ≠ j by omega)]
      · rw [if_neg (fun h => e1 h.1)]
        by_cases e2 : i * n + k = p * n + q
        · obtain ⟨rfl, rfl⟩ := idx_inj (by omega) hq e2
          rw [if_pos ⟨rfl, l1⟩, if_pos (show i = i ∧ k < k + 1 ∧ k ≠ i ∧ k ≠ j by omega)]
        · rw [if_neg (fun h => e2 h.1), ih p q hp hq]
          have n1 : ¬ (p = i ∧ q = k) := by rintro ⟨rfl, rfl⟩; exact e2 rfl
          have n2 : ¬ (p = k ∧ q = i) := by rintro ⟨rfl, rfl⟩; exact e1 rfl
          by_cases h1 : p = i ∧ q < k ∧ q ≠ i ∧ q ≠ j
          · rw [if_pos h1, if_pos (show p = i ∧ q < k + 1 ∧ q ≠ i ∧ q ≠ j by omega)]
          · rw [if_neg h1, if_neg (show ¬ (p = i ∧ q < k + 1 ∧ q ≠ i ∧ q ≠ j) by omega)]
            by_cases h2 : q = i ∧ p < k ∧ p ≠ i ∧ p ≠ j
            · rw [if_pos h2, if_pos (show q = i ∧ p < k + 1 ∧ p ≠ i ∧ p ≠ j by omega)]
            · rw [if_neg h2, if_neg (show ¬ (q = i ∧ p < k + 1 ∧ p ≠ i ∧ p ≠ j) by omega)]

/-- what holds of clusters, whatever their order -/
structure Base (n : Nat) (c : Cl) : Prop where
  out : ∀ i, n ≤ i → c i = []
  mem : ∀ i, ∀ x ∈ c i, x < n
  nodup : ∀ i, (c i).Nodup
  disj : ∀ i j x, x ∈ c i → x ∈ c j → i = j
theorem Part.base {n : Nat} {c : Cl} (h : Part n c) : Base n c := ⟨h.out, fun i x hx => (h.mem i x hx).2, h.nodup, h.disj⟩
theorem Base.unite {n : Nat} {c : Cl} (h : Base n c) {i j : Nat} (hij : i ≠ j) (hi : i < n) : Base n (unite c i j) := by
  refine ⟨fun k hk => ?_, fun k x hx => ?_, fun k => ?_, fun k l x hx hy => ?_⟩
  · simp only [Lk.unite]; rw [if_neg (by omega)]; split; rfl; exact h.out k hk
  · simp only [Lk.unite] at hx
    split at hx
    · rcases List.mem_append.1 hx with hx | hx <;> exact h.mem _ x hx
    · split at hx
      · cases hx
      · exact h.mem _ x hx
  · simp only [Lk.unite]
    split
    · exact List.nodup_append.2 ⟨h.nodup i, h.nodup j, fun a ha b hb e => by subst e; exact hij (h.disj _ _ _ ha hb)⟩
    · split
      · exact List.nodup_nil
      · exact h.nodup k
  · have loc : ∀ k, x ∈ Lk.unite c i j k → ∃ k', x ∈ c k' ∧ k ≠ j ∧ (k' = k ∨ (k = i ∧ k' = j)) := by
      intro k hx
      simp only [Lk.unite] at hx
      split at hx
      · rename_i e; subst e
        rcases List.mem_append.1 hx with hx | hx
        · exact ⟨k, hx, by omega, .inl rfl⟩
        · exact ⟨j, hx, by omega, .inr ⟨rfl, rfl⟩⟩
      · split at hx
        · cases hx
        · rename_i e; exact ⟨k, hx, e, .inl rfl⟩
    obtain ⟨k', h1, h2, h3⟩ := loc k hx
    obtain ⟨l', h4, h5, h6⟩ := loc l hy
    have := h.disj _ _ _ h1 h4
    omega

theorem nodup_le : ∀ (n : Nat) (l : List Nat), l.Nodup → (∀ x ∈ l, x < n) → l.length ≤ n
  | 0, l, _, h => by
    cases l with
    | nil => exact Nat.le_refl _
    | cons x l => have := h x (List.mem_cons_self ..); omega
  | n + 1, l, hl, h => by
    by_cases hm : n ∈ l
    · have h1 := nodup_le n (l.erase n) (hl.erase n) fun x hx => by
        have h2 := h x (List.mem_of_mem_erase hx)
        have h3 : x ≠ n := fun e => by subst e; exact hl.not_mem_erase hx
        omega
      rw [List.length_erase_of_mem hm] at h1
      omega
    · have := nodup_le n l hl fun x hx => by
        have h2 := h x hx
        have h3 : x ≠ n := fun e => hm (e ▸ hx)
        omega
      omega
theorem Base.len {n : Nat} {c : Cl} (h : Base n c) (i : Nat) : (c i).length ≤ n := nodup_le n _ (h.nodup i) (h.mem i)

/-- distances as they may be -/
structure Dist (n : Nat) (d : Nat → Nat → Int) : Prop where
  le : n ≤ 128
  sym : ∀ x y, x < n → y < n → d x y = d y x
  bd : ∀ x y, x < n → y < n → 0 ≤ d x y ∧ d x y ≤ 1099511627776
theorem Dist.num_bd {n : Nat} {d : Nat → Nat → Int} (h : Dist n d) {c : Cl} (hc : Base n c) (m : Mt) {p q : Nat} (hp : c p ≠ []) (hq : c q ≠ []) :
    0 ≤ num m d (c p) (c q) ∧ num m d (c p) (c q) ≤ 18014398509481984 ∧ 1 ≤ den m (c p) (c q) ∧ den m (c p) (c q) ≤ 16384 ∧ num m d (c p) (c q) ≤ den m (c p) (c q) * 1099511627776 := by
  obtain ⟨h1, h2⟩ := Lk.num_bd m (M := 1099511627776) hp hq (fun a ha b hb => h.bd a b (hc.mem _ _ ha) (hc.mem _ _ hb))
  have h3 := den_pos m hp hq
  have h4 : den m (c p) (c q) ≤ 16384 := by
    have a := hc.len p
    have b := hc.len q
    have c1 := h.le
    cases m <;> simp only [den] <;> try omega
    have : (c p).length * (c q).length ≤ 128 * 128 := Nat.mul_le_mul (by omega) (by omega)
    have e : (((c p).length * (c q).length : Nat) : Int) = (c p).length * (c q).length := Int.natCast_mul ..
    omega
  exact ⟨h1, by omega, h3, h4, h2⟩

/-- the distances that are kept are those of the clusters -/
structure Good (m : Mt) (d : Nat → Nat → Int) (n : Nat) (c : Cl) (D : List Int) : Prop where
  len : D.length = n * n
  eq : ∀ p q, p < n → q < n → p ≠ q → c p ≠ [] → c q ≠ [] → D.getD (p * n + q) 0 = num m d (c p) (c q)
theorem Good.unite {m : Mt} {d : Nat → Nat → Int} {n : Nat} {c : Cl} {D : List Int} (hd : Dist n d) (hc : Base n c) (h : Good m d n c D) {i j : Nat} (hij : i ≠ j) (hi : i < n) (hj : j < n) (hci : c i ≠ []) (hcj : c j ≠ []) :
    Good m d n (unite c i j) (uD m n i j D n) := by
  refine ⟨by rw [uD_length]; exact h.len, fun p q hp hq hpq h1 h2 => ?_⟩
  have key : ∀ k, k < n → k ≠ i → k ≠ j → c k ≠ [] → m.jnw (D.getD (i * n + k) 0) (D.getD (j * n + k) 0) = num m d (c i ++ c j) (c k) := by
    intro k hk hki hkj hck
    rw [h.eq i k hi hk (fun e => hki e.symm) hci hck, h.eq j k hj hk (fun e => hkj e.symm) hcj hck, num_append m d hci hcj hck]
    obtain ⟨a1, a2, _⟩ := hd.num_bd hc m hci hck
    obtain ⟨b1, b2, _⟩ := hd.num_bd hc m hcj hck
    exact m.jnw_eq a1 (by omega) b1 (by omega)
  have hpj : p ≠ j := fun e => by subst e; simp only [Lk.unite, if_true] at h1; rw [if_neg (by omega)] at h1; exact h1 rfl
  have hqj : q ≠ j := fun e => by subst e; simp only [Lk.unite, if_true] at h2; rw [if_neg (by omega)] at h2; exact h2 rfl
  rw [uD_get m h.len hi hj hij n (Nat.le_refl _) p q hp hq]
  by_cases ep : p = i
  · subst ep
    have e2 : Lk.unite c p j q = c q := by simp only [Lk.unite]; rw [if_neg (by omega), if_neg hqj]
    have e1 : Lk.unite c p j p = c p ++ c j := by simp [Lk.unite]
    rw [if_pos ⟨rfl, hq, by omega, hqj⟩, e1, e2]
    rw [e2] at h2
    exact key q hq (by omega) hqj h2
  · rw [if_neg (fun hh => ep hh.1)]
    have e1 : Lk.unite c i j p = c p := by simp only [Lk.unite]; rw [if_neg ep, if_neg hpj]
    rw [e1] at h1 ⊢
    by_cases eq : q = i
    · subst eq
      have e2 : Lk.unite c q j q = c q ++ c j := by simp [Lk.unite]
      rw [if_pos ⟨rfl, hp, ep, hpj⟩, e2, key p hp ep hpj h1]
      refine num_comm m d fun a ha b hb => hd.sym a b ?_ (hc.mem _ _ hb)
      rcases List.mem_append.1 ha with ha | ha <;> exact hc.mem _ _ ha
    · have e2 : Lk.unite c i j q = c q := by simp only [Lk.unite]; rw [if_neg eq, if_neg hqj]
      rw [if_neg (fun hh => eq hh.1), e2]
      rw [e2] at h2
      exact h.eq p q hp hq hpq h1 h2
/-- a list of distances, as a function -/
def mat (n : Nat) (D : List Int) : Nat → Nat → Int := fun i j => D.getD (i * n + j) 0
theorem good_start (m : Mt) {n : Nat} {D : List Int} (h : D.length = n * n) : Good m (mat n D) n (start n) D := by
  refine ⟨h, fun p q hp hq _ _ _ => ?_⟩
  simp [start, hp, hq, num, cross, fold1, mat]

/-! ### the pairs, one after the other -/
/-- the pairs with i at the first place, as far as j -/
def prsRow (c : Cl) (i j : Nat) : List (Nat × Nat) := if c i = [] then [] else ((List.range' (i + 1) (j - (i + 1))).filter fun j => decide (c j ≠ [])).map fun j => (i, j)
theorem prsRow_start (c : Cl) (i : Nat) : prsRow c i (i + 1) = [] := by simp [prsRow]
theorem prsRow_end (c : Cl) (n i : Nat) : prsRow c i n = prsAt c n i := rfl
theorem prsRow_nil {c : Cl} {i : Nat} (h : c i = []) (j : Nat) : prsRow c i j = [] := by simp [prsRow, h]
theorem prsRow_succ {c : Cl} {i j : Nat} (hi : c i ≠ []) (hij : i < j) : prsRow c i (j + 1) = prsRow c i j ++ (if c j = [] then [] else [(i, j)]) := by
  have e : j + 1 - (i + 1) = j - (i + 1) + 1 := by omega
  have e2 : i + 1 + (j - (i + 1)) = j := by omega
  simp only [prsRow, if_neg hi]
  rw [e, List.range'_concat, List.filter_append, List.map_append]
  simp only [Nat.one_mul, e2]
  by_cases h : c j = [] <;> simp [h]
/-- the pairs before the row i -/
def prsTo (c : Cl) (n i : Nat) : List (Nat × Nat) := (List.range i).flatMap (prsAt c n)
theorem prsTo_succ (c : Cl) (n i : Nat) : prsTo c n (i + 1) = prsTo c n i ++ prsRow c i n := by simp [prsTo, List.range_succ, prsRow_end]
theorem prsTo_all (c : Cl) (n : Nat) : prsTo c n n = prs c n := rfl
end Lk
end Go.Proofs.Ytmkggcmebeagaaa
