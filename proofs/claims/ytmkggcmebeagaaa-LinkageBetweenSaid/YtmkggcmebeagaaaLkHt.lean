/- Heights do not decrease; what each merge is. Plain. -/
import Derived.Test.YtmkggcmebeagaaaLkState
namespace Go.Proofs.Ytmkggcmebeagaaa
set_option linter.unusedVariables false
set_option linter.unusedSimpArgs false
namespace Lk
theorem num_congr (m : Mt) {d d' : Nat → Nat → Int} {A B : List Nat} (h : ∀ a ∈ A, ∀ b ∈ B, d a b = d' a b) : num m d A B = num m d' A B := by
  have : cross d A B = cross d' A B := by
    unfold cross
    induction A with
    | nil => rfl
    | cons a A ih =>
      simp only [List.flatMap_cons]
      rw [ih fun x hx => h x (List.mem_cons_of_mem _ hx), List.map_congr_left fun b hb => h a (List.mem_cons_self ..) b hb]
  unfold num; rw [this]
theorem rat_congr (m : Mt) {d d' : Nat → Nat → Int} {n : Nat} {c : Cl} (hc : Base n c) (h : ∀ a b, a < n → b < n → d a b = d' a b) (q : Nat × Nat) : rat m d c q = rat m d' c q := by
  unfold rat
  rw [num_congr m fun a ha b hb => h a b (hc.mem _ _ ha) (hc.mem _ _ hb)]
theorem unite_not_nearer' (m : Mt) {d : Nat → Nat → Int} {n : Nat} {c : Cl} {i j : Nat} (hd : ∀ x y, x < n → y < n → d x y = d y x) (hc : Base n c) (hij : i < j) (hjn : j < n) (hi : c i ≠ []) (hj : c j ≠ [])
    {x : Int × Int} (h : ∀ q ∈ prs c n, ¬ lt (rat m d c q) x) : ∀ q ∈ prs (unite c i j) n, ¬ lt (rat m d (unite c i j) q) x := by
  have hs : ∀ x y, (fun x y => if x < n ∧ y < n then d x y else 0) x y = (fun x y => if x < n ∧ y < n then d x y else 0) y x := by
    intro x y
    simp only
    by_cases hh : x < n ∧ y < n
    · rw [if_pos hh, if_pos ⟨hh.2, hh.1⟩, hd x y hh.1 hh.2]
    · rw [if_neg hh, if_neg fun k => hh ⟨k.2, k.1⟩]
  have he : ∀ a b, a < n → b < n → d a b = (fun x y => if x < n ∧ y < n then d x y else 0) a b := fun a b ha hb => by simp only; rw [if_pos ⟨ha, hb⟩]
  intro q hq
  rw [rat_congr m (hc.unite (by omega) (by omega)) he]
  exact unite_not_nearer m hs hij hjn hi hj (fun q hq => by rw [← rat_congr m hc he]; exact h q hq) q hq

/-- the fraction of the merge t -/
def ht (m : Mt) (d : Nat → Nat → Int) (n t : Nat) : Int × Int := rat m d (st m d n t) (choice m d n (st m d n t))
theorem ht_mono (m : Mt) {d : Nat → Nat → Int} {n t : Nat} (hd : ∀ x y, x < n → y < n → d x y = d y x) (h : t + 1 < n - 1) : ¬ lt (ht m d n (t + 1)) (ht m d n t) := by
  have h1 := st_ok m d n t (by omega)
  have h2 := st_ok m d n (t + 1) (by omega)
  have hm1 := mem_prs.1 (choice_mem m d (c := st m d n t) (n := n) (by omega))
  obtain ⟨_, _, _, _, hl⟩ := choice_least m d (c := st m d n t) (n := n) (by omega)
  have hm2 := choice_mem m d (c := st m d n (t + 1)) (n := n) (by omega)
  exact unite_not_nearer' m hd h1.1.base hm1.1 hm1.2.1 hm1.2.2.1 hm1.2.2.2 hl _ hm2
theorem runL_get (m : Mt) (d : Nat → Nat → Int) {n t : Nat} (h : t < (runL m d n).length) : (runL m d n)[t] = mgOf m d n (st m d n t) := by simp [runL]
/-- the sizes -/
def sizes (n : Nat) (c : Cl) : List Int := (List.range n).map fun i => ((c i).length : Int)
theorem sizes_length (n : Nat) (c : Cl) : (sizes n c).length = n := by simp [sizes]
theorem sizes_get (n : Nat) (c : Cl) {i : Nat} (h : i < n) : (sizes n c).getD i 0 = (c i).length := by simp [sizes, List.getD_eq_getElem?_getD, h]
theorem sizes_unite {n : Nat} {c : Cl} {i j : Nat} (hij : i ≠ j) (_hi : i < n) (_hj : j < n) : sizes n (unite c i j) = ((sizes n c).set i ((c i).length + (c j).length : Nat)).set j 0 := by
  apply List.ext_getElem
  · simp [sizes]
  · intro k h1 h2
    simp only [sizes_length] at h1
    simp only [List.getElem_set]
    simp only [sizes, List.getElem_map, List.getElem_range, unite]
    by_cases e : j = k
    · subst e; rw [if_pos rfl, if_neg (by omega), if_pos rfl]; rfl
    · rw [if_neg e]
      by_cases e2 : i = k
      · subst e2; rw [if_pos rfl, if_pos rfl, List.length_append]
      · rw [if_neg e2, if_neg (by omega), if_neg (by omega)]
/-- what a merge is -/
structure Step (m : Mt) (d : Nat → Nat → Int) (n t : Nat) (x : Mg) : Prop where
  ab : x.a < x.b
  bn : x.b < n
  na : 0 < (st m d n t x.a).length
  nb : 0 < (st m d n t x.b).length
  sz : x.size = (st m d n t x.a).length + (st m d n t x.b).length
  low : Low (ht m d n t) x.f
  nx : st m d n (t + 1) = unite (st m d n t) x.a x.b
theorem step_of (m : Mt) {d : Nat → Nat → Int} {n t : Nat} (hd : Dist n d) (h : t < n - 1) : Step m d n t (mgOf m d n (st m d n t)) := by
  have h1 := st_ok m d n t (by omega)
  have hm1 := mem_prs.1 (choice_mem m d (c := st m d n t) (n := n) (by omega))
  obtain ⟨b1, b2, b3, b4, b5⟩ := hd.num_bd h1.1.base m hm1.2.2.1 hm1.2.2.2
  exact ⟨hm1.1, hm1.2.1, List.length_pos_iff.2 hm1.2.2.1, List.length_pos_iff.2 hm1.2.2.2, rfl, red_low b1 b3, rfl⟩
theorem ht_bd (m : Mt) {d : Nat → Nat → Int} {n t : Nat} (hd : Dist n d) (h : t < n - 1) : 0 ≤ (ht m d n t).1 ∧ 1 ≤ (ht m d n t).2 ∧ (ht m d n t).1 ≤ (ht m d n t).2 * 1099511627776 := by
  have h1 := st_ok m d n t (by omega)
  have hm1 := mem_prs.1 (choice_mem m d (c := st m d n t) (n := n) (by omega))
  obtain ⟨b1, b2, b3, b4, b5⟩ := hd.num_bd h1.1.base m hm1.2.2.1 hm1.2.2.2
  exact ⟨b1, b3, b5⟩
/-- the denominator is at most a quarter of the square -/
theorem ht_den (m : Mt) {d : Nat → Nat → Int} {n t : Nat} (h : t < n - 1) (hn : 2 ≤ n) : 4 * (ht m d n t).2 ≤ n * n := by
  have h1 := st_ok m d n t (by omega)
  have hm1 := mem_prs.1 (choice_mem m d (c := st m d n t) (n := n) (by omega))
  have hnd : ((st m d n t (choice m d n (st m d n t)).1) ++ (st m d n t (choice m d n (st m d n t)).2)).Nodup := List.nodup_append.2 ⟨h1.1.nodup _, h1.1.nodup _, fun a ha b hb e => by
    subst e; have := h1.1.disj _ _ _ ha hb; omega⟩
  have hl := nodup_le n _ hnd fun x hx => by rcases List.mem_append.1 hx with hx | hx <;> exact (h1.1.mem _ _ hx).2
  rw [List.length_append] at hl
  unfold ht rat
  have key : ∀ p q : Nat, p + q ≤ n → 4 * ((p : Int) * q) ≤ n * n := fun p q hpq => by
    have e : 4 * (p * q) ≤ n * n := by
      have h2 : (p + q) * (p + q) ≤ n * n := Nat.mul_le_mul hpq hpq
      have h3 : (p + q) * (p + q) = p * p + q * q + 2 * (p * q) := by rw [Nat.add_mul, Nat.mul_add, Nat.mul_add, Nat.mul_comm q p]; omega
      have h4 : 2 * (p * q) ≤ p * p + q * q := by
        rcases Nat.le_total p q with h | h
        · obtain ⟨k, rfl⟩ := Nat.exists_eq_add_of_le h
          have : (p + k) * (p + k) = p * p + k * k + 2 * (p * k) := by rw [Nat.add_mul, Nat.mul_add, Nat.mul_add, Nat.mul_comm k p]; omega
          rw [this, Nat.mul_add]; omega
        · obtain ⟨k, rfl⟩ := Nat.exists_eq_add_of_le h
          have : (q + k) * (q + k) = q * q + k * k + 2 * (q * k) := by rw [Nat.add_mul, Nat.mul_add, Nat.mul_add, Nat.mul_comm k q]; omega
          have e1 : (q + k) * q = q * q + q * k := by rw [Nat.add_mul, Nat.mul_comm k q]
          rw [e1, this]; omega
      omega
    exact_mod_cast e
  have h4 : (4 : Int) ≤ n * n := by
    have : 2 * 2 ≤ n * n := Nat.mul_le_mul hn hn
    exact_mod_cast this
  cases m <;> simp only [den]
  · omega
  · omega
  · have := key _ _ hl; omega
theorem low_bd {p q : Int × Int} (h : Low p q) (h0 : p.1 ≤ p.2 * 1099511627776) (h1 : 1 ≤ p.2) : q.1 ≤ q.2 * 1099511627776 := by
  have e := h.eq
  have hd := h.d1
  rcases Int.lt_or_le (q.2 * 1099511627776) q.1 with hh | hh
  · exfalso
    have a1 : (q.2 * 1099511627776 + 1) * p.2 ≤ q.1 * p.2 := Int.mul_le_mul_of_nonneg_right hh (by omega)
    have a2 : p.1 * q.2 ≤ p.2 * 1099511627776 * q.2 := Int.mul_le_mul_of_nonneg_right h0 (by omega)
    have a3 : p.2 * 1099511627776 * q.2 = (q.2 * 1099511627776) * p.2 := by ac_rfl
    rw [Int.add_mul] at a1
    omega
  · exact hh
/-- a merge, in natural numbers -/
structure MN (m : Mt) (d : Nat → Nat → Int) (n t : Nat) (A B N E la lb : Nat) : Prop where
  eq : ∀ h, (runL m d n)[t]'h = ⟨A, B, ((N : Int), (E : Int)), la + lb⟩
  ab : A < B
  bn : B < n
  na : 0 < la
  nb : 0 < lb
  le : la + lb ≤ n
  la : (st m d n t A).length = la
  lb : (st m d n t B).length = lb
  e1 : 1 ≤ E
  e2 : 4 * E ≤ n * n
  ne : N ≤ E * 1099511627776
  gcd : Nat.gcd N E = 1
  nx : st m d n (t + 1) = unite (st m d n t) A B
  ht : red (ht m d n t) = ((N : Int), (E : Int))
theorem mn_of (m : Mt) {d : Nat → Nat → Int} {n t : Nat} (hd : Dist n d) (h : t < n - 1) : ∃ A B N E la lb, MN m d n t A B N E la lb := by
  have hs := step_of m hd h
  have hb := ht_bd m hd h
  have hden := ht_den m (d := d) h (by omega)
  have h1 := st_ok m d n t (by omega)
  obtain ⟨N, hN⟩ := Int.eq_ofNat_of_zero_le hs.low.n0
  obtain ⟨E, hE⟩ := Int.eq_ofNat_of_zero_le (show 0 ≤ (mgOf m d n (st m d n t)).f.2 by have := hs.low.d1; omega)
  have hd1 := hs.low.d1
  have hdl := hs.low.dle
  have hg := hs.low.gcd
  have hlb := low_bd hs.low hb.2.2 hb.2.1
  rw [hE] at hd1 hdl hlb
  rw [hN] at hlb
  rw [hN, hE] at hg
  have hnd : ((st m d n t (mgOf m d n (st m d n t)).a) ++ (st m d n t (mgOf m d n (st m d n t)).b)).Nodup := List.nodup_append.2 ⟨h1.1.nodup _, h1.1.nodup _, fun a ha b hb e => by
    subst e; have := h1.1.disj _ _ _ ha hb; have := hs.ab; omega⟩
  have hl := nodup_le n _ hnd fun x hx => by rcases List.mem_append.1 hx with hx | hx <;> exact (h1.1.mem _ _ hx).2
  rw [List.length_append] at hl
  refine ⟨(mgOf m d n (st m d n t)).a, (mgOf m d n (st m d n t)).b, N, E, _, _, fun hh => ?_, hs.ab, hs.bn, hs.na, hs.nb, hl, rfl, rfl, by omega, ?_, by omega, by simpa [Int.gcd] using hg, hs.nx, ?_⟩
  · rw [runL_get]
    have e3 : (mgOf m d n (st m d n t)).f = ((N : Int), (E : Int)) := Prod.ext hN hE
    rw [← e3]
    rfl
  · have : (4 * E : Int) ≤ n * n := by omega
    exact_mod_cast this
  · exact Prod.ext hN hE
theorem mn_rise {m : Mt} {d : Nat → Nat → Int} {n t : Nat} (hd : Dist n d) {A B N E la lb A' B' N' E' la' lb' : Nat} (h : MN m d n (t + 1) A B N E la lb) (h' : MN m d n t A' B' N' E' la' lb') (ht1 : t + 1 < n - 1) : ¬ N * E' < N' * E := by
  have hm := ht_mono m (d := d) (fun x y hx hy => hd.sym x y hx hy) ht1
  have b1 := ht_bd m hd ht1
  have b2 := ht_bd m hd (t := t) (by omega)
  rw [← lt_red b1.1 b1.2.1 b2.1 b2.2.1, h.ht, h'.ht] at hm
  unfold lt at hm
  simp only at hm
  intro hh
  exact hm (by exact_mod_cast hh)
/-- the sizes at the start, as far as they are set -/
def ones (n j : Nat) : List Int := (List.range n).map fun i => if i < j then 1 else 0
theorem ones_length (n j : Nat) : (ones n j).length = n := by simp [ones]
theorem ones_zero (n : Nat) : ones n 0 = List.replicate n 0 := by
  apply List.ext_getElem
  · simp [ones]
  · intro i h1 h2; simp [ones]
theorem ones_next {n j : Nat} (_h : j < n) : (ones n j).set j 1 = ones n (j + 1) := by
  apply List.ext_getElem
  · simp [ones]
  · intro i h1 h2
    simp only [ones_length] at h2
    simp only [List.getElem_set, ones, List.getElem_map, List.getElem_range]
    by_cases e : j = i
    · subst e; simp
    · rw [if_neg e]
      by_cases e2 : i < j
      · rw [if_pos e2, if_pos (by omega)]
      · rw [if_neg e2, if_neg (by omega)]
theorem ones_end (n : Nat) : ones n n = sizes n (start n) := by
  unfold ones sizes
  refine List.map_congr_left fun i hi => ?_
  have := List.mem_range.1 hi
  simp [start, this]
end Lk
end Go.Proofs.Ytmkggcmebeagaaa
