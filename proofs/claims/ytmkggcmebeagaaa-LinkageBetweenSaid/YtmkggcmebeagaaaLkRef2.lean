/- The reference: lowest, distance. -/
import Derived.Test.YtmkggcmebeagaaaLkRef
namespace Go.Proofs.Ytmkggcmebeagaaa
set_option linter.unusedVariables false
set_option linter.unusedSimpArgs false
open Go.RowKit Lk
namespace Lk
theorem gcd_one_of {N D p : Nat} (h1 : 1 ≤ D) (hp : D < p) (h : ∀ q, 2 ≤ q → q < p → ¬ (q ∣ N ∧ q ∣ D)) : Nat.gcd N D = 1 := by
  have hg0 : 0 < Nat.gcd N D := Nat.gcd_pos_of_pos_right _ h1
  have hgl : Nat.gcd N D ≤ D := Nat.le_of_dvd h1 (Nat.gcd_dvd_right ..)
  rcases Nat.lt_or_ge (Nat.gcd N D) 2 with h2 | h2
  · omega
  · exact absurd ⟨Nat.gcd_dvd_left .., Nat.gcd_dvd_right ..⟩ (h _ h2 (by omega))
theorem fold1_least {l : List Int} {x : Int} (hx : x ∈ l) (h : ∀ y ∈ l, x ≤ y) : fold1 Mt.single.jn l = x := by
  have hne : l ≠ [] := fun e => by rw [e] at hx; cases hx
  have h1 := h _ (fold1_mem (m := .single) (by intro h; cases h) hne)
  have h2 : ∀ l : List Int, l ≠ [] → ∀ y ∈ l, fold1 Mt.single.jn l ≤ y := by
    intro l
    induction l with
    | nil => intro h; exact absurd rfl h
    | cons a l ih =>
      intro _ y hy
      cases l with
      | nil => have : y = a := by simpa using hy
               subst this; exact Int.le_refl _
      | cons b l =>
        rw [fold1_cons _ _ (by simp)]
        have h3 := ih (by simp)
        simp only [Mt.jn]
        rcases List.mem_cons.1 hy with rfl | hy
        · split <;> omega
        · have := h3 y hy; split <;> omega
  have := h2 l hne x hx
  omega
theorem fold1_most {l : List Int} {x : Int} (hx : x ∈ l) (h : ∀ y ∈ l, y ≤ x) : fold1 Mt.complete.jn l = x := by
  have hne : l ≠ [] := fun e => by rw [e] at hx; cases hx
  have h1 := h _ (fold1_mem (m := .complete) (by intro h; cases h) hne)
  have h2 : ∀ l : List Int, l ≠ [] → ∀ y ∈ l, y ≤ fold1 Mt.complete.jn l := by
    intro l
    induction l with
    | nil => intro h; exact absurd rfl h
    | cons a l ih =>
      intro _ y hy
      cases l with
      | nil => have : y = a := by simpa using hy
               subst this; exact Int.le_refl _
      | cons b l =>
        rw [fold1_cons _ _ (by simp)]
        have h3 := ih (by simp)
        simp only [Mt.jn]
        rcases List.mem_cons.1 hy with rfl | hy
        · split <;> omega
        · have := h3 y hy; split <;> omega
  have := h2 l hne x hx
  omega
def sumL (l : List Int) : Int := l.foldr (· + ·) 0
theorem sumL_append (a b : List Int) : sumL (a ++ b) = sumL a + sumL b := by
  induction a with
  | nil => simp [sumL]
  | cons x a ih => simp only [sumL, List.cons_append, List.foldr_cons] at ih ⊢; omega
theorem fold1_total : ∀ l : List Int, fold1 Mt.average.jn l = sumL l
  | [] => rfl
  | [x] => by simp [fold1, sumL]
  | x :: y :: l => by rw [fold1_cons _ _ (by simp), fold1_total (y :: l)]; rfl
theorem sumL_bd {l : List Int} {M : Int} (h : ∀ x ∈ l, 0 ≤ x ∧ x ≤ M) : 0 ≤ sumL l ∧ sumL l ≤ l.length * M := by
  have := fold1_sum l M h
  rwa [fold1_total] at this
/-- the distances that have been seen -/
def seenL (d : Nat → Nat → Int) (A B : List Nat) (i j : Nat) : List Int := cross d (A.take i) B ++ (match A[i]? with | some a => (B.take j).map (d a) | none => [])
theorem seen_end (d : Nat → Nat → Int) (A B : List Nat) {i : Nat} (h : A.length ≤ i) : seenL d A B i 0 = cross d A B := by
  unfold seenL; rw [List.getElem?_eq_none h, List.take_of_length_le h]; simp
theorem seen_row (d : Nat → Nat → Int) (A B : List Nat) {i j : Nat} (hi : i < A.length) (hj : B.length ≤ j) : seenL d A B i j = seenL d A B (i + 1) 0 := by
  unfold seenL
  rw [List.getElem?_eq_getElem hi, List.take_of_length_le hj, takeOne hi, cross_append]
  have : (match A[i + 1]? with | some a => (B.take 0).map (d a) | none => []) = [] := by split <;> simp
  rw [this]
  simp [cross]
theorem seen_next (d : Nat → Nat → Int) (A B : List Nat) {i j : Nat} (hi : i < A.length) (hj : j < B.length) : seenL d A B i (j + 1) = seenL d A B i j ++ [d A[i] B[j]] := by
  unfold seenL
  rw [List.getElem?_eq_getElem hi, takeOne hj]
  simp only [List.map_append, List.map_cons, List.map_nil, List.append_assoc]
theorem seen_start (d : Nat → Nat → Int) (A B : List Nat) : seenL d A B 0 0 = [] := by
  unfold seenL
  simp [cross]
  split <;> simp
theorem mem_seen {d : Nat → Nat → Int} {A B : List Nat} {i j : Nat} {x : Int} (h : x ∈ seenL d A B i j) : ∃ a ∈ A, ∃ b ∈ B, x = d a b := by
  unfold seenL at h
  rcases List.mem_append.1 h with h | h
  · obtain ⟨a, ha, b, hb, e⟩ := mem_cross h
    exact ⟨a, List.mem_of_mem_take ha, b, hb, e⟩
  · split at h
    · rename_i a ha
      obtain ⟨b, hb, rfl⟩ := List.mem_map.1 h
      exact ⟨a, List.mem_of_getElem? ha, b, List.mem_of_mem_take hb, rfl⟩
    · cases h
theorem seen_length (d : Nat → Nat → Int) (A B : List Nat) (i j : Nat) (hi : i ≤ A.length) (hj : j ≤ B.length) : (seenL d A B i j).length ≤ A.length * B.length + B.length := by
  unfold seenL
  rw [List.length_append, cross_length, List.length_take]
  have h1 : min i A.length * B.length ≤ A.length * B.length := Nat.mul_le_mul_right _ (by omega)
  split
  · rw [List.length_map, List.length_take]; omega
  · simp; omega
end Lk

set_option maxRecDepth 100000 in
set_option maxHeartbeats 1000000 in
theorem rlowest_any (w : World) (n d : Nat) (hn : n ≤ 4611686018427387903) (hd : d ≤ 1000000) (hd1 : 1 ≤ d) :
    Calls Try.prog 44 #[.int .i64 n, .int .i64 d] w fun e w' => e = .returned (.agg #[.int .i64 (red ((n : Int), (d : Int))).1, .int .i64 (red ((n : Int), (d : Int))).2]) ∧ Upd (fun _ => False) w w' := by
  obtain ⟨R, hR⟩ : ∃ R, red ((n : Int), (d : Int)) = R := ⟨_, rfl⟩
  rw [hR]
  have HR := Lib.hid hR
  clear hR
  have hnew := World.alloc_heap_new w (.cells #[.int .i64 0, .int .i64 0] 38)
  go_enter Try.func44, Try.ntmps44
  go_wp2
  go_loopg [0, 1, 5] d (fun k u v s wr => ∃ p N E : Nat, u = .int .i64 N ∧ v = .int .i64 E ∧ s = .int .i64 p ∧ 2 ≤ p ∧ 1 ≤ E ∧ E ≤ d ∧ N ≤ n ∧ p ≤ d + 2 ∧ k = d + 2 - p ∧ Hid (n * E = N * d ∧ ∀ q, 2 ≤ q → q < p → ¬ (q ∣ N ∧ q ∣ E)) ∧ wr.heap[w.heap.size]? = some (.cells #[.int .i64 0, .int .i64 0] 38 (0, 0)) ∧ Upd (fun _ => False) w wr)
  case atStart => exact ⟨2, n, d, rfl, rfl, rfl, by omega, hd1, by omega, by omega, by omega, by omega, ⟨rfl, fun q h1 h2 => by omega⟩, hnew, (Upd.refl _ _).alloc _⟩
  case round =>
    obtain ⟨p, N, E, rfl, rfl, rfl, hp2, hE1, hEd, hNn, hpd, hk, HI, hblk, hu⟩ := hrel
    clear hnew
    by_cases hle : p ≤ E
    · have HU := Lib.hid (And.intro hblk hu)
      have hpD : p ≤ d := by omega
      clear hblk hu
      obtain ⟨wo, rfl⟩ : ∃ wo : World, wo = wr := ⟨_, rfl⟩
      go_wp2
      go_loopg [0, 1] E (fun k2 u v wr => ∃ N E : Nat, u = .int .i64 N ∧ v = .int .i64 E ∧ 1 ≤ E ∧ E ≤ d ∧ N ≤ n ∧ k2 = E ∧ Hid (n * E = N * d ∧ ∀ q, 2 ≤ q → q < p → ¬ (q ∣ N ∧ q ∣ E)) ∧ ∃ c, wo.drewN c = wr)
      case atStart => exact ⟨N, E, rfl, rfl, hE1, hEd, hNn, rfl, HI, 0, rfl⟩
      case round =>
        clear HI hE1 hEd hNn hle
        obtain ⟨N, E, rfl, rfl, hE1, hEd, hNn, hk2, HI, c, rfl⟩ := hrel
        have m1 : (N : Int) % p = ((N % p : Nat) : Int) := rfl
        have m2 : (E : Int) % p = ((E % p : Nat) : Int) := rfl
        by_cases h1 : N % p = 0
        · by_cases h2 : E % p = 0
          · have z1 : ((N : Int) % p == 0) = true := by rw [m1, h1]; rfl
            have z2 : ((E : Int) % p == 0) = true := by rw [m2, h2]; rfl
            have q1 : (N : Int).tdiv p = ((N / p : Nat) : Int) := cal_quo N p
            have q2 : (E : Int).tdiv p = ((E / p : Nat) : Int) := cal_quo E p
            have q1' : (N : Int) / p = ((N / p : Nat) : Int) := rfl
            have q2' : (E : Int) / p = ((E / p : Nat) : Int) := rfl
            have hp0 : ((p : Int) == 0) = false := by simp; omega
            have d1 : N / p * p = N := Nat.div_mul_cancel (Nat.dvd_of_mod_eq_zero h1)
            have d2 : E / p * p = E := Nat.div_mul_cancel (Nat.dvd_of_mod_eq_zero h2)
            have l1 : N / p ≤ N := Nat.div_le_self _ _
            have l2 : E / p < E := Nat.div_lt_self (by omega) (by omega)
            have l3 : 1 ≤ E / p := Nat.pos_of_ne_zero fun e => by rw [e] at d2; omega
            have HN : Hid (n * (E / p) = N / p * d ∧ ∀ q, 2 ≤ q → q < p → ¬ (q ∣ N / p ∧ q ∣ E / p)) := by
              refine ⟨?_, fun q a b hh => HI.out.2 q a b ⟨?_, ?_⟩⟩
              · have := HI.out.1
                have e : n * (E / p) * p = N / p * d * p := by
                  rw [Nat.mul_assoc, d2, this, Nat.mul_assoc, Nat.mul_comm d p, ← Nat.mul_assoc, d1]
                exact Nat.eq_of_mul_eq_mul_right (by omega) e
              · rw [← d1]; exact Nat.dvd_trans hh.1 (Nat.dvd_mul_right ..)
              · rw [← d2]; exact Nat.dvd_trans hh.2 (Nat.dvd_mul_right ..)
            clear m1 m2 d1 d2 h1 h2 HI
            generalize N / p = N' at *
            generalize E / p = E' at *
            go_wp2
            go_quiet (fail)
            go_wp2
            go_roundg E'
            case measure => omega
            case rel => exact ⟨N', E', rfl, rfl, l3, by omega, by omega, rfl, HN, _, (World.drewN_drewN _ _ _).symm⟩
          · have z1 : ((N : Int) % p == 0) = true := by rw [m1, h1]; rfl
            have z2 : ((E : Int) % p == 0) = false := by rw [m2]; simp; omega
            have HN : Hid (n * E = N * d ∧ ∀ q, 2 ≤ q → q < p + 1 → ¬ (q ∣ N ∧ q ∣ E)) := ⟨HI.out.1, fun q a b hh => by
              rcases Nat.lt_or_ge q p with h | h
              · exact HI.out.2 q a h hh
              · obtain rfl : q = p := by omega
                exact h2 (Nat.mod_eq_zero_of_dvd hh.2)⟩
            clear m1 m2 h1 h2 HI
            go_wp2
            go_roundg (d + 2 - (p + 1))
            case measure => omega
            case rel => exact ⟨p + 1, N, E, rfl, rfl, by simp, by omega, hE1, hEd, hNn, by omega, rfl, HN, HU.out.1, HU.out.2.drewN _⟩
        · have z1 : ((N : Int) % p == 0) = false := by rw [m1]; simp; omega
          have HN : Hid (n * E = N * d ∧ ∀ q, 2 ≤ q → q < p + 1 → ¬ (q ∣ N ∧ q ∣ E)) := ⟨HI.out.1, fun q a b hh => by
              rcases Nat.lt_or_ge q p with h | h
              · exact HI.out.2 q a h hh
              · obtain rfl : q = p := by omega
                exact h1 (Nat.mod_eq_zero_of_dvd hh.1)⟩
          clear m1 m2 h1 HI
          go_wp2
          go_roundg (d + 2 - (p + 1))
          case measure => omega
          case rel => exact ⟨p + 1, N, E, rfl, rfl, by simp, by omega, hE1, hEd, hNn, by omega, rfl, HN, HU.out.1, HU.out.2.drewN _⟩
    · have hg := gcd_one_of hE1 (show E < p by omega) HI.out.2
      have hRe := red_unique (by omega) (by omega) HI.out.1 hg
      rw [HR.out] at hRe
      have HRE := Lib.hid hRe
      have c0 := cell_of hblk 0
      have c1 := cell_of hblk 1
      have hf := free_of hblk
      simp only [List.getElem?_toArray, List.getElem?_cons_zero, List.getElem?_cons_succ] at c0 c1
      have HU := Lib.hid hu
      have hb2 : ((wr.setCell ⟨w.heap.size, 0, none⟩ (.int .i64 N)).setCell ⟨w.heap.size, 1, none⟩ (.int .i64 E)).heap[w.heap.size]? = some (.cells #[.int .i64 N, .int .i64 E] 38 (0, 0)) := cells_set (o := 1) _ (cells_set (o := 0) _ hblk)
      have b0 := cell_of hb2 0
      have b1 := cell_of hb2 1
      have B01 := Lib.hid (And.intro b0 b1)
      clear hRe hg HI hu hblk hb2 b0 b1
      go_wp2
      obtain ⟨b0, b1⟩ := B01.out
      simp only [List.getElem?_toArray, List.getElem?_cons_zero, List.getElem?_cons_succ] at b0 b1
      exact bodyPost_ret (v := .agg #[.int .i64 N, .int .i64 E]) (by simp [results, Try.results44, go_sem, b0, b1]) rfl ⟨by rw [HRE.out], (HU.out.setCell (.inr (Nat.le_refl _)) _).setCell (.inr (Nat.le_refl _)) _⟩
end Go.Proofs.Ytmkggcmebeagaaa
