/- proper, below: fractions. -/
import Derived.Test.YtmkggcmebeagaaaDoorLkWorks
namespace Go.Proofs.YtmkggcmebeagaaaDoor
set_option linter.unusedVariables false
set_option linter.unusedSimpArgs false
open Go.RowKit Lk

theorem below_eq (N1 D1 N2 D2 : Nat) (h1 : 1 ≤ D1) (h2 : 1 ≤ D2) : N1 * D2 < N2 * D1 ↔ (if N1 / D1 = N2 / D2 then (N1 % D1) * D2 < (N2 % D2) * D1 else N1 / D1 < N2 / D2) := by
  have e1 := Nat.div_add_mod N1 D1
  have e2 := Nat.div_add_mod N2 D2
  have m1 := Nat.mod_lt N1 (show 0 < D1 by omega)
  have m2 := Nat.mod_lt N2 (show 0 < D2 by omega)
  generalize N1 / D1 = p at *
  generalize N2 / D2 = q at *
  generalize N1 % D1 = r at *
  generalize N2 % D2 = s at *
  subst e1; subst e2
  have a1 : (D1 * p + r) * D2 = p * (D1 * D2) + r * D2 := by rw [Nat.add_mul]; congr 1; ac_rfl
  have a2 : (D2 * q + s) * D1 = q * (D1 * D2) + s * D1 := by rw [Nat.add_mul]; congr 1; ac_rfl
  rw [a1, a2]
  have b1 : r * D2 < D1 * D2 := Nat.mul_lt_mul_of_pos_right m1 (by omega)
  have b2 : s * D1 < D1 * D2 := by rw [Nat.mul_comm D1 D2]; exact Nat.mul_lt_mul_of_pos_right m2 (by omega)
  generalize r * D2 = u at *
  generalize s * D1 = v at *
  generalize D1 * D2 = z at *
  split
  · rename_i e; subst e; omega
  · rename_i e
    rcases Nat.lt_or_gt_of_ne e with h | h
    · have : (p + 1) * z ≤ q * z := Nat.mul_le_mul_right z h
      rw [Nat.add_mul] at this
      omega
    · have : (q + 1) * z ≤ p * z := Nat.mul_le_mul_right z h
      rw [Nat.add_mul] at this
      omega
theorem wi {a : Nat} (h : a ≤ 16384 * 16384) : IntKind.i64.wrap (a : Int) = a := i64_in _ (by omega) (by omega)
theorem lt_nat (N1 D1 N2 D2 : Nat) : lt ((N1 : Int), (D1 : Int)) ((N2 : Int), (D2 : Int)) ↔ N1 * D2 < N2 * D1 := by unfold lt; simp only; constructor <;> intro h <;> exact_mod_cast h

set_option maxRecDepth 100000 in
set_option maxHeartbeats 1000000 in
theorem below_any (w : World) (N1 D1 N2 D2 : Nat) (h1 : 1 ≤ D1) (h2 : 1 ≤ D2) (h3 : D1 ≤ 16384) (h4 : D2 ≤ 16384) (h5 : N1 ≤ 18014398509481984) (h6 : N2 ≤ 18014398509481984) :
    Calls Tryd.prog 14 #[.agg #[.int .i64 N1, .int .i64 D1], .agg #[.int .i64 N2, .int .i64 D2]] w fun e w' => e = .returned (.bool (decide (N1 * D2 < N2 * D1))) ∧ Upd (fun _ => False) w w' := by
  have HE := Lib.hid (below_eq N1 D1 N2 D2 h1 h2)
  have p1 : N1 / D1 ≤ N1 := Nat.div_le_self ..
  have p2 : N2 / D2 ≤ N2 := Nat.div_le_self ..
  have m1 := Nat.mod_lt N1 (show 0 < D1 by omega)
  have m2 := Nat.mod_lt N2 (show 0 < D2 by omega)
  have b1 : (N1 % D1) * D2 ≤ 16384 * 16384 := Nat.mul_le_mul (by omega) h4
  have b2 : (N2 % D2) * D1 ≤ 16384 * 16384 := Nat.mul_le_mul (by omega) h3
  obtain ⟨x, hx⟩ : ∃ x, N1 / D1 = x := ⟨_, rfl⟩
  obtain ⟨y, hy⟩ : ∃ y, N2 / D2 = y := ⟨_, rfl⟩
  obtain ⟨r, hr⟩ : ∃ r, N1 % D1 = r := ⟨_, rfl⟩
  obtain ⟨s, hs⟩ : ∃ s, N2 % D2 = s := ⟨_, rfl⟩
  rw [hx, hy, hr, hs] at HE
  have q1 : (N1 : Int) / (D1 : Int) = (x : Int) := by rw [← hx]; rfl
  have q2 : (N2 : Int) / (D2 : Int) = (y : Int) := by rw [← hy]; rfl
  have q3 : (N1 : Int) % (D1 : Int) = (r : Int) := by rw [← hr]; rfl
  have q4 : (N2 : Int) % (D2 : Int) = (s : Int) := by rw [← hs]; rfl
  have t1 : (N1 : Int).tdiv (D1 : Int) = (x : Int) := by rw [cal_quo, hx]
  have t2 : (N2 : Int).tdiv (D2 : Int) = (y : Int) := by rw [cal_quo, hy]
  have t3 : (N1 : Int).tmod (D1 : Int) = (r : Int) := by rw [← hr]; exact (Int.tmod_eq_emod_of_nonneg (by omega)).trans rfl
  have t4 : (N2 : Int).tmod (D2 : Int) = (s : Int) := by rw [← hs]; exact (Int.tmod_eq_emod_of_nonneg (by omega)).trans rfl
  have z1 : ((D1 : Int) == 0) = false := by simp; omega
  have z2 : ((D2 : Int) == 0) = false := by simp; omega
  rw [hx] at p1
  rw [hy] at p2
  rw [hr] at m1 b1
  rw [hs] at m2 b2
  have WX := Lib.hid (show wrap64 (x : Int) = x from w64_in _ (by omega) (by omega))
  have WY := Lib.hid (show wrap64 (y : Int) = y from w64_in _ (by omega) (by omega))
  clear hx hy hr hs p1 p2 m1 m2 h5 h6
  have E3 := Lib.hid (show IntKind.i64.wrap ((r : Int) * D2) = ((r * D2 : Nat) : Int) by rw [← Int.natCast_mul]; exact wi b1)
  have E4 := Lib.hid (show IntKind.i64.wrap ((s : Int) * D1) = ((s * D1 : Nat) : Int) by rw [← Int.natCast_mul]; exact wi b2)
  generalize r * D2 = u at *
  generalize s * D1 = v at *
  by_cases hxy : x = y
  · have n1 : ((x : Int) == (y : Int)) = true := by simp [hxy]
    have n2 : ((x : Int) != (y : Int)) = false := by simp [hxy]
    have HR := Lib.hid (show decide (N1 * D2 < N2 * D1) = decide (u < v) by rw [decide_eq_decide, HE.out, if_pos hxy])
    have e3 := E3.out
    have e4 := E4.out
    clear hxy HE E3 E4
    have wx := WX.out
    have wy := WY.out
    clear WX WY
    go_enter Tryd.func14, Tryd.ntmps14
    go_wp2_with fail
    go_quiet (fail)
    go_wp2_with fail
    go_quiet (fail)
    go_wp2_with fail
    go_ret
    rw [HR.out]
    exact ⟨rfl, ((((Upd.refl _ _).alloc _).alloc _).drewN _).drewN _⟩
  · have n1 : ((x : Int) == (y : Int)) = false := by simp; omega
    have n2 : ((x : Int) != (y : Int)) = true := by simp; omega
    have HR := Lib.hid (show decide (N1 * D2 < N2 * D1) = decide (x < y) by rw [decide_eq_decide, HE.out, if_neg hxy])
    clear hxy HE E3 E4
    have wx := WX.out
    have wy := WY.out
    clear WX WY
    go_enter Tryd.func14, Tryd.ntmps14
    go_wp2_with fail
    go_quiet (fail)
    go_wp2_with fail
    go_ret
    rw [HR.out]
    exact ⟨rfl, (((Upd.refl _ _).alloc _).alloc _).drewN _⟩

set_option maxRecDepth 100000 in
set_option maxHeartbeats 1000000 in
theorem proper_yes (w : World) (N D : Nat) (h1 : 1 ≤ D) (h2 : D ≤ 4096) (h3 : N ≤ D * 1099511627776) (hg : Nat.gcd N D = 1) :
    Calls Tryd.prog 13 #[.agg #[.int .i64 N, .int .i64 D]] w fun e w' => e = .returned (.bool true) ∧ Upd (fun _ => False) w w' := by
  have hq : N / D ≤ 1099511627776 := Nat.div_le_of_le_mul h3
  obtain ⟨x, hx⟩ : ∃ x, N / D = x := ⟨_, rfl⟩
  rw [hx] at hq
  have hN : N ≤ 4503599627370496 := Nat.le_trans h3 (by omega)
  have q1 : (N : Int) / (D : Int) = (x : Int) := by rw [← hx]; rfl
  have z1 : ((D : Int) == 0) = false := by simp; omega
  have HG := Lib.hid hg
  clear hx hg h3
  go_enter Tryd.func13, Tryd.ntmps13
  go_wp2_with fail
  go_quiet (fail)
  go_wp2_with fail
  go_loopg [3, 4] D (fun k u v wr => ∃ a b : Nat, u = .int .i64 a ∧ v = .int .i64 b ∧ k = b ∧ a ≤ 4503599627370496 ∧ b ≤ 4503599627370496 ∧ Hid (Nat.gcd a b = 1) ∧ Hid (Upd (fun _ => False) w wr))
  case atStart => exact ⟨N, D, rfl, rfl, rfl, by omega, by omega, HG, ((Upd.refl _ _).alloc _).drewN _⟩
  case round =>
    obtain ⟨a, b, rfl, rfl, hk, ha, hb, HG2, HU⟩ := hrel
    by_cases hb0 : b = 0
    · subst hb0
      have hg := HG2.out
      rw [Nat.gcd_zero_right] at hg
      subst hg
      go_wp2_with fail
      go_ret
      exact ⟨rfl, HU.out⟩
    · have hz : ((b : Int) == 0) = false := by simp; omega
      have hz2 : ((b : Int) != 0) = true := by simp; omega
      have hm := Nat.mod_lt a (show 0 < b by omega)
      obtain ⟨r, hr⟩ : ∃ r, a % b = r := ⟨_, rfl⟩
      rw [hr] at hm
      have HR := Lib.hid hr
      have t3 : (a : Int).tmod (b : Int) = (r : Int) := by rw [← hr]; exact (Int.tmod_eq_emod_of_nonneg (by omega)).trans rfl
      have q3 : (a : Int) % (b : Int) = (r : Int) := by rw [← hr]; rfl
      clear hr
      go_wp2_with fail
      go_quiet (fail)
      go_wp2_with fail
      go_roundg r
      case measure => omega
      case rel => exact ⟨b, r, rfl, rfl, rfl, by omega, by omega, by rw [← HR.out]; show Nat.gcd b (a % b) = 1; rw [Nat.gcd_comm, ← Nat.gcd_rec, Nat.gcd_comm]; exact HG2.out, HU.out.drewN _⟩
end Go.Proofs.YtmkggcmebeagaaaDoor
