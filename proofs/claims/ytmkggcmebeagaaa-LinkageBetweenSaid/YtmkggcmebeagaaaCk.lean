/- The functions of package checked: gcd, Reduce, Compare; at numbers that are not below 0. -/
import Derived.Test.YtmkggcmebeagaaaMulC
import Derived.Test.YtmkggcmebeagaaaMem
import Derived.Deep.RegionHeld3
namespace Go.Proofs.Ytmkggcmebeagaaa
set_option linter.unusedVariables false
set_option linter.unusedSimpArgs false
open Go.RowKit

theorem ckSize_any (w : World) (x : Int) (h0 : 0 ≤ x) (h1 : x ≤ 9223372036854775807) : Calls Try.prog 41 #[.int .i64 x] w fun e w' => e = .returned (.int .u64 x) ∧ w = w' := by
  have hn : ¬ x < 0 := by omega
  have hw : IntKind.u64.wrap x = x := by simp only [IntKind.wrap]; go_simp; omega
  go_enter Try.func41, Try.ntmps41
  go_wp2
  go_ret
  exact ⟨rfl, rfl⟩

theorem ckGcd_any (w : World) (x y : Nat) (hx : x < 18446744073709551616) (hy : y < 18446744073709551616) : Calls Try.prog 42 #[.int .u64 x, .int .u64 y] w fun e w' => e = .returned (.int .u64 (Nat.gcd x y)) ∧ ∃ n, w.drewN n = w' := by
  obtain ⟨g, hg⟩ : ∃ g, Nat.gcd x y = g := ⟨_, rfl⟩
  rw [hg]
  have HG := Lib.hid hg
  clear hg
  go_enter Try.func42, Try.ntmps42
  go_wp2
  go_loopg [0, 1] y (fun k u v wr => ∃ a b : Nat, u = .int .u64 a ∧ v = .int .u64 b ∧ Hid (Nat.gcd a b = g) ∧ k = b ∧ a < 18446744073709551616 ∧ b < 18446744073709551616 ∧ ∃ n, w.drewN n = wr)
  case atStart => exact ⟨x, y, rfl, rfl, HG, rfl, hx, hy, 0, rfl⟩
  case round =>
    obtain ⟨a, b, rfl, rfl, HAB, hk, ha, hb, n, rfl⟩ := hrel
    by_cases hz : b = 0
    · subst hz
      have hga : a = g := by have := HAB.out; rwa [Nat.gcd_zero_right] at this
      subst hga
      clear HG HAB
      go_wp2
      go_ret
      exact ⟨rfl, n, rfl⟩
    · have hbz : ((b : Int) != 0) = true := by simp; omega
      have hb0 : ((b : Int) == 0) = false := by simp; omega
      have hmod : (a : Int).tmod b = ((a % b : Nat) : Int) := by rw [Int.tmod_eq_emod_of_nonneg (by omega)]; omega
      have hlt : a % b < b := Nat.mod_lt _ (by omega)
      have hgg : Nat.gcd b (a % b) = g := by rw [← HAB.out, Nat.gcd_comm a b, Nat.gcd_rec b a]; exact Nat.gcd_comm _ _
      have HH := Lib.hid hgg
      clear hgg
      go_wp2
      go_quiet (fail)
      go_wp2
      go_roundg (a % b)
      case measure => omega
      case rel => exact ⟨b, a % b, rfl, by simp, HH, rfl, hb, by omega, _, (World.drewN_drewN _ _ _).symm⟩

theorem ckSigned_any (w : World) (u : Int) (h0 : 0 ≤ u) (h1 : u ≤ 9223372036854775807) : Calls Try.prog 43 #[.bool false, .int .u64 u] w fun e w' => e = .returned (.tuple #[.int .i64 u, .int .i64 0]) ∧ w = w' := by
  have hw : IntKind.i64.wrap u = u := i64_in _ (by omega) h1
  go_enter Try.func43, Try.ntmps43
  go_wp2
  go_ret2
  exact ⟨rfl, rfl⟩

/-- a comparison: -1, 0 or 1 -/
def cmpS (x y : Int) : Int := if x < y then -1 else if y < x then 1 else 0
theorem cmpS_lt {x y : Int} (h : x < y) : cmpS x y = -1 := by rw [cmpS, if_pos h]
theorem cmpS_gt {x y : Int} (h : y < x) : cmpS x y = 1 := by rw [cmpS, if_neg (by omega), if_pos h]
theorem cmpS_eq {x y : Int} (h : ¬ x < y) (h2 : ¬ y < x) : cmpS x y = 0 := by rw [cmpS, if_neg h, if_neg h2]
theorem cmpInt_any (w : World) (x y : Int) : Calls Try.prog 36 #[.int .i64 x, .int .i64 y] w fun e w' => e = .returned (.int .i64 (cmpS x y)) ∧ w = w' := by
  by_cases h1 : x < y
  · go_enter Try.func36, Try.ntmps36
    go_wp2
    go_ret
    exact ⟨by rw [cmpS_lt h1]; rfl, rfl⟩
  · by_cases h2 : y < x
    · go_enter Try.func36, Try.ntmps36
      go_wp2
      go_ret
      exact ⟨by rw [cmpS_gt (by omega)]; rfl, rfl⟩
    · go_enter Try.func36, Try.ntmps36
      go_wp2
      go_ret
      exact ⟨by rw [cmpS_eq (by omega) (by omega)]; rfl, rfl⟩
theorem cmpU64_any (w : World) (x y : Int) : Calls Try.prog 40 #[.int .u64 x, .int .u64 y] w fun e w' => e = .returned (.int .i64 (cmpS x y)) ∧ w = w' := by
  by_cases h1 : x < y
  · go_enter Try.func40, Try.ntmps40
    go_wp2
    go_ret
    exact ⟨by rw [cmpS_lt h1]; rfl, rfl⟩
  · by_cases h2 : y < x
    · go_enter Try.func40, Try.ntmps40
      go_wp2
      go_ret
      exact ⟨by rw [cmpS_gt (by omega)]; rfl, rfl⟩
    · go_enter Try.func40, Try.ntmps40
      go_wp2
      go_ret
      exact ⟨by rw [cmpS_eq (by omega) (by omega)]; rfl, rfl⟩
theorem cmpI64_any (w : World) (x y : Int) : Calls Try.prog 51 #[.int .i64 x, .int .i64 y] w fun e w' => e = .returned (.int .i64 (cmpS x y)) ∧ w = w' := by
  by_cases h1 : x < y
  · go_enter Try.func51, Try.ntmps51
    go_wp2
    go_ret
    exact ⟨by rw [cmpS_lt h1]; rfl, rfl⟩
  · by_cases h2 : y < x
    · go_enter Try.func51, Try.ntmps51
      go_wp2
      go_ret
      exact ⟨by rw [cmpS_gt (by omega)]; rfl, rfl⟩
    · go_enter Try.func51, Try.ntmps51
      go_wp2
      go_ret
      exact ⟨by rw [cmpS_eq (by omega) (by omega)]; rfl, rfl⟩

theorem ckSign_any (w : World) (x : Int) : Calls Try.prog 37 #[.int .i64 x] w fun e w' => e = .returned (.int .i64 (cmpS x 0)) ∧ w = w' := by
  go_enter Try.func37, Try.ntmps37
  go_wp2_with (go_at_call 51; refine (cmpI64_any _ x 0).mono ?_; rintro e w' ⟨rfl, rfl⟩)
  go_ret
  exact ⟨rfl, rfl⟩

def pHi (x y : Nat) : Nat := x * y / 18446744073709551616
def pLo (x y : Nat) : Nat := x * y % 18446744073709551616
theorem mulH_any (w : World) (x y : Nat) (hx : x < 18446744073709551616) (hy : y < 18446744073709551616) :
    Calls Try.prog 53 #[.int .u64 x, .int .u64 y] w fun e w' => e = .returned (.tuple #[.int .u64 (pHi x y), .int .u64 (pLo x y)]) ∧ w' = w := mulC_any x y hx hy w

set_option maxHeartbeats 400000 in
theorem ckProduct_any (w : World) (x y : Nat) (hx : x ≤ 9223372036854775807) (hy : y ≤ 9223372036854775807) : Calls Try.prog 38 #[.int .i64 x, .int .i64 y] w fun e w' =>
    e = .returned (.agg #[.int .u64 (pHi x y), .int .u64 (pLo x y)]) ∧ w' = w.alloc (.cells #[.int .u64 (pHi x y), .int .u64 (pLo x y)] 83) := by
  go_enter Try.func38, Try.ntmps38
  go_wp2_with (first | (go_at_call 41; refine (ckSize_any _ _ (by omega) (by omega)).mono ?_; rintro e w' ⟨rfl, rfl⟩) | (go_at_call 53; refine (mulH_any _ _ _ (by omega) (by omega)).mono ?_; rintro e w' ⟨rfl, rfl⟩))
  exact bodyPost_ret (v := .agg #[.int .u64 (pHi x y), .int .u64 (pLo x y)]) (by simp [results, Try.results38, go_sem]) rfl ⟨rfl, rfl⟩

/-- an array of two numbers, the greater one first, in 128 bits -/
theorem cmp_halves {x y : Nat} : (if cmpS ((x / 18446744073709551616 : Nat) : Int) ((y / 18446744073709551616 : Nat) : Int) = 0 then cmpS ((x % 18446744073709551616 : Nat) : Int) ((y % 18446744073709551616 : Nat) : Int) else cmpS ((x / 18446744073709551616 : Nat) : Int) ((y / 18446744073709551616 : Nat) : Int)) = cmpS x y := by
  by_cases h1 : x / 18446744073709551616 < y / 18446744073709551616
  · rw [cmpS_lt (x := ((x / 18446744073709551616 : Nat) : Int)) (by omega), if_neg (by omega), cmpS_lt (x := (x : Int)) (by omega)]
  · by_cases h2 : y / 18446744073709551616 < x / 18446744073709551616
    · rw [cmpS_gt (x := ((x / 18446744073709551616 : Nat) : Int)) (by omega), if_neg (by omega), cmpS_gt (x := (x : Int)) (by omega)]
    · rw [cmpS_eq (x := ((x / 18446744073709551616 : Nat) : Int)) (by omega) (by omega), if_pos rfl]
      by_cases h5 : x % 18446744073709551616 < y % 18446744073709551616
      · rw [cmpS_lt (x := ((x % 18446744073709551616 : Nat) : Int)) (by omega), cmpS_lt (x := (x : Int)) (by omega)]
      · by_cases h6 : y % 18446744073709551616 < x % 18446744073709551616
        · rw [cmpS_gt (x := ((x % 18446744073709551616 : Nat) : Int)) (by omega), cmpS_gt (x := (x : Int)) (by omega)]
        · rw [cmpS_eq (x := ((x % 18446744073709551616 : Nat) : Int)) (by omega) (by omega), cmpS_eq (x := (x : Int)) (by omega) (by omega)]

/-- cmp.Or of two numbers that lie in a new block -/
theorem cmpOr_any (w : World) (b : Nat) (x y : Int) (c0 : w.cell? ⟨b, 0, none⟩ = some (.int .i64 x)) (c1 : w.cell? ⟨b, 1, none⟩ = some (.int .i64 y)) :
    Calls Try.prog 39 #[.slice (some ⟨b, 0, none⟩) 2 2] w fun e w' => e = .returned (.int .i64 (if x = 0 then y else x)) ∧ w = w' := by
  by_cases h : x = 0
  · rw [if_pos h]
    by_cases h2 : y = 0
    · subst h h2
      go_enter Try.func39, Try.ntmps39
      go_wp2
      refine wp_loop_rounds 3 ?_
      rw [rounds_succ]
      go_wp2
      rw [rounds_succ]
      go_wp2
      rw [rounds_succ]
      go_wp2
      go_ret
      exact ⟨rfl, rfl⟩
    · have hy : (y != 0) = true := by simp [h2]
      subst h
      go_enter Try.func39, Try.ntmps39
      go_wp2
      refine wp_loop_rounds 3 ?_
      rw [rounds_succ]
      go_wp2
      rw [rounds_succ]
      go_wp2
      go_ret
      exact ⟨rfl, rfl⟩
  · have hx : (x != 0) = true := by simp [h]
    rw [if_neg h]
    go_enter Try.func39, Try.ntmps39
    go_wp2
    refine wp_loop_rounds 3 ?_
    rw [rounds_succ]
    go_wp2
    go_ret
    exact ⟨rfl, rfl⟩

end Go.Proofs.Ytmkggcmebeagaaa
