/- Reduce: of fractions that are not below 0. -/
import Derived.Test.YtmkggcmebeagaaaCk
namespace Go.Proofs.Ytmkggcmebeagaaa
set_option linter.unusedVariables false
set_option linter.unusedSimpArgs false
open Go.RowKit

theorem cal_quo (a b : Nat) : (a : Int).tdiv b = ((a / b : Nat) : Int) := by rw [Int.tdiv_eq_ediv_of_nonneg (by omega)]; rfl

set_option maxHeartbeats 1000000 in
theorem ckReduce_any (w : World) (n d : Nat) (hn : n ≤ 9223372036854775807) (hd : d ≤ 9223372036854775807) (hd1 : 1 ≤ d) :
    Calls Try.prog 24 #[.int .i64 n, .int .i64 d] w fun e w' => e = .returned (.tuple #[.agg #[.int .i64 ((n / Nat.gcd n d : Nat) : Int), .int .i64 ((d / Nat.gcd n d : Nat) : Int)], .int .i64 0]) ∧ Upd (fun _ => False) w w' := by
  have hg : 0 < Nat.gcd n d := Nat.gcd_pos_of_pos_right _ hd1
  have hgl : Nat.gcd n d ≤ d := Nat.le_of_dvd hd1 (Nat.gcd_dvd_right ..)
  have hgc := ckGcd_any (x := n) (y := d)
  generalize Nat.gcd n d = g at *
  have l1 : n / g ≤ n := Nat.div_le_self _ _
  have l2 : d / g ≤ d := Nat.div_le_self _ _
  obtain ⟨x, hx⟩ : ∃ x, n / g = x := ⟨_, rfl⟩
  obtain ⟨y, hy⟩ : ∃ y, d / g = y := ⟨_, rfl⟩
  rw [hx] at l1
  rw [hy] at l2
  have q1 : (n : Int) / (g : Int) = (x : Int) := by rw [← hx]; rfl
  have q2 : (d : Int) / (g : Int) = (y : Int) := by rw [← hy]; rfl
  have hd0 : ((d : Int) == 0) = false := by simp; omega
  have hg0 : ((g : Int) == 0) = false := by simp; omega
  have g1 : 1 ≤ (g : Int) := by omega
  have HXY := Lib.hid (And.intro hx hy)
  have HG := Lib.hid hgc
  rw [hx, hy]
  clear hx hy hgc
  go_enter Try.func24, Try.ntmps24
  go_wp2_with (first | (go_at_call 41; refine (ckSize_any _ _ (by omega) (by omega)).mono ?_; rintro e w' ⟨rfl, rfl⟩))
  refine (HG.out _ (by omega) (by omega)).mono ?_
  rintro e w1 ⟨rfl, k, rfl⟩
  go_wp2_with (first | (go_at_call 43; refine (ckSigned_any _ _ (by omega) (by omega)).mono ?_; rintro e w' ⟨rfl, rfl⟩))
  exact bodyPost_ret (v := .tuple #[.agg #[.int .i64 x, .int .i64 y], .int .i64 0]) (by simp [results, Try.results24, go_sem]) rfl ⟨rfl, ((((Upd.refl _ _).alloc _).drewN _).setCell (.inr (Nat.le_refl _)) _).setCell (.inr (Nat.le_refl _)) _⟩
end Go.Proofs.Ytmkggcmebeagaaa
