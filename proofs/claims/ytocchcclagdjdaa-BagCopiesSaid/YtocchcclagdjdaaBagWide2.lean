/- (*wide).add, wide.exact: walked. -/
import Derived.Test.YtocchcclagdjdaaBagWide
namespace Go.Proofs.Ytocchcclagdjdaa
open Go.RowKit Go.Lib

/-- two words of memory hold a number of 128 bits -/
def Wide (w : World) (b : Nat) (E : TypeId) (S : Int) : Prop := ∃ lo hi, w.heap[b]? = some (.cells #[.int .u64 lo, .int .u64 hi] E (0, 0)) ∧ W128 lo hi S

set_option maxRecDepth 100000 in
set_option maxHeartbeats 1000000 in
theorem wadd_any {w : World} {b : Nat} {E : TypeId} {S : Int} (hw : Wide w b E S) (x k : Int) (hx : -9223372036854775808 ≤ x) (hx2 : x < 9223372036854775808) (hk : 0 ≤ k) (hk2 : k < 9223372036854775808) :
    Calls Try.prog 33 #[.pointer (some ⟨b, 0, none⟩), .int .i64 x, .int .i64 k] w fun e w' => (∃ v, e = .returned v) ∧ Wide w' b E (S + x * k) ∧ Upd (fun i => i = b) w w' := by
  obtain ⟨lo, hi, hb, hS⟩ := hw
  obtain ⟨kn, rfl⟩ := Int.eq_ofNat_of_zero_le hk
  obtain ⟨ux, hux⟩ : ∃ ux : Nat, (ux : Int) = x % 18446744073709551616 := ⟨(x % 18446744073709551616).toNat, by omega⟩
  have eux : IntKind.u64.wrap x = (ux : Int) := by rw [IntKind.wrap_u64]; omega
  have ekn : IntKind.u64.wrap (kn : Int) = (kn : Int) := by rw [IntKind.wrap_u64]; omega
  have hul : ux < 18446744073709551616 := by omega
  have hkl : kn < 18446744073709551616 := by omega
  have hm := mul64_any ux kn hul hkl w
  obtain ⟨p, hp⟩ : ∃ p, ux * kn = p := ⟨_, rfl⟩
  rw [hp] at hm
  have hp' : (p : Int) = (if x < 0 then x * kn + 18446744073709551616 * kn else x * kn) := by
    rw [← hp, Int.natCast_mul]
    split
    · rw [hux, show x % 18446744073709551616 = x + 18446744073709551616 by omega, Int.add_mul]
    · rw [hux, show x % 18446744073709551616 = x by omega]
  have hpb : p < 340282366920938463463374607431768211456 := by
    rw [← hp]
    calc ux * kn ≤ 18446744073709551616 * kn := Nat.mul_le_mul_right _ (by omega)
      _ < 340282366920938463463374607431768211456 := by omega
  obtain ⟨h1, h2, h3, h4, h5⟩ := hS
  obtain ⟨q, hq⟩ : ∃ q : Int, ((p % 18446744073709551616 : Nat) : Int) = q := ⟨_, rfl⟩
  obtain ⟨r, hr⟩ : ∃ r : Int, ((p / 18446744073709551616 : Nat) : Int) = r := ⟨_, rfl⟩
  rw [hq, hr] at hm
  have ea := fun w => add64_run lo q h1 (by omega) w
  have c0 : w.cell? ⟨b, 0, none⟩ = some (.int .u64 lo) := cell_of hb 0
  have c1 : w.cell? ⟨b, 1, none⟩ = some (.int .u64 hi) := cell_of hb 1
  have f0 : w.frozen? ⟨b, 0, none⟩ = false := free_of hb 0
  have HB := Lib.hid hb
  have HP := Lib.hid hp'
  have HPB := Lib.hid hpb
  have HQ := Lib.hid hq
  have HR := Lib.hid hr
  clear hb hp hux hpb hp' hq hr
  have HH := Lib.hid (And.intro hk (And.intro hk2 (And.intro h1 (And.intro h2 (And.intro h3 (And.intro h4 h5))))))
  clear hk hk2 h1 h2 h3 h4 h5 hx hx2 hul hkl
  by_cases hneg : x < 0
  · go_enter Try.func33, Try.ntmps33
    go_wp2_with (go_at_call 42; refine hm.mono ?_; rintro e w' ⟨rfl, hw'⟩; rw [hw']; clear hw')
    refine wp_region_seq ([]) (24) (by kernel_rfl) (by kernel_rfl) (by kernel_rfl) ?_
    iterate 14 (refine sqB_step (fun K hK => ?_); go_simp; refine hK _ _ ?_; clear hK K)
    refine sqB_nil ?_
    go_wp2_with fail
    refine wp_world (fun w1 => Upd (fun i => i = b) w w1 ∧ w1.heap[b]? = some (.cells #[.int .u64 ((lo + q) % 18446744073709551616), .int .u64 hi] E (0, 0))) ⟨?_, ?_⟩ ?_
    · exact (Upd.refl _ _).drew.setB _ _
    · exact cells_set _ HB.out
    rintro w1 ⟨hu1, hb1⟩
    clear c0 c1 f0
    have c0 : w1.cell? ⟨b, 0, none⟩ = some (.int .u64 ((lo + q) % 18446744073709551616)) := cell_of hb1 0
    have c1 : w1.cell? ⟨b, 1, none⟩ = some (.int .u64 hi) := cell_of hb1 1
    have f0 : w1.frozen? ⟨b, 1, none⟩ = false := free_of hb1 1
    refine wp_region_seq ([]) (35) (by kernel_rfl) (by kernel_rfl) (by kernel_rfl) ?_
    iterate 11 (refine sqB_step (fun K hK => ?_); go_simp; refine hK _ _ ?_; clear hK K)
    refine sqB_nil ?_
    go_wp2
    refine bodyPost_end (results_none rfl _ _ _) rfl ?_
    refine ⟨⟨_, rfl⟩, ⟨_, _, cells_set _ hb1, ?_⟩, hu1.trans ((Upd.refl _ _).drew.setB _ _)⟩
    obtain ⟨hk, hk2, h1, h2, h3, h4, h5⟩ := HH.out
    have hf := w128_add lo hi S x kn p (((p : Int) / 18446744073709551616 - kn) % 18446744073709551616) ⟨h1, h2, h3, h4, h5⟩ hk hk2 HP.out (by omega) (by have := HPB.out; omega) (by rw [if_pos hneg])
    have hq := HQ.out
    have hr := HR.out
    simp only [IntKind.wrap_u64]
    have e1 : (p : Int) % 18446744073709551616 = q := by omega
    have e2 : (p : Int) / 18446744073709551616 = r := by omega
    rw [e1, e2] at hf
    exact hf
  · have HN := Lib.hid hneg
    have hd : decide (x < 0) = false := by simpa using hneg
    clear hneg
    go_enter Try.func33, Try.ntmps33
    go_wp2_with (go_at_call 42; refine hm.mono ?_; rintro e w' ⟨rfl, hw'⟩; rw [hw']; clear hw')
    refine wp_region_seq ([]) (24) (by kernel_rfl) (by kernel_rfl) (by kernel_rfl) ?_
    iterate 14 (refine sqB_step (fun K hK => ?_); go_simp; refine hK _ _ ?_; clear hK K)
    refine sqB_nil ?_
    go_wp2_with fail
    refine wp_world (fun w1 => Upd (fun i => i = b) w w1 ∧ w1.heap[b]? = some (.cells #[.int .u64 ((lo + q) % 18446744073709551616), .int .u64 hi] E (0, 0))) ⟨?_, ?_⟩ ?_
    · exact (Upd.refl _ _).drew.setB _ _
    · exact cells_set _ HB.out
    rintro w1 ⟨hu1, hb1⟩
    clear c0 c1 f0
    have c0 : w1.cell? ⟨b, 0, none⟩ = some (.int .u64 ((lo + q) % 18446744073709551616)) := cell_of hb1 0
    have c1 : w1.cell? ⟨b, 1, none⟩ = some (.int .u64 hi) := cell_of hb1 1
    have f0 : w1.frozen? ⟨b, 1, none⟩ = false := free_of hb1 1
    refine wp_region_seq ([]) (35) (by kernel_rfl) (by kernel_rfl) (by kernel_rfl) ?_
    iterate 11 (refine sqB_step (fun K hK => ?_); go_simp; refine hK _ _ ?_; clear hK K)
    refine sqB_nil ?_
    go_wp2
    refine bodyPost_end (results_none rfl _ _ _) rfl ?_
    refine ⟨⟨_, rfl⟩, ⟨_, _, cells_set _ hb1, ?_⟩, hu1.trans ((Upd.refl _ _).drew.setB _ _)⟩
    obtain ⟨hk, hk2, h1, h2, h3, h4, h5⟩ := HH.out
    have hf := w128_add lo hi S x kn p ((p : Int) / 18446744073709551616) ⟨h1, h2, h3, h4, h5⟩ hk hk2 HP.out (by omega) (by have := HPB.out; omega) (by rw [if_neg (by have := HN.out; omega)])
    have hq := HQ.out
    have hr := HR.out
    simp only [IntKind.wrap_u64]
    have e1 : (p : Int) % 18446744073709551616 = q := by omega
    have e2 : (p : Int) / 18446744073709551616 = r := by omega
    rw [e1, e2] at hf
    exact hf

set_option maxRecDepth 100000 in
set_option maxHeartbeats 1000000 in
theorem exact_any (w : World) (lo hi S : Int) (hw : W128 lo hi S) (hS : -9223372036854775808 ≤ S) (hS2 : S < 9223372036854775808) :
    Calls Try.prog 34 #[.agg #[.int .u64 lo, .int .u64 hi]] w fun e w' => e = .returned (.tuple #[.int .i64 S, .int .i64 0]) ∧ Upd (fun _ => False) w w' := by
  obtain ⟨h1, h2, h3, h4, h5⟩ := hw
  have e1 : IntKind.i64.wrap lo = S := by rw [IntKind.wrap_i64]; omega
  have e2 : IntKind.u64.wrap (S / 9223372036854775808) = hi := by rw [IntKind.wrap_u64]; omega
  clear h1 h2 h3 h4 h5 hS hS2
  go_enter Try.func34, Try.ntmps34
  go_wp2
  go_ret2
  exact ⟨rfl, (Upd.refl _ _).alloc _⟩
end Go.Proofs.Ytocchcclagdjdaa
