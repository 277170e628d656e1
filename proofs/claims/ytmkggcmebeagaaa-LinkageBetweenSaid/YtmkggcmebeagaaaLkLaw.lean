/- LinkageRuns and LinkageChecks, walked. -/
import Derived.Test.YtmkggcmebeagaaaLkRRun
import Derived.Test.YtmkggcmebeagaaaLkWorks
namespace Go.Proofs.Ytmkggcmebeagaaa
set_option linter.unusedVariables false
set_option linter.unusedSimpArgs false
open Go.RowKit Lk
namespace Lk
def mtOf (mm : Int) : Mt := if mm = 1 then .single else if mm = 2 then .complete else .average
theorem mtOf_num (m : Mt) : mtOf m.num = m := by cases m <;> rfl
/-- the error and the merges that Run answers -/
def runE (n : Int) (D : List Int) (mm : Int) : Int := if mm ≠ 1 ∧ mm ≠ 2 ∧ mm ≠ 3 then 2 else checkS n D
def runG (n : Int) (D : List Int) (mm : Int) : List Mg := if runE n D mm = 0 then runL (mtOf mm) (mat n.toNat D) n.toNat else []
end Lk
def RunF (w : World) (n : Int) (D : List Int) (mm : Int) (e : Ending) (w' : World) : Prop :=
  ∃ a cap, e = .returned (.tuple #[.slice a (runG n D mm).length cap, .int .i64 (runE n D mm)]) ∧ Mgs w' a (runG n D mm) ∧ Upd (fun _ => False) w w'
theorem Mgs.nil (w : World) (a : Option Addr) : Mgs w a [] := ⟨fun i hi => by simp at hi, by simp⟩
theorem RunIs.form {w : World} {n : Int} {D : List Int} {mm : Int} {e : Ending} {w' : World} (h : RunIs w n D mm e w') : RunF w n D mm e w' := by
  rcases h with ⟨hm, h1, h2⟩ | ⟨m, rfl, hc, h1, h2⟩ | ⟨m, k, rfl, rfl, hk, hl, hc, _, v, rfl, hown, hu⟩
  · have e1 : runE n D mm = 2 := by unfold runE; rw [if_pos hm]
    have e2 : runG n D mm = [] := by unfold runG; rw [if_neg (by omega)]
    exact ⟨none, 0, by rw [e1, e2]; exact h1, by rw [e2]; exact Mgs.nil _ _, h2⟩
  · have e1 : runE n D m.num = checkS n D := by unfold runE; rw [if_neg m.num_ok]
    have e2 : runG n D m.num = [] := by unfold runG; rw [if_neg (by omega)]
    exact ⟨none, 0, by rw [e1, e2]; exact h1, by rw [e2]; exact Mgs.nil _ _, h2⟩
  · have e1 : runE k D m.num = 0 := by unfold runE; rw [if_neg m.num_ok, hc]
    have e2 : runG k D m.num = runL m (mat k D) k := by unfold runG; rw [if_pos e1, mtOf_num, Int.toNat_natCast]
    obtain ⟨a, cap, rfl, hmg, _⟩ := Mgs.of_own hown (by rw [runL_length]; omega)
    exact ⟨a, cap, by rw [e1, e2], by rw [e2]; exact hmg, hu⟩
theorem IntsK.of_own {w : World} {n₀ : Nat} {E : TypeId} {v : Value} {k : IntKind} {D : List Int} (h : w.ownsRow n₀ E 1 v D.length (D.map (Value.int k))) (hl : D.length ≤ 9223372036854775807) : ∃ a cap, v = .slice a D.length cap ∧ IntsK k w a D ∧ D.length ≤ cap := by
  rcases Nat.eq_zero_or_pos D.length with h0 | h0
  · obtain ⟨A, cap, rfl⟩ := own_slice' h
    exact ⟨A, cap, rfl, ⟨fun i hi => by omega, hl⟩, by omega⟩
  · obtain ⟨g, cap, rfl, _, hr⟩ := RowAt.of_own h h0
    refine ⟨_, cap, rfl, RowAt.ints hr hl, ?_⟩
    obtain ⟨_, ⟨h1, _⟩ | ⟨_, _, _, h1, _, _, h2, _⟩⟩ := h
    · cases h1
    · simp only [Value.slice.injEq] at h1; obtain ⟨-, -, rfl⟩ := h1; exact h2

set_option maxRecDepth 100000 in
set_option maxHeartbeats 2000000 in
theorem runs_law {w : World} {a : Option Addr} {l : List Int} (h : IntsK .u64 w a l) (h64 : ∀ x ∈ l, 0 ≤ x ∧ x < 18446744073709551616) (cap n : Nat) (mm : Int) (hn : n ≤ 255) :
    Calls Try.prog 4 #[.int .u8 n, .slice a l.length cap, .int .i64 mm] w fun e w' => e = .returned (.bool true) ∧ Upd (fun _ => False) w w' := by
  obtain ⟨k, hk⟩ : ∃ k, n % 15 = k := ⟨_, rfl⟩
  have hk14 : k ≤ 14 := by omega
  have q1 : (n : Int) % 15 = (k : Int) := by rw [← hk]; rfl
  have HP := Lib.hid (points_any h h64 cap k (by omega))
  clear hk h h64
  go_enter Try.func4, Try.ntmps4
  go_wp2_with fail
  refine HP.out.mono ?_
  rintro e w1 ⟨g, D, rfl, hg, hrow, hu1, hDl, hsym, hrng, -⟩
  have hD := RowAt.ints hrow (by have : k * k ≤ 14 * 14 := Nat.mul_le_mul hk14 hk14; omega)
  have HD := Lib.hid (And.intro hD (And.intro hDl hu1))
  clear hrow hu1 hDl hsym hrng hD HP hg
  go_wp2_with fail
  have h1 := (lkrun_any HD.out.1 (k * k) k mm).mono fun e w' h => RunIs.form h
  rw [HD.out.2.1] at h1
  with_reducible refine h1.mono ?_
  rintro e w2 ⟨a2, c2, rfl, hm2, hu2⟩
  have HM2 := Lib.hid (And.intro hm2 hu2)
  clear h1 hm2 hu2
  go_wp2_with fail
  have h2 := (rrun_any (HD.out.1.upd HM2.out.2) (k * k) k mm (fun _ => by omega)).mono fun e w' h => RunIs.form h
  rw [HD.out.2.1] at h2
  with_reducible refine h2.mono ?_
  rintro e w3 ⟨a3, c3, rfl, hm3, hu3⟩
  have HM3 := Lib.hid (And.intro hm3 (And.intro (HM2.out.1.upd hu3) ((HD.out.2.2.trans HM2.out.2).trans hu3)))
  clear h2 hm3 hu3
  generalize runE k D mm = E at *
  generalize runG k D mm = G at *
  go_wp2_with fail
  have h3 := msame23_any HM3.out.2.1 HM3.out.1 c2 c3
  rw [decide_eq_true rfl] at h3
  with_reducible refine h3.mono ?_
  rintro e w4 ⟨rfl, k4, rfl⟩
  clear h3
  go_wp2_with fail
  refine (lkworks_any _).mono ?_
  rintro e w5 ⟨rfl, hu5⟩
  have HF := Lib.hid (HM3.out.2.2.trans (hu5.of_drewN))
  clear hu5
  go_wp2_with fail
  go_ret
  exact ⟨rfl, HF.out⟩
end Go.Proofs.Ytmkggcmebeagaaa
