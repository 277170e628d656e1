/- Run at every input. -/
import Derived.Test.YtmkggcmebeagaaaLkRun
namespace Go.Proofs.Ytmkggcmebeagaaa
set_option linter.unusedVariables false
set_option linter.unusedSimpArgs false
open Go.RowKit Lk

/-- no run -/
def NoRun (w : World) (x : Int) (e : Ending) (w' : World) : Prop := e = .returned (.tuple #[.slice none 0 0, .int .i64 x]) ∧ Upd (fun _ => False) w w'

set_option maxRecDepth 100000 in
set_option maxHeartbeats 1000000 in
theorem lkrun_method {w : World} {a : Option Addr} {l : Nat} (cap : Nat) (n mm : Int) (hm : mm ≠ 1 ∧ mm ≠ 2 ∧ mm ≠ 3) :
    Calls Try.prog 9 #[.int .i64 n, .slice a l cap, .int .i64 mm] w (NoRun w 2) := by
  have HS := Lib.hid (lkstart_method (w := w) (a := a) (l := l) cap n mm hm)
  clear hm
  go_enter Try.func9, Try.ntmps9
  go_wp2_with fail
  refine HS.out.mono ?_
  rintro e w1 ⟨rfl, hu1⟩
  go_wp2_with fail
  go_ret2
  exact ⟨rfl, hu1.alloc _⟩

set_option maxRecDepth 100000 in
set_option maxHeartbeats 1000000 in
theorem lkrun_refused (m : Mt) {w : World} {a : Option Addr} {D : List Int} (h : IntsK .i64 w a D) (cap : Nat) (n : Int) (hn : checkS n D ≠ 0) :
    Calls Try.prog 9 #[.int .i64 n, .slice a D.length cap, .int .i64 m.num] w (NoRun w (checkS n D)) := by
  have HS := Lib.hid (lkstart_refused m h cap n hn)
  have hne : (checkS n D != 0) = true := by simpa using hn
  generalize m.num = mm at *
  generalize D.length = len at *
  generalize checkS n D = x at *
  clear h hn
  go_enter Try.func9, Try.ntmps9
  go_wp2_with fail
  refine HS.out.mono ?_
  rintro e w1 ⟨rfl, hu1⟩
  go_wp2_with fail
  go_ret2
  exact ⟨rfl, hu1.alloc _⟩

set_option maxRecDepth 100000 in
set_option maxHeartbeats 1000000 in
theorem lkrun_zero (m : Mt) {w : World} {a : Option Addr} {D : List Int} (h : IntsK .i64 w a D) (cap : Nat) (hok : checkS (0 : Nat) D = 0) (hl : D.length = 0 * 0) :
    Calls Try.prog 9 #[.int .i64 (0 : Nat), .slice a D.length cap, .int .i64 m.num] w (Ran w []) := by
  have HS := Lib.hid (lkstart_ok m h cap 0 hok (by omega) hl)
  generalize m.num = mm at *
  generalize D.length = len at *
  clear h hok hl
  go_enter Try.func9, Try.ntmps9
  go_wp2_with fail
  refine HS.out.mono ?_
  rintro e w1 ⟨p, rfl, hu1, _, _⟩
  go_wp2_with fail
  refine wp_loop_rounds 1 ?_
  rw [rounds_succ]
  go_wp2_with fail
  go_ret2
  exact ⟨_, rfl, World.ownsRow_nil _ _ _ _, hu1.alloc _⟩

/-- what Run answers -/
def RunIs (w : World) (n : Int) (D : List Int) (mm : Int) (e : Ending) (w' : World) : Prop :=
  ((mm ≠ 1 ∧ mm ≠ 2 ∧ mm ≠ 3) ∧ NoRun w 2 e w') ∨ (∃ m : Mt, mm = m.num ∧ checkS n D ≠ 0 ∧ NoRun w (checkS n D) e w') ∨ (∃ (m : Mt) (k : Nat), mm = m.num ∧ n = k ∧ k ≤ 128 ∧ D.length = k * k ∧ checkS n D = 0 ∧ Dist k (mat k D) ∧ Ran w (runL m (mat k D) k) e w')
theorem method_cases (mm : Int) : (mm ≠ 1 ∧ mm ≠ 2 ∧ mm ≠ 3) ∨ ∃ m : Mt, mm = m.num := by
  by_cases h1 : mm = 1
  · exact .inr ⟨.single, h1⟩
  · by_cases h2 : mm = 2
    · exact .inr ⟨.complete, h2⟩
    · by_cases h3 : mm = 3
      · exact .inr ⟨.average, h3⟩
      · exact .inl ⟨h1, h2, h3⟩
theorem lkrun_ok (m : Mt) {w : World} {a : Option Addr} {D : List Int} (h : IntsK .i64 w a D) (cap k : Nat) (hk : k ≤ 128) (hl : D.length = k * k) (hok : checkS k D = 0) (hd : Dist k (mat k D)) :
    Calls Try.prog 9 #[.int .i64 k, .slice a D.length cap, .int .i64 m.num] w (Ran w (runL m (mat k D) k)) := by
  rcases Nat.eq_zero_or_pos k with rfl | h0
  · exact lkrun_zero m h cap hok hl
  · exact lkrun_pos m h cap k hok hk hl h0 hd
theorem lkrun_any {w : World} {a : Option Addr} {D : List Int} (h : IntsK .i64 w a D) (cap : Nat) (n mm : Int) :
    Calls Try.prog 9 #[.int .i64 n, .slice a D.length cap, .int .i64 mm] w (RunIs w n D mm) := by
  rcases method_cases mm with hm | ⟨m, rfl⟩
  · exact (lkrun_method cap n mm hm).mono fun e w' h => .inl ⟨hm, h⟩
  · by_cases hc : checkS n D = 0
    · obtain ⟨k, rfl, hk, hl, hs, hr⟩ := checkS_zero hc
      have hd := dist_of hk hl hs hr
      exact (lkrun_ok m h cap k hk hl hc hd).mono fun e w' hh => .inr (.inr ⟨m, k, rfl, rfl, hk, hl, hc, hd, hh⟩)
    · exact (lkrun_refused m h cap n hc).mono fun e w' hh => .inr (.inl ⟨m, rfl, hc, hh⟩)
end Go.Proofs.Ytmkggcmebeagaaa
