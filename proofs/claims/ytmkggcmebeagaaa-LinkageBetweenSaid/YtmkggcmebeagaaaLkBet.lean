/- Between, walked: the errors of start. -/
import Derived.Test.YtmkggcmebeagaaaLkBetP
namespace Go.Proofs.Ytmkggcmebeagaaa
set_option linter.unusedVariables false
set_option linter.unusedSimpArgs false
open Go.RowKit Lk

/-- no distance -/
def NoBet (w : World) (x : Int) (e : Ending) (w' : World) : Prop := e = .returned (.tuple #[.agg #[.int .i64 0, .int .i64 0], .int .i64 x]) ∧ Upd (fun _ => False) w w'

set_option maxRecDepth 100000 in
set_option maxHeartbeats 1000000 in
theorem lkbet_method {w : World} {a aA aB : Option Addr} {l lA lB : Nat} (cap cA cB : Nat) (n mm : Int) (hm : mm ≠ 1 ∧ mm ≠ 2 ∧ mm ≠ 3) :
    Calls Try.prog 15 #[.int .i64 n, .slice a l cap, .int .i64 mm, .slice aA lA cA, .slice aB lB cB] w (NoBet w 2) := by
  go_enter Try.func15, Try.ntmps15
  go_wp2_with fail
  refine calls_world (fun w1 => CB w1 w.heap.size 38 2 (fun _ => .int .i64 0) ∧ Upd (fun _ => False) w w1) ⟨CB.new _ _ _ _ rfl, (Upd.refl _ _).alloc _⟩ ?_
  rintro w1 ⟨hc, hu⟩
  refine (lkstart_method (w := w1) (a := a) (l := l) cap n mm hm).mono ?_
  rintro e w2 ⟨rfl, hu2⟩
  clear hm
  have k0 := (hc.upd hu2 (fun h => h)).cell (o := 0) (by omega)
  have k1 := (hc.upd hu2 (fun h => h)).cell (o := 1) (by omega)
  have f0 := (hc.upd hu2 (fun h => h)).free
  have HU := Lib.hid (hu.trans hu2)
  clear hc hu hu2
  go_wp2_with fail
  exact bodyPost_ret (v := .tuple #[.agg #[.int .i64 0, .int .i64 0], .int .i64 2]) (by simp [results, Try.results15, go_sem, k0, k1]) rfl ⟨rfl, (HU.out.setCell (.inr (Nat.le_refl _)) _).setCell (.inr (Nat.le_refl _)) _⟩
set_option maxRecDepth 100000 in
set_option maxHeartbeats 1000000 in
theorem lkbet_refused (m : Mt) {w : World} {a aA aB : Option Addr} {D : List Int} {lA lB : Nat} (h : IntsK .i64 w a D) (cap cA cB : Nat) (n : Int) (hn : checkS n D ≠ 0) :
    Calls Try.prog 15 #[.int .i64 n, .slice a D.length cap, .int .i64 m.num, .slice aA lA cA, .slice aB lB cB] w (NoBet w (checkS n D)) := by
  have HH := Lib.hid h
  have HN := Lib.hid hn
  have hne : (checkS n D != 0) = true := by simpa using hn
  clear h hn
  go_enter Try.func15, Try.ntmps15
  go_wp2_with fail
  refine calls_world (fun w1 => CB w1 w.heap.size 38 2 (fun _ => .int .i64 0) ∧ Upd (fun _ => False) w w1) ⟨CB.new _ _ _ _ rfl, (Upd.refl _ _).alloc _⟩ ?_
  rintro w1 ⟨hc, hu⟩
  refine (lkstart_refused m (HH.out.upd hu) cap n HN.out).mono ?_
  rintro e w2 ⟨rfl, hu2⟩
  clear HH HN
  generalize m.num = mm at *
  generalize D.length = len at *
  generalize checkS n D = xx at *
  have k0 := (hc.upd hu2 (fun h => h)).cell (o := 0) (by omega)
  have k1 := (hc.upd hu2 (fun h => h)).cell (o := 1) (by omega)
  have f0 := (hc.upd hu2 (fun h => h)).free
  have HU := Lib.hid (hu.trans hu2)
  clear hc hu hu2
  go_wp2_with fail
  exact bodyPost_ret (v := .tuple #[.agg #[.int .i64 0, .int .i64 0], .int .i64 xx]) (by simp [results, Try.results15, go_sem, k0, k1]) rfl ⟨rfl, (HU.out.setCell (.inr (Nat.le_refl _)) _).setCell (.inr (Nat.le_refl _)) _⟩
end Go.Proofs.Ytmkggcmebeagaaa
