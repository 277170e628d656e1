/- The example of the chapter. -/
import Derived.Test.YtmkggcmebeagaaaLkBets
import Derived.Test.YtmkggcmebeagaaaLkLab2
import Derived.Test.YtmkggcmebeagaaaLkSame
import Derived.Test.YtmkggcmebeagaaaLkSameM
namespace Go.Proofs.Ytmkggcmebeagaaa
set_option linter.unusedVariables false
set_option linter.unusedSimpArgs false
open Go.RowKit Lk

theorem IntsK.new {w : World} {b : Nat} {k : IntKind} {l : List Int} {E : TypeId} (h : w.heap[b]? = some (.cells (l.map (Value.int k)).toArray E (0, 0))) (hl : l.length ≤ 9223372036854775807) : IntsK k w (some ⟨b, 0, none⟩) l :=
  ⟨fun i hi => ⟨_, rfl, by rw [addAt, cell_of h]; simp [hi]⟩, hl⟩
theorem Mgs.new {w : World} {b : Nat} {L : List Mg} {E : TypeId} (h : w.heap[b]? = some (.cells (flatM L).toArray E (0, 0))) (hl : L.length ≤ 1000000) : Mgs w (some ⟨b, 0, none⟩) L :=
  ⟨fun i hi j u hj => ⟨_, rfl, by rw [addAt, cell_of h]; simpa using flatM_get hi j u hj⟩, hl⟩
def exD : List Int := [0, 2, 6, 10, 2, 0, 5, 9, 6, 5, 0, 4, 10, 9, 4, 0]
def exL : List Mg := [⟨0, 1, (2, 1), 2⟩, ⟨2, 3, (4, 1), 2⟩, ⟨0, 2, (15, 2), 4⟩]
theorem ex_run : runL .average (mat 4 exD) 4 = exL := by decide +kernel
theorem ex_ok : checkS (4 : Nat) exD = 0 := by decide +kernel
theorem ex_bet : btE (4 : Nat) exD 3 [1, 0] [2] = 0 ∧ btF 4 exD .average [1, 0] [2] = (11, 2) := by decide +kernel
theorem ex_lab : labE 4 (exL.map Mg.mi) 2 = 0 ∧ labL 4 (exL.map Mg.mi) 2 = [0, 0, 2, 2] := by decide +kernel

theorem ex_dist : Dist 4 (mat 4 exD) := by
  obtain ⟨k, hk, h1, h2, h3, h4⟩ := checkS_zero ex_ok
  obtain rfl : k = 4 := by omega
  exact dist_of h1 h2 h3 h4
theorem ex_runC {w : World} {a : Option Addr} (h : IntsK .i64 w a exD) : Calls Try.prog 9 #[.int .i64 4, .slice a 16 16, .int .i64 3] w (Ran w exL) := by
  have := lkrun_ok .average h 16 4 (by omega) rfl ex_ok ex_dist
  rw [ex_run] at this
  exact this
theorem ex_betC {w : World} {a aA aB : Option Addr} (h : IntsK .i64 w a exD) (hA : IntsK .i64 w aA [1, 0]) (hB : IntsK .i64 w aB [2]) :
    Calls Try.prog 15 #[.int .i64 4, .slice a 16 16, .int .i64 3, .slice aA 2 2, .slice aB 1 1] w fun e w' => e = .returned (.tuple #[.agg #[.int .i64 11, .int .i64 2], .int .i64 0]) ∧ Upd (fun _ => False) w w' := by
  refine (lkbet_any h hA hB 16 2 1 (by simp) (by simp) 4 3).mono fun e w' hh => ?_
  rcases hh with ⟨h1, _⟩ | ⟨m, k, h1, h2, _, _, _, _, _, _, _, _, _, h3, h4⟩
  · exact absurd ex_bet.1 h1
  · obtain rfl : m = .average := by cases m <;> simp [Mt.num] at h1 ⊢
    obtain rfl : k = 4 := by omega
    exact ⟨by rw [h3, ex_bet.2], h4⟩
theorem ex_labC {w : World} {a : Option Addr} (h : Mgs w a exL) (cap : Nat) :
    Calls Try.prog 19 #[.int .i64 4, .slice a 3 cap, .int .i64 2] w fun e w' => ∃ a' cap', e = .returned (.tuple #[.slice a' 4 cap', .int .i64 0]) ∧ IntsK .i64 w' a' [0, 0, 2, 2] ∧ Upd (fun _ => False) w w' := by
  refine (lklab_any h.mis cap 4 2).mono fun e w' hh => ?_
  rcases hh with ⟨h1, _⟩ | ⟨h1, a', cap', h2, h3, h4⟩
  · exact absurd ex_lab.1 h1
  · rw [ex_lab.2] at h2 h3
    exact ⟨a', cap', h2, h3, h4⟩

set_option maxRecDepth 100000 in
set_option maxHeartbeats 1000000 in
theorem lkworks_any (w : World) : Calls Try.prog 7 #[] w fun e w' => e = .returned (.bool true) ∧ Upd (fun _ => False) w w' := by
  go_enter Try.func7, Try.ntmps7
  go_wp2_with fail
  obtain ⟨b, hb⟩ : ∃ b, w.heap.size = b := ⟨_, rfl⟩
  refine calls_world (fun w1 => w1.heap[b]? = some (.cells (exD.map (Value.int .i64)).toArray 2 (0, 0)) ∧ Upd (fun _ => False) w w1) ⟨by rw [← hb]; exact World.alloc_heap_new _ _, (Upd.refl _ _).alloc _⟩ ?_
  rintro w1 ⟨h1, hu1⟩
  rw [hb]
  clear hb
  refine (ex_runC (IntsK.new h1 (by decide))).mono ?_
  rintro e w2 ⟨v, rfl, hown, hu2⟩
  obtain ⟨a, cap, rfl, hmg, _⟩ := Mgs.of_own hown (by decide)
  have HD2 := Lib.hid (hu2.at h1 (fun h => h))
  have HM2 := Lib.hid hmg
  have HU2 := Lib.hid (hu1.trans hu2)
  clear h1 hu1 hown hmg hu2
  go_wp2_with fail
  obtain ⟨c, hc⟩ : ∃ c, w2.heap.size = c := ⟨_, rfl⟩
  refine calls_world (fun w3 => (w3.heap[c]? = some (.cells (flatM exL).toArray 49 (0, 0)) ∧ w3.heap[c + 1]? = some (.cells ([1, 0].map (Value.int .i64)).toArray 3 (0, 0)) ∧ w3.heap[c + 1 + 1]? = some (.cells ([2].map (Value.int .i64)).toArray 3 (0, 0))) ∧ Upd (fun _ => False) w2 w3) ?_ ?_
  · refine ⟨⟨?_, ?_, ?_⟩, (((Upd.refl _ _).alloc _).alloc _).alloc _⟩ <;> rw [← hc] <;>
      repeat (first | (refine heapNew ?_; simp only [World.size_alloc]; done) | (refine heapOld ?_ ?_; (simp only [World.size_alloc]; omega)))
  rintro w3 ⟨⟨h1, h2, h3⟩, hu3⟩
  rw [hc]
  clear hc
  refine (ex_betC (IntsK.new (hu3.at HD2.out (fun h => h)) (by decide)) (IntsK.new h2 (by decide)) (IntsK.new h3 (by decide))).mono ?_
  rintro e w4 ⟨rfl, hu4⟩
  have HW4 := Lib.hid (Mgs.new (hu4.at h1 (fun h => h)) (by decide))
  have HM4 := Lib.hid ((HM2.out.upd hu3).upd hu4)
  have HU4 := Lib.hid ((HU2.out.trans hu3).trans hu4)
  clear h1 h2 h3 hu3 hu4
  go_wp2_with fail
  obtain ⟨f, hf⟩ : ∃ f, w4.heap.size = f := ⟨_, rfl⟩
  refine calls_world (fun w5 => w5.heap[f]? = some (.cells #[.int .i64 11, .int .i64 2] 38 (0, 0)) ∧ Upd (fun _ => False) w4 w5) ⟨by rw [← hf]; exact World.alloc_heap_new _ _, (Upd.refl _ _).alloc _⟩ ?_
  rintro w5 ⟨h5, hu5⟩
  rw [hf]
  clear hf
  refine (ex_labC (HM4.out.upd hu5) cap).mono ?_
  rintro e w6 ⟨a6, c6, rfl, hl6, hu6⟩
  have h6 := hu6.at h5 (fun h => h)
  have HM6 := Lib.hid ((HM4.out.upd hu5).upd hu6)
  have HW6 := Lib.hid ((HW4.out.upd hu5).upd hu6)
  have HU6 := Lib.hid ((HU4.out.trans hu5).trans hu6)
  have HL6 := Lib.hid hl6
  have H6 := Lib.hid h6
  clear h5 hu5 hl6 hu6 h6
  go_wp2_with fail
  have hsm := msame23_any HM6.out HW6.out cap 3
  rw [decide_eq_true rfl] at hsm
  refine hsm.mono ?_
  rintro e w7 ⟨rfl, k7, rfl⟩
  have cf0 := cell_of (w := w6.drewN k7) H6.out 0
  have cf1 := cell_of (w := w6.drewN k7) H6.out 1
  simp only [List.getElem?_toArray, List.getElem?_cons_zero, List.getElem?_cons_succ] at cf0 cf1
  go_wp2_with fail
  obtain ⟨g, hg⟩ : ∃ g, w6.heap.size = g := ⟨_, rfl⟩
  refine calls_world (fun w8 => w8.heap[g]? = some (.cells ([0, 0, 2, 2].map (Value.int .i64)).toArray 3 (0, 0)) ∧ Upd (fun _ => False) w6 w8) ⟨by rw [← hg]; exact World.alloc_heap_new (w6.drewN k7) _, ((Upd.refl _ _).drewN _).alloc _⟩ ?_
  rintro w8 ⟨h8, hu8⟩
  rw [hg]
  have hal := alike23_any (HL6.out.upd hu8) (IntsK.new h8 (by decide)) c6 4
  rw [decide_eq_true rfl] at hal
  refine hal.mono ?_
  rintro e w9 ⟨rfl, k9, rfl⟩
  have HU9 := Lib.hid ((HU6.out.trans hu8).drewN k9)
  clear hu8 h8 hg cf0 cf1 hal hsm
  go_wp2_with fail
  go_ret
  exact ⟨rfl, HU9.out⟩
end Go.Proofs.Ytmkggcmebeagaaa
