/- Compare: of fractions that are not below 0. -/
import Derived.Test.YtmkggcmebeagaaaCk
import Derived.Deep.RegionHeld3
namespace Go.Proofs.Ytmkggcmebeagaaa
set_option linter.unusedVariables false
set_option linter.unusedSimpArgs false
open Go.RowKit

theorem cellU {w w' : World} (hu : Upd (fun _ => False) w w') : (∀ (a : Addr) {v : Value}, w.cell? a = some v → w'.cell? a = some v) ∧ True :=
  ⟨fun a _ h => (World.cell?_of_block (hu.block _ (World.block_lt_of_cell? w _ h) (fun h => h))).trans h, trivial⟩
theorem cellU1 {w w' : World} (hu : Upd (fun _ => False) w w') {a : Addr} {v : Value} (h : w.cell? a = some v) : w'.cell? a = some v := (cellU hu).1 a h
theorem swap1 {w : World} {a : Addr} {v : Value} {A A' : Obj} (h : (w.alloc A).cell? a = some v) (hl : a.block < w.heap.size) : (w.alloc A').cell? a = some v := by
  rw [World.cell?_alloc_lt _ _ _ hl] at h ⊢; exact h
theorem swap2 {w : World} {a : Addr} {v : Value} {A A' B B' : Obj} (h : ((w.alloc A).alloc B).cell? a = some v) (hl : a.block < w.heap.size) : ((w.alloc A').alloc B').cell? a = some v := by
  rw [World.cell?_alloc_lt _ _ _ (by rw [World.size_alloc]; omega), World.cell?_alloc_lt _ _ _ hl] at h ⊢; exact h
theorem ucell {W w1 : World} (hb : Upd (fun _ => False) W w1) : (∀ b o, b < W.heap.size → w1.cell? ⟨b, o, none⟩ = W.cell? ⟨b, o, none⟩) ∧ (∀ b o, b < W.heap.size → w1.frozen? ⟨b, o, none⟩ = W.frozen? ⟨b, o, none⟩) :=
  ⟨fun b o h => World.cell?_of_block (hb.block b h (fun h => h)), fun b o h => by unfold World.frozen?; rw [hb.block b h (fun h => h)]⟩
theorem drewCell (w : World) (a : Addr) : w.drew.cell? a = w.cell? a := rfl
theorem drewHeap (w : World) (k : Nat) : w.drew.heap[k]? = w.heap[k]? := rfl
theorem heapNew {w : World} {o : Obj} {k : Nat} (h : k = w.heap.size) : (w.alloc o).heap[k]? = some o := by subst h; exact World.alloc_heap_new w o
theorem heapOld {w : World} {o : Obj} {x : Option Obj} {k : Nat} (h : k < w.heap.size) (h2 : w.heap[k]? = x) : (w.alloc o).heap[k]? = x := (Below.heap_alloc w o k h).trans h2
/-- what Compare answers of fractions from 0 on -/
def Compared (w : World) (c : Int) (e : Ending) (w' : World) : Prop := e = .returned (.tuple #[.int .i64 c, .int .i64 0]) ∧ Upd (fun _ => False) w w'

set_option maxRecDepth 100000 in
set_option maxHeartbeats 20000000 in
theorem ckCompare_any (w : World) (a b c d : Nat) (ha : a ≤ 9223372036854775807) (hb : b ≤ 9223372036854775807) (hb1 : 1 ≤ b) (hc : c ≤ 9223372036854775807) (hd : d ≤ 9223372036854775807) (hd1 : 1 ≤ d) :
    Calls Try.prog 23 #[.agg #[.int .i64 a, .int .i64 b], .agg #[.int .i64 c, .int .i64 d]] w (Compared w (cmpS ((a * d : Nat) : Int) ((c * b : Nat) : Int))) := by
  have g1 : ¬ (b : Int) < 1 := by omega
  have g2 : ¬ (d : Int) < 1 := by omega
  by_cases h1 : a = 0
  · subst h1
    have e1 : cmpS ((0 : Nat) : Int) 0 = 0 := rfl
    by_cases h2 : c = 0
    · subst h2
      have e3 : cmpS 0 0 = 0 := rfl
      have HF := Lib.hid (show cmpS ((0 * d : Nat) : Int) ((0 * b : Nat) : Int) = 0 by simp; rfl)
      go_enter Try.func23, Try.ntmps23
      go_wp2
      go_quiet ((first | (go_at_call 37; exact Calls.quiet_of_same ((ckSign_any _ _).mono fun _ _ h => ⟨h.1, h.2.symm⟩)) | (go_at_call 36; exact Calls.quiet_of_same ((cmpInt_any _ _ _).mono fun _ _ h => ⟨h.1, h.2.symm⟩))))
      go_wp2
      go_ret2
      exact ⟨by rw [HF.out]; rfl, (((Upd.refl _ _).alloc _).alloc _).drewN _⟩
    · have e2 : cmpS (c : Int) 0 = 1 := cmpS_gt (by omega)
      have e3 : cmpS 0 1 = -1 := rfl
      have hcb : 0 < c * b := Nat.mul_pos (by omega) (by omega)
      have HF := Lib.hid (show cmpS ((0 * d : Nat) : Int) ((c * b : Nat) : Int) = -1 from cmpS_lt (by omega))
      clear hcb
      go_enter Try.func23, Try.ntmps23
      go_wp2
      go_quiet ((first | (go_at_call 37; exact Calls.quiet_of_same ((ckSign_any _ _).mono fun _ _ h => ⟨h.1, h.2.symm⟩)) | (go_at_call 36; exact Calls.quiet_of_same ((cmpInt_any _ _ _).mono fun _ _ h => ⟨h.1, h.2.symm⟩))))
      go_wp2
      go_ret2
      exact ⟨by rw [HF.out]; rfl, (((Upd.refl _ _).alloc _).alloc _).drewN _⟩
  · have e1 : cmpS (a : Int) 0 = 1 := cmpS_gt (by omega)
    by_cases h2 : c = 0
    · subst h2
      have e2 : cmpS ((0 : Nat) : Int) 0 = 0 := rfl
      have e3 : cmpS 1 0 = 1 := rfl
      have hcb : 0 < a * d := Nat.mul_pos (by omega) (by omega)
      have HF := Lib.hid (show cmpS ((a * d : Nat) : Int) ((0 * b : Nat) : Int) = 1 from cmpS_gt (by omega))
      clear hcb
      go_enter Try.func23, Try.ntmps23
      go_wp2
      go_quiet ((first | (go_at_call 37; exact Calls.quiet_of_same ((ckSign_any _ _).mono fun _ _ h => ⟨h.1, h.2.symm⟩)) | (go_at_call 36; exact Calls.quiet_of_same ((cmpInt_any _ _ _).mono fun _ _ h => ⟨h.1, h.2.symm⟩))))
      go_wp2
      go_ret2
      exact ⟨by rw [HF.out]; rfl, (((Upd.refl _ _).alloc _).alloc _).drewN _⟩
    · have e2 : cmpS (c : Int) 0 = 1 := cmpS_gt (by omega)
      have e3 : cmpS 1 1 = 0 := rfl
      have e4 : ((a : Int) == 0) = false := by simp [h1]
      have hh : (if cmpS (pHi a d) (pHi c b) = 0 then cmpS (pLo a d) (pLo c b) else cmpS (pHi a d) (pHi c b)) = cmpS ((a * d : Nat) : Int) ((c * b : Nat) : Int) := cmp_halves
      generalize cmpS ((a * d : Nat) : Int) ((c * b : Nat) : Int) = R at *
      have HR := Lib.hid hh
      clear hh
      go_enter Try.func23, Try.ntmps23
      go_wp2
      go_quiet ((first | (go_at_call 37; exact Calls.quiet_of_same ((ckSign_any _ _).mono fun _ _ h => ⟨h.1, h.2.symm⟩)) | (go_at_call 36; exact Calls.quiet_of_same ((cmpInt_any _ _ _).mono fun _ _ h => ⟨h.1, h.2.symm⟩))))
      go_wp2
      refine wp_world (fun w1 => Upd (fun _ => False) w w1 ∧ w1.heap[w.heap.size]? = some (.cells #[.int .i64 a, .int .i64 b] 38 (0, 0)) ∧ w1.heap[w.heap.size + 1]? = some (.cells #[.int .i64 c, .int .i64 d] 38 (0, 0))) ⟨(((Upd.refl _ _).alloc _).alloc _).drewN _, ?_, ?_⟩ ?_
      · exact (Below.heap_alloc _ _ _ (by simp)).trans (World.alloc_heap_new w _)
      · have := World.alloc_heap_new (w.alloc (.cells #[.int .i64 a, .int .i64 b] 38)) (.cells #[.int .i64 c, .int .i64 d] 38)
        rwa [World.size_alloc] at this
      rintro w1 ⟨hu1, hA, hB⟩
      obtain ⟨x, hx⟩ : ∃ x, w.heap.size = x := ⟨_, rfl⟩
      have HU1 := Lib.hid hu1
      rw [hx] at hA hB
      simp only [hx]
      have HX := Lib.hid hx
      have a0 : w1.cell? ⟨x, 0, none⟩ = some (.int .i64 a) := cell_of hA 0
      have a1 : w1.cell? ⟨x, 1, none⟩ = some (.int .i64 b) := cell_of hA 1
      have b0 : w1.cell? ⟨x + 1, 0, none⟩ = some (.int .i64 c) := cell_of hB 0
      have b1 : w1.cell? ⟨x + 1, 1, none⟩ = some (.int .i64 d) := cell_of hB 1
      clear hx hu1
      have hsz : x + 2 ≤ w1.heap.size := by have := heap_lt hB; omega
      clear e1 e2 e3 e4
      rename_i K hK
      have HK := Lib.hid hK
      clear hK
      have fin : ∀ (y z : Nat) (w2 : World), w2.heap[y]? = some (.cells #[.int .u64 (pHi a d), .int .u64 (pLo a d)] 83 (0, 0)) → w2.heap[z]? = some (.cells #[.int .u64 (pHi c b), .int .u64 (pLo c b)] 83 (0, 0)) → Upd (fun _ => False) w1 w2 →
          K { tmps := #[.agg #[.int .i64 a, .int .i64 b], .agg #[.int .i64 c, .int .i64 d], .pointer (some ⟨x, 0, none⟩), .pointer (some ⟨x + 1, 0, none⟩), .int .i64 0, .int .i64 0, .int .i64 (cmpS 1 1), .pointer (some ⟨y, 0, none⟩), .pointer (some ⟨z, 0, none⟩), undef, .pointer (some ⟨x, 1, none⟩), .int .i64 b, .bool false, .bool false, .pointer (some ⟨x + 1, 1, none⟩), .int .i64 d, .bool false, .bool false, .pointer (some ⟨x, 0, none⟩), .int .i64 a, .int .i64 (cmpS a 0), .pointer (some ⟨x + 1, 0, none⟩), .int .i64 c, .int .i64 (cmpS c 0), .int .i64 (cmpS 1 1), .int .i64 (cmpS 1 1), .bool false, .bool false, .pointer (some ⟨x, 0, none⟩), .int .i64 a, .bool false, .bool false, undef, .pointer (some ⟨x, 0, none⟩), .int .i64 a, .pointer (some ⟨x + 1, 1, none⟩), .int .i64 d, .agg #[.int .u64 (pHi a d), .int .u64 (pLo a d)], .pointer (some ⟨x + 1, 0, none⟩), .int .i64 c, .pointer (some ⟨x, 1, none⟩), .int .i64 b, .agg #[.int .u64 (pHi c b), .int .u64 (pLo c b)], undef, undef, undef, undef, undef, undef, undef, undef, undef, undef, undef, undef, undef, undef, undef, undef, undef], defers := [] } w2 := by
        intro y z w2 hy hz hu2
        have y0 : w2.cell? ⟨y, 0, none⟩ = some (.int .u64 (pHi a d)) := cell_of hy 0
        have y1 : w2.cell? ⟨y, 1, none⟩ = some (.int .u64 (pLo a d)) := cell_of hy 1
        have z0 : w2.cell? ⟨z, 0, none⟩ = some (.int .u64 (pHi c b)) := cell_of hz 0
        have z1 : w2.cell? ⟨z, 1, none⟩ = some (.int .u64 (pLo c b)) := cell_of hz 1
        have a0 : w2.cell? ⟨x, 0, none⟩ = some (.int .i64 a) := cell_of (hu2.at hA (fun h => h)) 0
        have HU2 := Lib.hid hu2
        clear hy hz hu2
        refine HK.out _ _ ?_
        go_wp2
        refine wp_region_tail 10 (by kernel_rfl) (by kernel_rfl) ?_
        simp only [List.take_succ_cons, List.take_zero, List.drop_succ_cons, List.drop_zero]
        repeat still_step
        still_call ((cmpU64_any _ _ _).mono fun _ _ h => ⟨h.1, h.2.symm⟩)
        repeat still_step
        still_call ((cmpU64_any _ _ _).mono fun _ _ h => ⟨h.1, h.2.symm⟩)
        repeat still_step
        refine wpStill_nil ?_
        go_wp2_with fail
        have hnew := World.alloc_heap_new w2 (.cells #[.int .i64 (cmpS (pHi a d) (pHi c b)), .int .i64 (cmpS (pLo a d) (pLo c b))] 3)
        refine (cmpOr_any _ _ _ _ (by exact cell_of hnew 0) (by exact cell_of hnew 1)).mono ?_
        rintro e w3 ⟨rfl, rfl⟩
        rw [HR.out]
        have a0' : ((w2.alloc (.cells #[.int .i64 (cmpS (pHi a d) (pHi c b)), .int .i64 (cmpS (pLo a d) (pLo c b))] 3)).drew).cell? ⟨x, 0, none⟩ = some (.int .i64 a) := cellU1 ((Upd.refl _ _).alloc _) a0
        have e1 : cmpS (a : Int) 0 = 1 := cmpS_gt (by omega)
        have hR : R = -1 ∨ R = 0 ∨ R = 1 := by
          have := HR.out
          have hc : ∀ u v, cmpS u v = -1 ∨ cmpS u v = 0 ∨ cmpS u v = 1 := fun u v => by unfold cmpS; split; simp; split <;> simp
          split at this
          · have h := hc (pLo a d) (pLo c b); rw [this] at h; exact h
          · have h := hc (pHi a d) (pHi c b); rw [this] at h; exact h
        have b1 : -1 ≤ R := by omega
        have b2 : R ≤ 1 := by omega
        clear hR hnew
        go_wp2_with (go_at_call 37; refine (ckSign_any _ _).mono ?_; rintro e w' ⟨rfl, rfl⟩)
        go_ret2
        exact ⟨rfl, ((HU1.out.trans HU2.out).alloc _).drew⟩
      go_region_held3 (fun w' => w'.cell? ⟨x, 0, none⟩ = some (.int .i64 a) ∧ w'.cell? ⟨x, 1, none⟩ = some (.int .i64 b) ∧ w'.cell? ⟨x + 1, 0, none⟩ = some (.int .i64 c) ∧ w'.cell? ⟨x + 1, 1, none⟩ = some (.int .i64 d))
        (first | (refine ⟨?_, ?_, ?_, ?_⟩ <;> (repeat (first | with_reducible exact a0 | with_reducible exact a1 | with_reducible exact b0 | with_reducible exact b1 | rw [drewCell] | rw [World.cell?_alloc_lt _ _ _ (by simp only [World.size_alloc, World.size_drew]; omega)]))))
        (first | (go_at_call 38; refine (ckProduct_any _ _ _ (by omega) (by omega)).mono ?_; rintro e w2 ⟨rfl, rfl⟩))
      all_goals (show K _ _)
      all_goals (with_reducible refine fin _ _ _ ?_ ?_ ?_)
      all_goals first
        | (rw [drewHeap]; repeat (first | (refine heapNew ?_; simp only [World.size_alloc]; done) | (refine heapOld ?_ ?_; (simp only [World.size_alloc]; omega))))
        | exact ((((((Upd.refl _ _).alloc _).alloc _).alloc _).alloc _)).drew
end Go.Proofs.Ytmkggcmebeagaaa
