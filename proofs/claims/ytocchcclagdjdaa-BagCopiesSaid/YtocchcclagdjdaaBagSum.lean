/- Sum and Squares of a bag. -/
import Derived.Test.YtocchcclagdjdaaBagItems
import Derived.Test.YtocchcclagdjdaaBagWide2
import Derived.RangeFuncBox
namespace Go.Proofs.Ytocchcclagdjdaa
open Go.RowKit Pl

attribute [local go_sem] Oper.semAt_some wide_fn wide_depth

/-- what a bag sums up to -/
def sumOf : Items → Int
  | [] => 0
  | (x, k) :: L => x * k + sumOf L
theorem sumOf_append (a b : Items) : sumOf (a ++ b) = sumOf a + sumOf b := by
  induction a with
  | nil => simp [sumOf]
  | cons q a ih => simp only [List.cons_append, sumOf, ih]; omega
/-- each number of 64 bits -/
def In64 (L : Items) : Prop := ∀ q ∈ L, -9223372036854775808 ≤ q.1 ∧ q.1 < 9223372036854775808

theorem le_tot : ∀ {l : Items}, Pos l → ∀ q ∈ l, q.2 ≤ tot l
  | [], _, _, h => by cases h
  | (x, k) :: l, hp, q, h => by
    obtain ⟨h1, h2⟩ := pos_cons.1 hp
    have h3 := tot_nonneg h2
    rcases List.mem_cons.1 h with rfl | h
    · simp only [tot]; omega
    · have := le_tot h2 q h
      simp only [tot]; omega

theorem own_wide (_n₀ B : Nat) (E : TypeId) {β : Type} (S : β → Int) : Own (fun (s : β) W => Wide W B E (S s)) := by
  rintro s X Y row ⟨lo, hi, hb, hw⟩ hg hrow
  exact ⟨lo, hi, (grownBy_keeps_cells hg hrow hb rfl).trans hb, hw⟩
theorem KeepsOthers.of_upd_cells {W W' : World} {b : Nat} (hu : Upd (fun i => i = b) W W') {cs : Array Value} {E : TypeId} {fz : Nat × Nat} (hb : W.heap[b]? = some (.cells cs E fz)) : KeepsOthers W W' :=
  ⟨hu.size, fun k o hk ho => (hu.block k (heap_lt hk) (fun e => by subst e; rw [hb] at hk; cases hk; cases ho)).trans hk⟩

set_option maxRecDepth 100000 in
set_option maxHeartbeats 2000000 in
theorem sum_any {w : World} {p : Nat} {L : Items} {fp : List Nat} (hb0 : Bag w p L fp) (hin : In64 L) (hS : -9223372036854775808 ≤ sumOf L) (hS2 : sumOf L < 9223372036854775808) :
    Calls Try.prog 23 #[.pointer (some ⟨p, 0, none⟩)] w fun e w' => e = .returned (.tuple #[.int .i64 (sumOf L), .int .i64 0]) ∧ Upd (fun _ => False) w w' := by
  refine (callsIn_wide (n := 9)).1 ?_
  have hfp : ∀ b ∈ fp, b < w.heap.size := by
    obtain ⟨t, hp, hT, _, _, _, rfl, _⟩ := hb0
    intro b hb
    rcases List.mem_cons.1 hb with rfl | hb
    · exact heap_lt hp
    · exact hT.lies.lt b hb
  have c0 : w.cell? ⟨p, 0, none⟩ = some (.bool true) := by obtain ⟨t, hp, _⟩ := hb0; exact cell_of hp 0
  refine callsIn_of_wp_marks Try.func23 rfl trivial ?_ rfl
  simp only [Try.ntmps23, List.size_toArray, List.length_cons, List.length_nil, Nat.reduceAdd, Nat.reduceSub, Array.replicate_succ, Array.replicate_zero, List.push_toArray, List.append_toArray, List.nil_append, List.cons_append]
  gi_wp2_with (gi_at_call 29; refine (callsIn_wide.2 (all_any _ _)).mono ?_; rintro e w' ⟨rfl, rfl⟩)
  have hpos := hb0.pos
  have htot := hb0.le
  have hB0 : Below w.heap.size w ((w.alloc (.cells #[.int .u64 0, .int .u64 0] 63)).alloc (.cells #[.pointer (some ⟨p, 0, none⟩)] 24)) := ((Below.refl _ w).alloc (Nat.le_refl _) _).alloc (by simp) _
  have hW0 : Wide ((w.alloc (.cells #[.int .u64 0, .int .u64 0] 63)).alloc (.cells #[.pointer (some ⟨p, 0, none⟩)] 24)) w.heap.size 63 0 := ⟨0, 0, (Below.heap_alloc _ _ _ (by simp)).trans (World.alloc_heap_new w _), by unfold W128; decide⟩
  have bP := Boxed.new (w.alloc (.cells #[.int .u64 0, .int .u64 0] 63)) 24 (.pointer (some ⟨p, 0, none⟩))
  simp only [World.size_alloc] at bP
  have hb1 := hb0.upd (Upd.of_below hB0) (fun b hb h => by have := hfp b hb; omega)
  refine wpIn_rangeFunc_ownG rfl (by decide) (gf := 36) (lb := #[.pointer (some ⟨w.heap.size + 1, 0, none⟩)]) rfl trivial (enters_of Try.func36 (by kernel_rfl) rfl)
    (all_stops hb1 w.heap.size (w.heap.size + 1) (9 - 1) (by simp; omega) hfp bP.cell) belowK_t (belowK_b (by simp; omega)) (Below.refl _ _) (fun _ => by rfl)
    (fun pre W => Wide W w.heap.size 63 (sumOf (pre.map (·.1))) ∧ Below w.heap.size w W)
    (fun _ _ _ => False)
    (OwnFrom.and (Own.from (own_wide w.heap.size w.heap.size 63 (fun pre : List (It L) => sumOf (pre.map (·.1)))) _) (ownFrom_below (Nat.le_refl _) (by simp; omega)))
    (fun _ _ _ _ _ hs _ _ => hs)
    ⟨hW0, hB0⟩
    (fun x => { tmps := #[.pointer (some ⟨p, 0, none⟩), undef, .int .i64 0, .int .i64 0, .pointer (some ⟨w.heap.size, 0, none⟩), .int .i64 x.1.1, .int .i64 x.1.2, .pointer (some ⟨p, 0, none⟩), .bool false, .bool false, .pointer (some ⟨p, 0, none⟩), .pointer (some ⟨p, 0, none⟩), .pointer (some ⟨p, 0, none⟩), .bool true, .bool false, .bool false, .pointer (some ⟨p, 0, none⟩), .func (.func 36) #[] #[.pointer (some ⟨w.heap.size + 1, 0, none⟩)], .int .i64 x.1.1, .int .i64 x.1.2, undef, undef, undef, undef, undef, undef, undef], defers := [] }) ?assign ?body ?done ?stop
  case assign =>
    intro l x W K hK
    simp only [itVals]
    gi_wp2
    exact hK
  case body =>
    rintro l pre x W ⟨hW, hB⟩ hlt
    obtain ⟨hx1, hx2⟩ := hin x.1 x.2
    have hk1 := hpos x.1 x.2
    have hk2 := le_tot hpos x.1 x.2
    gi_wp2_with (gi_at_call 33; refine (Wd.callsIn (Wd.inRound l) (wadd_any hW x.1.1 x.1.2 hx1 hx2 (by omega) (by omega))).mono ?_; rintro e w' ⟨⟨v, rfl⟩, hW', hu'⟩)
    have hbl : Below w.heap.size W w' := hu'.below hB.size (fun i hi e => by omega)
    obtain ⟨_, _, hb, _⟩ := hW
    refine ⟨(KeepsOthers.of_upd_cells hu' hb).from _, hbl, ?_, hB.trans hbl⟩
    rw [List.map_append, sumOf_append]
    have e : sumOf ([x].map (·.1)) = x.1.1 * x.1.2 := by show x.1.1 * x.1.2 + 0 = _; omega
    rw [e]
    exact hW'
  case done =>
    rintro D ys W hD hy ⟨⟨lo, hi, hb, hw⟩, hB⟩ hK
    have c0 : W.cell? ⟨w.heap.size, 0, none⟩ = some (.int .u64 lo) := cell_of hb 0
    have c1 : W.cell? ⟨w.heap.size, 1, none⟩ = some (.int .u64 hi) := cell_of hb 1
    rw [hy] at hw
    gi_wp2_with (gi_at_call 34; refine (callsIn_wide.2 (exact_any W lo hi (sumOf L) hw hS hS2)).mono ?_; rintro e w' ⟨rfl, hu'⟩)
    refine ⟨by simp, .inl ⟨_, _, rfl, run_takeDeferred ((hu'.block D (heap_lt hK) (fun h => h)).trans hK), ?_⟩⟩
    refine ⟨_, results_tmp2 rfl _ _ _, rfl, ?_⟩
    have hB2 : Below w.heap.size w w' := hB.trans (hu'.below hB.size (fun _ _ h => h))
    exact Upd.of_below0 (hB2.trans (belowK_b (w := w) (Nat.le_refl _) w' D _ _ (by simp at hD; omega) ((hu'.block D (heap_lt hK) (fun h => h)).trans hK) rfl rfl))
  case stop =>
    rintro D c pre W _ _ h _
    exact h.elim

/-- what the squares sum up to -/
def sqOf : Items → Int
  | [] => 0
  | (x, k) :: L => x * x * k + sqOf L
theorem sqOf_append (a b : Items) : sqOf (a ++ b) = sqOf a + sqOf b := by
  induction a with
  | nil => simp [sqOf]
  | cons q a ih => simp only [List.cons_append, sqOf, ih]; omega
/-- each number's square is one of 64 bits -/
def Roots (L : Items) : Prop := ∀ q ∈ L, -3037000499 ≤ q.1 ∧ q.1 ≤ 3037000499
theorem root_sq {x : Int} (h : -3037000499 ≤ x) (h2 : x ≤ 3037000499) : 0 ≤ x * x ∧ x * x ≤ 9223372030926249001 := by
  obtain ⟨n, hn⟩ : ∃ n : Nat, x.natAbs = n := ⟨_, rfl⟩
  have e : x * x = ((n * n : Nat) : Int) := by rw [← hn]; exact Int.natAbs_mul_self.symm
  have hb : n ≤ 3037000499 := by omega
  have := Nat.mul_le_mul hb hb
  rw [e]; omega

set_option maxRecDepth 100000 in
set_option maxHeartbeats 2000000 in
theorem squares_any {w : World} {p : Nat} {L : Items} {fp : List Nat} (hb0 : Bag w p L fp) (hin : Roots L) (hS : -9223372036854775808 ≤ sqOf L) (hS2 : sqOf L < 9223372036854775808) :
    Calls Try.prog 24 #[.pointer (some ⟨p, 0, none⟩)] w fun e w' => e = .returned (.tuple #[.int .i64 (sqOf L), .int .i64 0]) ∧ Upd (fun _ => False) w w' := by
  refine (callsIn_wide (n := 9)).1 ?_
  have hfp : ∀ b ∈ fp, b < w.heap.size := by
    obtain ⟨t, hp, hT, _, _, _, rfl, _⟩ := hb0
    intro b hb
    rcases List.mem_cons.1 hb with rfl | hb
    · exact heap_lt hp
    · exact hT.lies.lt b hb
  have c0 : w.cell? ⟨p, 0, none⟩ = some (.bool true) := by obtain ⟨t, hp, _⟩ := hb0; exact cell_of hp 0
  have hlp : p < w.heap.size := by obtain ⟨t, hp, _⟩ := hb0; exact heap_lt hp
  refine callsIn_of_wp_marks Try.func24 rfl trivial ?_ rfl
  simp only [Try.ntmps24, List.size_toArray, List.length_cons, List.length_nil, Nat.reduceAdd, Nat.reduceSub, Array.replicate_succ, Array.replicate_zero, List.push_toArray, List.append_toArray, List.nil_append, List.cons_append]
  gi_wp2_with (gi_at_call 29; refine (callsIn_wide.2 (all_any _ _)).mono ?_; rintro e w' ⟨rfl, rfl⟩)
  have hpos := hb0.pos
  have htot := hb0.le
  obtain ⟨w2, hw2⟩ : ∃ w2, (w.alloc (.cells #[.int .i64 0] 2)).alloc (.cells #[.int .i64 0] 39) = w2 := ⟨_, rfl⟩
  have hs2 : w2.heap.size = w.heap.size + 2 := by rw [← hw2]; simp
  have hu2 : Upd (fun _ => False) w w2 := by rw [← hw2]; exact ((Upd.refl _ _).alloc _).alloc _
  have hr0 : Boxed w2 w.heap.size 2 (.int .i64 0) := by rw [← hw2]; exact (Boxed.new w 2 (.int .i64 0)).alloc _
  have hr1 : Boxed w2 (w.heap.size + 1) 39 (.int .i64 0) := by
    rw [← hw2]
    have := Boxed.new (w.alloc (.cells #[.int .i64 0] 2)) 39 (.int .i64 0)
    rwa [World.size_alloc] at this
  rw [hw2]
  have hbw2 := hb0.upd hu2 (fun _ _ h => h)
  have hB0 : Below w2.heap.size w2 ((w2.alloc (.cells #[.int .u64 0, .int .u64 0] 63)).alloc (.cells #[.pointer (some ⟨p, 0, none⟩)] 24)) := ((Below.refl _ w2).alloc (Nat.le_refl _) _).alloc (by simp) _
  have hW0 : Wide ((w2.alloc (.cells #[.int .u64 0, .int .u64 0] 63)).alloc (.cells #[.pointer (some ⟨p, 0, none⟩)] 24)) (w.heap.size + 1 + 1) 63 0 := ⟨0, 0, (Below.heap_alloc _ _ _ (by simp; omega)).trans (by have := World.alloc_heap_new w2 (.cells #[.int .u64 0, .int .u64 0] 63); rwa [hs2] at this), by unfold W128; decide⟩
  have bP := Boxed.new (w2.alloc (.cells #[.int .u64 0, .int .u64 0] 63)) 24 (.pointer (some ⟨p, 0, none⟩))
  simp only [World.size_alloc, hs2] at bP
  have hb1 := hbw2.upd (Upd.of_below hB0) (fun b hb h => by have := hfp b hb; omega)
  refine wpIn_rangeFunc_ownG rfl (by decide) (gf := 36) (lb := #[.pointer (some ⟨w.heap.size + 1 + 1 + 1, 0, none⟩)]) rfl trivial (enters_of Try.func36 (by kernel_rfl) rfl)
    (all_stops hb1 w2.heap.size (w.heap.size + 1 + 1 + 1) (9 - 1) (by simp; omega) (fun b hb => by have := hfp b hb; omega) bP.cell) belowK_t (belowK_b (by simp; omega)) (Below.refl _ _) (fun _ => by rfl)
    (fun pre W => Wide W (w.heap.size + 1 + 1) 63 (sqOf (pre.map (·.1))) ∧ Below w2.heap.size w2 W)
    (fun _ _ _ => False)
    (OwnFrom.and (Own.from (own_wide w.heap.size (w.heap.size + 1 + 1) 63 (fun pre : List (It L) => sqOf (pre.map (·.1)))) _) (ownFrom_below (Nat.le_refl _) (by simp; omega)))
    (fun _ _ _ _ _ hs _ _ => hs)
    ⟨hW0, hB0⟩
    (fun x => { tmps := #[.pointer (some ⟨p, 0, none⟩), undef, .pointer (some ⟨w.heap.size, 0, none⟩), .pointer (some ⟨w.heap.size + 1, 0, none⟩), .pointer (some ⟨w.heap.size + 1 + 1, 0, none⟩), .int .i64 x.1.1, .int .i64 x.1.2, .pointer (some ⟨p, 0, none⟩), .bool false, .bool false, .pointer (some ⟨p, 0, none⟩), .pointer (some ⟨p, 0, none⟩), .pointer (some ⟨p, 0, none⟩), .bool true, .bool false, .bool false, .pointer (some ⟨p, 0, none⟩), .func (.func 36) #[] #[.pointer (some ⟨w.heap.size + 1 + 1 + 1, 0, none⟩)], .int .i64 x.1.1, .int .i64 x.1.2, undef, undef, undef, undef, undef, undef, undef, undef, undef, undef, undef, undef, undef, undef, undef], defers := [] }) ?assign ?body ?done ?stop
  case assign =>
    intro l x W K hK
    simp only [itVals]
    gi_wp2
    exact hK
  case body =>
    rintro l pre x W ⟨hW, hB⟩ hlt
    obtain ⟨hx1, hx2⟩ := hin x.1 x.2
    obtain ⟨hq1, hq2⟩ := root_sq hx1 hx2
    have hk1 := hpos x.1 x.2
    have hk2 := le_tot hpos x.1 x.2
    have hadd := wadd_any hW (x.1.1 * x.1.1) x.1.2 (by omega) (by omega) (by omega) (by omega)
    have ew : IntKind.i64.wrap (x.1.1 * x.1.1) = x.1.1 * x.1.1 := by rw [IntKind.wrap_i64]; omega
    have hd1 : ¬ 3037000499 < x.1.1 := by omega
    have hd2 : ¬ x.1.1 < -3037000499 := by omega
    clear hx1 hx2 hq1 hq2 hk1 hk2
    gi_wp2_with (gi_at_call 33; refine (Wd.callsIn (Wd.inRound l) hadd).mono ?_; rintro e w' ⟨⟨v, rfl⟩, hW', hu'⟩)
    have hbl : Below w2.heap.size W w' := hu'.below hB.size (fun i hi e => by omega)
    obtain ⟨_, _, hb, _⟩ := hW
    refine ⟨(KeepsOthers.of_upd_cells hu' hb).from _, hbl, ?_, hB.trans hbl⟩
    rw [List.map_append, sqOf_append]
    have e : sqOf ([x].map (·.1)) = x.1.1 * x.1.1 * x.1.2 := by show x.1.1 * x.1.1 * x.1.2 + 0 = _; omega
    rw [e]
    exact hW'
  case done =>
    rintro D ys W hD hy ⟨⟨lo, hi, hb, hw⟩, hB⟩ hK
    have c0 : W.cell? ⟨w.heap.size + 1 + 1, 0, none⟩ = some (.int .u64 lo) := cell_of hb 0
    have c1 : W.cell? ⟨w.heap.size + 1 + 1, 1, none⟩ = some (.int .u64 hi) := cell_of hb 1
    rw [hy] at hw
    gi_wp2_with (gi_at_call 34; refine (callsIn_wide.2 (exact_any W lo hi (sqOf L) hw hS hS2)).mono ?_; rintro e w' ⟨rfl, hu'⟩; have b0 : Boxed w' w.heap.size 2 (.int .i64 0) := (hu'.block _ (by have := hB.size; omega) (fun h => h)).trans ((hB.block _ (by omega)).trans hr0); have b1 : Boxed w' (w.heap.size + 1) 39 (.int .i64 0) := (hu'.block _ (by have := hB.size; omega) (fun h => h)).trans ((hB.block _ (by omega)).trans hr1); have k0 := b0.cell; have z0 := b0.frozen; have k1 := b1.cell; have z1 := b1.frozen)
    obtain ⟨W3, hW3⟩ : ∃ W3, (w'.setCell ⟨w.heap.size, 0, none⟩ (.int .i64 (sqOf L))).setCell ⟨w.heap.size + 1, 0, none⟩ (.int .i64 0) = W3 := ⟨_, rfl⟩
    have d0 : Boxed W3 w.heap.size 2 (.int .i64 (sqOf L)) := by rw [← hW3]; exact (b0.set _).kept (grownBy_setCell' _ _ _) (by simp)
    have d1 : Boxed W3 (w.heap.size + 1) 39 (.int .i64 0) := by rw [← hW3]; exact (b1.kept (grownBy_setCell' w' w.heap.size (.int .i64 (sqOf L))) (by simp)).set _
    have hDw : w.heap.size + 2 ≤ D := by simp at hD; omega
    have hK3 : W3.heap[D]? = some (.deferred (some [])) := by
      rw [← hW3]
      refine (Below.heap_setCell _ _ _ _ (fun e => by simp at e; omega)).trans ((Below.heap_setCell _ _ _ _ (fun e => by simp at e; omega)).trans ((hu'.block D (heap_lt hK) (fun h => h)).trans hK))
    have hu3 : Upd (fun _ => False) w W3 := by
      have h1 : Upd (fun _ => False) w w' := (hu2.trans (Upd.of_below0 hB)).trans hu'
      rw [← hW3]
      exact (h1.setCell (.inr (by simp)) _).setCell (.inr (by simp)) _
    rw [hW3]
    refine ⟨by simp, .inl ⟨_, _, rfl, run_takeDeferred hK3, ?_⟩⟩
    have k0 := (d0.kept (grownBy_putObj' W3 D (.deferred none)) (by simp; omega)).cell
    have k1 := (d1.kept (grownBy_putObj' W3 D (.deferred none)) (by simp; omega)).cell
    refine ⟨.tuple #[.int .i64 (sqOf L), .int .i64 0], by simp [results, Try.results24, go_sem, k0, k1], rfl, ?_⟩
    have hgd := grownBy_putObj' W3 D (.deferred none)
    exact ⟨hgd.os.trans hu3.os, hgd.tape.trans hu3.tape, hgd.output.trans hu3.output, Nat.le_trans hu3.size hgd.size, fun i hi hs => (hgd.block i (Nat.lt_of_lt_of_le hi hu3.size) (by simp; omega)).trans (hu3.block i hi hs)⟩
  case stop =>
    rintro D c pre W _ _ h _
    exact h.elim
end Go.Proofs.Ytocchcclagdjdaa
