/- items: what a bag's iterator goes over, in a list. -/
import Derived.Test.YtocchcclagdjdaaBagItems
namespace Go.Proofs.Ytocchcclagdjdaa
open Go.RowKit Pl

attribute [local go_sem] Oper.semAt_some wide_fn wide_depth

/-- a list of items, cell by cell -/
def flat (L : Items) : List Value := L.flatMap fun q => [.int .i64 q.1, .int .i64 q.2]
theorem flat_append (a b : Items) : flat (a ++ b) = flat a ++ flat b := by simp [flat]
theorem flat_length (L : Items) : (flat L).length = L.length * 2 := by
  induction L with
  | nil => rfl
  | cons q L ih => have : flat (q :: L) = [.int .i64 q.1, .int .i64 q.2] ++ flat L := rfl
                   rw [this, List.length_append, ih]; simp; omega

theorem cell_two_new (w : World) (x y : Value) (t : TypeId) : ∀ j u, [x, y][j]? = some u → (w.alloc (.cells #[x, y] t)).cell? ((⟨w.heap.size, 0, none⟩ : Addr).add j) = some u := by
  intro j u hj
  have h := World.alloc_heap_new w (.cells #[x, y] t)
  match j, hj with
  | 0, hj => simp at hj; subst hj; exact cell_of h 0
  | 1, hj => simp at hj; subst hj; exact cell_of h 1

theorem item_info : ∃ i, Try.prog.info? 37 = some i ∧ i.zero = some (.agg #[.int .i64 0, .int .i64 0]) ∧ i.size = 2 ∧ i.bytes = 16 := ⟨_, rfl, rfl, rfl, rfl⟩

/-- a slice of items that its holder alone may write -/
def OwnItems (w : World) (n₀ : Nat) (v : Value) (L : Items) : Prop := w.ownsRow n₀ 37 2 v L.length (flat L)

set_option maxRecDepth 100000 in
set_option maxHeartbeats 2000000 in
theorem items_any {w : World} {p : Nat} {L : Items} {fp : List Nat} (hb0 : Bag w p L fp) (most : Nat) (hL : L.length ≤ 1000000) :
    Calls Try.prog 16 #[.pointer (some ⟨p, 0, none⟩), .int .i64 most] w fun e w' => ∃ v, e = .returned v ∧ Upd (fun _ => False) w w' ∧ OwnItems w' w.heap.size v (L.take most) := by
  refine (callsIn_wide (n := 9)).1 ?_
  obtain ⟨i0, hi, hz0, hz1, hz2⟩ := item_info
  have hfp : ∀ b ∈ fp, b < w.heap.size := by
    obtain ⟨t, hp, hT, _, _, _, rfl, _⟩ := hb0
    intro b hb
    rcases List.mem_cons.1 hb with rfl | hb
    · exact heap_lt hp
    · exact hT.lies.lt b hb
  have e0 : ∀ (f : Nat) (lb : Array Value) (w : World), (binOp .eql 57 (.func (.func f) #[] lb) .nilFunc).run Try.prog w = .ok (.bool false) w := fun _ _ _ => by kernel_rfl
  refine callsIn_of_wp_marks Try.func16 rfl trivial ?_ rfl
  simp only [Try.ntmps16, List.size_toArray, List.length_cons, List.length_nil, Nat.reduceAdd, Nat.reduceSub, Array.replicate_succ, Array.replicate_zero, List.push_toArray, List.append_toArray, List.nil_append, List.cons_append]
  gi_wp2_with (gi_at_call 29; refine (callsIn_wide.2 (all_any _ _)).mono ?_; rintro e w' ⟨rfl, rfl⟩)
  have bM := Boxed.new w 3 (.int .i64 most)
  have bO := Boxed.new (w.alloc (.cells #[.int .i64 most] 3)) 32 (.slice none 0 0)
  have bP := Boxed.new ((w.alloc (.cells #[.int .i64 most] 3)).alloc (.cells #[.slice none 0 0] 32)) 24 (.pointer (some ⟨p, 0, none⟩))
  simp only [World.size_alloc] at bO bP
  have hB0 : Below w.heap.size w (((w.alloc (.cells #[.int .i64 most] 3)).alloc (.cells #[.slice none 0 0] 32)).alloc (.cells #[.pointer (some ⟨p, 0, none⟩)] 24)) := (((Below.refl _ w).alloc (Nat.le_refl _) _).alloc (by simp) _).alloc (by simp; omega) _
  have hb1 := hb0.upd (Upd.of_below hB0) (fun b hb h => by have := hfp b hb; omega)
  refine wpIn_rangeFunc_ownG rfl (by decide) (gf := 36) (lb := #[.pointer (some ⟨w.heap.size + 1 + 1, 0, none⟩)]) rfl trivial (enters_of Try.func36 (by kernel_rfl) rfl)
    (all_stops hb1 w.heap.size (w.heap.size + 1 + 1) (9 - 1) (by simp; omega) hfp bP.cell) belowK_t (belowK_b (by simp; omega)) (Below.refl _ _) (fun _ => by rfl)
    (fun pre W => ((∃ v, Boxed W (w.heap.size + 1) 32 v ∧ W.ownsRow w.heap.size 37 2 v pre.length (flat (pre.map (·.1))) ∧ pre.length ≤ most) ∧ Boxed W w.heap.size 3 (.int .i64 most)) ∧ Below w.heap.size w W)
    (fun c s W => ((∃ v, Boxed W (w.heap.size + 1) 32 v ∧ W.ownsRow w.heap.size 37 2 v (s.length - 1) (flat (s.dropLast.map (·.1))) ∧ (s.length - 1 = most ∧ c = .exit 0 ∧ s ≠ [])) ∧ Boxed W w.heap.size 3 (.int .i64 most)) ∧ Below w.heap.size w W)
    (OwnFrom.and (OwnFrom.and (Own.from (holdsRow_own w.heap.size (w.heap.size + 1) 32 37 2 (fun pre : List (It L) => pre.length) (fun pre => flat (pre.map (·.1))) (fun pre v => pre.length ≤ most)) _) ?boxed) (ownFrom_below (Nat.le_refl _) (by simp; omega)))
    (fun c => OwnFrom.and (OwnFrom.and (Own.from (holdsRow_own w.heap.size (w.heap.size + 1) 32 37 2 (fun s : List (It L) => s.length - 1) (fun s => flat (s.dropLast.map (·.1))) (fun s v => s.length - 1 = most ∧ c = .exit 0 ∧ s ≠ [])) _) ?boxed2) (ownFrom_below (Nat.le_refl _) (by simp; omega)))
    ⟨⟨⟨_, bO.alloc _, World.ownsRow_nil _ _ _ _, by simp⟩, (bM.alloc _).alloc _⟩, hB0⟩
    (fun x => { tmps := #[.pointer (some ⟨p, 0, none⟩), .int .i64 most, undef, .pointer (some ⟨w.heap.size, 0, none⟩), .slice none 0 0, .pointer (some ⟨w.heap.size + 1, 0, none⟩), .func (.func 36) #[] #[.pointer (some ⟨w.heap.size + 1 + 1, 0, none⟩)], .int .i64 x.1.1, .int .i64 x.1.2, .pointer (some ⟨p, 0, none⟩), .func (.func 36) #[] #[.pointer (some ⟨w.heap.size + 1 + 1, 0, none⟩)], .func (.func 36) #[] #[.pointer (some ⟨w.heap.size + 1 + 1, 0, none⟩)], .bool false, undef, undef, .func (.func 36) #[] #[.pointer (some ⟨w.heap.size + 1 + 1, 0, none⟩)], .int .i64 x.1.1, .int .i64 x.1.2, undef, undef, undef, undef, undef, undef, undef, undef, undef, undef, undef], defers := [] }) ?assign ?body ?done ?stop
  case boxed =>
    rintro s X Y row hv hg hrow
    refine hv.kept hg (fun e' => ?_)
    obtain ⟨_, o, ho, hc⟩ := hrow _ e'.symm
    rw [show X.heap[w.heap.size]? = _ from hv] at ho; cases ho; cases hc
  case boxed2 =>
    rintro s X Y row hv hg hrow
    refine hv.kept hg (fun e' => ?_)
    obtain ⟨_, o, ho, hc⟩ := hrow _ e'.symm
    rw [show X.heap[w.heap.size]? = _ from hv] at ho; cases ho; cases hc
  case assign =>
    intro l x W K hK
    simp only [itVals]
    gi_wp2
    exact hK
  case body =>
    rintro l pre x W ⟨⟨⟨v, hv, hrow, hle⟩, hm⟩, hB⟩ hlt
    have hc := hv.cell
    have hcm := hm.cell
    have hsz := hB.size
    have hL' : pre.length ≤ 1000000 := by omega
    obtain ⟨ad, cap, rfl⟩ : ∃ ad cap, v = .slice ad pre.length cap := by
      rcases hrow.2 with ⟨rfl, h0⟩ | ⟨g, cap, _, rfl, _⟩
      · exact ⟨none, 0, by rw [h0]⟩
      · exact ⟨_, _, rfl⟩
    by_cases hmost : pre.length = most
    · have hmi : (pre.length : Int) = most := by omega
      gi_wp2
      refine ⟨KeepsFrom.refl _ _, ⟨⟨_, hv, ?_, by simp [hmost]⟩, hm⟩, hB⟩
      simpa using hrow
    · have hmi : ¬ (pre.length : Int) = most := by omega
      have hml : (maxLen : Nat) = 9223372036854775807 := by decide
      gi_wp2_with (gi_at_builtin; refine wpListIn_append_own _ rfl _ _ 32 rfl w.heap.size 37 i0 _ 2 16 Try.underlying32 hi hz0 hz1 hz2 rfl (by decide) _ _ _ rfl (hrow.alloc _) ⟨W.heap.size, 0, none⟩ 1 1 [.int .i64 x.1.1, .int .i64 x.1.2] rfl rfl (cell_two_new _ _ _ _) (by simp [Value.oneCell']) (by omega) (by omega) (by simp; omega) ?_; intro v' w1 hown' hgrow _; obtain ⟨g', cap', rfl⟩ := ownsRow_succ hown'; obtain ⟨hv1, hv2, hr2, hk2, hb2⟩ := hv.appended (by decide) hrow hB.size (by omega) hown' hgrow; have hc1 := hv1.cell; have hf1 := hv1.frozen)
      refine ⟨hk2.from _, hb2, ⟨⟨_, hv2, ?_, by simp; omega⟩, ?_⟩, hB.trans hb2⟩
      · simpa [flat] using hr2
      · exact ((hm.alloc _).kept hgrow (hm.not_row (by decide) hrow)).kept (grownBy_setCell' _ _ _) (by simp)
  case done =>
    rintro D ys W hD hy ⟨⟨⟨v, hv, hrow, hle⟩, hm⟩, hB⟩ hK
    have hc := hv.cell
    gi_wp2
    refine ⟨by simp, .inl ⟨_, _, rfl, run_takeDeferred hK, ?_⟩⟩
    refine ⟨_, results_tmp rfl _ _ _, v, rfl, ?_, ?_⟩
    · exact Upd.of_below0 (hB.trans (belowK_b (w := w) (Nat.le_refl _) W D _ _ (by simp at hD; omega) hK rfl rfl))
    · have hyl : ys.length = L.length := by have := congrArg List.length hy; simpa using this
      have : L.take most = L := List.take_of_length_le (by omega)
      rw [this]
      have h := ownsRow_putObj hrow (.deferred none) hK rfl
      rw [hy, hyl] at h
      exact h
  case stop =>
    rintro D c pre W hD hp ⟨⟨⟨v, hv, hrow, hle, rfl, hne⟩, hm⟩, hB⟩ hK
    have hc := hv.cell
    gi_wp2
    refine ⟨by simp, .inl ⟨_, _, rfl, run_takeDeferred hK, ?_⟩⟩
    refine ⟨_, results_tmp rfl _ _ _, v, rfl, ?_, ?_⟩
    · exact Upd.of_below0 (hB.trans (belowK_b (w := w) (Nat.le_refl _) W D _ _ (by simp at hD; omega) hK rfl rfl))
    · have hpl : pre.length ≠ 0 := fun h => hne (List.length_eq_zero_iff.1 h)
      have hlen := hp.length_le
      rw [List.length_map] at hlen
      have e1 : pre.dropLast.map (·.1) = L.take most := by
        rw [List.dropLast_eq_take, hle, List.map_take, List.prefix_iff_eq_take.1 hp, List.take_take, List.length_map]
        congr 1
        omega
      have e2 : pre.length - 1 = (L.take most).length := by rw [List.length_take]; omega
      have h := ownsRow_putObj hrow (.deferred none) hK rfl
      rw [e1, e2] at h
      exact h
end Go.Proofs.Ytocchcclagdjdaa
