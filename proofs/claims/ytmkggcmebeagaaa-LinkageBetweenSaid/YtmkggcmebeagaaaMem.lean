/- Slices in memory that are read: lists of integers. -/
import Derived.Test.YtmkggcmebeagaaaBase
import Derived.Test.YtmkggcmebeagaaaSeq
namespace Go.Proofs.Ytmkggcmebeagaaa
set_option linter.unusedVariables false
set_option linter.unusedSimpArgs false
open Go.RowKit

/-- a list of integers of a kind in memory, that a slice shows -/
structure IntsK (k : IntKind) (w : World) (a : Option Addr) (l : List Int) : Prop where
  cell : ∀ i (h : i < l.length), ∃ x, a = some x ∧ w.cell? (x.add i) = some (.int k l[i])
  len : l.length ≤ 9223372036854775807
theorem addBlk (x : Addr) (n : Nat) : (x.add n).block = x.block := by cases n <;> simp [Addr.add]
theorem addAt (g n : Nat) : (⟨g, 0, none⟩ : Addr).add n = ⟨g, n, none⟩ := by
  cases n with
  | zero => rfl
  | succ n => simp [Addr.add]
theorem addAdd (a : Addr) (i j : Nat) : (a.add i).add j = a.add (i + j) := by
  unfold Addr.add
  by_cases hi : i = 0 <;> by_cases hj : j = 0 <;> simp [hi, hj, Nat.add_assoc]
theorem IntsK.updS {k : IntKind} {w w' : World} {a : Option Addr} {l : List Int} (h : IntsK k w a l) {S : Nat → Prop} (hu : Upd S w w') (hS : ∀ x, a = some x → 0 < l.length → ¬ S x.block) : IntsK k w' a l :=
  ⟨fun i hi => by
    obtain ⟨x, hx, hc⟩ := h.cell i hi
    exact ⟨x, hx, (World.cell?_of_block (hu.block _ (World.block_lt_of_cell? w _ hc) (by rw [addBlk]; exact hS x hx (by omega)))).trans hc⟩, h.len⟩
theorem IntsK.upd {k : IntKind} {w w' : World} {a : Option Addr} {l : List Int} (h : IntsK k w a l) (hu : Upd (fun _ => False) w w') : IntsK k w' a l := h.updS hu fun _ _ _ h => h
theorem IntsK.drewN {k : IntKind} {w : World} {a : Option Addr} {l : List Int} (h : IntsK k w a l) (n : Nat) : IntsK k (w.drewN n) a l := ⟨h.cell, h.len⟩
theorem IntsK.lt {k : IntKind} {w : World} {a : Option Addr} {l : List Int} (h : IntsK k w a l) (x : Addr) (hx : a = some x) (h0 : 0 < l.length) : x.block < w.heap.size := by
  obtain ⟨y, hy, hc⟩ := h.cell 0 h0
  rw [hx] at hy; cases hy
  have := World.block_lt_of_cell? w _ hc
  rwa [addBlk] at this
theorem i64_in (n : Int) (h : -9223372036854775808 ≤ n) (h2 : n ≤ 9223372036854775807) : IntKind.i64.wrap n = n := IntWalk.i64_in _ (by omega)
theorem w64_in (n : Int) (h : -9223372036854775808 ≤ n) (h2 : n ≤ 9223372036854775807) : wrap64 n = n := by unfold wrap64; omega

/-- a block whose cells are known, by their numbers -/
def CB (w : World) (p : Nat) (T : TypeId) (N : Nat) (f : Nat → Value) : Prop := w.heap[p]? = some (.cells ((List.range N).map f).toArray T (0, 0))
section
variable {w w' : World} {p N : Nat} {T : TypeId} {f g : Nat → Value}
theorem CB.cell (h : CB w p T N f) {o : Nat} (ho : o < N) : w.cell? ⟨p, o, none⟩ = some (f o) := by
  rw [cell_of h o]; simp [ho]
theorem CB.free (h : CB w p T N f) (o : Nat) : w.frozen? ⟨p, o, none⟩ = false := free_of h o
theorem CB.lt (h : CB w p T N f) : p < w.heap.size := heap_lt h
theorem CB.upd {S : Nat → Prop} (h : CB w p T N f) (hu : Upd S w w') (hS : ¬ S p) : CB w' p T N f := hu.at h hS
theorem CB.drewN (h : CB w p T N f) (n : Nat) : CB (w.drewN n) p T N f := h
theorem CB.congr (h : CB w p T N f) (hfg : ∀ o, o < N → f o = g o) : CB w p T N g := by
  unfold CB at *
  rw [h]
  congr 3
  exact List.map_congr_left fun o ho => hfg o (List.mem_range.1 ho)
theorem CB.set (h : CB w p T N f) (o : Nat) (v : Value) : CB (w.setCell ⟨p, o, none⟩ v) p T N (fun k => if k = o then v else f k) := by
  unfold CB at *
  rw [cells_set v h]
  congr 2
  apply Array.ext
  · simp
  · intro i h1 h2
    simp only [List.size_toArray, List.length_map, List.length_range, Array.size_setIfInBounds] at h1 h2
    rw [Array.getElem_setIfInBounds]
    · simp only [List.getElem_toArray, List.getElem_map, List.getElem_range]
      by_cases e : o = i
      · subst e; simp
      · have e2 : ¬ i = o := fun h => e h.symm
        rw [if_neg e, if_neg e2]
        show ((List.range N).map f)[i]'(by simpa using h1) = f i
        rw [List.getElem_map, List.getElem_range]
theorem CB.new (w : World) (T : TypeId) (N : Nat) (f : Nat → Value) {cs : Array Value} (h : cs = ((List.range N).map f).toArray) : CB (w.alloc (.cells cs T)) w.heap.size T N f := by
  subst h; exact World.alloc_heap_new w _
end
end Go.Proofs.Ytmkggcmebeagaaa
