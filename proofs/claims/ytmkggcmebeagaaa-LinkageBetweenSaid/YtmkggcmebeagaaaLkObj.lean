/- The clusters in memory: distance. -/
import Derived.Test.YtmkggcmebeagaaaLkCheck
import Derived.BigRegion
import Derived.Laws.AppendOwn
namespace Go.Proofs.Ytmkggcmebeagaaa
set_option linter.unusedVariables false
set_option linter.unusedSimpArgs false
open Go.RowKit Lk

/-- the first cells of a block -/
def RowAt (w : World) (g : Nat) (E : TypeId) (xs : List Value) : Prop := ∃ cur : Array Value, w.heap[g]? = some (.cells cur E (0, 0)) ∧ cur.toList.take xs.length = xs
section
variable {w w' : World} {g : Nat} {E : TypeId} {xs : List Value}
theorem RowAt.lt (h : RowAt w g E xs) : g < w.heap.size := by obtain ⟨_, h, _⟩ := h; exact heap_lt h
theorem RowAt.upd {S : Nat → Prop} (h : RowAt w g E xs) (hu : Upd S w w') (hS : ¬ S g) : RowAt w' g E xs := by
  obtain ⟨cur, h, ht⟩ := h
  exact ⟨cur, hu.at h hS, ht⟩
theorem RowAt.cell (h : RowAt w g E xs) {i : Nat} (hi : i < xs.length) : w.cell? ⟨g, i, none⟩ = some xs[i] := by
  obtain ⟨cur, h, ht⟩ := h
  rw [cell_of h i]
  have := congrArg (·[i]?) ht
  simp only [List.getElem?_take, hi, if_true, List.getElem?_eq_getElem hi, Array.getElem?_toList] at this
  exact this
theorem RowAt.free (h : RowAt w g E xs) (i : Nat) : w.frozen? ⟨g, i, none⟩ = false := by
  obtain ⟨cur, h, ht⟩ := h
  exact free_of h i
theorem RowAt.set (h : RowAt w g E xs) (i : Nat) (v : Value) : RowAt (w.setCell ⟨g, i, none⟩ v) g E (xs.set i v) := by
  obtain ⟨cur, h, ht⟩ := h
  refine ⟨cur.setIfInBounds i v, cells_set v h, ?_⟩
  rw [List.length_set, Array.toList_setIfInBounds, List.take_set, ht]
end

/-- the closures of a method -/
def joinFn (m : Mt) : Value := match m with | .single => .func (.func 32) #[] #[] | .complete => .func (.func 33) #[] #[] | .average => .func (.func 34) #[] #[]
def objF (m : Mt) (n : Nat) (c : Cl) (dv : Value) (o : Nat) : Value :=
  if o = 0 then .int .i64 m.num else if o = 1 then .int .i64 n else if o < 130 then .int .i64 (c (o - 2)).length else if o = 130 then dv else joinFn m
theorem objSz (m : Mt) (n : Nat) (c : Cl) (dv : Value) {i : Nat} (h : i < 128) : objF m n c dv (2 + i) = .int .i64 (c i).length := by
  simp only [objF]
  rw [if_neg (by omega), if_neg (by omega), if_pos (by omega)]
  have e : 2 + i - 2 = i := by omega
  rw [e]
/-- the clusters' object -/
structure Obj (w : World) (p : Nat) (m : Mt) (n : Nat) (c : Cl) (D : List Int) (g cap : Nat) : Prop where
  blk : CB w p 66 132 (objF m n c (.slice (some ⟨g, 0, none⟩) (n * n) cap))
  row : RowAt w g 2 (D.map (Value.int .i64))
  len : D.length = n * n
  ne : g ≠ p
  le : n ≤ 128
theorem Obj.upd {w w' : World} {p : Nat} {m : Mt} {n : Nat} {c : Cl} {D : List Int} {g cap : Nat} {S : Nat → Prop} (h : Obj w p m n c D g cap) (hu : Upd S w w') (hp : ¬ S p) (hg : ¬ S g) : Obj w' p m n c D g cap :=
  ⟨h.blk.upd hu hp, h.row.upd hu hg, h.len, h.ne, h.le⟩
theorem Obj.dcell {w : World} {p : Nat} {m : Mt} {n : Nat} {c : Cl} {D : List Int} {g cap : Nat} (h : Obj w p m n c D g cap) {i : Nat} (hi : i < D.length) : w.cell? ⟨g, i, none⟩ = some (.int .i64 (D.getD i 0)) := by
  have := h.row.cell (i := i) (by simpa using hi)
  rw [this]; simp [List.getD_eq_getElem?_getD, List.getElem?_eq_getElem hi]

theorem val_int {k : IntKind} {a b : Int} (h : a = b) : Value.int k a = .int k b := by rw [h]
/-- the fraction of a pair -/
def dfr (m : Mt) (n : Nat) (c : Cl) (D : List Int) (i j : Nat) : Value := .agg #[.int .i64 (D.getD (i * n + j) 0), .int .i64 (den m (c i) (c j))]

set_option maxRecDepth 100000 in
set_option maxHeartbeats 1000000 in
theorem lkdist_any {w : World} {p : Nat} {m : Mt} {n : Nat} {c : Cl} {D : List Int} {g cap : Nat} (h : Obj w p m n c D g cap) {i j : Nat} (hi : i < n) (hj : j < n) (hl : ∀ k, (c k).length ≤ 128) :
    Calls Try.prog 22 #[.pointer (some ⟨p, 0, none⟩), .int .i64 i, .int .i64 j] w fun e w' => e = .returned (dfr m n c D i j) ∧ Upd (fun _ => False) w w' := by
  have hn := h.le
  have hb : n * n ≤ 128 * 128 := Nat.mul_le_mul hn hn
  have hidx := idx_lt hi hj
  have hc := h.dcell (i := i * n + j) (by rw [h.len]; exact hidx)
  have c0 : w.cell? ⟨p, 0, none⟩ = some (.int .i64 m.num) := h.blk.cell (o := 0) (by omega)
  have c1 : w.cell? ⟨p, 1, none⟩ = some (.int .i64 n) := h.blk.cell (o := 1) (by omega)
  have ci : w.cell? ⟨p, 2 + i, none⟩ = some (.int .i64 (c i).length) := by rw [h.blk.cell (o := 2 + i) (by omega), objSz _ _ _ _ (by omega)]
  have cj : w.cell? ⟨p, 2 + j, none⟩ = some (.int .i64 (c j).length) := by rw [h.blk.cell (o := 2 + j) (by omega), objSz _ _ _ _ (by omega)]
  have cd : w.cell? ⟨p, 130, none⟩ = some (.slice (some ⟨g, 0, none⟩) (n * n) cap) := h.blk.cell (o := 130) (by omega)
  have hpl := h.blk.lt
  have hgl := h.row.lt
  have hcast : ((i * n : Nat) : Int) = (i : Int) * n := Int.natCast_mul ..
  have w1 : IntKind.i64.wrap ((i : Int) * n) = ((i * n : Nat) : Int) := by rw [i64_in _ (by omega) (by omega)]; omega
  have w2 : IntKind.i64.wrap (((i * n : Nat) : Int) + j) = ((i * n + j : Nat) : Int) := by rw [i64_in _ (by omega) (by omega)]; omega
  have hli := hl i
  have hlj := hl j
  have hlb : (c i).length * (c j).length ≤ 128 * 128 := Nat.mul_le_mul hli hlj
  have hlc : (((c i).length * (c j).length : Nat) : Int) = ((c i).length : Int) * (c j).length := Int.natCast_mul ..
  have w3 : IntKind.i64.wrap (((c i).length : Int) * (c j).length) = ((c i).length : Int) * (c j).length := by rw [i64_in _ (by omega) (by omega)]
  unfold dfr
  generalize D.getD (i * n + j) 0 = x at *
  obtain ⟨q, hq⟩ : ∃ q, i * n = q := ⟨_, rfl⟩
  rw [hq] at hc hidx w1 w2
  obtain ⟨s, hs⟩ : ∃ s, q + j = s := ⟨_, rfl⟩
  rw [hs] at hc hidx w2
  obtain ⟨N, hN⟩ : ∃ N, n * n = N := ⟨_, rfl⟩
  rw [hN] at hidx cd
  clear hcast hq hs hN h hb hlc
  have hav : m = .average ∨ m ≠ .average := by cases m <;> simp
  rcases hav with rfl | hav
  · have HD := Lib.hid (show den .average (c i) (c j) = ((c i).length : Int) * (c j).length from rfl)
    have c0' : w.cell? ⟨p, 0, none⟩ = some (.int .i64 3) := c0
    clear c0
    go_enter Try.func22, Try.ntmps22
    go_wp2
    go_region
    go_wp2
    go_region
    go_wp2
    refine bodyPost_ret (v := .agg #[.int .i64 x, .int .i64 (((c i).length : Int) * (c j).length)]) (by simp [results, Try.results22, go_sem]) rfl ⟨by rw [HD.out], ?_⟩
    exact (((Upd.refl _ _).alloc _).alloc _).drew.drew
  · have HD := Lib.hid (show den m (c i) (c j) = 1 by cases m <;> first | rfl | exact absurd rfl hav)
    have hm : (m.num == 3) = false := by cases m <;> first | rfl | exact absurd rfl hav
    clear hav
    go_enter Try.func22, Try.ntmps22
    go_wp2
    go_region
    go_wp2
    refine bodyPost_ret (v := .agg #[.int .i64 x, .int .i64 1]) (by simp [results, Try.results22, go_sem]) rfl ⟨by rw [HD.out], ?_⟩
    exact (((Upd.refl _ _).alloc _).alloc _).drew
end Go.Proofs.Ytmkggcmebeagaaa
