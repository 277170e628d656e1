/- Loops over functions within a loop: their marks; merges in memory. -/
import Derived.Test.YtmkggcmebeagaaaLkStart
import Derived.Test.YtmkggcmebeagaaaCkCmp
import Derived.Test.YtmkggcmebeagaaaCkRed
import Derived.Shelf.Abstract
import Derived.RangeFuncBox
import Derived.Stop.RegionWithIn
namespace Go.Proofs.Ytmkggcmebeagaaa
set_option linter.unusedVariables false
set_option linter.unusedSimpArgs false
open Go.RowKit Lk

attribute [local go_sem] Oper.semAt_some
attribute [local go_sem] wideFn wideDepth

/-- marks of loops over functions, of which no round has deferred anything -/
def markOf (D : Nat) : Deferred := { target := .collected D, args := #[] }
def Marks (n₀ : Nat) (w : World) (Ds : List Nat) : Prop := Ds.Nodup ∧ ∀ D ∈ Ds, n₀ ≤ D ∧ w.heap[D]? = some (.deferred (some []))
theorem Marks.nil (n₀ : Nat) (w : World) : Marks n₀ w [] := ⟨List.nodup_nil, fun _ h => by cases h⟩
theorem Marks.upd {n₀ : Nat} {w w' : World} {Ds : List Nat} {S : Nat → Prop} (h : Marks n₀ w Ds) (hu : Upd S w w') (hS : ∀ D ∈ Ds, ¬ S D) : Marks n₀ w' Ds := ⟨h.1, fun D hD => ⟨(h.2 D hD).1, hu.at (h.2 D hD).2 (hS D hD)⟩⟩
theorem Marks.cons {n₀ : Nat} {w : World} {Ds : List Nat} {D : Nat} (h : Marks n₀ w Ds) (hD : w.heap[D]? = some (.deferred (some []))) (hn : n₀ ≤ D) (hne : D ∉ Ds) : Marks n₀ w (D :: Ds) :=
  ⟨List.nodup_cons.2 ⟨hne, h.1⟩, fun d hd => by
    rcases List.mem_cons.1 hd with rfl | hd
    · exact ⟨hn, hD⟩
    · exact h.2 d hd⟩
theorem Marks.ne {n₀ : Nat} {w : World} {Ds : List Nat} (h : Marks n₀ w Ds) {b : Nat} {cs : Array Value} {E : TypeId} {fz : Nat × Nat} (hb : w.heap[b]? = some (.cells cs E fz)) : b ∉ Ds := fun hm => by
  have := (h.2 b hm).2; rw [hb] at this; cases this
/-- on the way out the marks are shut -/
theorem leaves_marks {F : Fence} {n : Nat} {P : Program} {fn : Func} {tmps : Array Value} {R : Ending → World → Prop} (n₀ : Nat) : ∀ (Ds : List Nat) (w : World), Marks n₀ w Ds →
    (∀ w', w'.heap.size = w.heap.size → w'.os = w.os → w'.tape = w.tape → w'.output = w.output → (∀ k, k ∉ Ds → w'.heap[k]? = w.heap[k]?) → LeavesInM F n P fn tmps R [] .returning w') → LeavesInM F n P fn tmps R (Ds.map markOf) .returning w
  | [], w, _, h => h w rfl rfl rfl rfl fun _ _ => rfl
  | D :: Ds, w, hm, h => by
    obtain ⟨h1, h2⟩ := List.nodup_cons.1 hm.1
    have hK := (hm.2 D (List.mem_cons_self ..)).2
    refine ⟨by simp, .inl ⟨D, _, rfl, run_takeDeferred hK, leaves_marks n₀ Ds _ ⟨h2, fun d hd => ⟨(hm.2 d (List.mem_cons_of_mem _ hd)).1, ?_⟩⟩ fun w' e1 e2 e3 e4 e5 => h w' ?_ e2 e3 e4 fun k hk => ?_⟩⟩
    · exact (World.putObj_heap_other (by rintro rfl; exact h1 hd)).trans (hm.2 d (List.mem_cons_of_mem _ hd)).2
    · rw [e1]; simp
    · rw [e5 k (fun hh => hk (List.mem_cons_of_mem _ hh)), World.putObj_heap_other (by rintro rfl; exact hk (List.mem_cons_self ..))]

theorem lit71 : ∀ l : List Value, l.length = 71 → ∃ x0 x1 x2 x3 x4 x5 x6 x7 x8 x9 x10 x11 x12 x13 x14 x15 x16 x17 x18 x19 x20 x21 x22 x23 x24 x25 x26 x27 x28 x29 x30 x31 x32 x33 x34 x35 x36 x37 x38 x39 x40 x41 x42 x43 x44 x45 x46 x47 x48 x49 x50 x51 x52 x53 x54 x55 x56 x57 x58 x59 x60 x61 x62 x63 x64 x65 x66 x67 x68 x69 x70, l = [x0, x1, x2, x3, x4, x5, x6, x7, x8, x9, x10, x11, x12, x13, x14, x15, x16, x17, x18, x19, x20, x21, x22, x23, x24, x25, x26, x27, x28, x29, x30, x31, x32, x33, x34, x35, x36, x37, x38, x39, x40, x41, x42, x43, x44, x45, x46, x47, x48, x49, x50, x51, x52, x53, x54, x55, x56, x57, x58, x59, x60, x61, x62, x63, x64, x65, x66, x67, x68, x69, x70] := by
  intro l hl
  match l, hl with
  | x0 :: x1 :: x2 :: x3 :: x4 :: x5 :: x6 :: x7 :: x8 :: x9 :: x10 :: x11 :: x12 :: x13 :: x14 :: x15 :: x16 :: x17 :: x18 :: x19 :: x20 :: x21 :: x22 :: x23 :: x24 :: x25 :: x26 :: x27 :: x28 :: x29 :: x30 :: x31 :: x32 :: x33 :: x34 :: x35 :: x36 :: x37 :: x38 :: x39 :: x40 :: x41 :: x42 :: x43 :: x44 :: x45 :: x46 :: x47 :: x48 :: x49 :: x50 :: x51 :: x52 :: x53 :: x54 :: x55 :: x56 :: x57 :: x58 :: x59 :: x60 :: x61 :: x62 :: x63 :: x64 :: x65 :: x66 :: x67 :: x68 :: x69 :: x70 :: [], _ => exact ⟨x0, x1, x2, x3, x4, x5, x6, x7, x8, x9, x10, x11, x12, x13, x14, x15, x16, x17, x18, x19, x20, x21, x22, x23, x24, x25, x26, x27, x28, x29, x30, x31, x32, x33, x34, x35, x36, x37, x38, x39, x40, x41, x42, x43, x44, x45, x46, x47, x48, x49, x50, x51, x52, x53, x54, x55, x56, x57, x58, x59, x60, x61, x62, x63, x64, x65, x66, x67, x68, x69, x70, rfl⟩

/-- merges, cell by cell -/
def cellsM (x : Mg) : List Value := [.int .i64 x.a, .int .i64 x.b, .int .i64 x.f.1, .int .i64 x.f.2, .int .i64 x.size]
def flatM (L : List Mg) : List Value := L.flatMap cellsM

/-- what keeps all but some blocks of cells keeps whatever is no cells -/
theorem keepsFrom_upd {S : Nat → Prop} {W W' : World} (hu : Upd S W W') (hS : ∀ k, S k → ∃ cs E fz, W.heap[k]? = some (.cells cs E fz)) (B : Nat) : KeepsFrom B W W' :=
  ⟨hu.size, fun k o _ hk ho => by
    refine (hu.block k (Array.getElem?_eq_some_iff.1 hk).1 fun h => ?_).trans hk
    obtain ⟨cs, E, fz, hc⟩ := hS k h
    rw [hc] at hk; cases hk; cases ho⟩
theorem Upd.grownFar {S : Nat → Prop} {a b c : World} {row : Option Nat} (h : Upd S a b) (hg : b.grownBy c row) (hr : ∀ r, row = some r → a.heap.size ≤ r) : Upd S a c :=
  ⟨hg.os.trans h.os, hg.tape.trans h.tape, hg.output.trans h.output, Nat.le_trans h.size hg.size, fun k hk hS => (hg.block k (Nat.lt_of_lt_of_le hk h.size) (fun e => by have := hr k e.symm; omega)).trans (h.block k hk hS)⟩
theorem cells_far {W W' : World} {row : Option Nat} {b : Nat} {cs : Array Value} {E : TypeId} {fz : Nat × Nat} (h : W.heap[b]? = some (.cells cs E fz)) (hg : W.grownBy W' row) (hr : ∀ r, row = some r → ∃ o : Go.Obj, W.heap[r]? = some o ∧ o.isCells = false) : W'.heap[b]? = some (.cells cs E fz) :=
  (hg.block b (heap_lt h) (fun e => by
    obtain ⟨o, ho, hc⟩ := hr b e.symm
    rw [h] at ho; cases ho; cases hc)).trans h

theorem wideFnR (l : Nat) (f : FuncId) : (Fence.wide.inRound l).fn f = True := rfl
theorem wideDepthR (l : Nat) : (Fence.wide.inRound l).depth = none := rfl
/-- the fraction of a pair, as natural numbers -/
theorem rat_nat {m : Mt} {d : Nat → Nat → Int} {n : Nat} {c : Cl} (hd : Dist n d) (hc : Base n c) {q : Nat × Nat} (hq : q ∈ prs c n) : ∃ u v : Nat, rat m d c q = ((u : Int), (v : Int)) ∧ 1 ≤ v ∧ u ≤ 18014398509481984 ∧ v ≤ 16384 := by
  obtain ⟨h1, h2, h3, h4⟩ := mem_prs.1 hq
  obtain ⟨b1, b2, b3, b4, _⟩ := hd.num_bd hc m h3 h4
  refine ⟨(num m d (c q.1) (c q.2)).toNat, (den m (c q.1) (c q.2)).toNat, ?_, by omega, by omega, by omega⟩
  simp only [rat]
  rw [Int.toNat_of_nonneg b1, Int.toNat_of_nonneg (by omega)]
/-- the best pair so far -/
def BestIs (r : Nat × Nat → Int × Int) (l : List (Nat × Nat)) (av bv : Int) (fv : Int × Int) : Prop :=
  match pick r l with
  | none => av = -1 ∧ bv = -1 ∧ fv = (0, 0)
  | some q => av = q.1 ∧ bv = q.2 ∧ fv = r q
theorem bestIs_none {r : Nat × Nat → Int × Int} {l : List (Nat × Nat)} (h : pick r l = none) (q : Nat × Nat) : BestIs r (l ++ [q]) q.1 q.2 (r q) := by
  unfold BestIs; rw [pick_snoc, h]; exact ⟨rfl, rfl, rfl⟩
theorem bestIs_less {r : Nat × Nat → Int × Int} {l : List (Nat × Nat)} {b q : Nat × Nat} (h : pick r l = some b) (hl : lt (r q) (r b)) : BestIs r (l ++ [q]) q.1 q.2 (r q) := by
  unfold BestIs; rw [pick_snoc, h]; simp only [pickF]; rw [if_pos hl]; exact ⟨rfl, rfl, rfl⟩
theorem bestIs_not {r : Nat × Nat → Int × Int} {l : List (Nat × Nat)} {b q : Nat × Nat} (h : pick r l = some b) (hl : ¬ lt (r q) (r b)) : BestIs r (l ++ [q]) b.1 b.2 (r b) := by
  unfold BestIs; rw [pick_snoc, h]; simp only [pickF]; rw [if_neg hl]; exact ⟨rfl, rfl, rfl⟩

/-- where the choice of a pair stands -/
def Choosing (r : Nat × Nat → Int × Int) (w3 : World) (Ba Bb Bf : Nat) (l : List (Nat × Nat)) (W : World) : Prop :=
  ∃ av bv fv, BestIs r l av bv fv ∧ W.heap[Ba]? = some (.cells #[.int .i64 av] 3 (0, 0)) ∧ W.heap[Bb]? = some (.cells #[.int .i64 bv] 3 (0, 0)) ∧ W.heap[Bf]? = some (.cells #[.int .i64 fv.1, .int .i64 fv.2] 38 (0, 0)) ∧
    Upd (fun b => b = Ba ∨ b = Bb ∨ b = Bf) w3 W
theorem choosing_own {c : Cl} {n : Nat} (r : Nat × Nat → Int × Int) (w3 : World) (Ba Bb Bf : Nat) : OwnFrom w3.heap.size (fun (pre : List (Pr c n)) W => Choosing r w3 Ba Bb Bf (pre.map (·.1)) W) := by
  rintro s X Y row ⟨av, bv, fv, h1, h2, h3, h4, h5⟩ hg hr
  exact ⟨av, bv, fv, h1, cells_far h2 hg (fun k e => (hr k e).2), cells_far h3 hg (fun k e => (hr k e).2), cells_far h4 hg (fun k e => (hr k e).2), h5.grownFar hg fun k e => (hr k e).1⟩
theorem Upd.heapEq {S : Nat → Prop} {a b c : World} (h : Upd S a b) (e1 : c.heap = b.heap) (e2 : c.os = b.os) (e3 : c.tape = b.tape) (e4 : c.output = b.output) : Upd S a c := ⟨e2.trans h.os, e3.trans h.tape, e4.trans h.output, by rw [e1]; exact h.size, fun k hk hs => by rw [e1]; exact h.block k hk hs⟩
theorem choose_keep {c : Cl} {n : Nat} {r : Nat × Nat → Int × Int} {w3 W W' : World} {Ba p B : Nat} {pre : List (Pr c n)} {x : Pr c n} {a' : Act} {av bv fu fv : Int}
    (hA : W.heap[Ba]? = some (.cells #[.int .i64 av] 3 (0, 0))) (hB : W.heap[Ba + 1]? = some (.cells #[.int .i64 bv] 3 (0, 0))) (hF : W.heap[Ba + 1 + 1]? = some (.cells #[.int .i64 fu, .int .i64 fv] 38 (0, 0)))
    (hu : Upd (fun b => b = Ba ∨ b = Ba + 1 ∨ b = Ba + 1 + 1) w3 W) (hbest : BestIs r ((pre ++ [x]).map (·.1)) av bv (fu, fv)) (hu4 : Upd (fun _ => False) W W') (hp : p < W.heap.size) (hBB : Ba + 1 + 1 + 1 < W.heap.size) :
    ownPostG B (KeptB [p, Ba + 1 + 1 + 1]) (fun pre W => Choosing r w3 Ba (Ba + 1) (Ba + 1 + 1) (pre.map (·.1)) W) (fun _ _ _ => False) (pre ++ [x]) W .normal a' W' := by
  refine ⟨keepsFrom_upd hu4 (fun _ h => h.elim) _, fun b hb => hu4.block b (by simp at hb; omega) (fun h => h), ?_⟩
  exact ⟨av, bv, (fu, fv), hbest, hu4.at hA (fun h => h), hu4.at hB (fun h => h), hu4.at hF (fun h => h), hu.trans (hu4.mono fun _ _ h => h.elim)⟩
theorem choose_set {c : Cl} {n : Nat} {r : Nat × Nat → Int × Int} {w3 W w4 : World} {Ba p B : Nat} {o : Go.Obj} {pre : List (Pr c n)} {x : Pr c n} {a' : Act} {av bv fu fv : Int}
    (hA : W.heap[Ba]? = some (.cells #[.int .i64 av] 3 (0, 0))) (hB : W.heap[Ba + 1]? = some (.cells #[.int .i64 bv] 3 (0, 0))) (hF : W.heap[Ba + 1 + 1]? = some (.cells #[.int .i64 fu, .int .i64 fv] 38 (0, 0)))
    (hu : Upd (fun b => b = Ba ∨ b = Ba + 1 ∨ b = Ba + 1 + 1) w3 W) (hu4 : Upd (fun _ => False) W w4) (hp : p < Ba) (hBB : Ba + 1 + 1 + 1 < W.heap.size) {i j u v : Int} (hbest : BestIs r ((pre ++ [x]).map (·.1)) i j (u, v)) :
    ownPostG B (KeptB [p, Ba + 1 + 1 + 1]) (fun pre W => Choosing r w3 Ba (Ba + 1) (Ba + 1 + 1) (pre.map (·.1)) W) (fun _ _ _ => False) (pre ++ [x]) W .normal a'
      (((((w4.setCell ⟨Ba, 0, none⟩ (.int .i64 i)).setCell ⟨Ba + 1, 0, none⟩ (.int .i64 j)).setCell ⟨Ba + 1 + 1, 0, none⟩ (.int .i64 u)).setCell ⟨Ba + 1 + 1, 1, none⟩ (.int .i64 v)).alloc o).drew := by
  have hU : Upd (fun b => b = Ba ∨ b = Ba + 1 ∨ b = Ba + 1 + 1) W (((((w4.setCell ⟨Ba, 0, none⟩ (.int .i64 i)).setCell ⟨Ba + 1, 0, none⟩ (.int .i64 j)).setCell ⟨Ba + 1 + 1, 0, none⟩ (.int .i64 u)).setCell ⟨Ba + 1 + 1, 1, none⟩ (.int .i64 v)).alloc o).drew :=
    ((((((hu4.mono fun _ _ h => h.elim).setCell (.inl (.inl rfl)) _).setCell (.inl (.inr (.inl rfl))) _).setCell (.inl (.inr (.inr rfl))) _).setCell (.inl (.inr (.inr rfl))) _).alloc _).drew
  refine ⟨keepsFrom_upd hU ?_ _, fun b hb => hU.block b ?_ ?_, ?_⟩
  · rintro k (rfl | rfl | rfl)
    · exact ⟨_, _, _, hA⟩
    · exact ⟨_, _, _, hB⟩
    · exact ⟨_, _, _, hF⟩
  · have := heap_lt hF; simp at hb; omega
  · simp at hb; omega
  · have hA0 := hu4.at hA (fun h => h)
    have hB0 := hu4.at hB (fun h => h)
    have hF0 := hu4.at hF (fun h => h)
    have low : ∀ {X : World} {k : Nat} {ob : Go.Obj}, X.heap[k]? = some ob → (X.alloc o).drew.heap[k]? = some ob := fun h => (Below.heap_alloc _ _ _ (heap_lt h)).trans h
    refine ⟨i, j, (u, v), hbest, low ?_, low ?_, low ?_, hu.trans hU⟩
    · rw [heap_set_other _ (by omega), heap_set_other _ (by omega), heap_set_other _ (by omega)]
      exact cells_set (o := 0) _ hA0
    · rw [heap_set_other _ (by omega), heap_set_other _ (by omega)]
      exact cells_set (o := 0) _ ((heap_set_other _ (by omega)).trans hB0)
    · exact cells_set (o := 1) _ (cells_set (o := 0) _ ((heap_set_other _ (by omega)).trans ((heap_set_other _ (by omega)).trans hF0)))
theorem choose_set0 {c : Cl} {n : Nat} {r : Nat × Nat → Int × Int} {w3 W w4 : World} {Ba p B : Nat} {pre : List (Pr c n)} {x : Pr c n} {a' : Act} {av bv fu fv : Int}
    (hA : W.heap[Ba]? = some (.cells #[.int .i64 av] 3 (0, 0))) (hB : W.heap[Ba + 1]? = some (.cells #[.int .i64 bv] 3 (0, 0))) (hF : W.heap[Ba + 1 + 1]? = some (.cells #[.int .i64 fu, .int .i64 fv] 38 (0, 0)))
    (hu : Upd (fun b => b = Ba ∨ b = Ba + 1 ∨ b = Ba + 1 + 1) w3 W) (hu4 : Upd (fun _ => False) W w4) (hp : p < Ba) (hBB : Ba + 1 + 1 + 1 < W.heap.size) {i j u v : Int} (hbest : BestIs r ((pre ++ [x]).map (·.1)) i j (u, v)) :
    ownPostG B (KeptB [p, Ba + 1 + 1 + 1]) (fun pre W => Choosing r w3 Ba (Ba + 1) (Ba + 1 + 1) (pre.map (·.1)) W) (fun _ _ _ => False) (pre ++ [x]) W .normal a'
      (((((w4.setCell ⟨Ba, 0, none⟩ (.int .i64 i)).setCell ⟨Ba + 1, 0, none⟩ (.int .i64 j)).setCell ⟨Ba + 1 + 1, 0, none⟩ (.int .i64 u)).setCell ⟨Ba + 1 + 1, 1, none⟩ (.int .i64 v))).drew := by
  have hU : Upd (fun b => b = Ba ∨ b = Ba + 1 ∨ b = Ba + 1 + 1) W (((((w4.setCell ⟨Ba, 0, none⟩ (.int .i64 i)).setCell ⟨Ba + 1, 0, none⟩ (.int .i64 j)).setCell ⟨Ba + 1 + 1, 0, none⟩ (.int .i64 u)).setCell ⟨Ba + 1 + 1, 1, none⟩ (.int .i64 v))).drew :=
    ((((((hu4.mono fun _ _ h => h.elim).setCell (.inl (.inl rfl)) _).setCell (.inl (.inr (.inl rfl))) _).setCell (.inl (.inr (.inr rfl))) _).setCell (.inl (.inr (.inr rfl))) _)).drew
  refine ⟨keepsFrom_upd hU ?_ _, fun b hb => hU.block b ?_ ?_, ?_⟩
  · rintro k (rfl | rfl | rfl)
    · exact ⟨_, _, _, hA⟩
    · exact ⟨_, _, _, hB⟩
    · exact ⟨_, _, _, hF⟩
  · have := heap_lt hF; simp at hb; omega
  · simp at hb; omega
  · have hA0 := hu4.at hA (fun h => h)
    have hB0 := hu4.at hB (fun h => h)
    have hF0 := hu4.at hF (fun h => h)
    have low : ∀ {X : World} {k : Nat} {ob : Go.Obj}, X.heap[k]? = some ob → X.drew.heap[k]? = some ob := fun h => h
    refine ⟨i, j, (u, v), hbest, low ?_, low ?_, low ?_, hu.trans hU⟩
    · rw [heap_set_other _ (by omega), heap_set_other _ (by omega), heap_set_other _ (by omega)]
      exact cells_set (o := 0) _ hA0
    · rw [heap_set_other _ (by omega), heap_set_other _ (by omega)]
      exact cells_set (o := 0) _ ((heap_set_other _ (by omega)).trans hB0)
    · exact cells_set (o := 1) _ (cells_set (o := 0) _ ((heap_set_other _ (by omega)).trans ((heap_set_other _ (by omega)).trans hF0)))
theorem own_slice' {w : World} {n₀ : Nat} {E : TypeId} {size : Nat} {v : Value} {n : Nat} {xs : List Value} (h : w.ownsRow n₀ E size v n xs) : ∃ A cap, v = .slice A n cap := by
  obtain ⟨hl, ⟨rfl, h0⟩ | ⟨g, cap, cur, rfl, _⟩⟩ := h
  · exact ⟨_, 0, by rw [h0]⟩
  · exact ⟨_, _, rfl⟩
theorem ownsRow_upd {S : Nat → Prop} {w w' : World} {n₀ : Nat} {E : TypeId} {size : Nat} {v : Value} {n : Nat} {xs : List Value} (h : w.ownsRow n₀ E size v n xs) (hu : Upd S w w') (hS : ∀ g cur, n₀ ≤ g → w.heap[g]? = some (.cells cur E (0, 0)) → ¬ S g) : w'.ownsRow n₀ E size v n xs := by
  obtain ⟨hl, h0 | ⟨g, cap, cur, rfl, hg, hh, h1⟩⟩ := h
  · exact ⟨hl, .inl h0⟩
  · exact ⟨hl, .inr ⟨g, cap, cur, rfl, hg, hu.at hh (hS g cur hg hh), h1⟩⟩
theorem own_block {w : World} {n₀ : Nat} {E : TypeId} {size : Nat} {v : Value} {n : Nat} {xs : List Value} (h : w.ownsRow n₀ E size v n xs) {b : Nat} (hb : v.ownBlock = some b) : n₀ ≤ b ∧ ∃ cur, w.heap[b]? = some (.cells cur E (0, 0)) := by
  obtain ⟨hl, ⟨rfl, _⟩ | ⟨g, cap, cur, rfl, hg, hh, _⟩⟩ := h
  · simp [Value.ownBlock] at hb
  · have : g = b := by simpa [Value.ownBlock] using hb
    subst this
    exact ⟨hg, cur, hh⟩
theorem ne_type {w : World} {b b' : Nat} {c c' : Array Value} {E E' : TypeId} {f f' : Nat × Nat} (h : w.heap[b]? = some (.cells c E f)) (h' : w.heap[b']? = some (.cells c' E' f')) (hE : E ≠ E') : b ≠ b' := by
  rintro rfl
  rw [h] at h'
  cases h'
  exact hE rfl
theorem Upd.ofGrown {w w' : World} {v : Value} (hg : w.grownBy w' v.ownBlock) : Upd (fun b => v.ownBlock = some b) w w' := ⟨hg.os, hg.tape, hg.output, hg.size, fun k hk hS => hg.block k hk (fun e => hS e.symm)⟩
theorem flatM_append (a b : List Mg) : flatM (a ++ b) = flatM a ++ flatM b := by simp [flatM]
theorem runL_length (m : Mt) (d : Nat → Nat → Int) (n : Nat) : (runL m d n).length = n - 1 := by simp [runL]
theorem runL_take (m : Mt) (d : Nat → Nat → Int) {n t : Nat} (h : t < n - 1) : (runL m d n).take (t + 1) = (runL m d n).take t ++ [mgOf m d n (st m d n t)] := by
  rw [← List.take_append_getElem (by rw [runL_length]; exact h)]
  simp [runL]
/-- a run's answer -/
def Ran (w : World) (L : List Mg) (e : Ending) (w' : World) : Prop :=
  ∃ v, e = .returned (.tuple #[v, .int .i64 0]) ∧ w'.ownsRow w.heap.size 49 5 v L.length (flatM L) ∧ Upd (fun _ => False) w w'
theorem merge_info : (Try.prog.info? 49).map (fun i => (i.zero, i.size, i.bytes)) = some (some (.agg #[.int .i64 0, .int .i64 0, .int .i64 0, .int .i64 0, .int .i64 0]), 5, 40) := by kernel_rfl
end Go.Proofs.Ytmkggcmebeagaaa
