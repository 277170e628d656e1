/- The nodes of a bag's search tree in memory, and what its small functions do: height, count, update, first. -/
import Derived.Test.YtocchcclagdjdaaBase
import Derived.Test.YtocchcclagdjdaaBagPlain
namespace Go.Proofs.Ytocchcclagdjdaa
open Go.RowKit Pl

/-- a node of the tree in memory -/
def Nd (w : World) (b : Nat) (x k : Int) (l r : Option Addr) (t s n : Int) : Prop := w.heap[b]? = some (.cells #[.int .i64 x, .int .i64 k, .pointer l, .pointer r, .int .i64 t, .int .i64 s, .int .i64 n] 54 (0, 0))

structure NdC (w : World) (b : Nat) (x k : Int) (l r : Option Addr) (t s n : Int) : Prop where
  c0 : w.cell? ⟨b, 0, none⟩ = some (.int .i64 x)
  c1 : w.cell? ⟨b, 1, none⟩ = some (.int .i64 k)
  c2 : w.cell? ⟨b, 2, none⟩ = some (.pointer l)
  c3 : w.cell? ⟨b, 3, none⟩ = some (.pointer r)
  c4 : w.cell? ⟨b, 4, none⟩ = some (.int .i64 t)
  c5 : w.cell? ⟨b, 5, none⟩ = some (.int .i64 s)
  c6 : w.cell? ⟨b, 6, none⟩ = some (.int .i64 n)
  fz : ∀ o, w.frozen? ⟨b, o, none⟩ = false
theorem Nd.cells {w : World} {b : Nat} {x k : Int} {l r : Option Addr} {t s n : Int} (h : Nd w b x k l r t s n) : NdC w b x k l r t s n := by
  unfold Nd at h
  constructor <;> simp [World.cell?, World.frozen?, h]

theorem Nd.same {w w' : World} {b : Nat} {x k : Int} {l r : Option Addr} {t s n : Int} (h : Nd w b x k l r t s n) (e : w'.heap = w.heap) : Nd w' b x k l r t s n := by
  unfold Nd at *; rw [e]; exact h
theorem Nd.upd {w w' : World} {b : Nat} {x k : Int} {l r : Option Addr} {t s n : Int} (h : Nd w b x k l r t s n) {S : Nat → Prop} (hu : Upd S w w') (hS : ¬ S b) : Nd w' b x k l r t s n := hu.at h hS
theorem Nd.lt {w : World} {b : Nat} {x k : Int} {l r : Option Addr} {t s n : Int} (h : Nd w b x k l r t s n) : b < w.heap.size := heap_lt h
theorem Nd.set2 {w : World} {b : Nat} {x k : Int} {l r : Option Addr} {t s n : Int} (h : Nd w b x k l r t s n) (l' : Option Addr) : Nd (w.setCell ⟨b, 2, none⟩ (.pointer l')) b x k l' r t s n := cells_set _ h
theorem Nd.set3 {w : World} {b : Nat} {x k : Int} {l r : Option Addr} {t s n : Int} (h : Nd w b x k l r t s n) (r' : Option Addr) : Nd (w.setCell ⟨b, 3, none⟩ (.pointer r')) b x k l r' t s n := cells_set _ h

theorem Nd.drew {w : World} {b : Nat} {x k : Int} {l r : Option Addr} {t s n : Int} (h : Nd w b x k l r t s n) : Nd w.drew b x k l r t s n := h
theorem Nd.drewN {w : World} {b : Nat} {x k : Int} {l r : Option Addr} {t s n : Int} (h : Nd w b x k l r t s n) (j : Nat) : Nd (w.drewN j) b x k l r t s n := h

/-- what a subtree's root says of it; its root is another block than b -/
def Kid (w : World) (b : Nat) (p : Option Addr) (t s n : Int) : Prop :=
  (p = none ∧ t = 0 ∧ s = 0 ∧ n = 0) ∨ ∃ c x k l r, c ≠ b ∧ p = some ⟨c, 0, none⟩ ∧ Nd w c x k l r t s n
theorem Kid.upd {w w' : World} {b : Nat} {p : Option Addr} {t s n : Int} (h : Kid w b p t s n) {S : Nat → Prop} (hu : Upd S w w') (hS : ∀ c, S c → c = b ∨ w.heap.size ≤ c) : Kid w' b p t s n := by
  rcases h with h | ⟨c, x, k, l, r, hne, hp, h⟩
  · exact .inl h
  · refine .inr ⟨c, x, k, l, r, hne, hp, ?_⟩
    unfold Nd at *
    have hlt := (Array.getElem?_eq_some_iff.1 h).1
    rw [hu.block c hlt (fun hs => by rcases hS c hs with h1 | h1; exact hne h1; omega), h]
theorem Kid.same {w w' : World} {b : Nat} {p : Option Addr} {t s n : Int} (h : Kid w b p t s n) (e : w'.heap = w.heap) : Kid w' b p t s n := by
  unfold Kid Nd at *; rw [e]; exact h

theorem height_any {w : World} {b : Nat} {p : Option Addr} {t s n : Int} (h : Kid w b p t s n) : Calls Try.prog 44 #[.pointer p] w fun e w' => e = .returned (.int .i64 t) ∧ w' = w := by
  rcases h with ⟨rfl, rfl, rfl, rfl⟩ | ⟨c, x, k, l, r, hne, rfl, h⟩
  · go_enter Try.func44, Try.ntmps44
    go_wp2
    go_ret
    exact ⟨rfl, rfl⟩
  · have h4 := h.cells.c4
    go_enter Try.func44, Try.ntmps44
    go_wp2
    go_ret
    exact ⟨rfl, rfl⟩

theorem count_any {w : World} {b : Nat} {p : Option Addr} {t s n : Int} (h : Kid w b p t s n) : Calls Try.prog 28 #[.pointer p] w fun e w' => e = .returned (.tuple #[.int .i64 s, .int .i64 n]) ∧ ∃ n, w.drewN n = w' := by
  rcases h with ⟨rfl, rfl, rfl, rfl⟩ | ⟨c, x, k, l, r, hne, rfl, h⟩
  · go_enter Try.func28, Try.ntmps28
    go_wp2
    go_ret2
    exact ⟨rfl, 0, rfl⟩
  · have h5 := h.cells.c5
    have h6 := h.cells.c6
    go_enter Try.func28, Try.ntmps28
    go_wp2
    go_quiet (fail)
    go_wp2
    go_ret2
    exact ⟨rfl, _, rfl⟩

set_option maxHeartbeats 1000000 in
theorem update_any (w : World) (b : Nat) (x k : Int) (l r : Option Addr) (t s n tl sl nl tr sr nr : Int) (hb : Nd w b x k l r t s n) (hl : Kid w b l tl sl nl) (hr : Kid w b r tr sr nr)
    (btl : 0 ≤ tl) (btl' : tl ≤ 2147483647) (btr : 0 ≤ tr) (btr' : tr ≤ 2147483647) (bsl : 0 ≤ sl) (bsr : 0 ≤ sr) (bnl : 0 ≤ nl) (bnr : 0 ≤ nr) (bs : k + sl + sr ≤ 2147483647) (bk : 0 ≤ k) (bn : nl + nr ≤ 2147483647) :
    Calls Try.prog 38 #[.pointer (some ⟨b, 0, none⟩)] w fun e w' => e = .returned (.pointer (some ⟨b, 0, none⟩)) ∧ Upd (fun i => i = b) w w' ∧ Nd w' b x k l r (max (1 + tl) (1 + tr)) (k + sl + sr) (1 + nl + nr) := by
  obtain ⟨c0, c1, c2, c3, c4, c5, c6, hf⟩ := hb.cells
  have i0 : ∀ w, (Instr.index 52 (.agg #[.pointer l, .pointer r]) (.int .i64 0)).run Try.prog w = .ok (.pointer l) w := fun _ => by kernel_rfl
  have i1 : ∀ w, (Instr.index 52 (.agg #[.pointer l, .pointer r]) (.int .i64 1)).run Try.prog w = .ok (.pointer r) w := fun _ => by kernel_rfl
  have ew1 : IntKind.i64.wrap (1 + tl) = 1 + tl := IntWalk.i64_in _ (by omega)
  have ew2 : IntKind.i64.wrap (1 + tr) = 1 + tr := IntWalk.i64_in _ (by omega)
  have ei1 : (if 1 < 1 + tl then 1 + tl else 1) = 1 + tl := by split <;> omega
  obtain ⟨m, hm⟩ : ∃ m, (if 1 + tl < 1 + tr then 1 + tr else 1 + tl) = m := ⟨_, rfl⟩
  have hm' : max (1 + tl) (1 + tr) = m := by rw [← hm]; split <;> omega
  rw [hm']
  have EW1 := Lib.hid ew1
  have EW2 := Lib.hid ew2
  have EI1 := Lib.hid ei1
  have HM := Lib.hid hm
  clear hm hm' ew1 ew2 ei1
  go_enter Try.func38, Try.ntmps38
  go_wp2
  refine wp_world (fun w1 => Upd (fun i => i = b) w w1 ∧ Nd w1 b x k l r 1 k 1) ⟨?_, ?_⟩ ?_
  · exact (((Upd.refl _ _).setB _ _).setB _ _).setB _ _
  · exact cells_set _ (cells_set _ (cells_set _ hb))
  rintro w1 ⟨hu, hn⟩
  have hl1 := hl.upd hu (fun c h => .inl h)
  have hr1 := hr.upd hu (fun c h => .inl h)
  clear c0 c1 c2 c3 c4 c5 c6 hf
  obtain ⟨c0, c1, c2, c3, c4, c5, c6, hf⟩ := hn.cells
  refine wp_loop_rounds 3 ?_
  rw [rounds_succ]
  go_wp2_with fail
  refine (count_any hl1).mono ?_
  rintro e w2 ⟨rfl, nn, rfl⟩
  go_wp2_with fail
  refine wp_region_tail 11 (by kernel_rfl) (by kernel_rfl) ?_
  simp only [List.take_succ_cons, List.take_zero, List.drop_succ_cons, List.drop_zero]
  repeat still_step
  still_call (height_any (hl1.same rfl))
  repeat still_step
  refine wpStill_nil ?_
  rw [EW1.out, EI1.out]
  go_wp2_with fail
  refine rounds_world (fun w2 => Upd (fun i => i = b) w1 w2 ∧ Nd w2 b x k l r (1 + tl) (k + sl) (1 + nl)) ⟨?_, ?_⟩ ?_
  · exact (((Upd.refl _ _).drewN _).setB _ _ |>.setB _ _).setB _ _
  · exact cells_set _ (cells_set _ (cells_set _ hn))
  rintro w2 ⟨hu2, hn2⟩
  have hr2 := hr1.upd hu2 (fun c h => .inl h)
  clear c0 c1 c2 c3 c4 c5 c6 hf hl1 hr1
  obtain ⟨c0, c1, c2, c3, c4, c5, c6, hf⟩ := hn2.cells
  rw [rounds_succ]
  go_wp2_with fail
  refine (count_any hr2).mono ?_
  rintro e w3 ⟨rfl, nn2, rfl⟩
  go_wp2_with fail
  refine wp_region_tail 11 (by kernel_rfl) (by kernel_rfl) ?_
  simp only [List.take_succ_cons, List.take_zero, List.drop_succ_cons, List.drop_zero]
  repeat still_step
  still_call (height_any (hr2.same rfl))
  repeat still_step
  refine wpStill_nil ?_
  rw [EW2.out, HM.out]
  go_wp2_with fail
  rw [rounds_succ]
  go_wp2_with fail
  go_ret
  refine ⟨rfl, hu.trans (hu2.trans ?_), ?_⟩
  · exact (((Upd.refl _ _).drewN _).setB _ _ |>.setB _ _).setB _ _
  · exact cells_set _ (cells_set _ (cells_set _ hn2))

/-! ### trees -/

/-- a tree, with the blocks of its nodes -/
inductive AT where
  | nil
  | node (b : Nat) (x k : Int) (l r : AT) (t s n : Int)

namespace AT
def adr : AT → Option Addr
  | nil => none
  | node b _ _ _ _ _ _ _ => some ⟨b, 0, none⟩
def items : AT → Items
  | nil => []
  | node _ x k l r _ _ _ => l.items ++ (x, k) :: r.items
def blocks : AT → List Nat
  | nil => []
  | node b _ _ l r _ _ _ => b :: (l.blocks ++ r.blocks)
def ht : AT → Int
  | nil => 0
  | node _ _ _ _ _ t _ _ => t
/-- what each node says of its subtree is right -/
def Good : AT → Prop
  | nil => True
  | node _ _ k l r t s n => 1 ≤ k ∧ 1 ≤ t ∧ t ≤ n ∧ s = k + tot l.items + tot r.items ∧ n = 1 + l.items.length + r.items.length ∧ l.Good ∧ r.Good
def Lies (w : World) : AT → Prop
  | nil => True
  | node b x k l r t s n => Nd w b x k l.adr r.adr t s n ∧ l.Lies w ∧ r.Lies w

theorem Good.pos : ∀ {t : AT}, t.Good → Pos t.items
  | nil, _ => fun _ h => by cases h
  | node _ _ _ _ _ _ _ _, ⟨h1, _, _, _, _, hl, hr⟩ => pos_append.2 ⟨hl.pos, pos_cons.2 ⟨h1, hr.pos⟩⟩
theorem Lies.upd {w w' : World} {S : Nat → Prop} (hu : Upd S w w') : ∀ {t : AT}, t.Lies w → (∀ b ∈ t.blocks, ¬ S b) → t.Lies w'
  | nil, _, _ => trivial
  | node _ _ _ _ _ _ _ _, ⟨h, hl, hr⟩, hS => ⟨hu.at h (hS _ (List.mem_cons_self ..)), hl.upd hu fun b hb => hS b (List.mem_cons_of_mem _ (List.mem_append_left _ hb)), hr.upd hu fun b hb => hS b (List.mem_cons_of_mem _ (List.mem_append_right _ hb))⟩
theorem Lies.same {w w' : World} (e : w'.heap = w.heap) : ∀ {t : AT}, t.Lies w → t.Lies w'
  | nil, _ => trivial
  | node _ _ _ _ _ _ _ _, ⟨h, hl, hr⟩ => ⟨by unfold Nd at *; rw [e]; exact h, hl.same e, hr.same e⟩
theorem Lies.drew {w : World} {t : AT} (h : t.Lies w) : t.Lies w.drew := Lies.same (w := w) (w' := w.drew) rfl h
theorem Lies.drewN {w : World} {t : AT} (h : t.Lies w) (j : Nat) : t.Lies (w.drewN j) := Lies.same (w := w) (w' := w.drewN j) rfl h
theorem Lies.lt {w : World} : ∀ {t : AT}, t.Lies w → ∀ b ∈ t.blocks, b < w.heap.size
  | nil, _, _, h => by cases h
  | node _ _ _ _ _ _ _ _, ⟨h, hl, hr⟩, b, hb => by
    rcases List.mem_cons.1 hb with rfl | hb
    · exact heap_lt h
    · rcases List.mem_append.1 hb with hb | hb
      · exact hl.lt b hb
      · exact hr.lt b hb
/-- the height is not below 0, and at most the number of nodes -/
theorem Good.ht_bd : ∀ {t : AT}, t.Good → 0 ≤ t.ht ∧ t.ht ≤ t.items.length
  | nil, _ => ⟨Int.le_refl _, Int.le_refl _⟩
  | node _ _ _ _ _ _ _ _, ⟨_, h1, h2, _, h3, _, _⟩ => ⟨by show (0 : Int) ≤ _; simp only [ht]; omega, by simp only [ht, items, List.length_append, List.length_cons]; omega⟩
theorem Good.kid {w : World} {b : Nat} : ∀ {t : AT}, t.Good → t.Lies w → b ∉ t.blocks → Kid w b t.adr t.ht (tot t.items) t.items.length
  | nil, _, _, _ => .inl ⟨rfl, rfl, rfl, rfl⟩
  | node c x k l r _ _ _, ⟨_, _, _, hs, hn, _, _⟩, ⟨h, _, _⟩, hb => by
    refine .inr ⟨c, x, k, l.adr, r.adr, fun e => hb (e ▸ List.mem_cons_self ..), rfl, ?_⟩
    subst hs hn
    simp only [ht, items, tot_append, tot, List.length_append, List.length_cons]
    have e1 : tot l.items + (k + tot r.items) = k + tot l.items + tot r.items := by omega
    have e2 : ((l.items.length + (r.items.length + 1) : Nat) : Int) = 1 + l.items.length + r.items.length := by omega
    rw [e1, e2]
    exact h
end AT
theorem height_tree {w : World} {t : AT} (g : t.Good) (h : t.Lies w) : Calls Try.prog 44 #[.pointer t.adr] w fun e w' => e = .returned (.int .i64 t.ht) ∧ w' = w :=
  height_any (b := w.heap.size) (g.kid h (fun hb => by have := h.lt _ hb; omega))
theorem count_tree {w : World} {t : AT} (g : t.Good) (h : t.Lies w) : Calls Try.prog 28 #[.pointer t.adr] w fun e w' => e = .returned (.tuple #[.int .i64 (tot t.items), .int .i64 t.items.length]) ∧ ∃ n, w.drewN n = w' :=
  count_any (b := w.heap.size) (g.kid h (fun hb => by have := h.lt _ hb; omega))
end Go.Proofs.Ytocchcclagdjdaa
