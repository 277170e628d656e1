/- All: the iterator of a bag; items: what it goes over, in a list. -/
import Derived.Test.YtocchcclagdjdaaBagWalk
import Derived.RangeFuncBox
import Derived.Maps.AppendAt
import Derived.Laws.AppendOwn
namespace Go.Proofs.Ytocchcclagdjdaa
open Go.RowKit Pl

attribute [local go_sem] Oper.semAt_some wide_fn wide_depth

theorem all_any (p0 : Option Addr) (w : World) :
    Calls Try.prog 29 #[.pointer p0] w fun e w' => e = .returned (.func (.func 36) #[] #[.pointer (some ⟨w.heap.size, 0, none⟩)]) ∧ w' = w.alloc (.cells #[.pointer p0] 24) := by
  go_enter Try.func29, Try.ntmps29
  go_wp2
  go_ret
  exact ⟨rfl, rfl⟩

theorem wide_round {m k : Nat} {P : Program} {l : Nat} {f : FuncId} {tmps : Array Value} {assign body : Code} {w : World} {R : Ending → World → Prop} (h : RoundIn Fence.wide m P l f tmps assign body w R) : RoundIn Fence.wide k P l f tmps assign body w R :=
  ⟨trivial, fun c cs _ => h.2 c cs (room_wide _)⟩
theorem wide_yield {m k : Nat} {P : Program} {l : Nat} {args : Array Value} {w : World} {R : Ending → World → Prop} (h : YieldAt Fence.wide m P l args w R) : YieldAt Fence.wide k P l args w R := by
  obtain ⟨fn, tm, am, bd, he, hr⟩ := h
  exact ⟨fn, tm, am, bd, he, wide_round hr⟩

theorem Upd.of_below0 {w w' : World} (h : Below w.heap.size w w') : Upd (fun _ => False) w w' := ⟨h.os, h.tape, h.output, h.size, fun k hk _ => h.block k hk⟩

/-- every item of L, in its order -/
def its (L : Items) : List (It L) := L.attach
theorem its_map (L : Items) : (its L).map (·.1) = L := List.attach_map_subtype_val L
theorem its_length (L : Items) : (its L).length = L.length := by simp [its]

set_option maxRecDepth 100000 in
set_option maxHeartbeats 1000000 in
theorem all1_in {w0 : World} {p : Nat} {L : Items} {fp : List Nat} (hb0 : Bag w0 p L fp) (n₀ B n l : Nat) (_hn₀ : n₀ ≤ w0.heap.size) (hfp : ∀ b ∈ fp, b < n₀) (W : World) (hW : Below w0.heap.size w0 W) (hB : W.cell? ⟨B, 0, none⟩ = some (.pointer (some ⟨p, 0, none⟩)))
    (J Jx : List (It L) → World → Prop) (hJ : ∀ s W, J s W → J s W.drew)
    (hY : ∀ pre x W1, J pre W1 → pre.length < L.length → YieldAt Fence.wide (n - 1) Try.prog l (itVals x) W1 fun e W' =>
      (e = .returned (.bool true) ∧ J (pre ++ [x]) W' ∧ Below n₀ W1 W') ∨ (e = .returned (.bool false) ∧ Jx (pre ++ [x]) W')) (h0 : J [] W) :
    CallsIn Fence.wide n Try.prog 36 #[.func (.yield l) #[] #[], .pointer (some ⟨B, 0, none⟩)] W fun e W' => (∃ v, e = .returned v) ∧ ((∃ xs : List (It L), xs.map (·.1) = L ∧ J xs W') ∨ (∃ pre : List (It L), pre.map (·.1) <+: L ∧ Jx pre W')) := by
  obtain ⟨t, hp, hT, hi, hs, hle, rfl, hn⟩ := hb0
  have hp1 : W.heap[p]? = _ := (hW.block p (heap_lt hp)).trans hp
  have hT1 : t.Lies W := AT.Lies.kept (fp := t.blocks) (fun b hb => hW.block b (hT.lies.lt b hb)) hT.lies fun _ h => h
  have c0 : W.cell? ⟨p, 1, none⟩ = some (.pointer t.adr) := cell_of hp1 1
  refine callsIn_of_wp Try.func36 rfl trivial ?_ rfl
  simp only [Try.ntmps36, List.size_toArray, List.length_cons, List.length_nil, Nat.reduceAdd, Nat.reduceSub, Array.replicate_succ, Array.replicate_zero, List.push_toArray, List.append_toArray, List.nil_append, List.cons_append]
  gi_wp2_with (gi_at_call 37; refine (walk_in l L.length t.blocks J Jx hJ (fun m pre x W1 hj hlen => ?_) t (n - 1) (its L) [] W ((its_map L).trans hi.symm) hT1 (fun _ h => h) h0 (by simp [its_length])).mono ?_)
  · refine (wide_yield (m := n - 1) (hY pre x W1 hj hlen)).mono ?_
    rintro e w (⟨rfl, hj', hk⟩ | ⟨rfl, hx⟩)
    · exact .inl ⟨rfl, hj', fun b hb => hk.block b (hfp b (List.mem_cons_of_mem _ hb))⟩
    · exact .inr ⟨rfl, hx⟩
  · rintro e w' (⟨rfl, hj', _⟩ | ⟨rfl, q, hq, hx⟩)
    · gi_wp2
      refine bodyPost_end (results_none rfl _ _ _) rfl ?_
      exact ⟨⟨_, rfl⟩, .inl ⟨_, its_map L, by simpa using hj'⟩⟩
    · gi_wp2
      refine bodyPost_end (results_none rfl _ _ _) rfl ?_
      refine ⟨⟨_, rfl⟩, .inr ⟨q, ?_, by simpa using hx⟩⟩
      have := hq.map (·.1)
      rw [its_map] at this
      exact this

/-- THE CONTRACT OF A BAG's ITERATOR -/
theorem all_stops {w0 : World} {p : Nat} {L : Items} {fp : List Nat} (hb0 : Bag w0 p L fp) (n₀ B n : Nat) (hn₀ : n₀ ≤ w0.heap.size) (hfp : ∀ b ∈ fp, b < n₀) (hB : w0.cell? ⟨B, 0, none⟩ = some (.pointer (some ⟨p, 0, none⟩))) :
    SeqStopsK Fence.wide n Try.prog 36 #[.pointer (some ⟨B, 0, none⟩)] (itVals (L := L)) (Below n₀) (fun xs => xs.map (·.1) = L) (fun pre => pre.map (·.1) <+: L) L.length w0 := fun l J Jx W hW hJ _ hY h0 =>
  all1_in hb0 n₀ B n l hn₀ hfp W hW ((hW.cell (p := ⟨B, 0, none⟩) (World.block_lt_of_cell? w0 _ hB)).trans hB) J Jx
    (fun s W hs => hJ s W W.drew none hs ⟨rfl, rfl, rfl, Nat.le_refl _, fun _ _ _ => rfl⟩ (fun r e => by cases e)) hY h0
end Go.Proofs.Ytocchcclagdjdaa
