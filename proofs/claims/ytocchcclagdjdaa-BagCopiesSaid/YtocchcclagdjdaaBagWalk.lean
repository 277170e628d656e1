/- walk and All: the iteration over a bag. -/
import Derived.Test.YtocchcclagdjdaaBagOps3
import Derived.Test.YtocchcclagdjdaaSeq
import Derived.RangeFuncNested
import Derived.RangeFuncBound
import Derived.RangeFuncCalls
import Derived.RangeFuncLeaves
import Derived.Shelf.Abstract
import Derived.Shelf.RegionOpen
import Derived.OwnWalkIn
import Derived.TacticsInMore
import Derived.LoopNIn
import Derived.LoopIn
import Derived.Stop.RegionWithIn
namespace Go.Proofs.Ytocchcclagdjdaa
open Go.RowKit Pl

attribute [local go_sem] Oper.semAt_some

theorem wide_fn (f : FuncId) : Fence.wide.fn f = True := rfl
theorem wide_depth : Fence.wide.depth = none := rfl
attribute [local go_sem] wide_fn wide_depth

/-- an item of L -/
abbrev It (L : Items) := { q : Int × Int // q ∈ L }
def itVals {L : Items} (q : It L) : Array Value := #[.int .i64 q.1.1, .int .i64 q.1.2]

/-- some blocks lie as they lay -/
def Kept (fp : List Nat) (W W' : World) : Prop := ∀ b ∈ fp, W'.heap[b]? = W.heap[b]?
theorem Kept.trans {fp : List Nat} {A B C : World} (h : Kept fp A B) (k : Kept fp B C) : Kept fp A C := fun b hb => (k b hb).trans (h b hb)
theorem Kept.refl (fp : List Nat) (A : World) : Kept fp A A := fun _ _ => rfl
theorem AT.Lies.kept {fp : List Nat} {w w' : World} (hk : Kept fp w w') : ∀ {t : AT}, t.Lies w → (∀ b ∈ t.blocks, b ∈ fp) → t.Lies w'
  | .nil, _, _ => trivial
  | .node b _ _ _ _ _ _ _, ⟨h, hl, hr⟩, hS => ⟨(hk b (hS _ (List.mem_cons_self ..))).trans h, AT.Lies.kept hk hl fun b hb => hS b (List.mem_cons_of_mem _ (List.mem_append_left _ hb)), AT.Lies.kept hk hr fun b hb => hS b (List.mem_cons_of_mem _ (List.mem_append_right _ hb))⟩

/-- what a round that goes on, and one that does not, leave -/
def Round {L : Items} (fp : List Nat) (J Jx : List (It L) → World → Prop) (W : World) (xs : List (It L)) (e : Ending) (W' : World) : Prop :=
  (e = .returned (.bool true) ∧ J xs W' ∧ Kept fp W W') ∨ (e = .returned (.bool false) ∧ Jx xs W')
/-- what a walk over a subtree leaves -/
def Walked {L : Items} (fp : List Nat) (J Jx : List (It L) → World → Prop) (pre xs : List (It L)) (W : World) (e : Ending) (W' : World) : Prop :=
  (e = .returned (.bool true) ∧ J (pre ++ xs) W' ∧ Kept fp W W') ∨ (e = .returned (.bool false) ∧ ∃ q, q <+: xs ∧ Jx (pre ++ q) W')

set_option maxRecDepth 100000 in
set_option maxHeartbeats 2000000 in
theorem walk_in {L : Items} (l N : Nat) (fp : List Nat) (J Jx : List (It L) → World → Prop) (hJ : ∀ s W, J s W → J s W.drew)
    (hY : ∀ m pre x W, J pre W → pre.length < N → YieldAt Fence.wide m Try.prog l (itVals x) W (Round fp J Jx W (pre ++ [x]))) (t : AT) :
    ∀ (n : Nat) (xs pre : List (It L)) (W : World), xs.map (·.1) = t.items → t.Lies W → (∀ b ∈ t.blocks, b ∈ fp) → J pre W → pre.length + xs.length ≤ N →
      CallsIn Fence.wide n Try.prog 37 #[.pointer t.adr, .func (.yield l) #[] #[]] W (Walked fp J Jx pre xs W) := by
  induction t with
  | nil =>
    intro n xs pre W hx ht hf hj hN
    obtain rfl : xs = [] := by simpa [AT.items] using hx
    show CallsIn Fence.wide n Try.prog 37 #[.pointer none, .func (.yield l) #[] #[]] W _
    refine callsIn_of_wp Try.func37 rfl trivial ?_ rfl
    simp only [Try.ntmps37, List.size_toArray, List.length_cons, List.length_nil, Nat.reduceAdd, Nat.reduceSub, Array.replicate_succ, Array.replicate_zero, List.push_toArray, List.append_toArray, List.nil_append, List.cons_append]
    gi_wp2
    refine wpIn_region_seq (Wd.wide) ([]) (5) (by kernel_rfl) (by kernel_rfl) (by kernel_rfl) (by kernel_rfl) ?_
    iterate 33 (refine sqB_step (fun K hK => ?_); go_simp; refine hK _ _ ?_; clear hK K)
    refine sqB_nil ?_
    gi_wp2
    go_ret
    exact .inl ⟨rfl, by simpa using hJ _ _ hj, Kept.refl _ _⟩
  | node b x k tl tr tt s n0 ihl ihr =>
    intro n xs pre W hx ht hf hj hN
    obtain ⟨hb, hl, hr⟩ := ht
    obtain ⟨ys, q, zs, rfl, hy, hq, hz⟩ : ∃ ys q zs, xs = ys ++ q :: zs ∧ ys.map (·.1) = tl.items ∧ q.1 = (x, k) ∧ zs.map (·.1) = tr.items := by
      obtain ⟨ys, us, rfl, hy, hu⟩ := List.map_eq_append_iff.1 hx
      obtain ⟨q, zs, rfl, hq, hz⟩ := List.map_eq_cons_iff.1 hu
      exact ⟨ys, q, zs, rfl, hy, hq, hz⟩
    have hq1 : q.1.1 = x := by rw [hq]
    have hq2 : q.1.2 = k := by rw [hq]
    have hbf : b ∈ fp := hf _ (List.mem_cons_self ..)
    have hfl : ∀ b ∈ tl.blocks, b ∈ fp := fun b hb => hf b (List.mem_cons_of_mem _ (List.mem_append_left _ hb))
    have hfr : ∀ b ∈ tr.blocks, b ∈ fp := fun b hb => hf b (List.mem_cons_of_mem _ (List.mem_append_right _ hb))
    have hNl : pre.length + ys.length ≤ N := by simp only [List.length_append, List.length_cons] at hN; omega
    have hNq : (pre ++ ys).length < N := by simp only [List.length_append, List.length_cons] at hN ⊢; omega
    have hNr : (pre ++ ys ++ [q]).length + zs.length ≤ N := by simp only [List.length_append, List.length_cons, List.length_nil] at hN ⊢; omega
    clear hx hf hN hq
    show CallsIn Fence.wide n Try.prog 37 #[.pointer (some ⟨b, 0, none⟩), .func (.yield l) #[] #[]] W _
    have c2 := hb.cells.c2
    refine callsIn_of_wp Try.func37 rfl trivial ?_ rfl
    simp only [Try.ntmps37, List.size_toArray, List.length_cons, List.length_nil, Nat.reduceAdd, Nat.reduceSub, Array.replicate_succ, Array.replicate_zero, List.push_toArray, List.append_toArray, List.nil_append, List.cons_append]
    gi_wp2
    refine wpIn_region_seq (Wd.wide) ([]) (5) (by kernel_rfl) (by kernel_rfl) (by kernel_rfl) (by kernel_rfl) ?_
    iterate 9 (refine sqB_step (fun K hK => ?_); go_simp; refine hK _ _ ?_; clear hK K)
    refine sqB_step (fun K hK => ?_); go_simp; refine (callsIn_wide.1 (ihl n ys pre W.drew hy hl.drew hfl (hJ _ _ hj) hNl)).mono ?_; rintro e w1 (⟨rfl, hj1, hk1⟩ | ⟨rfl, q', hq', hx'⟩)
    · refine ⟨_, rfl, hK _ _ ?_⟩; clear hK K
      have hk1' : Kept fp W w1 := hk1
      have hb1 : Nd w1 b x k tl.adr tr.adr tt s n0 := (hk1 b hbf).trans hb
      have hr1 : tr.Lies w1 := AT.Lies.kept hk1' hr hfr
      clear c2
      obtain ⟨c0, c1, _, c3, _⟩ := hb1.cells
      iterate 10 (refine sqB_step (fun K hK => ?_); go_simp; refine hK _ _ ?_; clear hK K)
      obtain ⟨fn, tm, am, bd, heq, hrd⟩ := hY 0 (pre ++ ys) q w1 hj1 hNq
      rw [itVals, hq1, hq2] at heq
      refine sqB_step (fun K hK => ?_)
      go_simp
      refine hrd.mono ?_
      clear heq hrd
      rintro e w2 (⟨rfl, hj2, hk2⟩ | ⟨rfl, hx'⟩)
      · refine ⟨_, rfl, hK _ _ ?_⟩; clear hK K
        have hb2 : Nd w2 b x k tl.adr tr.adr tt s n0 := (hk2 b hbf).trans hb1
        have hr2 : tr.Lies w2 := AT.Lies.kept hk2 hr1 hfr
        clear c0 c1 c3
        have c3 := hb2.cells.c3
        iterate 8 (refine sqB_step (fun K hK => ?_); go_simp; refine hK _ _ ?_; clear hK K)
        refine sqB_step (fun K hK => ?_); go_simp; refine (callsIn_wide.1 (ihr n zs (pre ++ ys ++ [q]) w2 hz hr2 hfr hj2 hNr)).mono ?_; rintro e w3 (⟨rfl, hj3, hk3⟩ | ⟨rfl, q', hq', hx'⟩)
        · refine ⟨_, rfl, hK _ _ ?_⟩; clear hK K
          iterate 3 (refine sqB_step (fun K hK => ?_); go_simp; refine hK _ _ ?_; clear hK K)
          refine sqB_nil ?_
          gi_wp2
          go_ret
          exact .inl ⟨rfl, by simpa using hj3, (hk1'.trans hk2).trans hk3⟩
        · refine ⟨_, rfl, hK _ _ ?_⟩; clear hK K
          iterate 3 (refine sqB_step (fun K hK => ?_); go_simp; refine hK _ _ ?_; clear hK K)
          refine sqB_nil ?_
          gi_wp2
          go_ret
          exact .inr ⟨rfl, ys ++ q :: q', by simpa using hq', by simpa using hx'⟩
      · refine ⟨_, rfl, hK _ _ ?_⟩; clear hK K
        iterate 12 (refine sqB_step (fun K hK => ?_); go_simp; refine hK _ _ ?_; clear hK K)
        refine sqB_nil ?_
        gi_wp2
        go_ret
        exact .inr ⟨rfl, ys ++ [q], by simp, by simpa using hx'⟩
    · refine ⟨_, rfl, hK _ _ ?_⟩; clear hK K
      iterate 23 (refine sqB_step (fun K hK => ?_); go_simp; refine hK _ _ ?_; clear hK K)
      refine sqB_nil ?_
      gi_wp2
      go_ret
      exact .inr ⟨rfl, q', hq'.trans (List.prefix_append _ _), hx'⟩
end Go.Proofs.Ytocchcclagdjdaa
