/- The pairs of clusters: an iterator. -/
import Derived.Test.YtmkggcmebeagaaaLkObj
import Derived.RangeFuncNested
import Derived.RangeFuncBound
import Derived.RangeFuncCalls
import Derived.RangeFuncLeaves
import Derived.TacticsInMore
import Derived.LoopIn
import Derived.LoopNIn
import Derived.Sort.LoopGhostIn
import Derived.OwnWalkIn
namespace Go.Proofs.Ytmkggcmebeagaaa
set_option linter.unusedVariables false
set_option linter.unusedSimpArgs false
open Go.RowKit Lk

attribute [local go_sem] Oper.semAt_some

theorem wideFn (f : FuncId) : Fence.wide.fn f = True := rfl
theorem wideDepth : Fence.wide.depth = none := rfl
attribute [local go_sem] wideFn wideDepth

/-- some blocks lie as they lay -/
def KeptB (fp : List Nat) (W W' : World) : Prop := ∀ b ∈ fp, W'.heap[b]? = W.heap[b]?
theorem KeptB.trans {fp : List Nat} {A B C : World} (h : KeptB fp A B) (k : KeptB fp B C) : KeptB fp A C := fun b hb => (k b hb).trans (h b hb)
theorem KeptB.refl (fp : List Nat) (A : World) : KeptB fp A A := fun _ _ => rfl
theorem KeptB.putObj {fp : List Nat} {n₀ : Nat} (hfp : ∀ b ∈ fp, b < n₀) (W : World) (l : Nat) (o o' : Go.Obj) (hl : n₀ ≤ l) (_ : W.heap[l]? = some o) (_ : o.isCells = false) (_ : o.isWalk = false) : KeptB fp W (W.putObj l o') := fun b hb => World.putObj_heap_other (by have := hfp b hb; omega)

theorem lkpairs_any (p0 : Option Addr) (w : World) :
    Calls Try.prog 21 #[.pointer p0] w fun e w' => e = .returned (.func (.func 35) #[] #[.pointer (some ⟨w.heap.size, 0, none⟩)]) ∧ w' = w.alloc (.cells #[.pointer p0] 52) := by
  go_enter Try.func21, Try.ntmps21
  go_wp2
  go_ret
  exact ⟨rfl, rfl⟩

def pairVals (q : Nat × Nat) : Array Value := #[.int .i64 q.1, .int .i64 q.2]

/-- what the iteration leaves -/
def Paired (L : List (Nat × Nat)) (J Jx : List (Nat × Nat) → World → Prop) (e : Ending) (W' : World) : Prop :=
  (∃ v, e = .returned v) ∧ ((∃ xs, xs = L ∧ J xs W') ∨ (∃ pre, pre <+: L ∧ Jx pre W'))

theorem prsTo_prefix (c : Cl) {n i : Nat} (h : i < n) {l : List (Nat × Nat)} (hl : l <+: prsRow c i n) : prsTo c n i ++ l <+: prs c n := by
  have h1 : prsTo c n i ++ l <+: prsTo c n (i + 1) := by rw [prsTo_succ]; exact (List.prefix_append_right_inj _).2 hl
  refine h1.trans ?_
  unfold prsTo prs
  have e : List.range n = List.range (i + 1) ++ (List.range' (i + 1) (n - (i + 1))) := by
    obtain ⟨r, rfl⟩ : ∃ r, n = i + 1 + r := ⟨n - (i + 1), by omega⟩
    rw [show i + 1 + r - (i + 1) = r by omega, List.range_eq_range', List.range_eq_range', ← List.range'_append_1, Nat.zero_add]
  rw [e, List.flatMap_append]
  exact List.prefix_append _ _
theorem prsRow_prefix (c : Cl) {n i j : Nat} (h : j ≤ n) : prsRow c i j <+: prsRow c i n := by
  unfold prsRow
  split
  · exact List.prefix_refl _
  · refine List.IsPrefix.map _ (List.IsPrefix.filter _ ?_)
    by_cases hj : i + 1 ≤ j
    · have e : List.range' (i + 1) (n - (i + 1)) = List.range' (i + 1) (j - (i + 1)) ++ List.range' j (n - j) := by
        obtain ⟨r, rfl⟩ : ∃ r, j = i + 1 + r := ⟨j - (i + 1), by omega⟩
        obtain ⟨s, rfl⟩ : ∃ s, n = i + 1 + r + s := ⟨n - (i + 1 + r), by omega⟩
        rw [show i + 1 + r - (i + 1) = r by omega, show i + 1 + r + s - (i + 1 + r) = s by omega, List.range'_append_1]
        congr 1; omega
      rw [e]; exact List.prefix_append _ _
    · rw [show j - (i + 1) = 0 by omega]; exact List.nil_prefix

set_option maxRecDepth 100000 in
set_option maxHeartbeats 2000000 in
theorem lkpairs1_in {p : Nat} {m : Mt} {n : Nat} {c : Cl} {dv : Value} (hn : n ≤ 128) (B k l : Nat) (W0 : World) (hb0 : CB W0 p 66 132 (objF m n c dv)) (hB0 : W0.heap[B]? = some (.cells #[.pointer (some ⟨p, 0, none⟩)] 52 (0, 0)))
    (J Jx : List (Nat × Nat) → World → Prop)
    (hY : ∀ pre x W, J pre W → pre ++ [x] <+: prs c n → YieldAt Fence.wide (k - 1) Try.prog l (pairVals x) W fun e W' =>
      (e = .returned (.bool true) ∧ J (pre ++ [x]) W' ∧ KeptB [p, B] W W') ∨ (e = .returned (.bool false) ∧ Jx (pre ++ [x]) W')) (h0 : J [] W0) :
    CallsIn Fence.wide k Try.prog 35 #[.func (.yield l) #[] #[], .pointer (some ⟨B, 0, none⟩)] W0 (Paired (prs c n) J Jx) := by
  have c1 : W0.cell? ⟨p, 1, none⟩ = some (.int .i64 n) := hb0.cell (o := 1) (by omega)
  have cB : W0.cell? ⟨B, 0, none⟩ = some (.pointer (some ⟨p, 0, none⟩)) := cell_of hB0 0
  refine callsIn_of_wp Try.func35 rfl trivial ?_ rfl
  simp only [Try.ntmps35, List.size_toArray, List.length_cons, List.length_nil, Nat.reduceAdd, Nat.reduceSub, Array.replicate_succ, Array.replicate_zero, List.push_toArray, List.append_toArray, List.nil_append, List.cons_append]
  gi_wp2
  clear c1 cB
  gi_loopg [9] n (fun u v wr => ∃ i : Nat, v = .int .i64 i ∧ i ≤ n ∧ u = n - i ∧ J (prsTo c n i) wr ∧ KeptB [p, B] W0 wr)
  case atStart => exact ⟨0, rfl, Nat.zero_le _, by omega, h0, KeptB.refl _ _⟩
  case round =>
    obtain ⟨i, rfl, hi, hu, hJ, hK⟩ := hrel
    by_cases hlt : i < n
    · gi_wp2
      gi_loopg [4] (n - (i + 1)) (fun u v wr => ∃ j : Nat, v = .int .i64 j ∧ i < j ∧ j ≤ n ∧ u = n - j ∧ J (prsTo c n i ++ prsRow c i j) wr ∧ KeptB [p, B] W0 wr)
      case atStart => exact ⟨i + 1, by simp, by omega, by omega, by omega, by rw [prsRow_start, List.append_nil]; exact hJ, hK⟩
      case round =>
        obtain ⟨j, rfl, hij, hj, hu2, hJ2, hK2⟩ := hrel
        clear hJ hK
        have hb : CB wr p 66 132 (objF m n c dv) := (hK2 p (by simp)).trans hb0
        have c1 : wr.cell? ⟨p, 1, none⟩ = some (.int .i64 n) := hb.cell (o := 1) (by omega)
        have cB : wr.cell? ⟨B, 0, none⟩ = some (.pointer (some ⟨p, 0, none⟩)) := cell_of ((hK2 B (by simp)).trans hB0) 0
        have ci : wr.cell? ⟨p, 2 + i, none⟩ = some (.int .i64 (c i).length) := by rw [hb.cell (o := 2 + i) (by omega), objSz _ _ _ _ (by omega)]
        have bi : (i : Int) < 128 := by omega
        by_cases hjn : j < n
        · by_cases hci : (c i).length = 0
          · have ci' : wr.cell? ⟨p, 2 + i, none⟩ = some (.int .i64 0) := by rw [ci, hci]; rfl
            have he : prsRow c i j = [] := prsRow_nil (List.length_eq_zero_iff.1 hci) j
            have he2 : prsTo c n (i + 1) = prsTo c n i ++ prsRow c i j := by rw [prsTo_succ, he, prsRow_nil (List.length_eq_zero_iff.1 hci)]
            rw [← he2] at hJ2
            have HJ := Lib.hid hJ2
            have HK := Lib.hid hK2
            clear ci hJ2 hK2 hb he he2 hci
            gi_wp2
            gi_roundg (n - (i + 1))
            case measure => omega
            case rel => exact ⟨i + 1, by simp, by omega, rfl, HJ.out, HK.out⟩
          · have hcj : wr.cell? ⟨p, 2 + j, none⟩ = some (.int .i64 (c j).length) := by rw [hb.cell (o := 2 + j) (by omega), objSz _ _ _ _ (by omega)]
            have bj : (j : Int) < 128 := by omega
            have pi : 0 < (c i).length := by omega
            have hsucc := prsRow_succ (c := c) (i := i) (j := j) (fun h => hci (by rw [h]; rfl)) hij
            have HS := Lib.hid hsucc
            clear hsucc
            by_cases hcj0 : (c j).length = 0
            · have cj' : wr.cell? ⟨p, 2 + j, none⟩ = some (.int .i64 0) := by rw [hcj, hcj0]; rfl
              have he : prsRow c i (j + 1) = prsRow c i j := by rw [HS.out, if_pos (List.length_eq_zero_iff.1 hcj0), List.append_nil]
              rw [← he] at hJ2
              have HJ := Lib.hid hJ2
              have HK := Lib.hid hK2
              clear hcj hJ2 hK2 hb he hcj0 hci
              gi_wp2
              gi_roundg (n - (j + 1))
              case measure => omega
              case rel => exact ⟨j + 1, by simp, by omega, by omega, rfl, HJ.out, HK.out⟩
            · have pj : 0 < (c j).length := by omega
              have he : prsTo c n i ++ prsRow c i (j + 1) = (prsTo c n i ++ prsRow c i j) ++ [(i, j)] := by
                rw [HS.out, if_neg (fun h => hcj0 (by rw [h]; rfl)), List.append_assoc]
              have hlen : (prsTo c n i ++ prsRow c i j) ++ [(i, j)] <+: prs c n := by
                rw [← he]; exact prsTo_prefix c hlt (prsRow_prefix c (show j + 1 ≤ n by omega))
              obtain ⟨fn, tmps, assign, body, hy, hR⟩ := hY _ (i, j) wr hJ2 hlen
              simp only [pairVals] at hy
              have HR := Lib.hid hR
              have HE := Lib.hid he
              have HK := Lib.hid hK2
              clear hR he hK2 hJ2 hlen hb hci hcj0
              gi_wp2
              refine HR.out.mono ?_
              rintro e W3 (⟨rfl, hJ3, hk3⟩ | ⟨rfl, hJx3⟩)
              · rw [← HE.out] at hJ3
                have HJ := Lib.hid hJ3
                have HK3 := Lib.hid (HK.out.trans hk3)
                clear hJ3 hk3 c1 cB ci hcj
                gi_wp2
                gi_roundg (n - (j + 1))
                case measure => omega
                case rel => exact ⟨j + 1, by simp, by omega, by omega, rfl, HJ.out, HK3.out⟩
              · gi_wp2
                refine bodyPost_ret (results_none rfl _ _ _) rfl ?_
                exact ⟨⟨_, rfl⟩, .inr ⟨_, by rw [← HE.out]; exact prsTo_prefix c hlt (prsRow_prefix c (by omega)), hJx3⟩⟩
        · obtain rfl : j = n := by omega
          have he : prsTo c j (i + 1) = prsTo c j i ++ prsRow c i j := prsTo_succ _ _ _
          rw [← he] at hJ2
          have HJ := Lib.hid hJ2
          have HK := Lib.hid hK2
          clear hJ2 hK2 hb he
          gi_wp2
          gi_roundg (j - (i + 1))
          case measure => omega
          case rel => exact ⟨i + 1, by simp, by omega, rfl, HJ.out, HK.out⟩
    · obtain rfl : i = n := by omega
      gi_wp2
      go_end0
      exact ⟨⟨_, rfl⟩, .inl ⟨_, prsTo_all c i, hJ⟩⟩
end Go.Proofs.Ytmkggcmebeagaaa
