/- Run: the merges. -/
import Derived.Test.YtmkggcmebeagaaaLkMark
namespace Go.Proofs.Ytmkggcmebeagaaa
set_option linter.unusedVariables false
set_option linter.unusedSimpArgs false
open Go.RowKit Lk

attribute [local go_sem] Oper.semAt_some
attribute [local go_sem] wideFn wideDepth wideFnR wideDepthR

theorem wpIn_world {F : Fence} {n : Nat} {P : Program} {c : Code} {Q : Exit → Act → World → Prop} {a : Act} {W : World} (I : World → Prop) (h : I W) (h2 : ∀ w1, I w1 → c.wpIn F n P Q a w1) : c.wpIn F n P Q a W := h2 W h
/-- where Run stands after t merges -/
structure RInv (w : World) (m : Mt) (d : Nat → Nat → Int) (n p g cp bc t : Nat) (ov : Value) (Ds : List Nat) (Dt : List Int) (wr : World) : Prop where
  obj : Obj wr p m n (st m d n t) Dt g cp
  good : Lk.Good m d n (st m d n t) Dt
  own : wr.ownsRow w.heap.size 49 5 ov t (flatM ((runL m d n).take t))
  upd : Upd (fun _ => False) w wr
  marks : Marks w.heap.size wr Ds
  box : wr.heap[bc]? = some (.cells #[.pointer (some ⟨p, 0, none⟩)] 52 (0, 0))
  le : t ≤ n - 1
  bcp : bc ≠ p
  bcg : bc ≠ g

set_option maxRecDepth 100000 in
set_option maxHeartbeats 4000000 in
theorem lkrun_pos (m : Mt) {w : World} {a : Option Addr} {D : List Int} (h : IntsK .i64 w a D) (cap : Nat) (n : Nat) (hok : checkS n D = 0) (hn : n ≤ 128) (hl : D.length = n * n) (hn1 : 1 ≤ n) (hd : Dist n (mat n D)) :
    Calls Try.prog 9 #[.int .i64 n, .slice a D.length cap, .int .i64 m.num] w (Ran w (runL m (mat n D) n)) := by
  obtain ⟨i0, hi, hz0, hz1, hz2⟩ := info_parts merge_info
  have hml : (maxLen : Nat) = 9223372036854775807 := by decide
  have HST := Lib.hid (lkstart_ok m h cap n hok hn hl)
  have HG := Lib.hid (good_start m hl)
  have HL := Lib.hid hl
  obtain ⟨d, hdd⟩ : ∃ d, mat n D = d := ⟨_, rfl⟩
  rw [hdd] at hd HG ⊢
  clear hdd hok hl h
  obtain ⟨len, hlen⟩ : ∃ len, D.length = len := ⟨_, rfl⟩
  rw [hlen] at HST ⊢
  have HLEN := Lib.hid hlen
  clear hlen
  obtain ⟨mm, hmm⟩ : ∃ mm, m.num = mm := ⟨_, rfl⟩
  rw [hmm] at HST ⊢
  have HMM := Lib.hid hmm
  clear hmm
  refine (callsIn_wide (n := 9)).1 ?_
  refine callsIn_of_wp_marks Try.func9 rfl trivial ?_ rfl
  simp only [Try.ntmps9, List.size_toArray, List.length_cons, List.length_nil, Nat.reduceAdd, Nat.reduceSub, Array.replicate_succ, Array.replicate_zero, List.push_toArray, List.append_toArray, List.nil_append, List.cons_append]
  gi_wp2_with (gi_at_call 20; refine (callsIn_wide.2 HST.out).mono ?_; rintro e w1 ⟨p, rfl, hu1, hp, hobj⟩)
  obtain ⟨g, cp, hg, hobj⟩ := hobj hn1
  obtain ⟨bc, hbc⟩ : ∃ bc, w1.heap.size = bc := ⟨_, rfl⟩
  have huw : Upd (fun _ => False) w1 (w1.alloc (.cells #[.pointer (some ⟨p, 0, none⟩)] 52)) := (Upd.refl _ _).alloc _
  have hbox := World.alloc_heap_new w1 (.cells #[.pointer (some ⟨p, 0, none⟩)] 52)
  rw [hbc] at hbox ⊢
  have hbcw : w.heap.size ≤ bc := by rw [← hbc]; exact hu1.size
  generalize w1.alloc (.cells #[.pointer (some ⟨p, 0, none⟩)] 52) = w2 at huw hbox ⊢
  refine wpIn_loop_ghost (fun k act wr => ∃ (x : List Value) (ov : Value) (Ds : List Nat) (t : Nat) (Dt : List Int),
    act = { tmps := ([.int .i64 n, .slice a len cap, .int .i64 mm, undef, undef, undef, .slice none 0 0, .int .i64 0, .pointer (some ⟨bc, 0, none⟩), .int .i64 0, ov] ++ x).toArray, defers := Ds.map markOf } ∧
    x.length = 71 ∧ RInv w m d n p g cp bc t ov Ds Dt wr ∧ k = n - 1 - t) (n - 1) ?_ ?_
  · refine ⟨[undef, undef, undef, undef, undef, undef, undef, undef, .tuple #[.pointer (some ⟨p, 0, none⟩), .int .i64 0], .int .i64 n, .slice a len cap, .int .i64 mm, .tuple #[.pointer (some ⟨p, 0, none⟩), .int .i64 0], .pointer (some ⟨p, 0, none⟩), .int .i64 0, .int .i64 0, .bool false] ++ List.replicate 54 undef, .slice none 0 0, [], 0, D, rfl, rfl, ⟨hobj.upd huw (fun h => h) (fun h => h), HG.out, World.ownsRow_nil _ _ _ _, hu1.trans huw, Marks.nil _ _, hbox, Nat.zero_le _, by have := hobj.blk.lt; omega, by have := hobj.row.lt; omega⟩, by omega⟩
  · rintro k act wr ⟨x, ov, Ds, t, Dt, rfl, hx, hR, hk⟩
    obtain ⟨x0, x1, x2, x3, x4, x5, x6, x7, x8, x9, x10, x11, x12, x13, x14, x15, x16, x17, x18, x19, x20, x21, x22, x23, x24, x25, x26, x27, x28, x29, x30, x31, x32, x33, x34, x35, x36, x37, x38, x39, x40, x41, x42, x43, x44, x45, x46, x47, x48, x49, x50, x51, x52, x53, x54, x55, x56, x57, x58, x59, x60, x61, x62, x63, x64, x65, x66, x67, x68, x69, x70, rfl⟩ := lit71 x hx
    simp only [List.cons_append, List.nil_append]
    clear hx
    obtain ⟨oA, oc, rfl⟩ := own_slice' hR.own
    have hcb : wr.cell? ⟨bc, 0, none⟩ = some (.pointer (some ⟨p, 0, none⟩)) := cell_of hR.box 0
    have hbl : bc < wr.heap.size := heap_lt hR.box
    have hbl1 : bc < wr.heap.size + 1 := by omega
    have hbl2 : bc < wr.heap.size + 1 + 1 := by omega
    by_cases ht : t < n - 1
    · have htI : (t : Int) < n - 1 := by omega
      have HR := Lib.hid hR
      clear hR
      gi_wp2_with (gi_at_call 21; refine (callsIn_wide.2 (lkpairs_any _ _)).mono ?_; rintro e w' ⟨rfl, rfl⟩)
      obtain ⟨Ba, hBa⟩ : ∃ Ba, wr.heap.size = Ba := ⟨_, rfl⟩
      rw [hBa]
      refine wpIn_world (fun W => Upd (fun _ => False) wr W ∧ W.heap[Ba]? = some (.cells #[.int .i64 (-1)] 3 (0, 0)) ∧ W.heap[Ba + 1]? = some (.cells #[.int .i64 (-1)] 3 (0, 0)) ∧ W.heap[Ba + 1 + 1]? = some (.cells #[.int .i64 0, .int .i64 0] 38 (0, 0)) ∧ W.heap[Ba + 1 + 1 + 1]? = some (.cells #[.pointer (some ⟨p, 0, none⟩)] 52 (0, 0))) ?_ ?_
      · refine ⟨((((Upd.refl _ _).alloc _).alloc _).alloc _).alloc _, ?_, ?_, ?_, ?_⟩ <;> rw [← hBa] <;>
          repeat (first | (refine heapNew ?_; simp only [World.size_alloc]; done) | (refine heapOld ?_ ?_; (simp only [World.size_alloc]; omega)))
      rintro w3 ⟨hu3, hA, hB, hF, hBB⟩
      have HBa := Lib.hid hBa
      have HBL := Lib.hid (heap_lt hBB)
      clear hBa hbl hbl1 hbl2 hcb
      have hobj3 := HR.out.obj.upd hu3 (fun h => h) (fun h => h)
      refine wpIn_rangeFunc_ownG rfl (by decide) (gf := 35) (lb := #[.pointer (some ⟨Ba + 1 + 1 + 1, 0, none⟩)]) rfl trivial (enters_of Try.func35 (by kernel_rfl) rfl)
        (lkpairs_stops hn hobj3.blk (Ba + 1 + 1 + 1) (9 - 1) hBB) (fun h k => KeptB.trans h k) (KeptB.putObj (by
          have := hobj3.blk.lt; have := heap_lt hBB
          intro b hb; simp at hb; omega)) (Below.refl _ _) (fun _ => by rfl)
        (fun pre W => Choosing (rat m d (st m d n t)) w3 Ba (Ba + 1) (Ba + 1 + 1) (pre.map (·.1)) W) (fun _ _ _ => False) (choosing_own _ _ _ _ _) (fun _ _ _ _ _ h => h.elim)
        ⟨-1, -1, (0, 0), ⟨rfl, rfl, rfl⟩, hA, hB, hF, Upd.refl _ _⟩ ?a1 ?assign ?body ?done ?stop
      case stop => rintro _ _ _ _ _ _ h; exact h.elim
      case assign =>
        intro l x W K hK
        simp only [prVals]
        gi_wp2
        exact hK
      case body =>
        rintro l pre ⟨⟨i, j⟩, hij⟩ W ⟨av, bv, fv, hbest, hA1, hB1, hF1, hu⟩ hlen
        obtain ⟨q1, q2, q3, q4⟩ := mem_prs.1 hij
        simp only at q1 q2 q3 q4
        have hbase := (st_ok m d n t (by omega)).1.base
        obtain ⟨u, v, hr, hv1, hub, hvb⟩ := rat_nat (m := m) hd hbase hij
        have hpB : p < Ba := by rw [← HBa.out]; exact HR.out.obj.blk.lt
        have hgB : g < Ba := by rw [← HBa.out]; exact HR.out.obj.row.lt
        have hobjW := hobj3.upd hu (by omega) (by omega)
        have hcW : W.cell? ⟨bc, 0, none⟩ = some (.pointer (some ⟨p, 0, none⟩)) := by
          have h1 := hu3.at HR.out.box (fun h => h)
          have h2 : bc < Ba := by rw [← HBa.out]; exact heap_lt HR.out.box
          exact cell_of (hu.at h1 (by omega)) 0
        have hdist := lkdist_any hobjW (i := i) (j := j) (by omega) q2 (fun k => by have := hbase.len k; omega)
        have hval : dfr m n (st m d n t) Dt i j = .agg #[.int .i64 u, .int .i64 v] := by
          have e1 := HR.out.good.eq i j (by omega) q2 (by omega) q3 q4
          have e2 := congrArg Prod.fst hr
          have e3 := congrArg Prod.snd hr
          simp only [rat] at e2 e3
          simp only [dfr]; rw [e1, e2, e3]
        rw [hval] at hdist
        have HDI := Lib.hid hdist
        have HRR := Lib.hid hr
        have HU := Lib.hid hu
        have HBE := Lib.hid hbest
        clear hval hdist hr hu hbest hlen hobjW hu3 hA hB hF hBB hobj3
        gi_wp2_with fail
        refine (CallsIn.inRound l (callsIn_wide.2 HDI.out)).mono ?_
        rintro e w4 ⟨rfl, hu4⟩
        have hA4 := hu4.at hA1 (fun h => h)
        have hB4 := hu4.at hB1 (fun h => h)
        have hF4 := hu4.at hF1 (fun h => h)
        have lA := heap_lt hA4
        have lB := heap_lt hB4
        have lF := heap_lt hF4
        have cA := cell_of hA4 0
        have cB := cell_of hB4 0
        have cF0 := cell_of hF4 0
        have cF1 := cell_of hF4 1
        have fA := free_of hA4
        have fB := free_of hB4
        have fF := free_of hF4
        simp only [List.getElem?_toArray, List.getElem?_cons_zero, List.getElem?_cons_succ] at cA cB cF0 cF1
        have HU4 := Lib.hid hu4
        have HW1 := Lib.hid (And.intro hA1 (And.intro hB1 hF1))
        have HBW := Lib.hid (show Ba + 1 + 1 + 1 < W.heap.size from Nat.lt_of_lt_of_le HBL.out HU.out.size)
        clear hu4 hA1 hB1 hF1 hcW hA4 hB4 hF4
        have hbest := HBE.out
        unfold BestIs at hbest
        cases hpk : pick (rat m d (st m d n t)) (List.map (·.1) pre) with
        | none =>
          rw [hpk] at hbest
          obtain ⟨rfl, rfl, rfl⟩ := hbest
          have HPK := Lib.hid hpk
          clear hpk
          gi_wp2_with fail
          gi_region
          all_goals exact choose_set (a' := { tmps := #[], defers := [] }) HW1.out.1 HW1.out.2.1 HW1.out.2.2 HU.out HU4.out hpB HBW.out (by rw [List.map_append, ← HRR.out]; exact bestIs_none HPK.out (i, j))
        | some b =>
          rw [hpk] at hbest
          obtain ⟨rfl, rfl, rfl⟩ := hbest
          have hbm : b ∈ prs (st m d n t) n := by
            have := pick_mem hpk
            obtain ⟨y, _, hy⟩ := List.mem_map.1 this
            rw [← hy]; exact y.2
          obtain ⟨u2, v2, hr2, hv2, hu2b, hv2b⟩ := rat_nat (m := m) hd hbase hbm
          rw [hr2] at cF0 cF1
          have hlt : lt ((u : Int), (v : Int)) ((u2 : Int), (v2 : Int)) ↔ ((u * v2 : Nat) : Int) < ((u2 * v : Nat) : Int) := by unfold lt; simp
          have HPK := Lib.hid hpk
          have HR2 := Lib.hid hr2
          have HLT := Lib.hid hlt
          have hb0 : ¬ (b.1 : Int) < 0 := by omega
          clear hpk hr2 hlt hbm
          gi_wp2_with fail
          refine (CallsIn.inRound l (callsIn_wide.2 (ckCompare_any _ u v u2 v2 (by omega) (by omega) hv1 (by omega) (by omega) hv2))).mono ?_
          rintro e w5 ⟨rfl, hu5⟩
          have h5 := (HU4.out.alloc (.cells #[.int .i64 u, .int .i64 v] 38)).trans hu5
          have hA5 := h5.at HW1.out.1 (fun h => h)
          have hB5 := h5.at HW1.out.2.1 (fun h => h)
          have hF5 := h5.at HW1.out.2.2 (fun h => h)
          have hN5 := hu5.at (World.alloc_heap_new w4 (.cells #[.int .i64 u, .int .i64 v] 38)) (fun h => h)
          by_cases hcm : ((u * v2 : Nat) : Int) < ((u2 * v : Nat) : Int)
          · rw [cmpS_lt hcm]
            have cA := cell_of hA5 0
            have cB := cell_of hB5 0
            have cF0 := cell_of hF5 0
            have cF1 := cell_of hF5 1
            have cN0 := cell_of hN5 0
            have cN1 := cell_of hN5 1
            have fA := free_of hA5
            have fB := free_of hB5
            have fF := free_of hF5
            simp only [List.getElem?_toArray, List.getElem?_cons_zero, List.getElem?_cons_succ] at cA cB cF0 cF1 cN0 cN1
            have hnl : Ba + 1 + 1 < w4.heap.size := lF
            have H5 := Lib.hid h5
            have HCM := Lib.hid hcm
            clear h5 hu5 hA5 hB5 hF5 hN5 hcm
            gi_wp2_with fail
            gi_region
            all_goals exact choose_set0 (a' := { tmps := #[], defers := [] }) HW1.out.1 HW1.out.2.1 HW1.out.2.2 HU.out H5.out hpB HBW.out (by rw [List.map_append, ← HRR.out]; exact bestIs_less (q := (i, j)) HPK.out (by rw [HRR.out, HR2.out]; exact HLT.out.2 HCM.out))
          · have hge : (0 : Int) ≤ cmpS ((u * v2 : Nat) : Int) ((u2 * v : Nat) : Int) := by
              unfold cmpS; rw [if_neg hcm]; split <;> omega
            generalize cmpS ((u * v2 : Nat) : Int) ((u2 * v : Nat) : Int) = r0 at hge ⊢
            have H5 := Lib.hid h5
            have HCM := Lib.hid hcm
            clear h5 hu5 hA5 hB5 hF5 hN5 hcm
            gi_wp2_with fail
            exact choose_keep (a' := { tmps := #[], defers := [] }) (fu := u2) (fv := v2) HW1.out.1 HW1.out.2.1 (by have := HW1.out.2.2; rw [HR2.out] at this; exact this) HU.out (by rw [List.map_append, ← HR2.out]; exact bestIs_not (q := (i, j)) HPK.out (by rw [HRR.out, HR2.out]; exact fun h => by have h1 := HLT.out.1 h; have h2 := HCM.out; omega)) H5.out (by have := HBW.out; omega) HBW.out
      case done =>
        rintro Dm ys W hDm hys ⟨av, bv, fv, hbest, hA1, hB1, hF1, hu⟩ hK
        have hDb : Ba + 1 + 1 + 1 < Dm := Nat.lt_of_lt_of_le HBL.out hDm
        have hlive := (st_ok m d n t (by omega)).2
        have hpart := (st_ok m d n t (by omega)).1
        have hch := choice_some m d (c := st m d n t) (n := n) (by omega)
        have hcm := choice_mem m d (c := st m d n t) (n := n) (by omega)
        unfold BestIs at hbest
        rw [hys, hch] at hbest
        obtain ⟨rfl, rfl, rfl⟩ := hbest
        have hst : st m d n (t + 1) = unite (st m d n t) (choice m d n (st m d n t)).1 (choice m d n (st m d n t)).2 := rfl
        have hmg : mgOf m d n (st m d n t) = ⟨(choice m d n (st m d n t)).1, (choice m d n (st m d n t)).2, red (rat m d (st m d n t) (choice m d n (st m d n t))), (st m d n t (choice m d n (st m d n t)).1).length + (st m d n t (choice m d n (st m d n t)).2).length⟩ := rfl
        obtain ⟨u, v, hr, hv1, hub, hvb⟩ := rat_nat (m := m) hd hpart.base hcm
        obtain ⟨q1, q2, q3, q4⟩ := mem_prs.1 hcm
        generalize choice m d n (st m d n t) = P at *
        obtain ⟨x, y⟩ := P
        simp only at q1 q2 q3 q4 hst hmg hr hA1 hB1 hF1
        rw [hr, red_nat] at hmg
        rw [hr] at hF1
        have hlx : ∀ k, (st m d n t k).length ≤ 128 := fun k => by have := hpart.base.len k; omega
        have lA := heap_lt hA1
        have lB := heap_lt hB1
        have lF := heap_lt hF1
        have cF0 := cell_of hF1 0
        have cF1 := cell_of hF1 1
        simp only [List.getElem?_toArray, List.getElem?_cons_zero, List.getElem?_cons_succ] at cF0 cF1
        have HW1 := Lib.hid (And.intro hA1 (And.intro hB1 hF1))
        have HU := Lib.hid hu
        have HST2 := Lib.hid hst
        have HMG := Lib.hid hmg
        have HRR := Lib.hid hr
        have HQ := Lib.hid (And.intro q3 q4)
        have HKK := Lib.hid hK
        have HO3 := Lib.hid hobj3
        have HHH := Lib.hid (And.intro hu3 (And.intro hpart hlx))
        clear hu hst hmg hr hlive hch hcm hys hK hA1 hB1 hF1 hobj3 hA hB hF hBB hu3 q3 q4 hpart hlx
        gi_wp2_with fail
        refine (callsIn_wide.2 (ckReduce_any _ u v (by omega) (by omega) hv1)).mono ?_
        rintro e w5 ⟨rfl, hu5⟩
        have hA5 := hu5.at HW1.out.1 (fun h => h)
        have hB5 := hu5.at HW1.out.2.1 (fun h => h)
        have hF5 := hu5.at HW1.out.2.2 (fun h => h)
        have hU3 : Upd (fun b => b = Ba ∨ b = Ba + 1 ∨ b = Ba + 1 + 1) w3 w5 := HU.out.trans (hu5.mono fun _ _ h => h.elim)
        have hbcB : bc < Ba := by rw [← HBa.out]; exact heap_lt HR.out.box
        have hpB : p < Ba := by rw [← HBa.out]; exact HR.out.obj.blk.lt
        have hgB : g < Ba := by rw [← HBa.out]; exact HR.out.obj.row.lt
        have hbox5 := hU3.at (HHH.out.1.at HR.out.box (fun h => h)) (by omega)
        have hobj5 := HO3.out.upd hU3 (by omega) (by omega)
        have hK5 := hu5.at HKK.out (fun h => h)
        have cA := cell_of hA5 0
        have cB := cell_of hB5 0
        have cC := cell_of hbox5 0
        have cF0 := cell_of hF5 0
        have cF1 := cell_of hF5 1
        have fF := free_of hF5
        simp only [List.getElem?_toArray, List.getElem?_cons_zero, List.getElem?_cons_succ] at cA cB cC cF0 cF1
        have hne1 : Ba + 1 + 1 ≠ Ba := by omega
        have hne2 : Ba + 1 + 1 ≠ Ba + 1 := by omega
        have hne3 : Ba + 1 + 1 ≠ bc := by omega
        have H5 := Lib.hid (And.intro hA5 (And.intro hB5 (And.intro hF5 (And.intro hbox5 (And.intro hobj5 hK5)))))
        have HU5 := Lib.hid (And.intro hu5 hU3)
        clear hu5 hU3 hA5 hB5 hF5 hbox5 hobj5 hK5
        generalize ((u / Nat.gcd u v : Nat) : Int) = fu at *
        generalize ((v / Nat.gcd u v : Nat) : Int) = fv at *
        gi_wp2_with fail
        obtain ⟨w6, hw6⟩ : ∃ w6, ((w5.setCell ⟨Ba + 1 + 1, 0, none⟩ (.int .i64 fu)).setCell ⟨Ba + 1 + 1, 1, none⟩ (.int .i64 fv)) = w6 := ⟨_, rfl⟩
        have hu6 : Upd (fun b => b = Ba + 1 + 1) w5 w6 := by rw [← hw6]; exact ((Upd.refl _ _).setB _ _).setB _ _
        have hF6 : w6.heap[Ba + 1 + 1]? = some (.cells #[.int .i64 fu, .int .i64 fv] 38 (0, 0)) := by rw [← hw6]; exact cells_set (o := 1) _ (cells_set (o := 0) _ H5.out.2.2.1)
        rw [hw6]
        clear hw6
        have hobj6 := H5.out.2.2.2.2.1.upd hu6 (by omega) (by omega)
        refine (callsIn_wide.2 (lkunite_any m hobj6 (i := x) (j := y) (by omega) q2 (by omega) HHH.out.2.2)).mono ?_
        rintro e w7 ⟨rfl, hobj7, hu7⟩
        rw [← HST2.out] at hobj7
        have hgood7 : Lk.Good m d n (st m d n (t + 1)) (uD m n x y Dt n) := by rw [HST2.out]; exact HR.out.good.unite hd HHH.out.2.1.base (by omega) (by omega) q2 HQ.out.1 HQ.out.2
        have hA7 := hu7.at (hu6.at H5.out.1 (by omega)) (by omega)
        have hB7 := hu7.at (hu6.at H5.out.2.1 (by omega)) (by omega)
        have hF7 := hu7.at hF6 (by omega)
        have hbox7 := hu7.at (hu6.at H5.out.2.2.2.1 (by omega)) (by have := HR.out.bcp; have := HR.out.bcg; omega)
        have hK7 := hu7.at (hu6.at H5.out.2.2.2.2.2 (by omega)) (by omega)
        have hsx : w7.cell? ⟨p, 2 + x, none⟩ = some (.int .i64 ((st m d n t x).length + (st m d n t y).length : Nat)) := by
          rw [hobj7.blk.cell (o := 2 + x) (by omega), objSz _ _ _ _ (by omega), HST2.out]
          simp [unite]
        have cA := cell_of hA7 0
        have cB := cell_of hB7 0
        have cC := cell_of hbox7 0
        have cF0 := cell_of hF7 0
        have cF1 := cell_of hF7 1
        simp only [List.getElem?_toArray, List.getElem?_cons_zero, List.getElem?_cons_succ] at cA cB cC cF0 cF1
        have b1 : (x : Int) < 128 := by omega
        have H7 := Lib.hid (And.intro hobj7 (And.intro hgood7 (And.intro hbox7 (And.intro hK7 (And.intro hu6 hu7)))))
        clear hobj7 hgood7 hbox7 hK7 hu6 hu7 hA7 hB7 hF7 hF6 hobj6
        generalize (st m d n t x).length + (st m d n t y).length = sz at *
        gi_wp2_with fail
        refine wpIn_region_seq (Wd.wide) ([]) (68) (by kernel_rfl) (by kernel_rfl) (by kernel_rfl) (by kernel_rfl) ?_
        iterate 12 (refine sqB_step (fun K hK => ?_); go_simp; refine hK _ _ ?_; clear hK K)
        refine sqB_step (fun K hK => ?_)
        have U7 : Upd (fun b => b = p ∨ b = g) wr w7 := (((HHH.out.1.mono fun _ _ h => h.elim).then HU5.out.2 (fun i hi h => by have := HBa.out; omega)).then H7.out.2.2.2.2.1 (fun i hi h => by have := HBa.out; omega)).then H7.out.2.2.2.2.2 (fun i hi h => h)
        have hown7 : w7.ownsRow w.heap.size 49 5 (.slice oA t oc) t (flatM ((runL m d n).take t)) := ownsRow_upd HR.out.own U7 (fun b cur _ hb h => by
          rcases h with rfl | rfl
          · exact ne_type hb HR.out.obj.blk (by decide) rfl
          · obtain ⟨cur', hg', _⟩ := HR.out.obj.row
            exact ne_type hb hg' (by decide) rfl)
        have hown8 := ownsRow_upd hown7 (((Upd.refl (fun _ => False) w7).drew).alloc (.cells #[.int .i64 x, .int .i64 y, .int .i64 fu, .int .i64 fv, .int .i64 sz] 49)) (fun _ _ _ _ h => h)
        have hsz7 : w.heap.size ≤ w7.heap.size := Nat.le_trans HR.out.upd.size U7.size
        refine sqB_append rfl (by simp) _ _ 27 rfl w.heap.size 49 i0 _ 5 40 Try.underlying27 hi hz0 hz1 hz2 rfl (by decide) _ t _ rfl hown8 _ 1 1 _ rfl (src_new (World.alloc_heap_new _ _) 5 1 rfl) (by simp [Value.oneCell']) (by simp) (by omega) (by omega) (by simp; omega) ?_
        intro v' w9 hown9 hg9 hat9
        refine hK _ _ ?_
        clear hK K
        go_simp
        iterate 1 (refine sqB_step (fun K hK => ?_); go_simp; refine hK _ _ ?_; clear hK K)
        refine sqB_nil ?_
        have U9 := Upd.ofGrown hg9
        have U8 : Upd (fun _ => False) w7 (w7.drew.alloc (.cells #[.int .i64 x, .int .i64 y, .int .i64 fu, .int .i64 fv, .int .i64 sz] 49)) := (Upd.refl _ _).drew.alloc _
        have hown8' := fun {b : Nat} (h : (Value.slice oA t oc).ownBlock = some b) => own_block hown8 h
        obtain ⟨hobj7, hgood7, hbox7, hK7, hu6, hu7⟩ := H7.out
        have hobj8 := hobj7.upd U8 (fun h => h) (fun h => h)
        have hbox8 := U8.at hbox7 (fun h => h)
        have hK8 := U8.at hK7 (fun h => h)
        have hM7 : Marks w.heap.size w7 Ds := HR.out.marks.upd U7 (fun D hD h => by
          rcases h with rfl | rfl
          · exact HR.out.marks.ne HR.out.obj.blk hD
          · obtain ⟨cur', hg', _⟩ := HR.out.obj.row
            exact HR.out.marks.ne hg' hD)
        have hM8 := hM7.upd U8 (fun _ _ h => h)
        have hM9 : Marks w.heap.size _ (Dm :: Ds) := (hM8.cons hK8 (by have := HR.out.upd.size; have := HBa.out; omega) (fun hm => by
          have h1 := heap_lt (HR.out.marks.2 Dm hm).2
          have := HBa.out
          omega)).upd U9 (fun D hD h => by
            obtain ⟨_, cur, hc⟩ := hown8' h
            rcases List.mem_cons.1 hD with rfl | hD
            · rw [hc] at hK8; cases hK8
            · exact hM8.ne hc hD)
        have hpg : ∀ b, (Value.slice oA t oc).ownBlock = some b → b ≠ p ∧ b ≠ g ∧ b ≠ bc := fun b h => by
          obtain ⟨_, cur, hc⟩ := hown8' h
          obtain ⟨cur', hg', _⟩ := hobj8.row
          exact ⟨ne_type hc hobj8.blk (by decide), ne_type hc hg' (by decide), ne_type hc hbox8 (by decide)⟩
        refine ⟨n - 1 - (t + 1), by omega, _, _, Dm :: Ds, t + 1, uD m n x y Dt n, rfl, rfl, ⟨hobj8.upd U9 (fun h => (hpg _ h).1 rfl) (fun h => (hpg _ h).2.1 rfl), hgood7, ?_, ?_, hM9, U9.at hbox8 (fun h => (hpg _ h).2.2 rfl), by omega, HR.out.bcp, HR.out.bcg⟩, rfl⟩
        · rw [runL_take m d ht, flatM_append, HMG.out]
          exact hown9
        · have h1 : Upd (fun _ => False) w w7 := HR.out.upd.then U7 (fun i hi h => by rcases h with rfl | rfl <;> omega)
          exact (h1.trans U8).then U9 (fun i hi h => by have := (hown8' h).1; omega)
    · have htt : t = n - 1 := by have := hR.le; omega
      have htI : ¬ (t : Int) < n - 1 := by omega
      have HT := Lib.hid htt
      have HR := Lib.hid hR
      clear hR htt
      gi_wp2_with fail
      refine leaves_marks w.heap.size Ds wr HR.out.marks ?_
      intro w' e1 e2 e3 e4 e5
      have hU : Upd (fun b => b ∈ Ds) wr w' := ⟨e2, e3, e4, by rw [e1]; exact Nat.le_refl _, fun k _ hk => e5 k hk⟩
      refine ⟨_, results_tmp2 rfl _ _ _, .slice oA t oc, rfl, ?_, ?_⟩
      · have h1 := HR.out.own
        have hlen := runL_length m d n
        rw [HT.out] at h1 ⊢
        rw [hlen]
        rw [List.take_of_length_le (by omega)] at h1
        exact ownsRow_upd h1 hU (fun b cur _ hb hm => HR.out.marks.ne hb hm)
      · exact HR.out.upd.then hU (fun i hi hm => by have := (HR.out.marks.2 i hm).1; omega)
end Go.Proofs.Ytmkggcmebeagaaa
