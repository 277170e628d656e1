/- The law BagCopies. -/
import Derived.Test.YtocchcclagdjdaaBagShow
namespace Go.Proofs.Ytocchcclagdjdaa
open Go.RowKit Pl

theorem eqs_drop {l : List Int} {j : Nat} (h : j < l.length) (x : Int) : eqs (l.drop j) x = eqs (l.drop (j + 1)) x + (if l[j] = x then 1 else 0) := by
  rw [List.drop_eq_getElem_cons h, eqs, List.countP_cons]; simp [eqs]
theorem drop_less {l : List Int} {j : Nat} (h : j < l.length) : 1 ≤ cnt (ms (l.drop j)) l[j] ∧ put (ms (l.drop j)) l[j] (cnt (ms (l.drop j)) l[j] - 1) = ms (l.drop (j + 1)) := by
  have h1 := ms_ok (l.drop j)
  have h2 := ms_ok (l.drop (j + 1))
  have hc : 1 ≤ cnt (ms (l.drop j)) l[j] := by rw [h1.cnt, eqs_drop h, if_pos rfl]; omega
  refine ⟨hc, ext_cnt (put_srt h1.srt _ _) h2.srt (put_pos h1.pos _ _) h2.pos fun z => ?_⟩
  rw [cnt_put h1.srt _ _ _ (by omega), h2.cnt]
  by_cases e : z = l[j]
  · subst e; rw [if_pos rfl, h1.cnt, eqs_drop h, if_pos rfl]; omega
  · rw [if_neg e, h1.cnt, eqs_drop h, if_neg (fun h => e h.symm)]; rfl

set_option maxRecDepth 100000 in
set_option maxHeartbeats 1600000 in
theorem copies_law {w : World} {a : Option Addr} {l : List Int} (h : Ints w a l) (cap : Nat) (x : Int) :
    Calls Try.prog 8 #[.slice a l.length cap, .int .i64 x] w fun e w' => e = .returned (.bool true) ∧ Upd (fun _ => False) w w' := by
  by_cases hlen : 300 < l.length
  · go_enter Try.func8, Try.ntmps8
    go_wp2_with (go_at_call 10; refine (works_any w).mono ?_; rintro e w' ⟨rfl, hu⟩)
    go_ret
    exact ⟨rfl, hu⟩
  · have hlen' : l.length ≤ 300 := by omega
    have hok := ms_ok l
    have hml := ms_length l
    have hl301 : (ms l).length ≤ 301 := by omega
    have hl1m : (ms l).length ≤ 1000000 := by omega
    have htot : tot (ms l) = l.length := hok.tot
    have HI := Lib.hid h
    have HOK := Lib.hid hok
    clear hok hml
    go_enter Try.func8, Try.ntmps8
    go_wp2_with fail
    refine (filled_any h cap false hlen').mono ?_
    rintro e w1 ⟨p, fp, rfl, hb1, hfp, hu1⟩
    have HFP := Lib.hid hfp
    have HU1 := Lib.hid hu1
    clear hfp hu1 h
    go_wp2_with fail
    refine (items301 hb1 hl301).mono ?_
    rintro e w2 ⟨aa, ca, rfl, hu2, hs2, hxa⟩
    have hb2 := hb1.upd hu2 (fun _ _ h => h)
    have HU2 := Lib.hid (HU1.out.trans hu2)
    clear hu2 hb1 hxa
    go_wp2_with fail
    refine (copy_any hb2).mono ?_
    rintro e w3 ⟨q, fq, rfl, hc3, hu3, hfq⟩
    have hb3 := hb2.upd hu3 (fun _ _ h => h)
    have hs3 := hs2.upd hu3
    have HU3 := Lib.hid (HU2.out.trans hu3)
    -- all that is new from here on lies above
    have HLT := Lib.hid hb2.lt
    have HFQ := Lib.hid hfq
    have HU23 := Lib.hid hu3
    clear hu3 hfq
    go_wp2_with fail
    refine (items301 hc3 hl301).mono ?_
    rintro e w4 ⟨ab, cb, rfl, hu4, hs4, hxb⟩
    have hc4 := hc3.upd hu4 (fun _ _ h => h)
    have hsa4 := hs3.upd hu4
    have HU24 := Lib.hid (HU23.out.trans hu4)
    clear hu4 hxb hc3 hb3 hs3
    go_wp2_with fail
    refine (same_any hs4 hsa4 cb ca hl1m).mono ?_
    rw [decide_refl]
    rintro e w5 ⟨rfl, n5, rfl⟩
    go_wp2_with fail
    refine (add_any (hc4.drewN n5) x 3 (by omega) (by omega)).mono ?_
    rintro e w6 ⟨rfl, f6, hu6, hc6, hf6⟩
    have hc6' : ∃ L6, Bag w6 q L6 f6 ∧ tot L6 ≤ 303 := ⟨_, hc6, by rw [tot_put HOK.out.srt _ _ (by have := cnt_nonneg HOK.out.pos x; omega)]; omega⟩
    clear hc6
    obtain ⟨L6, hc6, ht6⟩ := hc6'
    have HU26 := Lib.hid ((HU24.out.drewN n5).then hu6 (fun i hi h => by have := HFQ.out i h; omega))
    have HF6 := Lib.hid (show ∀ b ∈ f6, w2.heap.size ≤ b from fun b hb => (hf6 b hb).elim (HFQ.out b) (fun h => Nat.le_trans (HU24.out.drewN n5).size h))
    clear hu6 hf6 hc4 hs4 hsa4
    go_wp2_with fail
    go_loopg [8] (l.length + 1) (fun k v wr => ∃ (j : Nat) (Lc : Items) (fc : List Nat), v = .int .i64 j ∧ Bag wr q Lc fc ∧ tot Lc ≤ 303 ∧ (∀ b ∈ fc, w2.heap.size ≤ b) ∧ Upd (fun _ => False) w2 wr ∧ j ≤ l.length + 1 ∧ k = l.length + 1 - j)
    case atStart => exact ⟨0, L6, f6, rfl, hc6, ht6, HF6.out, HU26.out, by omega, by omega⟩
    case round =>
      obtain ⟨j, Lc, fc, rfl, hc, htc, hfc, hu, hj, hk⟩ := hrel
      clear hc6 ht6
      have hw := HI.out.upd (HU2.out.trans hu)
      by_cases hlt : j < l.length
      · obtain ⟨x', rfl, hcell⟩ := hw.cell j hlt
        have HK := Lib.hid hk
        have HFC := Lib.hid hfc
        have HU := Lib.hid hu
        have HTC := Lib.hid htc
        clear hfc hu htc
        go_wp2_with fail
        by_cases hc1 : 1 ≤ cnt Lc l[j]
        · refine (remove_any hc l[j] 1 (by omega) hc1).mono ?_
          rintro e w7 ⟨rfl, f7, hu7, hb7, hf7⟩
          have HT7 := Lib.hid (show tot (put Lc l[j] (cnt Lc l[j] - 1)) ≤ 303 by have := HTC.out; rw [tot_put hc.srt _ _ (by omega)]; omega)
          have HU7 := Lib.hid hu7
          have HF7 := Lib.hid hf7
          clear hu7 hf7 hc1
          go_wp2_with fail
          go_roundg (l.length + 1 - (j + 2))
          case measure => omega
          case rel => exact ⟨j + 2, _, f7, by simp, hb7, HT7.out, fun b hb => (HF7.out b hb).elim (HFC.out b) (fun h => Nat.le_trans HU.out.size h), HU.out.then HU7.out (fun i hi h => by have := HFC.out i h; omega), by omega, rfl⟩
        · refine (remove_none hc l[j] 1 (by omega) (by omega)).mono ?_
          rintro e w7 ⟨rfl, hu7⟩
          have HU7 := Lib.hid hu7
          have hb7 := hc.upd hu7 (fun _ _ h => h)
          clear hu7 hc1
          go_wp2_with fail
          go_roundg (l.length + 1 - (j + 2))
          case measure => omega
          case rel => exact ⟨j + 2, _, fc, by simp, hb7, HTC.out, HFC.out, HU.out.trans HU7.out, by omega, rfl⟩
      · have hbr := hb2.upd hu (fun _ _ h => h)
        have hsr := hs2.upd hu
        have hLc : Lc.length ≤ 1000000 := by have := len_le_tot hc.pos; omega
        have HFC := Lib.hid hfc
        have HU := Lib.hid hu
        clear hfc hu hw hb2 hs2 htc
        go_wp2_with fail
        refine (items301 hbr hl301).mono ?_
        rintro e w7 ⟨ae, ce, rfl, hu7, hs7, _⟩
        have hb7 := hbr.upd hu7 (fun _ _ h => h)
        have hc7 := hc.upd hu7 (fun _ _ h => h)
        have HU7 := Lib.hid (HU.out.trans hu7)
        have hsa7 := hsr.upd hu7
        clear hu7 hbr hsr hc
        go_wp2_with fail
        refine (same_any hs7 hsa7 ce ca hl1m).mono ?_
        rw [decide_refl]
        rintro e w8 ⟨rfl, n8, rfl⟩
        clear hs7 hsa7
        have h302 := items_shown (hc7.drewN n8) 302 hLc
        obtain ⟨Ln, hLn⟩ : ∃ Ln, Lc.take 302 = Ln := ⟨_, rfl⟩
        rw [hLn] at h302
        have HLN := Lib.hid hLn
        have hlnm : Ln.length ≤ 1000000 := by rw [← hLn, List.length_take]; omega
        clear hLn
        go_wp2_with fail
        refine h302.mono ?_
        rintro e w9 ⟨an, cn, rfl, hu9, hs9, hxn⟩
        have hb9 := (hb7.drewN n8).upd hu9 (fun _ _ h => h)
        have hc9 := (hc7.drewN n8).upd hu9 (fun _ _ h => h)
        have HU9 := Lib.hid ((HU7.out.drewN n8).trans hu9)
        have HXN := Lib.hid (show ∀ y, an = some y → w2.heap.size ≤ y.block from fun y hy => Nat.le_trans (HU7.out.drewN n8).size (hxn y hy))
        clear hu9 hxn hb7 hc7 h302
        go_wp2_with fail
        go_loopg [10] l.length (fun k v wr => ∃ (j : Nat) (fb : List Nat), v = .int .i64 j ∧ Bag wr p (ms (l.drop j)) fb ∧ (∀ b ∈ fb, b ∈ fp ∨ w9.heap.size ≤ b) ∧ Upd (fun i => i ∈ fp) w9 wr ∧ j ≤ l.length ∧ k = l.length - j)
        case atStart => exact ⟨0, fp, rfl, hb9, fun b hb => .inl hb, Upd.refl _ _, Nat.zero_le _, by omega⟩
        case round =>
          obtain ⟨i, fb, rfl, hb, hfb, hv, hi, hk2⟩ := hrel
          clear hb9
          have hw := HI.out.upd ((HU2.out.trans HU9.out).then hv (fun i hi h => by have := HFP.out i h; omega))
          by_cases hlt2 : i < l.length
          · obtain ⟨x', rfl, hcell⟩ := hw.cell i hlt2
            obtain ⟨d1, d2⟩ := drop_less hlt2
            have hrem := remove_any hb l[i] 1 (by omega) d1
            rw [d2] at hrem
            have HK2 := Lib.hid hk2
            have HFB := Lib.hid hfb
            have HV := Lib.hid hv
            clear d1 d2 hfb hv hk2
            go_wp2_with fail
            refine hrem.mono ?_
            rintro e w10 ⟨rfl, f10, hu10, hb10, hf10⟩
            have HU10 := Lib.hid hu10
            have HF10 := Lib.hid hf10
            clear hu10 hf10 hrem
            go_wp2_with fail
            go_roundg (l.length - (i + 1))
            case measure => have := HK2.out; omega
            case rel => exact ⟨i + 1, f10, by simp, hb10, fun b hb => (HF10.out b hb).elim (HFB.out b) (fun h => .inr (Nat.le_trans HV.out.size h)), HV.out.then HU10.out (fun i hi h => (HFB.out i h).elim id (fun h => by omega)), by omega, rfl⟩
          · obtain rfl : i = l.length := by omega
            rw [List.drop_length] at hb
            have hnd : ∀ b ∈ fc, ¬ b ∈ fp := fun b hb hm => by
              have := HFC.out b hb
              have := HLT.out b hm
              omega
            have hcr := hc9.upd hv hnd
            have hsn := hs9.updS hv (fun y hy _ hm => by
              have := HXN.out y hy
              have := HLT.out _ hm
              omega)
            have HUV := Lib.hid ((HU2.out.trans HU9.out).then hv (fun i hi h => by have := HFP.out i h; omega))
            clear hfb hv hw hnd
            go_wp2_with fail
            refine (size_any hb).mono ?_
            rintro e w10 ⟨rfl, n10, rfl⟩
            go_wp2_with fail
            refine (distinct_any (hb.drewN _)).mono ?_
            rintro e w11 ⟨rfl, n11, rfl⟩
            go_wp2_with fail
            have h302b := items_shown (hcr.drewN (n10 + n11)) 302 hLc
            rw [HLN.out] at h302b
            refine h302b.mono ?_
            rintro e w12 ⟨am, cm, rfl, hu12, hs12, _⟩
            go_wp2_with fail
            refine (same_any hs12 ((hsn.upd ((Upd.refl _ _).drewN _)).upd hu12) cm cn hlnm).mono ?_
            rw [decide_refl]
            rintro e w13 ⟨rfl, n13, rfl⟩
            go_wp2_with fail
            refine (works_any _).mono ?_
            rintro e w14 ⟨rfl, hu14⟩
            go_wp2_with fail
            go_ret
            exact ⟨rfl, (((HUV.out.drewN _).trans hu12).drewN _).trans hu14⟩
end Go.Proofs.Ytocchcclagdjdaa
