/- The law BagUndo. -/
import Derived.Test.YtocchcclagdjdaaBagShow
namespace Go.Proofs.Ytocchcclagdjdaa
open Go.RowKit Pl


theorem put_back {l : List Int} {x k : Int} (hk : 0 ≤ k) : put (put (ms l) x (cnt (ms l) x + k)) x (cnt (put (ms l) x (cnt (ms l) x + k)) x - k) = ms l := by
  have h := ms_ok l
  have h0 := cnt_nonneg h.pos x
  have hs := put_srt h.srt x (cnt (ms l) x + k)
  have e : cnt (put (ms l) x (cnt (ms l) x + k)) x - k = cnt (ms l) x := by rw [cnt_put h.srt _ _ _ (by omega), if_pos rfl]; omega
  rw [e]
  refine ext_cnt (put_srt hs _ _) h.srt (put_pos (put_pos h.pos _ _) _ _) h.pos fun z => ?_
  rw [cnt_put hs _ _ _ h0, cnt_put h.srt _ _ _ (by omega)]
  by_cases ez : z = x
  · rw [if_pos ez, ez]
  · rw [if_neg ez, if_neg ez]

set_option maxHeartbeats 2000000 in
theorem undo_law {w : World} {a : Option Addr} {l : List Int} (h : Ints w a l) (cap : Nat) (x k : Int) (hk1 : -9223372036854775808 ≤ k) (hk2 : k ≤ 9223372036854775807) :
    Calls Try.prog 5 #[.slice a l.length cap, .int .i64 x, .int .i64 k] w fun e w' => e = .returned (.bool true) ∧ Upd (fun _ => False) w w' := by
  by_cases hlen : 300 < l.length
  · go_enter Try.func5, Try.ntmps5
    go_wp2_with (go_at_call 10; refine (works_any w).mono ?_; rintro e w' ⟨rfl, hu⟩)
    go_ret
    exact ⟨rfl, hu⟩
  · have hlen' : l.length ≤ 300 := by omega
    have hok := ms_ok l
    have hml := ms_length l
    have hl301 : (ms l).length ≤ 301 := by omega
    have hl1m : (ms l).length ≤ 1000000 := by omega
    have htot : tot (ms l) = l.length := hok.tot
    have hcx := hok.cnt x
    have hel := eqs_le l x
    have HI := Lib.hid h
    have HOK := Lib.hid hok
    have HK := Lib.hid (And.intro hk1 hk2)
    clear hok hk1 hk2 hml
    go_enter Try.func5, Try.ntmps5
    go_wp2_with fail
    refine (filled_any h cap false hlen').mono ?_
    rintro e w1 ⟨p, fp, rfl, hb1, hfp, hu1⟩
    have h1 := h.upd hu1
    have HFP := Lib.hid hfp
    have HU1 := Lib.hid hu1
    clear hfp hu1 h
    go_wp2_with fail
    refine (items301 hb1 hl301).mono ?_
    rintro e w2 ⟨aa, ca, rfl, hu2, hs2, hxa⟩
    have HXA := Lib.hid hxa
    clear hxa
    have h2 := h1.upd hu2
    have hb2 := hb1.upd hu2 (fun _ _ h => h)
    have HU2 := Lib.hid (HU1.out.trans hu2)
    have HLT := Lib.hid hb1.lt
    have HS2 := Lib.hid hs2.lt
    clear hu2 hb1 h1
    by_cases c1 : k < 0
    · go_wp2_with fail
      refine (add_neg hb2 x k c1).mono ?_
      rintro e wz ⟨rfl, hu3⟩
      have hbz := hb2.upd hu3 (fun _ _ h => h)
      have hsz := hs2.upd hu3
      have huz := Lib.hid (HU2.out.trans hu3)
      clear hu3 h2 hb2 hs2
      go_wp2_with fail
      refine (items301 hbz hl301).mono ?_
      rintro e v1 ⟨av, cv, rfl, hu1, hs1, _⟩
      go_wp2_with fail
      refine (same_any hs1 (hsz.upd hu1) cv ca hl1m).mono ?_
      rw [decide_refl]
      rintro e v2 ⟨rfl, n2, rfl⟩
      go_wp2_with fail
      refine (size_any ((hbz.upd hu1 (fun _ _ h => h)).drewN _)).mono ?_
      rw [htot]
      rintro e v3 ⟨rfl, n3, rfl⟩
      go_wp2_with fail
      refine (works_any _).mono ?_
      rintro e v4 ⟨rfl, hu4⟩
      go_wp2_with fail
      go_ret
      exact ⟨rfl, ((huz.out.trans hu1).drewN _).trans hu4⟩
    · by_cases c2 : 2147483647 - (l.length : Int) < k
      · go_wp2_with fail
        refine (add_full hb2 x k (by omega) (by omega)).mono ?_
        rintro e wz ⟨rfl, hu3⟩
        have hbz := hb2.upd hu3 (fun _ _ h => h)
        have hsz := hs2.upd hu3
        have huz := Lib.hid (HU2.out.trans hu3)
        clear hu3 h2 hb2 hs2
        go_wp2_with fail
        refine (items301 hbz hl301).mono ?_
        rintro e v1 ⟨av, cv, rfl, hu1, hs1, _⟩
        go_wp2_with fail
        refine (same_any hs1 (hsz.upd hu1) cv ca hl1m).mono ?_
        rw [decide_refl]
        rintro e v2 ⟨rfl, n2, rfl⟩
        go_wp2_with fail
        refine (size_any ((hbz.upd hu1 (fun _ _ h => h)).drewN _)).mono ?_
        rw [htot]
        rintro e v3 ⟨rfl, n3, rfl⟩
        go_wp2_with fail
        refine (works_any _).mono ?_
        rintro e v4 ⟨rfl, hu4⟩
        go_wp2_with fail
        go_ret
        exact ⟨rfl, ((huz.out.trans hu1).drewN _).trans hu4⟩
      · go_wp2_with fail
        refine (add_any hb2 x k (by omega) (by omega)).mono ?_
        rintro e w3 ⟨rfl, f3, hu3, hb3, hf3⟩
        have hcx3 : cnt (put (ms l) x (cnt (ms l) x + k)) x = (eqs l x : Int) + k := by rw [cnt_put HOK.out.srt _ _ _ (by omega), if_pos rfl, hcx]
        have hpb := put_back (l := l) (x := x) (k := k) (by omega)
        have hxn : ∀ y, aa = some y → 0 < (ms l).length → ¬ y.block ∈ fp := fun y hy _ hm => by
          have h1 := HXA.out y hy
          have h2 := HLT.out _ hm
          omega
        have hs3 := hs2.updS hu3 hxn
        have HU3 := Lib.hid (HU2.out.then hu3 (fun i hi h => by have := HFP.out i h; omega))
        have h3 := HI.out.upd HU3.out
        have HF3 := Lib.hid hf3
        clear hu3 hf3 h2 hb2 hs2
        obtain ⟨L1, hL1⟩ : ∃ L1, put (ms l) x (cnt (ms l) x + k) = L1 := ⟨_, rfl⟩
        rw [hL1] at hb3 hcx3 hpb
        have HPB := Lib.hid hpb
        clear hL1 hpb
        go_wp2_with fail
        refine (lcount_any h3 cap x).mono ?_
        rintro e w4 ⟨rfl, hw⟩
        rw [hw]
        clear hw w4
        go_wp2_with fail
        refine (bcount_any hb3 x).mono ?_
        rw [hcx3]
        rintro e w4 ⟨rfl, hw⟩
        rw [← hw]
        clear hw w4
        go_wp2_with fail
        refine (remove_none hb3 x ((eqs l x : Int) + k + 1) (by omega) (by omega)).mono ?_
        rintro e w4 ⟨rfl, hu4⟩
        have hb4 := hb3.upd hu4 (fun _ _ h => h)
        have hs4 := hs3.upd hu4
        have HU4 := Lib.hid (HU3.out.trans hu4)
        have HS4 := Lib.hid hu4.size
        clear hu4 hb3 hs3 h3
        go_wp2_with fail
        refine (remove_any hb4 x k (by omega) (by omega)).mono ?_
        rw [HPB.out]
        rintro e wz ⟨rfl, fz, hu5, hbz, hf5⟩
        have hxn3 : ∀ y, aa = some y → 0 < (ms l).length → ¬ y.block ∈ f3 := fun y hy h0 hm => by
          have h1 := HXA.out y hy
          rcases HF3.out _ hm with h2 | h2
          · have := HLT.out _ h2; omega
          · have := HS2.out y hy h0; omega
        have hsz := hs4.updS hu5 hxn3
        have huz := Lib.hid (HU4.out.then hu5 (fun i hi h => by
          rcases HF3.out i h with h | h
          · have := HFP.out i h; omega
          · have := HU2.out.size; omega))
        clear hu5 hf5 hb4 hs4 hcx3 hxn3 hxn
        go_wp2_with fail
        refine (items301 hbz hl301).mono ?_
        rintro e v1 ⟨av, cv, rfl, hu1, hs1, _⟩
        go_wp2_with fail
        refine (same_any hs1 (hsz.upd hu1) cv ca hl1m).mono ?_
        rw [decide_refl]
        rintro e v2 ⟨rfl, n2, rfl⟩
        go_wp2_with fail
        refine (size_any ((hbz.upd hu1 (fun _ _ h => h)).drewN _)).mono ?_
        rw [htot]
        rintro e v3 ⟨rfl, n3, rfl⟩
        go_wp2_with fail
        refine (works_any _).mono ?_
        rintro e v4 ⟨rfl, hu4⟩
        go_wp2_with fail
        go_ret
        exact ⟨rfl, ((huz.out.trans hu1).drewN _).trans hu4⟩
end Go.Proofs.Ytocchcclagdjdaa
