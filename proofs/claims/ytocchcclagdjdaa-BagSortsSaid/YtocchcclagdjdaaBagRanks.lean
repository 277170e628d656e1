/- The law BagRanks. -/
import Derived.Test.YtocchcclagdjdaaBagWorks
namespace Go.Proofs.Ytocchcclagdjdaa
open Go.RowKit Pl
namespace Pl
theorem kth_mem : ∀ {l : Items} {k y : Int}, kth l k = some y → ∃ q ∈ l, q.1 = y
  | [], _, _, h => by cases h
  | p :: l, k, y, h => by
    simp only [kth] at h
    split at h
    · cases h; exact ⟨p, List.mem_cons_self .., rfl⟩
    · obtain ⟨q, hq, e⟩ := kth_mem h
      exact ⟨q, List.mem_cons_of_mem _ hq, e⟩
theorem kth_rank : ∀ {l : Items} {k y : Int}, Srt l → Pos l → 0 ≤ k → kth l k = some y → rnk l y ≤ k ∧ k < rnk l y + cnt l y
  | [], _, _, _, _, _, h => by cases h
  | p :: l, k, y, hs, hp, h0, h => by
    obtain ⟨hp1, hp2⟩ := pos_cons.1 hp
    simp only [kth] at h
    split at h
    · rename_i hk
      cases h
      have hr : rnk l p.1 = 0 := rnk_none fun q hq => by have := hs.1 q hq; omega
      have e1 : rnk (p :: l) p.1 = 0 := by simp only [rnk]; rw [if_neg (by omega)]; exact hr
      have e2 : cnt (p :: l) p.1 = p.2 := by simp only [cnt, if_true]
      rw [e1, e2]; omega
    · rename_i hk
      obtain ⟨q, hq, e⟩ := kth_mem h
      have hlt := hs.1 q hq
      have ih := kth_rank hs.2 hp2 (by omega) h
      have e1 : rnk (p :: l) y = p.2 + rnk l y := by simp only [rnk]; rw [if_pos (by omega)]
      have e2 : cnt (p :: l) y = cnt l y := by simp only [cnt]; rw [if_neg (by omega)]
      rw [e1, e2]; omega
theorem rnk_nonneg {l : Items} (h : Pos l) (x : Int) : 0 ≤ rnk l x := by
  induction l with
  | nil => simp [rnk]
  | cons p l ih =>
    obtain ⟨h1, h2⟩ := pos_cons.1 h
    simp only [rnk]; have := ih h2; split <;> omega
end Pl

set_option maxHeartbeats 2000000 in
theorem ranks_law {w : World} {a : Option Addr} {l : List Int} (h : Ints w a l) (cap : Nat) (x k : Int) (hk1 : -9223372036854775808 ≤ k) (hk2 : k ≤ 9223372036854775807) :
    Calls Try.prog 3 #[.slice a l.length cap, .int .i64 x, .int .i64 k] w fun e w' => e = .returned (.bool true) ∧ Upd (fun _ => False) w w' := by
  by_cases hlen : 300 < l.length
  · go_enter Try.func3, Try.ntmps3
    go_wp2_with (go_at_call 10; refine (works_any w).mono ?_; rintro e w' ⟨rfl, hu⟩)
    go_ret
    exact ⟨rfl, hu⟩
  · have hlen' : l.length ≤ 300 := by omega
    have hok := ms_ok l
    have hcx := hok.cnt x
    have hrx := hok.rnk x
    have HOK := Lib.hid hok
    have HK := Lib.hid (And.intro hk1 hk2)
    clear hok hk1 hk2
    go_enter Try.func3, Try.ntmps3
    go_wp2_with fail
    refine (filled_any h cap true hlen').mono ?_
    rintro e w1 ⟨p, fp, rfl, hb1, hfp, hu1⟩
    have h1 := h.upd hu1
    have HU1 := Lib.hid (And.intro hfp hu1)
    clear hfp hu1 h
    go_wp2_with fail
    refine (lcount_any h1 cap x).mono ?_
    rintro e w2 ⟨rfl, hw⟩
    rw [hw]
    clear hw w2
    go_wp2_with fail
    refine (brank_any hb1 x).mono ?_
    rw [hrx]
    rintro e w2 ⟨rfl, n2, rfl⟩
    have hb2 := hb1.drewN n2
    go_wp2_with fail
    refine (bcount_any hb2 x).mono ?_
    rw [hcx]
    rintro e w3 ⟨rfl, hw⟩
    rw [← hw]
    clear hw w3
    go_wp2_with fail
    refine (kth_any hb2 k HK.out.1 HK.out.2).mono ?_
    rintro e w3 ⟨⟨hk, rfl⟩ | ⟨y, hk0, hkt, hky, rfl⟩, n3, rfl⟩
    · have htot := HOK.out.tot
      rw [htot] at hk
      have hb3 := hb2.drewN n3
      by_cases hneg : k < 0
      · go_wp2_with (go_at_call 10; refine (works_any _).mono ?_; rintro e w4 ⟨rfl, hu4⟩)
        go_ret
        exact ⟨rfl, (HU1.out.2.drewN _).trans hu4⟩
      · have hge : (l.length : Int) ≤ k := by omega
        go_wp2_with (go_at_call 10; refine (works_any _).mono ?_; rintro e w4 ⟨rfl, hu4⟩)
        go_ret
        exact ⟨rfl, (HU1.out.2.drewN _).trans hu4⟩
    · have hb3 := hb2.drewN n3
      obtain ⟨q1, q2⟩ := kth_rank hb3.srt hb3.pos hk0 hky
      have q3 := rnk_nonneg hb3.pos y
      have q4 := cnt_nonneg hb3.pos y
      have q5 := cnt_le_tot hb3.pos y
      have htot := HOK.out.tot
      have q6 : rnk (ms l) y + cnt (ms l) y ≤ 300 := by
        rw [HOK.out.rnk, HOK.out.cnt]
        have := less_eqs_le l y
        omega
      obtain ⟨R, hR⟩ : ∃ R, rnk (ms l) y = R := ⟨_, rfl⟩
      obtain ⟨C, hC⟩ : ∃ C, cnt (ms l) y = C := ⟨_, rfl⟩
      rw [hR] at q1 q2 q3 q6
      rw [hC] at q2 q4 q5 q6
      clear hk0 hkt hky htot q5
      have HR := Lib.hid hR
      have HC := Lib.hid hC
      clear hR hC
      go_wp2_with fail
      refine (brank_any (hb1.drewN _) y).mono ?_
      rw [HR.out]
      rintro e w4 ⟨rfl, n4, rfl⟩
      go_wp2_with fail
      refine (brank_any (hb1.drewN _) y).mono ?_
      rw [HR.out]
      rintro e w5 ⟨rfl, n5, rfl⟩
      go_wp2_with fail
      refine (bcount_any (hb1.drewN _) y).mono ?_
      rw [HC.out]
      rintro e w6 ⟨rfl, hw⟩
      rw [← hw]
      clear hw w6
      go_wp2_with fail
      refine (works_any _).mono ?_
      rintro e w6 ⟨rfl, hu6⟩
      go_wp2_with fail
      go_ret
      exact ⟨rfl, (HU1.out.2.drewN _).trans hu6⟩
end Go.Proofs.Ytocchcclagdjdaa
