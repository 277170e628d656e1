/- The law BagSorts. -/
import Derived.Test.YtocchcclagdjdaaBagRanks
namespace Go.Proofs.Ytocchcclagdjdaa
open Go.RowKit Pl
namespace Pl
theorem kth_mono : ∀ {l : Items} {i k x y : Int}, Srt l → 0 ≤ i → i ≤ k → kth l i = some x → kth l k = some y → x ≤ y
  | [], _, _, _, _, _, _, _, h, _ => by cases h
  | p :: l, i, k, x, y, hs, h0, hik, hx, hy => by
    simp only [kth] at hx hy
    split at hx <;> split at hy
    · cases hx; cases hy; exact Int.le_refl _
    · cases hx
      obtain ⟨q, hq, e⟩ := kth_mem hy
      have := hs.1 q hq
      omega
    · omega
    · exact kth_mono hs.2 (by omega) (by omega) hx hy
end Pl

/-- where the loop of BagSorts stands -/
def Sorted (L : Items) (j : Nat) (la : Int) : Prop := (j = 0 → la = 0) ∧ (0 < j → kth L ((j : Int) - 1) = some la)

set_option maxRecDepth 100000 in
set_option maxHeartbeats 4000000 in
theorem sorts_law {w : World} {a : Option Addr} {l : List Int} (h : Ints w a l) (cap : Nat) :
    Calls Try.prog 7 #[.slice a l.length cap] w fun e w' => e = .returned (.bool true) ∧ Upd (fun _ => False) w w' := by
  by_cases hlen : 300 < l.length
  · go_enter Try.func7, Try.ntmps7
    go_wp2_with (go_at_call 10; refine (works_any w).mono ?_; rintro e w' ⟨rfl, hu⟩)
    go_ret
    exact ⟨rfl, hu⟩
  · have hlen' : l.length ≤ 300 := by omega
    have hok := ms_ok l
    have htot : tot (ms l) = l.length := hok.tot
    have HOK := Lib.hid hok
    clear hok
    go_enter Try.func7, Try.ntmps7
    go_wp2_with fail
    refine (filled_any h cap false hlen').mono ?_
    rintro e w1 ⟨p, fp, rfl, hb1, hfp, hu1⟩
    have h1 := h.upd hu1
    have HU1 := Lib.hid (And.intro hfp hu1)
    clear hfp hu1 h
    go_wp2_with fail
    refine (size_any hb1).mono ?_
    rw [htot]
    rintro e w2 ⟨rfl, n2, rfl⟩
    go_wp2_with fail
    go_loopg [4, 5] l.length (fun k s v wr => ∃ (j : Nat) (la : Int), v = .int .i64 j ∧ s = .int .i64 la ∧ Sorted (ms l) j la ∧ j ≤ l.length ∧ k = l.length - j ∧ ∃ n, w1.drewN n = wr)
    case atStart => exact ⟨0, 0, rfl, rfl, ⟨fun _ => rfl, fun h => by omega⟩, Nat.zero_le _, by omega, n2, rfl⟩
    case round =>
      obtain ⟨j, la, rfl, rfl, hS, hj, hk, n, rfl⟩ := hrel
      by_cases hlt : j < l.length
      · have HS := Lib.hid hS
        clear hS
        go_wp2_with fail
        refine (kth_any (hb1.drewN n) j (by omega) (by omega)).mono ?_
        rintro e w3 ⟨⟨hk', _⟩ | ⟨y, hk0, hkt, hky, rfl⟩, n3, rfl⟩
        · exact absurd hk' (by rw [htot]; omega)
        · obtain ⟨q1, q2⟩ := kth_rank HOK.out.srt HOK.out.pos hk0 hky
          have hcy := HOK.out.cnt y
          rw [HOK.out.rnk, hcy] at q2
          rw [HOK.out.rnk] at q1
          have hle := less_eqs_le l y
          have HKY := Lib.hid hky
          have g1 : ¬ (eqs l y = 0) := by omega
          have g2 : ¬ (j < less l y) := by omega
          have g3 : ¬ (less l y + eqs l y ≤ j) := by omega
          have g4 : ¬ ((less l y : Int) + eqs l y ≤ j) := by omega
          have HQ := Lib.hid (And.intro q1 q2)
          clear hk0 hkt hky q1 q2
          by_cases hj0 : j = 0
          · subst hj0
            go_wp2_with fail
            refine (lcount_any (h1.upd ((Upd.refl _ _).drewN _)) cap y).mono ?_
            rintro e w4 ⟨rfl, hw⟩
            rw [hw]
            clear hw w4
            go_wp2_with fail
            refine (bcount_any (hb1.drewN _) y).mono ?_
            rw [hcy]
            rintro e w4 ⟨rfl, hw⟩
            rw [← hw]
            clear hw w4
            go_wp2_with fail
            · rename_i hd
              exfalso
              rcases hd with hd | hd
              · rw [beq_iff_eq] at hd; omega
              · omega
            refine (min_any (hb1.drewN _)).mono ?_
            rintro e w5 ⟨⟨hk', _⟩ | ⟨y0, _, _, hky0, rfl⟩, n5, rfl⟩
            · exact absurd hk' (by rw [htot]; omega)
            · have e0 : y0 = y := by
                have := HKY.out
                simp only [Int.ofNat_zero, Int.natCast_zero] at this
                rw [hky0] at this
                cases this; rfl
              subst e0
              clear hky0
              go_wp2_with fail
              go_roundg (l.length - 1)
              case measure => omega
              case rel => exact ⟨1, _, by simp, rfl, ⟨fun h => by omega, fun _ => by simpa using HKY.out⟩, by omega, rfl, _, rfl⟩
          · have hj1 : 0 < j := by omega
            have hly : ¬ y < la := by
              have := kth_mono HOK.out.srt (by omega) (by omega) (HS.out.2 hj1) HKY.out
              omega
            go_wp2_with fail
            refine (lcount_any (h1.upd ((Upd.refl _ _).drewN _)) cap y).mono ?_
            rintro e w4 ⟨rfl, hw⟩
            rw [hw]
            clear hw w4
            go_wp2_with fail
            refine (bcount_any (hb1.drewN _) y).mono ?_
            rw [hcy]
            rintro e w4 ⟨rfl, hw⟩
            rw [← hw]
            clear hw w4
            go_wp2_with fail
            · rename_i hd
              exfalso
              rcases hd with hd | hd
              · rw [beq_iff_eq] at hd; omega
              · omega
            refine (min_any (hb1.drewN _)).mono ?_
            rintro e w5 ⟨hk', n5, rfl⟩
            obtain ⟨x0, ok0, rfl, _⟩ := kthIs_cases hk'
            clear hk'
            go_wp2_with fail
            go_roundg (l.length - (j + 1))
            case measure => omega
            case rel => exact ⟨j + 1, _, by simp, rfl, ⟨fun h => by omega, fun _ => by simpa using HKY.out⟩, by omega, rfl, _, rfl⟩
      · obtain rfl : j = l.length := by omega
        have HS := Lib.hid hS
        clear hS
        go_wp2_with fail
        refine (kth_any (hb1.drewN n) l.length (by omega) (by omega)).mono ?_
        rintro e w3 ⟨⟨_, rfl⟩ | ⟨y, _, hkt, _⟩, n3, rfl⟩
        · go_wp2_with fail
          refine (kth_any (hb1.drewN _) (-1) (by omega) (by omega)).mono ?_
          rintro e w4 ⟨⟨_, rfl⟩ | ⟨y, hkt, _⟩, n4, rfl⟩
          · by_cases h0 : l.length = 0
            · have hla := HS.out.1 h0
              go_wp2_with fail
              refine (max_any (hb1.drewN _)).mono ?_
              rintro e w5 ⟨⟨_, rfl⟩ | ⟨y, hkt, _⟩, n5, rfl⟩
              · go_wp2_with fail
                refine (works_any _).mono ?_
                rintro e w6 ⟨rfl, hu6⟩
                go_wp2_with fail
                go_ret
                exact ⟨rfl, (HU1.out.2.drewN _).trans hu6⟩
              · exact absurd hkt (by rw [htot]; omega)
            · have hla := HS.out.2 (by omega)
              have HLA := Lib.hid hla
              clear hla
              have hpos : 0 < l.length := by omega
              go_wp2_with fail
              refine (max_any (hb1.drewN _)).mono ?_
              rintro e w5 ⟨⟨hk', _⟩ | ⟨y, _, _, hky, rfl⟩, n5, rfl⟩
              · exact absurd hk' (by rw [htot]; omega)
              · have e0 : y = la := by
                  have := HLA.out
                  rw [htot, this] at hky
                  cases hky; rfl
                subst e0
                clear hky
                go_wp2_with fail
                refine (works_any _).mono ?_
                rintro e w6 ⟨rfl, hu6⟩
                go_wp2_with fail
                go_ret
                exact ⟨rfl, (HU1.out.2.drewN _).trans hu6⟩
          · exact absurd hkt (by omega)
        · exact absurd hkt (by rw [htot]; omega)
end Go.Proofs.Ytocchcclagdjdaa
