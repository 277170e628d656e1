/- The law LinkageScales, walked. -/
import Derived.Test.YtmkggcmebeagaaaDoorLkEven
import Derived.Deep.RegionHeld3
namespace Go.Proofs.YtmkggcmebeagaaaDoor
set_option linter.unusedVariables false
set_option linter.unusedSimpArgs false
open Go.RowKit Lk
namespace Lk
/-- a list by its numbers -/
def rng (N : Nat) (f : Nat → Int) : List Int := (List.range N).map f
theorem rng_length (N : Nat) (f : Nat → Int) : (rng N f).length = N := by simp [rng]
theorem rng_getD (N : Nat) (f : Nat → Int) (i : Nat) : (rng N f).getD i 0 = if i < N then f i else 0 := by
  simp only [rng, List.getD_eq_getElem?_getD, List.getElem?_map]
  by_cases h : i < N
  · simp [h]
  · simp [h]
theorem rng_set (N : Nat) (f : Nat → Int) (i : Nat) (v : Int) : (rng N f).set i v = rng N fun j => if j = i then v else f j := by
  apply List.ext_getElem
  · simp [rng]
  · intro j h1 h2
    simp only [rng, List.getElem_set, List.getElem_map, List.getElem_range]
    by_cases e : i = j
    · subst e; simp
    · rw [if_neg e, if_neg (fun h => e h.symm)]
theorem rng_congr {N : Nat} {f g : Nat → Int} (h : ∀ j, j < N → f j = g j) : rng N f = rng N g := List.map_congr_left fun j hj => h j (List.mem_range.1 hj)
theorem rng_self (D : List Int) : D = rng D.length fun j => D.getD j 0 := by
  apply List.ext_getElem
  · simp [rng]
  · intro i h1 h2
    simp [rng, List.getD_eq_getElem?_getD, List.getElem?_eq_getElem h1]
theorem rng_rep (N : Nat) : List.replicate N (0 : Int) = rng N fun _ => 0 := by simp [rng, List.map_const']
/-- the distances, cut -/
def cutF (D : List Int) (i : Nat) : Nat → Int := fun j => if j < i then D.getD j 0 % 1073741825 else D.getD j 0
def mulF (D : List Int) (c : Int) (i : Nat) : Nat → Int := fun j => if j < i then D.getD j 0 % 1073741825 * c else 0
theorem cut_next (D : List Int) (i : Nat) : (rng D.length (cutF D i)).set i (D.getD i 0 % 1073741825) = rng D.length (cutF D (i + 1)) := by
  rw [rng_set]
  refine rng_congr fun j _ => ?_
  unfold cutF
  by_cases e : j = i
  · subst e; rw [if_pos rfl, if_pos (by omega)]
  · rw [if_neg e]
    by_cases h : j < i
    · rw [if_pos h, if_pos (by omega)]
    · rw [if_neg h, if_neg (by omega)]
theorem mul_next (D : List Int) (c : Int) (i : Nat) : (rng D.length (mulF D c i)).set i (D.getD i 0 % 1073741825 * c) = rng D.length (mulF D c (i + 1)) := by
  rw [rng_set]
  refine rng_congr fun j _ => ?_
  unfold mulF
  by_cases e : j = i
  · subst e; rw [if_pos rfl, if_pos (by omega)]
  · rw [if_neg e]
    by_cases h : j < i
    · rw [if_pos h, if_pos (by omega)]
    · rw [if_neg h, if_neg (by omega)]
theorem inR_getD {D : List Int} (h : InR D) (i : Nat) : 0 ≤ D.getD i 0 ∧ D.getD i 0 ≤ 1099511627776 := by
  by_cases hi : i < D.length
  · rw [List.getD_eq_getElem?_getD, List.getElem?_eq_getElem hi]; exact h _ (List.getElem_mem hi)
  · rw [List.getD_eq_getElem?_getD, List.getElem?_eq_none (by omega)]; simp
theorem cut_end {k : Nat} {D : List Int} (hl : D.length = k * k) (hs : Sym k D) (hr : InR D) : Sym k (rng D.length (cutF D D.length)) ∧ InR (rng D.length (cutF D D.length)) ∧ ∀ a b, a < k → b < k → 0 ≤ mat k (rng D.length (cutF D D.length)) a b ∧ mat k (rng D.length (cutF D D.length)) a b ≤ 1073741824 := by
  have key : ∀ i, i < D.length → (rng D.length (cutF D D.length)).getD i 0 = D.getD i 0 % 1073741825 := fun i hi => by
    rw [rng_getD, if_pos hi]; unfold cutF; rw [if_pos hi]
  refine ⟨fun a ha b hb => ?_, fun x hx => ?_, fun a b ha hb => ?_⟩
  · obtain ⟨h1, h2⟩ := hs a ha b hb
    refine ⟨?_, fun e => ?_⟩
    · rw [key _ (by rw [hl]; exact idx_lt ha hb), key _ (by rw [hl]; exact idx_lt hb ha), h1]
    · rw [key _ (by rw [hl]; exact idx_lt ha hb), h2 e]; rfl
  · obtain ⟨i, hi, rfl⟩ := List.mem_map.1 hx
    unfold cutF
    rw [if_pos (List.mem_range.1 hi)]
    omega
  · unfold mat
    rw [key _ (by rw [hl]; exact idx_lt ha hb)]
    omega
theorem mul_end {k : Nat} {D : List Int} {c : Nat} (hl : D.length = k * k) (hs : Sym k D) (hc : c ≤ 1000) :
    Sym k (rng D.length (mulF D c D.length)) ∧ InR (rng D.length (mulF D c D.length)) ∧ mat k (rng D.length (mulF D c D.length)) = fun a b => (c : Int) * mat k (rng D.length (cutF D D.length)) a b := by
  have key : ∀ i, i < D.length → (rng D.length (mulF D c D.length)).getD i 0 = D.getD i 0 % 1073741825 * c := fun i hi => by
    rw [rng_getD, if_pos hi]; unfold mulF; rw [if_pos hi]
  refine ⟨fun a ha b hb => ?_, fun x hx => ?_, ?_⟩
  · obtain ⟨h1, h2⟩ := hs a ha b hb
    refine ⟨?_, fun e => ?_⟩
    · rw [key _ (by rw [hl]; exact idx_lt ha hb), key _ (by rw [hl]; exact idx_lt hb ha), h1]
    · rw [key _ (by rw [hl]; exact idx_lt ha hb), h2 e]; simp
  · obtain ⟨i, hi, rfl⟩ := List.mem_map.1 hx
    unfold mulF
    rw [if_pos (List.mem_range.1 hi)]
    have h0 : 0 ≤ D.getD i 0 % 1073741825 := by omega
    have h1 : D.getD i 0 % 1073741825 ≤ 1073741824 := by omega
    generalize D.getD i 0 % 1073741825 = v at *
    have a1 : v * (c : Int) ≤ 1073741824 * c := Int.mul_le_mul_of_nonneg_right h1 (by omega)
    have a2 : 0 ≤ v * (c : Int) := Int.mul_nonneg h0 (by omega)
    omega
  · funext a b
    unfold mat
    rw [rng_getD, rng_getD]
    by_cases h : a * k + b < D.length
    · rw [if_pos h, if_pos h]; unfold mulF cutF; rw [if_pos h, if_pos h, Int.mul_comm]
    · rw [if_neg h, if_neg h]; simp
end Lk

set_option maxRecDepth 100000 in
set_option maxHeartbeats 4000000 in
theorem scales_law {w : World} {a : Option Addr} {l : List Int} (h : IntsK .u64 w a l) (h64 : ∀ x ∈ l, 0 ≤ x ∧ x < 18446744073709551616) (cap n by0 : Nat) (hn : n ≤ 255) (hby : by0 ≤ 65535) (hM : Meth w) :
    Calls Tryd.prog 5 #[.int .u8 n, .slice a l.length cap, .int .u16 by0] w fun e w' => e = .returned (.bool true) ∧ Upd (fun _ => False) w w' := by
  obtain ⟨i0, hi, hz0, hz1, hz2⟩ := info_parts i64_info
  have hml : (maxLen : Nat) = 9223372036854775807 := by decide
  obtain ⟨k, hk⟩ : ∃ k, n % 31 = k := ⟨_, rfl⟩
  have hk61 : k ≤ 30 := by omega
  have q1 : (n : Int) % 31 = (k : Int) := by rw [← hk]; rfl
  obtain ⟨c0, hc0⟩ : ∃ c0, by0 % 1000 = c0 := ⟨_, rfl⟩
  have hc1 : c0 ≤ 999 := by omega
  have q2 : (by0 : Int) % 1000 = (c0 : Int) := by rw [← hc0]; rfl
  have HP := Lib.hid (points_any h h64 cap k (by omega))
  have HM := Lib.hid hM
  have HMP := Lib.hid (World.block_lt_of_cell? w _ hM.1)
  have HI := Lib.hid (And.intro hi (And.intro hz0 (And.intro hz1 hz2)))
  clear hk hc0 h h64 hM hi hz0 hz1 hz2
  go_enter Tryd.func5, Tryd.ntmps5
  go_wp2_with fail
  refine HP.out.mono ?_
  rintro e w1 ⟨g, D, rfl, hg, hrow, hu1, hDl, hsym, hrng, -⟩
  have hM1 := HM.out.upd hu1 (fun h => h)
  have hkk : k * k ≤ 30 * 30 := Nat.mul_le_mul hk61 hk61
  obtain ⟨N, hN⟩ : ∃ N, k * k = N := ⟨_, rfl⟩
  rw [hN] at hkk ⊢
  have HM1 := Lib.hid hM1
  have HU1 := Lib.hid hu1
  have HU1S := Lib.hid hu1.size
  have HDL := Lib.hid (show D.length = N by rw [hDl, hN])
  have HSR := Lib.hid (And.intro hsym hrng)
  have hgl := hrow.lt
  clear hM1 hu1 hDl hsym hrng HP HM
  have HN := Lib.hid hN
  clear hN
  go_wp2_with (refine wpList_make_full _ rfl _ _ 23 rfl w1.heap.size 2 i0 _ 1 Tryd.underlying23 HI.out.1 HI.out.2.1 HI.out.2.2.1 _ _ _ _ N rfl rfl rfl rfl (by rw [HI.out.2.2.2]; omega) (by omega) (Nat.le_refl _) ?_; intro w2 hown hg2)
  have hrow2 := RowAt.of_made hown
  rw [made_zero, rng_rep] at hrow2
  have hu2 : Upd (fun _ => False) w1 w2 := (Upd.refl _ _).grownFar hg2 (fun r e => by cases e)
  obtain ⟨r, hr⟩ : ∃ r, w1.heap.size = r := ⟨_, rfl⟩
  rw [hr] at hrow2 ⊢
  have hgr : g ≠ r := by omega
  have HRR := Lib.hid hr
  have HG := Lib.hid hg
  have HM2 := Lib.hid (HM1.out.upd hu2 (fun h => h))
  have HU2 := Lib.hid (HU1.out.trans hu2)
  have HRW := Lib.hid (show RowAt w2 g 2 ((rng N (cutF D 0)).map (Value.int .i64)) ∧ RowAt w2 r 2 ((rng N (mulF D (c0 + 1 : Nat) 0)).map (Value.int .i64)) ∧ Upd (fun b => b = g ∨ b = r) w2 w2 from
    ⟨by have := hrow.upd hu2 (fun h => h); rw [rng_self D, HDL.out] at this; exact this, hrow2, Upd.refl _ _⟩)
  clear hown hg2 hrow2 hu2 hrow hr hg HM1 HU1 hgl
  go_wp2_with fail
  go_loopg [36] N (fun c v wr => ∃ i : Nat, v = .int .i64 i ∧ i ≤ N ∧ c = N - i ∧ Hid (RowAt wr g 2 ((rng N (cutF D i)).map (Value.int .i64)) ∧ RowAt wr r 2 ((rng N (mulF D (c0 + 1 : Nat) i)).map (Value.int .i64)) ∧ Upd (fun b => b = g ∨ b = r) w2 wr))
  case atStart => exact ⟨0, rfl, Nat.zero_le _, by omega, HRW⟩
  case round =>
    clear HRW
    obtain ⟨i, rfl, hiN, hc, HRW⟩ := hrel
    by_cases hlt : i < N
    · have x1 := HRW.out.1.int (i := i) (by rw [rng_length]; exact hlt)
      have x2 := HRW.out.2.1.int (i := i) (by rw [rng_length]; exact hlt)
      have f1 := HRW.out.1.free
      have f2 := HRW.out.2.1.free
      have e1 : (rng N (cutF D i)).getD i 0 = D.getD i 0 := by rw [rng_getD, if_pos hlt]; unfold cutF; rw [if_neg (by omega)]
      rw [e1] at x1
      obtain ⟨b1, b2⟩ := inR_getD HSR.out.2 i
      have HC := Lib.hid (show (rng N (cutF D i)).set i (D.getD i 0 % 1073741825) = rng N (cutF D (i + 1)) by have := cut_next D i; rw [HDL.out] at this; exact this)
      have HMU := Lib.hid (show (rng N (mulF D (c0 + 1 : Nat) i)).set i (D.getD i 0 % 1073741825 * (1 + (c0 : Int))) = rng N (mulF D (c0 + 1 : Nat) (i + 1)) by have := mul_next D (c0 + 1 : Nat) i; rw [HDL.out] at this; rw [show (1 : Int) + c0 = ((c0 + 1 : Nat) : Int) by omega]; exact this)
      clear e1
      obtain ⟨v, hv⟩ : ∃ v, D.getD i 0 = v := ⟨_, rfl⟩
      rw [hv] at b1 b2 x1 HC HMU
      obtain ⟨u, hu⟩ : ∃ u, v % 1073741825 = u := ⟨_, rfl⟩
      rw [hu] at HC HMU
      have u0 : 0 ≤ u := by omega
      have u1 : u ≤ 1073741824 := by omega
      have m1 : u * (1 + (c0 : Int)) ≤ 1073741824 * (1 + (c0 : Int)) := Int.mul_le_mul_of_nonneg_right u1 (by omega)
      have m0 : 0 ≤ u * (1 + (c0 : Int)) := Int.mul_nonneg u0 (by omega)
      clear hv
      go_wp2_with fail
      go_roundg (N - (i + 1))
      case measure => omega
      case rel => exact ⟨i + 1, by simp, by omega, rfl, ⟨by rw [← HC.out, List.map_set]; exact (HRW.out.1.set _ _).upd ((Upd.refl (fun b => b = r) _).setB _ _) hgr, by rw [← HMU.out, List.map_set]; exact (HRW.out.2.1.upd ((Upd.refl (fun b => b = g) _).setB _ _) (fun e => hgr e.symm)).set _ _, (HRW.out.2.2.setCell (.inl (.inl rfl)) _).setCell (.inl (.inr rfl)) _⟩⟩
    · obtain rfl : i = N := by omega
      obtain ⟨hr1, hr2, hu3⟩ := HRW.out
      have hDi := HDL.out
      rw [← hDi] at hr1 hr2
      have hl2 : D.length = k * k := by rw [hDi]; exact HN.out.symm
      obtain ⟨s1, s2, s3⟩ := cut_end hl2 HSR.out.1 HSR.out.2
      obtain ⟨t1, t2, t3⟩ := mul_end (c := c0 + 1) hl2 HSR.out.1 (by omega)
      have hE := RowAt.ints hr1 (by rw [rng_length]; omega)
      have hF := RowAt.ints hr2 (by rw [rng_length]; omega)
      obtain ⟨E, hEE⟩ : ∃ E, rng D.length (cutF D D.length) = E := ⟨_, rfl⟩
      obtain ⟨F, hFF⟩ : ∃ F, rng D.length (mulF D (c0 + 1 : Nat) D.length) = F := ⟨_, rfl⟩
      have hEl : E.length = k * k := by rw [← hEE, rng_length]; exact hl2
      have hFl : F.length = k * k := by rw [← hFF, rng_length]; exact hl2
      rw [hEE] at hE s1 s2 s3 t3
      rw [hFF] at hF t1 t2 t3
      have cast := Int.natCast_mul k k
      have okE : checkS k E = 0 := checkS_ok (by rw [hEl]; omega) s1 s2
      have okF : checkS k F = 0 := checkS_ok (by rw [hFl]; omega) t1 t2
      have HEE := Lib.hid (And.intro hE (And.intro okE (And.intro hEl (dist_of (by omega) hEl s1 s2))))
      have HFF := Lib.hid (And.intro hF (And.intro okF (And.intro hFl (dist_of (by omega) hFl t1 t2))))
      have HSC := Lib.hid (And.intro s1 (And.intro s3 t3))
      have h0g : w.heap.size ≤ g := HG.out
      have h0r : w.heap.size ≤ r := by have := HU1S.out; have := HRR.out; omega
      have h00 : 0 < w.heap.size := HMP.out
      have hM3 := HM2.out.upd hu3 (by omega)
      have HU3 := Lib.hid (HU2.out.then hu3 (by omega))
      obtain ⟨c0', c1', c2'⟩ := hM3
      have HEN := Lib.hid (show E.length = i by rw [← hEE, rng_length]; exact hDi)
      have HFN := Lib.hid (show F.length = i by rw [← hFF, rng_length]; exact hDi)
      clear hr1 hr2 hDi hl2 s1 s2 s3 t1 t2 t3 hE hF hEE hFF hEl hFl cast okE okF hu3 h0g h0r h00 HRW
      obtain ⟨w3, rfl⟩ : ∃ w3 : World, w3 = wr := ⟨_, rfl⟩
      go_wp2_with fail
      clear c0' c1' c2'
      go_loopg [56] 3 (fun c v wr => ∃ i : Nat, v = .int .i64 i ∧ i ≤ 3 ∧ c = 3 - i ∧ Hid (Upd (fun _ => False) w3 wr))
      case atStart => exact ⟨0, rfl, by omega, rfl, Upd.refl _ _⟩
      case round =>
        obtain ⟨j, rfl, hi3, hc3, HU⟩ := hrel
        by_cases hlt3 : j < 3
        · obtain ⟨m, -, hidx⟩ := index_meth hlt3
          have HR1 := Lib.hid (lkrun_ok m (HEE.out.1.upd HU.out) i k (by omega) HEE.out.2.2.1 HEE.out.2.1 HEE.out.2.2.2)
          have HL1 := Lib.hid (runL_length m (mat k E) k)
          have HL2 := Lib.hid (runL_length m (mat k F) k)
          have HS := Lib.hid (fun t h => sc_of m (c := c0 + 1) (n := k) (t := t) (d := mat k E) hk61 (by omega) (by omega) HEE.out.2.2.2.sym HSC.out.2.1 h)
          obtain ⟨w0, rfl⟩ : ∃ w0 : World, w0 = wr := ⟨_, rfl⟩
          go_wp2_with fail
          have HRC := HR1.out
          rw [HEN.out] at HRC
          with_reducible refine HRC.mono ?_
          rintro e w4 ⟨v, rfl, hown, hu4⟩
          obtain ⟨b, cb, rfl, hmg, -⟩ := Mgs.of_own hown (by rw [HL1.out]; omega)
          have HX1 := Lib.hid (And.intro hmg hu4)
          have HR2 := Lib.hid (lkrun_ok m (HFF.out.1.upd (HU.out.trans hu4)) i k (by omega) HFF.out.2.2.1 HFF.out.2.1 HFF.out.2.2.2)
          clear hown hmg hu4 HRC HR1
          go_wp2_with fail
          have HRC := HR2.out
          rw [HFN.out] at HRC
          with_reducible refine HRC.mono ?_
          rintro e w5 ⟨v, rfl, hown, hu5⟩
          obtain ⟨b2, cb2, rfl, hmg, -⟩ := Mgs.of_own hown (by rw [HL2.out]; omega)
          have HX2 := Lib.hid (And.intro (HX1.out.1.upd hu5) (And.intro hmg ((HU.out.trans HX1.out.2).trans hu5)))
          clear hown hmg hu5 HRC HR2 HX1 hidx
          rw [HSC.out.2.2] at HX2 HL2 ⊢
          obtain ⟨L1, hL1⟩ : ∃ L1, runL m (mat k E) k = L1 := ⟨_, rfl⟩
          obtain ⟨L2, hL2⟩ : ∃ L2, runL m (fun a b => ((c0 + 1 : Nat) : Int) * mat k E a b) k = L2 := ⟨_, rfl⟩
          rw [hL1] at HL1 HX2 ⊢
          rw [hL2] at HL2 HX2 ⊢
          have H1 := Lib.hid hL1
          have H2 := Lib.hid hL2
          rw [HL1.out, HL2.out]
          clear hL1 hL2
          go_wp2_with fail
          go_loopg [88] (k - 1) (fun c v wr => ∃ t : Nat, v = .int .i64 t ∧ t ≤ k - 1 ∧ c = k - 1 - t ∧ Hid (Upd (fun _ => False) w5 wr))
          case atStart => exact ⟨0, rfl, Nat.zero_le _, rfl, Upd.refl _ _⟩
          case round =>
            obtain ⟨t, rfl, ht, hc4, HW⟩ := hrel
            by_cases hlt4 : t < k - 1
            · obtain ⟨A, B, N1, E1, N2, E2, z, hsc⟩ := HS.out t hlt4
              obtain ⟨x, rfl, x1, x2, x3, x4, x5⟩ := (HX2.out.1.upd HW.out).at5 (i := t) (by rw [HL1.out]; exact hlt4)
              obtain ⟨y, rfl, y1, y2, y3, y4, y5⟩ := (HX2.out.2.1.upd HW.out).at5 (i := t) (by rw [HL2.out]; exact hlt4)
              have e1 : L1[t]'(by rw [HL1.out]; exact hlt4) = ⟨A, B, ((N1 : Int), (E1 : Int)), z⟩ := by
                rw [← hsc.eq (by rw [runL_length]; exact hlt4)]; congr 1; exact H1.out.symm
              have e2 : L2[t]'(by rw [HL2.out]; exact hlt4) = ⟨A, B, ((N2 : Int), (E2 : Int)), z⟩ := by
                rw [← hsc.eq' (by rw [runL_length]; exact hlt4)]; congr 1; exact H2.out.symm
              simp only [e1] at x1 x2 x3 x4 x5
              simp only [e2] at y1 y2 y3 y4 y5
              clear e1 e2
              have htk : t < k - 1 := hlt4
              go_wp2_with fail
              obtain ⟨w6, rfl⟩ : ∃ w6 : World, w6 = wr := ⟨_, rfl⟩
              have S3 : ∀ W, Upd (fun _ => False) w6 W → Upd (fun _ => False) w6 W ∧ (W.cell? (x.add (t * 5)) = some (.int .i64 A) ∧ W.cell? ⟨(x.add (t * 5)).block, (x.add (t * 5)).off + 1, none⟩ = some (.int .i64 B) ∧ W.cell? ⟨(x.add (t * 5)).block, (x.add (t * 5)).off + 2, none⟩ = some (.int .i64 N1) ∧ W.cell? ⟨(x.add (t * 5)).block, (x.add (t * 5)).off + 3, none⟩ = some (.int .i64 E1) ∧ W.cell? ⟨(x.add (t * 5)).block, (x.add (t * 5)).off + 4, none⟩ = some (.int .i64 z)) ∧
                  (W.cell? (y.add (t * 5)) = some (.int .i64 A) ∧ W.cell? ⟨(y.add (t * 5)).block, (y.add (t * 5)).off + 1, none⟩ = some (.int .i64 B) ∧ W.cell? ⟨(y.add (t * 5)).block, (y.add (t * 5)).off + 2, none⟩ = some (.int .i64 N2) ∧ W.cell? ⟨(y.add (t * 5)).block, (y.add (t * 5)).off + 3, none⟩ = some (.int .i64 E2) ∧ W.cell? ⟨(y.add (t * 5)).block, (y.add (t * 5)).off + 4, none⟩ = some (.int .i64 z)) := fun W h =>
                ⟨h, ⟨h.keepCell x1 (fun h => h), h.keepCell x2 (fun h => h), h.keepCell x3 (fun h => h), h.keepCell x4 (fun h => h), h.keepCell x5 (fun h => h)⟩, ⟨h.keepCell y1 (fun h => h), h.keepCell y2 (fun h => h), h.keepCell y3 (fun h => h), h.keepCell y4 (fun h => h), h.keepCell y5 (fun h => h)⟩⟩
              go_region_held3 (fun W => Upd (fun _ => False) w6 W ∧ (W.cell? (x.add (t * 5)) = some (.int .i64 A) ∧ W.cell? ⟨(x.add (t * 5)).block, (x.add (t * 5)).off + 1, none⟩ = some (.int .i64 B) ∧ W.cell? ⟨(x.add (t * 5)).block, (x.add (t * 5)).off + 2, none⟩ = some (.int .i64 N1) ∧ W.cell? ⟨(x.add (t * 5)).block, (x.add (t * 5)).off + 3, none⟩ = some (.int .i64 E1) ∧ W.cell? ⟨(x.add (t * 5)).block, (x.add (t * 5)).off + 4, none⟩ = some (.int .i64 z)) ∧
                  (W.cell? (y.add (t * 5)) = some (.int .i64 A) ∧ W.cell? ⟨(y.add (t * 5)).block, (y.add (t * 5)).off + 1, none⟩ = some (.int .i64 B) ∧ W.cell? ⟨(y.add (t * 5)).block, (y.add (t * 5)).off + 2, none⟩ = some (.int .i64 N2) ∧ W.cell? ⟨(y.add (t * 5)).block, (y.add (t * 5)).off + 3, none⟩ = some (.int .i64 E2) ∧ W.cell? ⟨(y.add (t * 5)).block, (y.add (t * 5)).off + 4, none⟩ = some (.int .i64 z)))
                ((refine S3 _ ?_; (repeat (first | exact Upd.refl _ _ | apply Upd.drew | apply Upd.alloc)); done)) (fail)
              all_goals
                first
                  | refine then_world (fun W => Upd (fun _ => False) w6 W ∧ W.heap[w6.heap.size]? = some (.cells #[.int .i64 A, .int .i64 B, .int .i64 N1, .int .i64 E1, .int .i64 z] 35 (0, 0)) ∧ W.heap[w6.heap.size + 1]? = some (.cells #[.int .i64 A, .int .i64 B, .int .i64 N2, .int .i64 E2, .int .i64 z] 35 (0, 0))) ⟨(by repeat (first | exact Upd.refl _ _ | apply Upd.drew | apply Upd.alloc)), (by show ((w6.alloc _).alloc _).heap[_]? = _; exact heapOld (by simp) (heapNew rfl)), (by show ((w6.alloc _).alloc _).heap[_]? = _; exact heapNew (by simp))⟩ ?_
                  | refine then_world (fun W => Upd (fun _ => False) w6 W ∧ W.heap[w6.heap.size + 1]? = some (.cells #[.int .i64 A, .int .i64 B, .int .i64 N1, .int .i64 E1, .int .i64 z] 35 (0, 0)) ∧ W.heap[w6.heap.size]? = some (.cells #[.int .i64 A, .int .i64 B, .int .i64 N2, .int .i64 E2, .int .i64 z] 35 (0, 0))) ⟨(by repeat (first | exact Upd.refl _ _ | apply Upd.drew | apply Upd.alloc)), (by show ((w6.alloc _).alloc _).heap[_]? = _; exact heapNew (by simp)), (by show ((w6.alloc _).alloc _).heap[_]? = _; exact heapOld (by simp) (heapNew rfl))⟩ ?_
                rintro W ⟨hW, hb1, hb2⟩
                have k0 := cell_of hb1 0
                have k1 := cell_of hb1 1
                have k2 := cell_of hb1 2
                have k3 := cell_of hb1 3
                have k4 := cell_of hb1 4
                have l0 := cell_of hb2 0
                have l1 := cell_of hb2 1
                have l2 := cell_of hb2 2
                have l3 := cell_of hb2 3
                have l4 := cell_of hb2 4
                simp only [List.getElem?_toArray, List.getElem?_cons_zero, List.getElem?_cons_succ] at k0 k1 k2 k3 k4 l0 l1 l2 l3 l4
                have HWW := Lib.hid (HW.out.trans hW)
                clear S3 x1 x2 x3 x4 x5 y1 y2 y3 y4 y5 hW hb1 hb2
                have ec : ((N1 * (c0 + 1) : Nat) : Int) = (N1 : Int) * (1 + (c0 : Int)) := by rw [Int.natCast_mul]; congr 1; omega
                have ed : ((N1 * (c0 + 1) * E2 : Nat) : Int) = (N1 : Int) * (1 + (c0 : Int)) * E2 := by rw [Int.natCast_mul, ec]
                have ee : ((N2 * E1 : Nat) : Int) = (N2 : Int) * E1 := Int.natCast_mul ..
                have g1 := hsc.b1
                have g2 : N1 * (c0 + 1) * E2 ≤ 225 * 1073741824 * 1000 * 225 := Nat.mul_le_mul hsc.b1 hsc.b2
                have g3 : N2 * E1 ≤ 225 * 1073741824 * 1000 * 225 := Nat.mul_le_mul hsc.b4 hsc.b3
                have p1 : 0 ≤ (N1 : Int) * (1 + (c0 : Int)) := by omega
                have p2 : (N1 : Int) * (1 + (c0 : Int)) ≤ 241591910400000 := by omega
                have p3 : 0 ≤ (N1 : Int) * (1 + (c0 : Int)) * E2 := by omega
                have p4 : (N1 : Int) * (1 + (c0 : Int)) * E2 ≤ 54358179840000000 := by omega
                have p5 : 0 ≤ (N2 : Int) * E1 := by omega
                have p6 : (N2 : Int) * E1 ≤ 54358179840000000 := by omega
                have hne : ((N1 : Int) * (1 + (c0 : Int)) * E2 != (N2 : Int) * E1) = false := by
                  rw [← ed, ← ee, hsc.cross]; simp
                clear ec ed ee g1 g2 g3 hsc
                go_wp2_with fail
                go_roundg (k - 1 - (t + 1))
                case measure => omega
                case rel => exact ⟨t + 1, by simp, by omega, rfl, HWW⟩
            · obtain rfl : t = k - 1 := by omega
              have HWW := Lib.hid (HX2.out.2.2.trans HW.out)
              go_wp2_with fail
              go_roundg (3 - (j + 1))
              case measure => omega
              case rel => exact ⟨j + 1, by simp, by omega, rfl, HWW⟩
        · obtain rfl : j = 3 := by omega
          go_wp2_with fail
          refine (lkworks_any _).mono ?_
          rintro e w4 ⟨rfl, hu4⟩
          have HF := Lib.hid ((HU3.out.trans HU.out).trans hu4)
          clear hu4
          go_wp2_with fail
          go_ret
          exact ⟨rfl, HF.out⟩
end Go.Proofs.YtmkggcmebeagaaaDoor
