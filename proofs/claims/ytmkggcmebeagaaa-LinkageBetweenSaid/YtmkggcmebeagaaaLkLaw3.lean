/- LinkageBetween, walked. -/
import Derived.Test.YtmkggcmebeagaaaLkRBet
import Derived.Test.YtmkggcmebeagaaaLkBets
namespace Go.Proofs.Ytmkggcmebeagaaa
set_option linter.unusedVariables false
set_option linter.unusedSimpArgs false
open Go.RowKit Lk

set_option maxRecDepth 100000 in
set_option maxHeartbeats 1000000 in
theorem rbet_method {w : World} {a aA aB : Option Addr} {l lA lB : Nat} (cap cA cB : Nat) (n mm : Int) (hm : mm ≠ 1 ∧ mm ≠ 2 ∧ mm ≠ 3) :
    Calls Try.prog 16 #[.int .i64 n, .slice a l cap, .int .i64 mm, .slice aA lA cA, .slice aB lB cB] w (NoBet w 2) := by
  have HM := Lib.hid (fun w => rmethod_no hm w)
  clear hm
  go_enter Try.func16, Try.ntmps16
  go_wp2_with fail
  refine calls_world (fun w1 => CB w1 w.heap.size 38 2 (fun _ => .int .i64 0) ∧ Upd (fun _ => False) w w1) ⟨CB.new _ _ _ _ rfl, (Upd.refl _ _).alloc _⟩ ?_
  rintro w1 ⟨hc, hu⟩
  refine (HM.out _).mono ?_
  rintro e w' ⟨rfl, rfl⟩
  have k0 := hc.cell (o := 0) (by omega)
  have k1 := hc.cell (o := 1) (by omega)
  have f0 := hc.free
  have HU := Lib.hid hu
  clear hc hu
  go_wp2_with fail
  exact bodyPost_ret (v := .tuple #[.agg #[.int .i64 0, .int .i64 0], .int .i64 2]) (by simp [results, Try.results16, go_sem, k0, k1]) rfl ⟨rfl, (HU.out.setCell (.inr (Nat.le_refl _)) _).setCell (.inr (Nat.le_refl _)) _⟩
set_option maxRecDepth 100000 in
set_option maxHeartbeats 1000000 in
theorem rbet_refused (m : Mt) {w : World} {a aA aB : Option Addr} {D : List Int} {lA lB : Nat} (h : IntsK .i64 w a D) (cap cA cB : Nat) (n : Int) (hn : checkS n D ≠ 0) :
    Calls Try.prog 16 #[.int .i64 n, .slice a D.length cap, .int .i64 m.num, .slice aA lA cA, .slice aB lB cB] w (NoBet w (checkS n D)) := by
  have HM := Lib.hid (fun w => rmethod_yes m w)
  have hch := fun w (h : IntsK .i64 w a D) => rcheck_any h cap n
  unfold Checks at hch
  have HCH := Lib.hid hch
  have HH := Lib.hid h
  have hne : (checkS n D != 0) = true := by simpa using hn
  clear h hn hch
  generalize m.num = mm at *
  generalize D.length = len at *
  generalize checkS n D = xx at *
  go_enter Try.func16, Try.ntmps16
  go_wp2_with fail
  refine calls_world (fun w1 => CB w1 w.heap.size 38 2 (fun _ => .int .i64 0) ∧ Upd (fun _ => False) w w1) ⟨CB.new _ _ _ _ rfl, (Upd.refl _ _).alloc _⟩ ?_
  rintro w1 ⟨hc, hu⟩
  refine (HM.out _).mono ?_
  rintro e w' ⟨rfl, rfl⟩
  have HC := Lib.hid (And.intro hc hu)
  clear hc hu
  go_wp2_with fail
  refine (HCH.out _ (HH.out.upd HC.out.2)).mono ?_
  rintro e w2 ⟨rfl, kd, rfl⟩
  have hc2 := HC.out.1.drewN kd
  have k0 := hc2.cell (o := 0) (by omega)
  have k1 := hc2.cell (o := 1) (by omega)
  have f0 := hc2.free
  have HU := Lib.hid (HC.out.2.drewN kd)
  clear hc2
  go_wp2_with fail
  exact bodyPost_ret (v := .tuple #[.agg #[.int .i64 0, .int .i64 0], .int .i64 xx]) (by simp [results, Try.results16, go_sem, k0, k1]) rfl ⟨rfl, (HU.out.setCell (.inr (Nat.le_refl _)) _).setCell (.inr (Nat.le_refl _)) _⟩
theorem rbet_any {w : World} {a aA aB : Option Addr} {D A B : List Int} (h : IntsK .i64 w a D) (hA : IntsK .i64 w aA A) (hB : IntsK .i64 w aB B) (cap cA cB : Nat) (hla : A.length ≤ 30) (hlb : B.length ≤ 30) (n mm : Int) :
    Calls Try.prog 16 #[.int .i64 n, .slice a D.length cap, .int .i64 mm, .slice aA A.length cA, .slice aB B.length cB] w (BetIs w n D mm A B) := by
  rcases method_cases mm with hm | ⟨m, rfl⟩
  · have e2 : btE n D mm A B = 2 := by unfold btE; rw [if_pos hm]
    exact (rbet_method cap cA cB n mm hm).mono fun e w' h => .inl ⟨by omega, by rw [e2]; exact h⟩
  · by_cases hc : checkS n D = 0
    · obtain ⟨k, rfl, hk, hl, hs, hr⟩ := checkS_zero hc
      have hd := dist_of hk hl hs hr
      refine (rbet_main m h hA hB cap cA cB k hla hlb hk hl hc hd).mono fun e w' hh => ?_
      rcases hh with ⟨h1, h2⟩ | ⟨h1, h3, h2⟩ | ⟨h1, h3, h4, h5, h6, h7⟩
      · have e2 : btE k D m.num A B = 3 := by unfold btE; rw [if_neg m.num_ok, if_neg (fun x => x hc), if_pos h1]
        exact .inl ⟨by omega, by rw [e2]; exact h2⟩
      · have e2 : btE k D m.num A B = 2 := by unfold btE; rw [if_neg m.num_ok, if_neg (fun x => x hc), if_neg (fun x => x h1), if_pos h3]
        exact .inl ⟨by omega, by rw [e2]; exact h2⟩
      · have e2 : btE k D m.num A B = 0 := by unfold btE; rw [if_neg m.num_ok, if_neg (fun x => x hc), if_neg (fun x => x h1), if_neg (by simp [h3, h4, h5])]
        exact .inr ⟨m, k, rfl, rfl, hk, hl, hc, hd, h1, h3, h4, h5, e2, h6, h7⟩
    · have e2 : btE n D m.num A B = checkS n D := by unfold btE; rw [if_neg m.num_ok, if_pos hc]
      exact (rbet_refused m h cap cA cB n hc).mono fun e w' h => .inl ⟨by rw [e2]; exact hc, by rw [e2]; exact h⟩
/-- the distance and the error that Between answers -/
def Lk.bF (n : Int) (D : List Int) (mm : Int) (A B : List Int) : Int × Int := if btE n D mm A B = 0 then btF n.toNat D (mtOf mm) A B else (0, 0)
def BetFm (w : World) (n : Int) (D : List Int) (mm : Int) (A B : List Int) (e : Ending) (w' : World) : Prop :=
  e = .returned (.tuple #[.agg #[.int .i64 (bF n D mm A B).1, .int .i64 (bF n D mm A B).2], .int .i64 (btE n D mm A B)]) ∧ Upd (fun _ => False) w w'
theorem BetIs.form {w : World} {n : Int} {D : List Int} {mm : Int} {A B : List Int} {e : Ending} {w' : World} (h : BetIs w n D mm A B e w') : BetFm w n D mm A B e w' := by
  rcases h with ⟨h0, h1, h2⟩ | ⟨m, k, rfl, rfl, _, _, _, _, _, _, _, _, h0, h1, h2⟩
  · have e2 : bF n D mm A B = (0, 0) := by unfold bF; rw [if_neg h0]
    exact ⟨by rw [e2]; exact h1, h2⟩
  · have e2 : bF k D m.num A B = btF k D m A B := by unfold bF; rw [if_pos h0, mtOf_num, Int.toNat_natCast]
    exact ⟨by rw [e2, h0]; exact h1, h2⟩

set_option maxRecDepth 100000 in
set_option maxHeartbeats 4000000 in
theorem between_law {w : World} {a aA aB : Option Addr} {l A B : List Int} (h : IntsK .u64 w a l) (h64 : ∀ x ∈ l, 0 ≤ x ∧ x < 18446744073709551616) (hA : IntsK .i64 w aA A) (hB : IntsK .i64 w aB B) (cap cA cB n : Nat) (hcA : A.length ≤ cA) (hcB : B.length ≤ cB) (mm : Int) (hn : n ≤ 255) :
    Calls Try.prog 5 #[.int .u8 n, .slice a l.length cap, .int .i64 mm, .slice aA A.length cA, .slice aB B.length cB] w fun e w' => e = .returned (.bool true) ∧ Upd (fun _ => False) w w' := by
  obtain ⟨j0, hj, hy0, hy1, hy2⟩ := info_parts int1_info
  have hml : (maxLen : Nat) = 9223372036854775807 := by decide
  have HJ := Lib.hid (And.intro hj (And.intro hy0 (And.intro hy1 hy2)))
  clear hj hy0 hy1 hy2
  by_cases ha : 30 < A.length
  · have haI : (30 : Int) < A.length := by omega
    clear h h64 hA hB
    go_enter Try.func5, Try.ntmps5
    go_wp2_with fail
    refine (lkworks_any _).mono ?_
    rintro e w9 ⟨rfl, hu9⟩
    have HF := Lib.hid (((Upd.refl (fun _ => False) w)).trans hu9)
    clear hu9
    go_wp2_with fail
    go_ret
    exact ⟨rfl, HF.out⟩
  · have haI : ¬ (30 : Int) < A.length := by omega
    by_cases hb : 30 < B.length
    · have hbI : (30 : Int) < B.length := by omega
      clear h h64 hA hB
      go_enter Try.func5, Try.ntmps5
      go_wp2_with fail
      refine (lkworks_any _).mono ?_
      rintro e w9 ⟨rfl, hu9⟩
      have HF := Lib.hid (((Upd.refl (fun _ => False) w)).trans hu9)
      clear hu9
      go_wp2_with fail
      go_ret
      exact ⟨rfl, HF.out⟩
    · have hbI : ¬ (30 : Int) < B.length := by omega
      obtain ⟨k, hk⟩ : ∃ k, n % 15 = k := ⟨_, rfl⟩
      have hk14 : k ≤ 14 := by omega
      have q1 : (n : Int) % 15 = (k : Int) := by rw [← hk]; rfl
      have HP := Lib.hid (points_any h h64 cap k (by omega))
      have nA : aA = none → A.length = 0 := fun e => by
        rcases Nat.eq_zero_or_pos A.length with h0 | h0
        · exact h0
        · obtain ⟨x, hx, _⟩ := hA.cell 0 h0; rw [e] at hx; cases hx
      have nB : aB = none → B.length = 0 := fun e => by
        rcases Nat.eq_zero_or_pos B.length with h0 | h0
        · exact h0
        · obtain ⟨x, hx, _⟩ := hB.cell 0 h0; rw [e] at hx; cases hx
      have HAB := Lib.hid (And.intro hA hB)
      clear hk h h64 hA hB
      go_enter Try.func5, Try.ntmps5
      go_wp2_with fail
      refine HP.out.mono ?_
      rintro e w1 ⟨g, D, rfl, hg, hrow, hu1, hDl, hsym, hrng, -⟩
      have hD := RowAt.ints hrow (by have : k * k ≤ 14 * 14 := Nat.mul_le_mul hk14 hk14; omega)
      have HD := Lib.hid (And.intro hD (And.intro hDl hu1))
      clear hrow hu1 hDl hsym hrng hD HP hg
      go_wp2_with (first
        | (at_builtin; refine wpList_app_src (o := ⟨some 38, _, _, _, _, _⟩) _ rfl _ _ 36 rfl w1.heap.size 3 j0 _ 1 8 Try.underlying36 HJ.out.1 HJ.out.2.1 HJ.out.2.2.1 HJ.out.2.2.2 rfl (by decide) _ 0 [] rfl (ownsRow_zero _ _ _ _ (Nat.le_refl _) (World.alloc_heap_new w1 _)) aA A.length cA (A.map (Value.int .i64)) rfl ((HAB.out.1.upd HD.out.2.2).upd ((Upd.refl _ _).alloc _)).src (ints_one _) nA (by omega) (by omega) (by simp) ?_; intro v1 w3 hown1 hg1 _; have hu3 : Upd (fun _ => False) w1 w3 := Upd.grown (v := .slice (some ⟨w1.heap.size, 0, none⟩) 0 0) ((Upd.refl _ _).alloc _) hg1 (fun g h => .inr (by cases h; exact Nat.le_refl _)))
        | (at_builtin; refine wpList_app_src (o := ⟨some 41, _, _, _, _, _⟩) _ rfl _ _ 36 rfl w3.heap.size 3 j0 _ 1 8 Try.underlying36 HJ.out.1 HJ.out.2.1 HJ.out.2.2.1 HJ.out.2.2.2 rfl (by decide) _ 0 [] rfl (ownsRow_zero _ _ _ _ (Nat.le_refl _) (World.alloc_heap_new w3 _)) aB B.length cB (B.map (Value.int .i64)) rfl (((HAB.out.2.upd HD.out.2.2).upd hu3).upd ((Upd.refl _ _).alloc _)).src (ints_one _) nB (by omega) (by omega) (by simp) ?_; intro v2 w4 hown2 hg2 _; have hu4 : Upd (fun _ => False) w3 w4 := Upd.grown (v := .slice (some ⟨w3.heap.size, 0, none⟩) 0 0) ((Upd.refl _ _).alloc _) hg2 (fun g h => .inr (by cases h; exact Nat.le_refl _))))
      simp only [Nat.zero_add, List.nil_append] at hown1 hown2
      obtain ⟨a1, c1, rfl, hi1, hc1⟩ := IntsK.of_own hown1 (by omega)
      obtain ⟨a2, c2, rfl, hi2, hc2⟩ := IntsK.of_own hown2 (by omega)
      have HX := Lib.hid (And.intro (hi1.upd hu4) (And.intro hi2 (HD.out.2.2.trans (hu3.trans hu4))))
      have HD4 := Lib.hid ((HD.out.1.upd hu3).upd hu4)
      have HAB4 := Lib.hid (And.intro (HAB.out.1.upd HX.out.2.2) (HAB.out.2.upd HX.out.2.2))
      have hDl := HD.out.2.1
      have hE3 : btE ((k : Int) + 1) D mm A B = 2 := by
        unfold btE
        by_cases hm : mm ≠ 1 ∧ mm ≠ 2 ∧ mm ≠ 3
        · rw [if_pos hm]
        · rw [if_neg hm]
          have hk0 : ((D.length : Int)) ≠ ((k : Int) + 1) * ((k : Int) + 1) := by
            rw [hDl, Int.natCast_mul, Int.add_mul, Int.mul_add]; omega
          have : checkS ((k : Int) + 1) D = 2 := checkS_out (.inr (.inr hk0))
          rw [this, if_pos (by omega)]
      have hF3 : bF ((k : Int) + 1) D mm A B = (0, 0) := by unfold bF; rw [hE3, if_neg (by omega)]
      have HE3 := Lib.hid (And.intro hE3 hF3)
      have HDL := Lib.hid hDl
      clear hown1 hown2 hg1 hg2 hi1 hi2 hu3 hu4 hDl hE3 hF3 HD HAB nA nB
      go_wp2_with fail
      have h1 := (lkbet_any HD4.out HX.out.1 HX.out.2.1 (k * k) c1 c2 hc1 hc2 k mm).mono fun e w' h => BetIs.form h
      rw [HDL.out] at h1
      with_reducible refine h1.mono ?_
      rintro e w5 ⟨rfl, hu5⟩
      have H5 := Lib.hid hu5
      clear h1 hu5
      obtain ⟨E, hE⟩ : ∃ E, btE k D mm A B = E := ⟨_, rfl⟩
      obtain ⟨F1, hF1⟩ : ∃ F1, (bF k D mm A B).1 = F1 := ⟨_, rfl⟩
      obtain ⟨F2, hF2⟩ : ∃ F2, (bF k D mm A B).2 = F2 := ⟨_, rfl⟩
      rw [hE, hF1, hF2]
      have HEF := Lib.hid (And.intro hE (And.intro hF1 hF2))
      clear hE hF1 hF2
      go_wp2_with fail
      obtain ⟨f5, hf5⟩ : ∃ f5, w5.heap.size = f5 := ⟨_, rfl⟩
      refine calls_world (fun w6 => w6.heap[f5]? = some (.cells #[.int .i64 F1, .int .i64 F2] 38 (0, 0)) ∧ Upd (fun _ => False) w5 w6) ⟨by rw [← hf5]; exact World.alloc_heap_new _ _, (Upd.refl _ _).alloc _⟩ ?_
      rintro w6 ⟨h6, hu6⟩
      rw [hf5]
      have H6 := Lib.hid (And.intro h6 (H5.out.trans hu6))
      clear h6 hu6 hf5
      have h1 := (rbet_any (HD4.out.upd H6.out.2) (HAB4.out.1.upd H6.out.2) (HAB4.out.2.upd H6.out.2) (k * k) cA cB (by omega) (by omega) k mm).mono fun e w' h => BetIs.form h
      unfold BetFm at h1
      rw [HDL.out, HEF.out.1, HEF.out.2.1, HEF.out.2.2] at h1
      with_reducible refine h1.mono ?_
      rintro e w7 ⟨rfl, hu7⟩
      have H7 := Lib.hid (And.intro (hu7.at H6.out.1 (fun h => h)) (H6.out.2.trans hu7))
      clear h1 hu7
      go_wp2_with fail
      obtain ⟨f7, hf7⟩ : ∃ f7, w7.heap.size = f7 := ⟨_, rfl⟩
      refine calls_world (fun w8 => w8.heap[f7]? = some (.cells #[.int .i64 F1, .int .i64 F2] 38 (0, 0)) ∧ Upd (fun _ => False) w7 w8) ⟨by rw [← hf7]; exact World.alloc_heap_new _ _, (Upd.refl _ _).alloc _⟩ ?_
      rintro w8 ⟨h8, hu8⟩
      rw [hf7]
      have H8 := Lib.hid (And.intro (hu8.at H7.out.1 (fun h => h)) (And.intro h8 (H7.out.2.trans hu8)))
      clear h8 hu8 hf7
      have h1 := (lkbet_any (HD4.out.upd H8.out.2.2) (HAB4.out.1.upd H8.out.2.2) (HAB4.out.2.upd H8.out.2.2) (k * k) cA cB hcA hcB ((k : Int) + 1) mm).mono fun e w' h => BetIs.form h
      unfold BetFm at h1
      rw [HDL.out, HE3.out.1, HE3.out.2] at h1
      with_reducible refine h1.mono ?_
      rintro e w9 ⟨rfl, hu9⟩
      have H9 := Lib.hid (And.intro (hu9.at H8.out.1 (fun h => h)) (And.intro (hu9.at H8.out.2.1 (fun h => h)) (H8.out.2.2.trans hu9)))
      clear h1 hu9
      have a0 := cell_of H9.out.1 0
      have a1' := cell_of H9.out.1 1
      have b0 := cell_of H9.out.2.1 0
      have b1' := cell_of H9.out.2.1 1
      simp only [List.getElem?_toArray, List.getElem?_cons_zero, List.getElem?_cons_succ] at a0 a1' b0 b1'
      have lf5 := heap_lt H9.out.1
      have lf7 := heap_lt H9.out.2.1
      have hw9 : Upd (fun _ => False) w4 (w9.alloc (.cells #[.int .i64 0, .int .i64 0] 38)) := H9.out.2.2.alloc _
      have HQ := Lib.hid (show ∀ (w : World) (a b : Option Addr) (P : List Int) (_ : IntsK .i64 w a P) (_ : IntsK .i64 w b P) (ca cb : Nat), Calls Try.prog 17 #[.slice a P.length ca, .slice b P.length cb] w fun e w' => e = .returned (.bool true) ∧ ∃ n, w.drewN n = w' from fun w a b P h k ca cb => by
        have := alike23_any h k ca cb
        rw [decide_eq_true rfl] at this
        exact this)
      have HW9 := Lib.hid hw9
      clear hw9
      go_wp2_with fail
      with_reducible refine (HQ.out _ _ _ A (HX.out.1.upd HW9.out) (HAB4.out.1.upd HW9.out) c1 cA).mono ?_
      rintro e w10 ⟨rfl, k10, rfl⟩
      go_wp2_with fail
      with_reducible refine (HQ.out _ _ _ B ((HX.out.2.1.upd HW9.out).drewN k10) ((HAB4.out.2.upd HW9.out).drewN k10) c2 cB).mono ?_
      rintro e w11 ⟨rfl, k11, rfl⟩
      go_wp2_with fail
      refine (lkworks_any _).mono ?_
      rintro e w12 ⟨rfl, hu12⟩
      have HF := Lib.hid ((HX.out.2.2.trans HW9.out).trans (hu12.of_drewN))
      clear hu12
      go_wp2_with fail
      go_ret
      exact ⟨rfl, HF.out⟩
end Go.Proofs.Ytmkggcmebeagaaa
