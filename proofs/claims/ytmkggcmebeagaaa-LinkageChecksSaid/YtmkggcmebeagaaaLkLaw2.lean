/- LinkageChecks, walked. -/
import Derived.Test.YtmkggcmebeagaaaLkLaw
import Derived.Test.YtmkggcmebeagaaaLkSame
namespace Go.Proofs.Ytmkggcmebeagaaa
set_option linter.unusedVariables false
set_option linter.unusedSimpArgs false
open Go.RowKit Lk

set_option maxRecDepth 100000 in
set_option maxHeartbeats 2000000 in
theorem checks_law {w : World} {a : Option Addr} {D : List Int} (h : IntsK .i64 w a D) (cap : Nat) (n mm : Int) :
    Calls Try.prog 3 #[.int .i64 n, .slice a D.length cap, .int .i64 mm] w fun e w' => e = .returned (.bool true) ∧ Upd (fun _ => False) w w' := by
  obtain ⟨i0, hi, hz0, hz1, hz2⟩ := info_parts i64_info
  have hml : (maxLen : Nat) = 9223372036854775807 := by decide
  have HI := Lib.hid (And.intro hi (And.intro hz0 (And.intro hz1 hz2)))
  clear hi hz0 hz1 hz2
  by_cases h4 : 400 < D.length
  · have h4I : (400 : Int) < (D.length : Int) := by omega
    clear h
    go_enter Try.func3, Try.ntmps3
    go_wp2_with fail
    refine (lkworks_any _).mono ?_
    rintro e w5 ⟨rfl, hu5⟩
    go_wp2_with fail
    go_ret
    exact ⟨rfl, hu5⟩
  · have h4I : ¬ (400 : Int) < (D.length : Int) := by omega
    have HA : a = none → D.length = 0 := fun e => by
      rcases Nat.eq_zero_or_pos D.length with h0 | h0
      · exact h0
      · obtain ⟨x, hx, _⟩ := h.cell 0 h0
        rw [e] at hx; cases hx
    have HD := Lib.hid h
    have HLE := Lib.hid h.len
    clear h
    go_enter Try.func3, Try.ntmps3
    go_wp2_with (at_builtin; refine wpList_app_src _ rfl _ _ 22 rfl w.heap.size 2 i0 _ 1 8 Try.underlying22 HI.out.1 HI.out.2.1 HI.out.2.2.1 HI.out.2.2.2 rfl (by decide) _ 0 [] rfl (ownsRow_zero _ _ _ _ (Nat.le_refl _) (World.alloc_heap_new w _)) a D.length cap (D.map (Value.int .i64)) rfl (HD.out.upd ((Upd.refl _ _).alloc _)).src (ints_one _) HA (by omega) (by omega) (by simp) ?_; intro v' w1 hown hg1 _)
    have hu1 : Upd (fun _ => False) w w1 := Upd.grown (v := .slice (some ⟨w.heap.size, 0, none⟩) 0 0) ((Upd.refl _ _).alloc _) hg1 (fun g h => .inr (by cases h; exact Nat.le_refl _))
    simp only [Nat.zero_add, List.nil_append] at hown
    obtain ⟨a1, c1, rfl, hi1, -⟩ := IntsK.of_own hown HLE.out
    have H1 := Lib.hid (And.intro hi1 hu1)
    clear hown hg1 hi1 hu1 HA
    have HCK := Lib.hid (fun (w : World) (a : Option Addr) (h : IntsK .i64 w a D) (cap : Nat) => lkcheck_any h cap n)
    have HRK := Lib.hid (fun (w : World) (a : Option Addr) (h : IntsK .i64 w a D) (cap : Nat) => rcheck_any h cap n)
    have HRU := Lib.hid (fun (w : World) (a : Option Addr) (h : IntsK .i64 w a D) (cap : Nat) => (lkrun_any h cap n mm).mono fun e w' h => RunIs.form h)
    have HRR := Lib.hid (fun (w : World) (a : Option Addr) (h : IntsK .i64 w a D) (cap : Nat) (hn : n ≤ 14) => (rrun_any h cap n mm (fun _ => hn)).mono fun e w' h => RunIs.form h)
    have HEQ := Lib.hid (show ∀ (w : World) (a b : Option Addr) (_ : IntsK .i64 w a D) (_ : IntsK .i64 w b D) (ca cb : Nat), Calls Try.prog 11 #[.slice a D.length ca, .slice b D.length cb] w fun e w' => e = .returned (.bool true) ∧ ∃ n, w.drewN n = w' from fun w a b h k ca cb => by
      have := equal23_any h k ca cb
      rw [decide_eq_true rfl] at this
      exact this)
    unfold Checks at HCK HRK
    unfold RunF at HRU HRR
    obtain ⟨len, hlen⟩ : ∃ len, D.length = len := ⟨_, rfl⟩
    obtain ⟨C, hC⟩ : ∃ C, checkS n D = C := ⟨_, rfl⟩
    obtain ⟨E, hE⟩ : ∃ E, runE n D mm = E := ⟨_, rfl⟩
    obtain ⟨G, hG⟩ : ∃ G, runG n D mm = G := ⟨_, rfl⟩
    have HEC := Lib.hid (show (mm < 1 ∨ 3 < mm → E = 2 ∧ G = []) ∧ (¬ (mm < 1 ∨ 3 < mm) → E = C) ∧ (E ≠ 0 → G = []) from by
      refine ⟨fun h => ?_, fun h => ?_, fun h => ?_⟩
      · have e1 : runE n D mm = 2 := by unfold runE; rw [if_pos (by omega)]
        exact ⟨by omega, by rw [← hG]; unfold runG; rw [if_neg (by omega)]⟩
      · rw [← hE, ← hC]; unfold runE; rw [if_neg (by omega)]
      · rw [← hG]; unfold runG; rw [if_neg (by omega)])
    rw [hlen] at HCK HRK HRU HRR HEQ h4I ⊢
    rw [hC] at HCK HRK
    rw [hE, hG] at HRU HRR
    clear hlen hC hE hG h4
    go_wp2_with fail
    with_reducible refine (HCK.out _ _ H1.out.1 c1).mono ?_
    rintro e w2 ⟨rfl, k2, rfl⟩
    go_wp2_with fail
    with_reducible refine (HRU.out _ _ (H1.out.1.drewN k2) c1).mono ?_
    rintro e w3 ⟨a3, c3, rfl, hm3, hu3⟩
    have H3 := Lib.hid (And.intro hm3 hu3.of_drewN)
    clear hm3 hu3
    go_wp2_with fail
    with_reducible refine (HRK.out _ _ (HD.out.upd (H1.out.2.trans H3.out.2)) cap).mono ?_
    rintro e w4 ⟨rfl, k4, rfl⟩
    go_wp2_with fail
    have heq := HEQ.out _ _ _ ((H1.out.1.upd H3.out.2).drewN k4) ((HD.out.upd (H1.out.2.trans H3.out.2)).drewN k4) c1 cap
    with_reducible refine heq.mono ?_
    rintro e w5 ⟨rfl, k5, rfl⟩
    clear heq
    have HU := Lib.hid (((H1.out.2.trans H3.out.2).drewN k4).drewN k5)
    have HM6 := Lib.hid ((H3.out.1.upd ((Upd.refl _ _).drewN k4)).upd ((Upd.refl _ _).drewN k5))
    generalize (w3.drewN k4).drewN k5 = w6 at *
    by_cases hB : C = 0 ∧ n ≤ 14
    · obtain ⟨rfl, hn14⟩ := hB
      have hn14' : ¬ (14 : Int) < n := by omega
      go_wp2_with fail
      with_reducible refine (HRR.out _ _ (HD.out.upd HU.out) cap hn14).mono ?_
      rintro e w7 ⟨a6, c6, rfl, hm6, hu6⟩
      have H6 := Lib.hid (And.intro hm6 (HU.out.trans hu6))
      have HM3 := Lib.hid (HM6.out.upd hu6)
      clear hm6 hu6
      go_wp2_with fail
      have h3 := msame23_any HM3.out H6.out.1 c3 c6
      rw [decide_eq_true rfl] at h3
      with_reducible refine h3.mono ?_
      rintro e w8 ⟨rfl, k7, rfl⟩
      clear h3
      go_wp2_with fail
      refine (lkworks_any _).mono ?_
      rintro e w9 ⟨rfl, hu9⟩
      have HF := Lib.hid ((H6.out.2.drewN k7).trans hu9)
      clear hu9
      go_wp2_with fail
      go_ret
      exact ⟨rfl, HF.out⟩
    · by_cases hC0 : C = 0
      · subst hC0
        have hn14 : (14 : Int) < n := by omega
        clear hB
        by_cases hm : mm < 1 ∨ 3 < mm
        · obtain ⟨rfl, rfl⟩ := HEC.out.1 hm
          rcases hm with hm | hm
          · go_wp2_with fail
            go_wp2_with fail
            refine (lkworks_any _).mono ?_
            rintro e w9 ⟨rfl, hu9⟩
            have HF := Lib.hid (HU.out.trans hu9)
            clear hu9
            go_wp2_with fail
            go_ret
            exact ⟨rfl, HF.out⟩
          · have hm' : ¬ mm < 1 := by omega
            go_wp2_with fail
            go_wp2_with fail
            refine (lkworks_any _).mono ?_
            rintro e w9 ⟨rfl, hu9⟩
            have HF := Lib.hid (HU.out.trans hu9)
            clear hu9
            go_wp2_with fail
            go_ret
            exact ⟨rfl, HF.out⟩
        · obtain rfl := HEC.out.2.1 hm
          have hm1 : ¬ mm < 1 := fun h => hm (.inl h)
          have hm2 : ¬ 3 < mm := fun h => hm (.inr h)
          clear hm
          go_wp2_with fail
          go_wp2_with fail
          refine (lkworks_any _).mono ?_
          rintro e w9 ⟨rfl, hu9⟩
          have HF := Lib.hid (HU.out.trans hu9)
          clear hu9
          go_wp2_with fail
          go_ret
          exact ⟨rfl, HF.out⟩
      · have hC1 : (C == 0) = false := by simpa using hC0
        have hC2 : (C != 0) = true := by simpa using hC0
        clear hB
        by_cases hm : mm < 1 ∨ 3 < mm
        · obtain ⟨rfl, rfl⟩ := HEC.out.1 hm
          rcases hm with hm | hm
          · go_wp2_with fail
            go_wp2_with fail
            refine (lkworks_any _).mono ?_
            rintro e w9 ⟨rfl, hu9⟩
            have HF := Lib.hid (HU.out.trans hu9)
            clear hu9
            go_wp2_with fail
            go_ret
            exact ⟨rfl, HF.out⟩
          · have hm' : ¬ mm < 1 := by omega
            go_wp2_with fail
            go_wp2_with fail
            refine (lkworks_any _).mono ?_
            rintro e w9 ⟨rfl, hu9⟩
            have HF := Lib.hid (HU.out.trans hu9)
            clear hu9
            go_wp2_with fail
            go_ret
            exact ⟨rfl, HF.out⟩
        · obtain rfl := HEC.out.2.1 hm
          obtain rfl := HEC.out.2.2 hC0
          have hm1 : ¬ mm < 1 := fun h => hm (.inl h)
          have hm2 : ¬ 3 < mm := fun h => hm (.inr h)
          clear hm
          go_wp2_with fail
          go_wp2_with fail
          refine (lkworks_any _).mono ?_
          rintro e w9 ⟨rfl, hu9⟩
          have HF := Lib.hid (HU.out.trans hu9)
          clear hu9
          go_wp2_with fail
          go_ret
          exact ⟨rfl, HF.out⟩
end Go.Proofs.Ytmkggcmebeagaaa
