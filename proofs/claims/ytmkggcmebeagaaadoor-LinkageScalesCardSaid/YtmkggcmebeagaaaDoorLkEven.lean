/- The law LinkageEven, walked. -/
import Derived.Test.YtmkggcmebeagaaaDoorLkSteps
import Derived.Test.YtmkggcmebeagaaaDoorLkEvenP
namespace Go.Proofs.YtmkggcmebeagaaaDoor
set_option linter.unusedVariables false
set_option linter.unusedSimpArgs false
open Go.RowKit Lk

theorem getD_rep (N k : Nat) : (List.replicate N (0 : Int)).getD k 0 = 0 := by
  simp only [List.getD_eq_getElem?_getD, List.getElem?_replicate]; split <;> rfl
theorem check_zero (n N : Nat) (h : N = n * n) (hn : n ≤ 128) : checkS n (List.replicate N (0 : Int)) = 0 := by
  subst h
  refine checkS_ok ?_ (fun i _ j _ => ⟨by rw [getD_rep, getD_rep], fun _ => getD_rep _ _⟩) fun x hx => ?_
  · have : ((n * n : Nat) : Int) = (n : Int) * n := Int.natCast_mul ..
    rw [List.length_replicate]; omega
  · have := List.eq_of_mem_replicate hx; omega
theorem check_rep {w : World} {g N : Nat} (h : RowAt w g 2 ((List.replicate N (0 : Int)).map (Value.int .i64))) (hN : N ≤ 20000) (n : Int) :
    Calls Tryd.prog 19 #[.int .i64 n, .slice (some ⟨g, 0, none⟩) N N] w (fun e w' => e = .returned (.int .i64 (checkS n (List.replicate N (0 : Int)))) ∧ ∃ k, w.drewN k = w') := by
  have := lkcheck_any (RowAt.ints h (by rw [List.length_replicate]; omega)) N n
  rw [List.length_replicate] at this
  exact this
/-- what is left of LinkageEven behind its loop -/
theorem check_big {w : World} {g : Nat} (h : RowAt w g 2 ((List.replicate 16641 (0 : Int)).map (Value.int .i64))) :
    Calls Tryd.prog 19 #[.int .i64 129, .slice (some ⟨g, 0, none⟩) 16641 16641] w (fun e w' => e = .returned (.int .i64 2) ∧ ∃ k, w.drewN k = w') := by
  have := check_rep h (by omega) 129
  rw [checkS_out (.inr (.inl (by omega)))] at this
  exact this
theorem check_most {w : World} {g : Nat} (h : RowAt w g 2 ((List.replicate 16384 (0 : Int)).map (Value.int .i64))) :
    Calls Tryd.prog 19 #[.int .i64 128, .slice (some ⟨g, 0, none⟩) 16384 16384] w (fun e w' => e = .returned (.int .i64 0) ∧ ∃ k, w.drewN k = w') := by
  have := check_rep h (by omega) ((128 : Nat) : Int)
  rw [check_zero 128 16384 (by omega) (by omega)] at this
  exact this

set_option maxRecDepth 100000 in
set_option maxHeartbeats 4000000 in
theorem even_law {w : World} (n : Nat) (x : Int) (hn : n ≤ 255) (hx : 0 ≤ x ∧ x < 18446744073709551616) (hM : Meth w) :
    Calls Tryd.prog 8 #[.int .u8 n, .int .u64 x] w fun e w' => e = .returned (.bool true) ∧ Upd (fun _ => False) w w' := by
  obtain ⟨i0, hi, hz0, hz1, hz2⟩ := info_parts i64_info
  have hml : (maxLen : Nat) = 9223372036854775807 := by decide
  obtain ⟨k, hk⟩ : ∃ k, n % 129 = k := ⟨_, rfl⟩
  have hk61 : k ≤ 128 := by omega
  have q1 : (n : Int) % 129 = (k : Int) := by rw [← hk]; rfl
  obtain ⟨y, hy⟩ : ∃ y, x % 1099511627777 = y := ⟨_, rfl⟩
  have hy0 : 0 ≤ y := by omega
  have hy1 : y ≤ 1099511627776 := by omega
  have HI := Lib.hid (And.intro hi (And.intro hz0 (And.intro hz1 hz2)))
  have HM := Lib.hid hM
  have HY := Lib.hid hy
  have hx0 := hx.1
  have hx1 := hx.2
  clear hk hM hi hz0 hz1 hz2 hy hx
  go_enter Tryd.func8, Tryd.ntmps8
  go_wp2_with fail
  obtain ⟨b, hb⟩ : ∃ b, w.heap.size = b := ⟨_, rfl⟩
  refine calls_world (fun w1 => w1.heap[b]? = some (.cells ([x].map (Value.int .u64)).toArray 56 (0, 0)) ∧ Upd (fun _ => False) w w1) ⟨by rw [← hb]; exact World.alloc_heap_new _ _, (Upd.refl _ _).alloc _⟩ ?_
  rintro w0 ⟨h1, hu0⟩
  rw [hb]
  clear hb
  refine (points_any (IntsK.new h1 (by simp)) (by intro z hz; rw [List.mem_singleton] at hz; rw [hz]; exact ⟨hx0, hx1⟩) 1 k (by omega)).mono ?_
  rintro e w1 ⟨g, D, rfl, hg, hrow, hu1, hDl, hsym, hrng, hev⟩
  have hM1 := (HM.out.upd hu0 (fun h => h)).upd hu1 (fun h => h)
  obtain ⟨c0, c1, c2⟩ := hM1
  have hD := RowAt.ints hrow (by have : k * k ≤ 128 * 128 := Nat.mul_le_mul hk61 hk61; omega)
  have hok : checkS k D = 0 := checkS_ok (by have : (D.length : Int) = (k : Int) * k := by rw [hDl]; exact Int.natCast_mul ..
                                             omega) hsym hrng
  have HDD := Lib.hid (And.intro hD (And.intro hDl (And.intro hok (dist_of (by omega) hDl hsym hrng))))
  have HEV := Lib.hid (show ∀ a b, a < k → b < k → a ≠ b → mat k D a b = y from fun a b ha hb hab => by rw [← HY.out]; exact hev x rfl a b ha hb hab)
  have HU1 := Lib.hid (hu0.trans hu1)
  have q2 := HY.out
  clear hrow hu1 hu0 h1 hDl hsym hrng hD hok HM hev HY
  go_wp2_with fail
  clear c0 c1 c2
  go_loopg [20] 3 (fun c v wr => ∃ i : Nat, v = .int .i64 i ∧ i ≤ 3 ∧ c = 3 - i ∧ Hid (Upd (fun _ => False) w1 wr))
  case atStart => exact ⟨0, rfl, by omega, rfl, Upd.refl _ _⟩
  case round =>
    obtain ⟨i, rfl, hi3, hc, HU⟩ := hrel
    by_cases hlt : i < 3
    · obtain ⟨m, -, hidx⟩ := index_meth hlt
      have HR := Lib.hid (lkrun_ok m (HDD.out.1.upd HU.out) (k * k) k (by omega) HDD.out.2.1 HDD.out.2.2.1 HDD.out.2.2.2)
      have hlen := runL_length m (mat k D) k
      have HLEN := Lib.hid hlen
      clear hlen
      go_wp2_with fail
      have HRC := HR.out
      rw [HDD.out.2.1] at HRC
      with_reducible refine HRC.mono ?_
      rintro e w2 ⟨v, rfl, hown, hu2⟩
      obtain ⟨b, cb, rfl, hmg, hbx⟩ := Mgs.of_own hown (by rw [HLEN.out]; omega)
      have HX := Lib.hid (And.intro hmg hu2)
      clear hown hmg hbx hu2 HR HRC hidx
      have HL := Lib.hid (fun t h => ev_run m (n := k) (t := t) hy0 HEV.out h)
      obtain ⟨L, hL⟩ : ∃ L, runL m (mat k D) k = L := ⟨_, rfl⟩
      rw [hL] at HX HLEN HL ⊢
      rw [HLEN.out]
      clear hL
      have hmx : ((((k - 1 : Nat) : Int)) != if (k : Int) - 1 < 0 then 0 else (k : Int) - 1) = false := by
        by_cases h0 : k = 0
        · subst h0; rfl
        · have e : ((k - 1 : Nat) : Int) = (k : Int) - 1 := by omega
          rw [e, if_neg (by omega)]; simp
      go_wp2_with fail
      all_goals
        clear hmx
        obtain ⟨w3, rfl⟩ : ∃ w3 : World, w3 = wr := ⟨_, rfl⟩
        go_loopg [42] (k - 1) (fun c v wr => ∃ t : Nat, v = .int .i64 t ∧ t ≤ k - 1 ∧ c = k - 1 - t ∧ Hid (Upd (fun _ => False) w2 wr))
        case atStart => exact ⟨0, rfl, Nat.zero_le _, rfl, Upd.refl _ _⟩
        case round =>
          obtain ⟨t, rfl, ht, hc3, HW⟩ := hrel
          by_cases hlt3 : t < k - 1
          · try (exfalso; omega)
            all_goals
              obtain ⟨z, rfl, c1, c2, c3, c4, c5⟩ := (HX.out.1.upd HW.out).at5 (i := t) (by rw [HLEN.out]; exact hlt3)
              have hLt := HL.out t (by rw [HLEN.out]; exact hlt3)
              simp only [hLt] at c1 c2 c3 c4 c5
              clear hLt
              go_wp2_with fail
              go_roundg (k - 1 - (t + 1))
              case measure => omega
              case rel => exact ⟨t + 1, by simp, by omega, rfl, HW⟩
          · obtain rfl : t = k - 1 := by omega
            have hUW := Lib.hid ((HU.out.trans HX.out.2).trans HW.out)
            go_wp2_with fail
            go_roundg (3 - (i + 1))
            case measure => omega
            case rel => exact ⟨i + 1, by simp, by omega, rfl, hUW⟩
    · obtain rfl : i = 3 := by omega
      go_wp2_with (refine wpList_make_full _ rfl _ _ 23 rfl wr.heap.size 2 i0 _ 1 Tryd.underlying23 HI.out.1 HI.out.2.1 HI.out.2.2.1 _ _ _ _ 16641 rfl rfl rfl rfl (by rw [HI.out.2.2.2]; omega) (by omega) (Nat.le_refl _) ?_; intro w3 hown3 hg3)
      have hrow := RowAt.of_made hown3
      rw [made_zero] at hrow
      have hu3 : Upd (fun _ => False) wr w3 := (Upd.refl _ _).grownFar hg3 (fun r e => by cases e)
      obtain ⟨r, hr⟩ : ∃ r, wr.heap.size = r := ⟨_, rfl⟩
      rw [hr] at hrow ⊢
      have HUA := Lib.hid (HU.out.trans hu3)
      have HC1 := Lib.hid (check_big hrow)
      clear hown3 hg3 hrow hu3 hr
      go_wp2_with fail
      refine HC1.out.mono ?_
      rintro e w4 ⟨rfl, k4, rfl⟩
      clear HC1
      obtain ⟨w5, hrun, hown5, hg5⟩ := run_make_full (P := Tryd.prog) (w3.drewN k4) w3.heap.size 23 2 i0 _ 1 Tryd.underlying23 HI.out.1 HI.out.2.1 HI.out.2.2.1 .i64 .i64 16384 (by rw [HI.out.2.2.2]; omega) (by omega) (Nat.le_refl _)
      have hrun5 : (Instr.makeSlice 23 (.int .i64 16384) (.int .i64 16384)).run Tryd.prog (w3.drewN k4) = .ok (.slice (some ⟨w3.heap.size, 0, none⟩) 16384 16384) w5 := hrun
      clear hrun
      have hrow := RowAt.of_made hown5
      rw [made_zero] at hrow
      have hu5 : Upd (fun _ => False) w3 w5 := Upd.of_drewN (n := k4) ((Upd.refl _ _).grownFar hg5 (fun r e => by cases e))
      obtain ⟨s, hs⟩ : ∃ s, w3.heap.size = s := ⟨_, rfl⟩
      have HC2 := Lib.hid (check_most hrow)
      have HUB := Lib.hid (HUA.out.trans hu5)
      clear hown5 hg5 hrow hu5 hs
      go_wp2_with fail
      refine HC2.out.mono ?_
      rintro e w6 ⟨rfl, k6, rfl⟩
      clear HC2
      go_wp2_with fail
      refine (lkworks_any _).mono ?_
      rintro e w7 ⟨rfl, hu7⟩
      have HF := Lib.hid ((HU1.out.trans (HUB.out.drewN k6)).trans hu7)
      clear hu7
      go_wp2_with fail
      go_ret
      exact ⟨rfl, HF.out⟩
end Go.Proofs.YtmkggcmebeagaaaDoor
