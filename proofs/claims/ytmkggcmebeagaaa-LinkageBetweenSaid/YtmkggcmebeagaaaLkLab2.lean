/- Labels at a number of points that is allowed. -/
import Derived.Test.YtmkggcmebeagaaaLkLab
import Derived.BigRegion
namespace Go.Proofs.Ytmkggcmebeagaaa
set_option linter.unusedVariables false
set_option linter.unusedSimpArgs false
open Go.RowKit Lk

theorem then_world {K : Act → World → Prop} {Q : Exit → Act → World → Prop} {e : Exit} {a : Act} {W : World} (I : World → Prop) (h : I W) (h2 : ∀ w1, I w1 → Exit.then K Q e a w1) : Exit.then K Q e a W := h2 W h
set_option maxRecDepth 100000 in
set_option maxHeartbeats 4000000 in
theorem lklab_main {w : World} {a : Option Addr} {L : List MI} (h : MIs w a L) (cap n : Nat) (c : Int) (hn : n ≤ 128) :
    Calls Try.prog 19 #[.int .i64 n, .slice a L.length cap, .int .i64 c] w (Labeled w n L c) := by
  obtain ⟨i0, hi, hz0, hz1, hz2⟩ := info_parts int_info
  have hml : (maxLen : Nat) = 9223372036854775807 := by decide
  have e0 : ((n : Nat) : Int) = (n : Int) := rfl
  have hle := h.len
  go_enter Try.func19, Try.ntmps19
  go_wp2_with (refine wpList_make_full _ rfl _ _ 36 rfl w.heap.size 3 i0 _ 1 Try.underlying36 hi hz0 hz1 _ _ _ _ n rfl rfl rfl rfl (by rw [hz2]; omega) (by omega) (by rw [World.size_alloc]; omega) ?_; intro w2 hown hg1)
  have hrow := RowAt.of_made hown
  rw [made_zero] at hrow
  have hg2 := (Upd.refl (fun _ => False) _).grownFar hg1 (fun r e => by cases e)
  have hb2 := CB.upd (CB.new w 79 128 (fun _ => .int .i64 0) rfl) hg2 (fun h => h)
  have hu2 := Upd.trans ((Upd.refl (fun _ => False) w).alloc _) hg2
  simp only [World.size_alloc] at hrow ⊢
  have hz := hb2.row (xs := (Z1 0).map (Value.int .i64)) (by simp [Z1, List.map_const'])
  have hI0 : List.replicate n (0 : Int) = I1 n 0 := by simp [I1, startL]
  rw [hI0] at hrow
  obtain ⟨z, hzz⟩ : ∃ z, w.heap.size = z := ⟨_, rfl⟩
  rw [hzz] at hz hrow ⊢
  have HZ := Lib.hid hzz
  have HW := Lib.hid hu2
  have HR := Lib.hid (And.intro hz hrow)
  have h2 := h.upd hu2
  have HLT := Lib.hid h.lt
  clear hown hg1 hg2 hb2 hu2 hz hrow hI0 hzz h hi hz0 hz1 hz2 hml e0
  go_wp2_with fail
  go_loopg [23] n (fun k v wr => ∃ i : Nat, v = .int .i64 i ∧ i ≤ n ∧ k = n - i ∧ RowAt wr z 79 ((Z1 i).map (Value.int .i64)) ∧ RowAt wr (z + 1) 3 ((I1 n i).map (Value.int .i64)) ∧ Upd (fun b => b = z ∨ b = z + 1) w2 wr)
  case atStart => exact ⟨0, rfl, Nat.zero_le _, by omega, HR.out.1, HR.out.2, Upd.refl _ _⟩
  case round =>
    obtain ⟨i, rfl, hin, hk, hz, hrow, hu⟩ := hrel
    by_cases hlt : i < n
    · have b1 : (i : Int) < 128 := by omega
      have cz := hz.cell (i := i) (by simp [Z1]; omega)
      have cr := hrow.cell (i := i) (by simp [I1, startL]; omega)
      have fz := hz.free
      have fr := hrow.free
      have HH := Lib.hid (And.intro hz (And.intro hrow hu))
      clear hz hrow hu h2
      go_wp2_with fail
      go_roundg (n - (i + 1))
      case measure => omega
      case rel => exact ⟨i + 1, by simp, by omega, rfl, by rw [← Z1_next (by omega), List.map_set]; exact (HH.out.1.set _ _).upd ((Upd.refl (fun b => b = z + 1) _).setB _ _) (by omega), by rw [← I1_next hlt, List.map_set]; exact (HH.out.2.1.upd ((Upd.refl (fun b => b = z) _).setB _ _) (by omega)).set _ _, (HH.out.2.2.setCell (.inl (.inl rfl)) _).setCell (.inl (.inr rfl)) _⟩
    · obtain rfl : i = n := by omega
      rw [I1_end] at hrow
      have HH := Lib.hid (And.intro hz (And.intro hrow hu))
      have hI := Lib.hid (LInv.start hn L c)
      clear hz hrow hu HR
      go_wp2_with fail
      go_loopg [35] L.length (fun k v w4 => ∃ (j : Nat) (now lab Z I : List Int), v = .int .i64 j ∧ j ≤ L.length ∧ k = L.length - j ∧ Hid (LInv i L c j now lab Z I) ∧ Hid (RowAt w4 z 79 (Z.map (Value.int .i64)) ∧ RowAt w4 (z + 1) 3 (I.map (Value.int .i64)) ∧ Upd (fun b => b = z ∨ b = z + 1) w2 w4))
      case atStart => exact ⟨0, _, _, _, _, rfl, Nat.zero_le _, by omega, hI, HH⟩
      case round =>
        clear HH hI
        obtain ⟨j, now, lab, Z, I, rfl, hjL, hk, HI, HH⟩ := hrel
        by_cases hlt : j < L.length
        · have h4 := (h2.updS HH.out.2.2 (fun x hx h0 e => by
            have h1 := HLT.out x hx h0
            have h3 := HZ.out
            omega)).at5 j hlt
          obtain ⟨x, rfl, c1, c2, c3, c4, c5⟩ := h4
          obtain ⟨A, hA⟩ : ∃ A, L[j].a = A := ⟨_, rfl⟩
          obtain ⟨B, hB⟩ : ∃ B, L[j].b = B := ⟨_, rfl⟩
          obtain ⟨N, hN⟩ : ∃ N, L[j].n = N := ⟨_, rfl⟩
          obtain ⟨D, hD⟩ : ∃ D, L[j].d = D := ⟨_, rfl⟩
          obtain ⟨S, hS⟩ : ∃ S, L[j].s = S := ⟨_, rfl⟩
          rw [hA] at c1
          rw [hB] at c2
          rw [hN] at c3
          rw [hD] at c4
          rw [hS] at c5
          have HA := Lib.hid hA
          have HB := Lib.hid hB
          have HS := Lib.hid hS
          clear hA hB hN hD hS
          go_wp2_with fail
          have hq1 := HH.out.1.lt
          have hq2 := HH.out.2.1.lt
          refine wp_world (fun w5 => RowAt w5 wr.heap.size 49 [.int .i64 A, .int .i64 B, .int .i64 N, .int .i64 D, .int .i64 S] ∧ Upd (fun _ => False) wr w5) ⟨⟨_, by rw [World.alloc_heap_new], rfl⟩, (Upd.refl _ _).alloc _⟩ ?_
          rintro w5 ⟨hm, hu5⟩
          obtain ⟨q, hq⟩ : ∃ q, wr.heap.size = q := ⟨_, rfl⟩
          rw [hq] at hm hq1 hq2 ⊢
          have hz := HH.out.1.upd hu5 (fun h => h)
          have hr := HH.out.2.1.upd hu5 (fun h => h)
          have hu6 := HH.out.2.2.trans (hu5.mono fun _ _ h => h.elim)
          have m0 : w5.cell? ⟨q, 0, none⟩ = some (.int .i64 A) := hm.cell (i := 0) (by simp)
          have m1 : w5.cell? ⟨q, 1, none⟩ = some (.int .i64 B) := hm.cell (i := 1) (by simp)
          have m3 : w5.cell? ⟨q, 4, none⟩ = some (.int .i64 S) := hm.cell (i := 4) (by simp)
          have HM := Lib.hid hm
          have HR := Lib.hid (And.intro hz (And.intro hr hu6))
          have hql : q < w5.heap.size := hm.lt
          clear hm hz hr hu6 hu5 HH c1 c2 c3 c4 c5 hq
          by_cases e1 : A < 0
          · have hbad : ¬ fits now L[j] := fun hf => by
              unfold fits at hf
              rw [HA.out, HB.out] at hf
              have := HI.out.inow.at hf.2.1
              omega
            have HE := Lib.hid (HI.out.bad hlt hbad hn)
            clear hbad
            refine wp_region_seq ([]) (40) (by kernel_rfl) (by kernel_rfl) (by kernel_rfl) ?_
            iterate 44 (refine sqB_step (fun K hK => ?_); go_simp; refine hK _ _ ?_; clear hK K)
            refine sqB_nil ?_
            go_wp2_with fail
            go_ret2
            exact .inl ⟨by rw [HE.out]; decide, by rw [HE.out]; rfl, HW.out.then HR.out.2.2.drew (fun k hk e => by have := HZ.out; omega)⟩
          · obtain ⟨a, rfl⟩ := Int.eq_ofNat_of_zero_le (by omega : 0 ≤ A)
            clear e1
            by_cases e2 : B ≤ (a : Int)
            · have hbad : ¬ fits now L[j] := fun hf => by
                unfold fits at hf
                rw [HA.out, HB.out] at hf
                omega
              have HE := Lib.hid (HI.out.bad hlt hbad hn)
              clear hbad
              refine wp_region_seq ([]) (40) (by kernel_rfl) (by kernel_rfl) (by kernel_rfl) ?_
              iterate 44 (refine sqB_step (fun K hK => ?_); go_simp; refine hK _ _ ?_; clear hK K)
              refine sqB_nil ?_
              go_wp2_with fail
              go_ret2
              exact .inl ⟨by rw [HE.out]; decide, by rw [HE.out]; rfl, HW.out.then HR.out.2.2.drew (fun k hk e => by have := HZ.out; omega)⟩
            · obtain ⟨b, rfl⟩ := Int.eq_ofNat_of_zero_le (by omega : 0 ≤ B)
              by_cases e3 : (i : Int) ≤ b
              · have hbad : ¬ fits now L[j] := fun hf => by
                  unfold fits at hf
                  rw [HA.out, HB.out] at hf
                  have := HI.out.inow.at hf.2.2.1
                  omega
                have HE := Lib.hid (HI.out.bad hlt hbad hn)
                clear hbad
                refine wp_region_seq ([]) (40) (by kernel_rfl) (by kernel_rfl) (by kernel_rfl) ?_
                iterate 44 (refine sqB_step (fun K hK => ?_); go_simp; refine hK _ _ ?_; clear hK K)
                refine sqB_nil ?_
                go_wp2_with fail
                go_ret2
                exact .inl ⟨by rw [HE.out]; decide, by rw [HE.out]; rfl, HW.out.then HR.out.2.2.drew (fun k hk e => by have := HZ.out; omega)⟩
              · have hab : a < b := by omega
                have hbi : b < i := by omega
                have hb8 : b < 128 := by omega
                clear e2 e3
                have hZl := HI.out.siz.len
                have hIl := HI.out.into.len
                have ca : w5.cell? ⟨z, a, none⟩ = some (.int .i64 ((now.count (a : Int) : Nat) : Int)) := by
                  rw [HR.out.1.cell (i := a) (by simp; omega), ← HI.out.siz.cnt a (by omega)]
                  simp [List.getD_eq_getElem?_getD, List.getElem?_eq_getElem (by omega : a < Z.length)]
                have cb : w5.cell? ⟨z, b, none⟩ = some (.int .i64 ((now.count (b : Int) : Nat) : Int)) := by
                  rw [HR.out.1.cell (i := b) (by simp; omega), ← HI.out.siz.cnt b (by omega)]
                  simp [List.getD_eq_getElem?_getD, List.getElem?_eq_getElem (by omega : b < Z.length)]
                have hna : now.count (a : Int) ≤ 128 := by have h1 := List.count_le_length (a := (a : Int)) (l := now); have h2 := HI.out.inow.len; omega
                have hnb : now.count (b : Int) ≤ 128 := by have h1 := List.count_le_length (a := (b : Int)) (l := now); have h2 := HI.out.inow.len; omega
                have HNA := Lib.hid (rfl : now.count (a : Int) = now.count (a : Int))
                obtain ⟨ka, hka⟩ : ∃ ka, now.count (a : Int) = ka := ⟨_, rfl⟩
                obtain ⟨kb, hkb⟩ : ∃ kb, now.count (b : Int) = kb := ⟨_, rfl⟩
                rw [hka] at ca hna
                rw [hkb] at cb hnb
                have HKA := Lib.hid hka
                have HKB := Lib.hid hkb
                clear hka hkb HNA
                have a1 : (a : Int) < 128 := by omega
                have b1 : (b : Int) < 128 := by omega
                by_cases e4 : ka = 0
                · subst e4
                  have hbad : ¬ fits now L[j] := fun hf => by
                    unfold fits at hf
                    rw [HA.out, HB.out, HKA.out] at hf
                    omega
                  have HE := Lib.hid (HI.out.bad hlt hbad hn)
                  clear hbad
                  refine wp_region_seq ([]) (40) (by kernel_rfl) (by kernel_rfl) (by kernel_rfl) ?_
                  iterate 44 (refine sqB_step (fun K hK => ?_); go_simp; refine hK _ _ ?_; clear hK K)
                  refine sqB_nil ?_
                  go_wp2_with fail
                  go_ret2
                  exact .inl ⟨by rw [HE.out]; decide, by rw [HE.out]; rfl, HW.out.then HR.out.2.2.drew (fun k hk e => by have := HZ.out; omega)⟩
                · have e4' : ((ka : Int) == 0) = false := by simp; omega
                  by_cases e5 : kb = 0
                  · subst e5
                    have hbad : ¬ fits now L[j] := fun hf => by
                      unfold fits at hf
                      rw [HA.out, HB.out, HKB.out] at hf
                      omega
                    have HE := Lib.hid (HI.out.bad hlt hbad hn)
                    clear hbad
                    refine wp_region_seq ([]) (40) (by kernel_rfl) (by kernel_rfl) (by kernel_rfl) ?_
                    iterate 44 (refine sqB_step (fun K hK => ?_); go_simp; refine hK _ _ ?_; clear hK K)
                    refine sqB_nil ?_
                    go_wp2_with fail
                    go_ret2
                    exact .inl ⟨by rw [HE.out]; decide, by rw [HE.out]; rfl, HW.out.then HR.out.2.2.drew (fun k hk e => by have := HZ.out; omega)⟩
                  · have e5' : ((kb : Int) == 0) = false := by simp; omega
                    have ws : IntKind.i64.wrap ((ka : Int) + kb) = (ka : Int) + kb := i64_in _ (by omega) (by omega)
                    by_cases e6 : (ka : Int) + kb = S
                    · have hfit : fits now L[j] := by
                        unfold fits
                        rw [HA.out, HB.out, HS.out, HKA.out, HKB.out]
                        omega
                      subst e6
                      have fz := HR.out.1.free
                      refine wp_region_seq ([]) (40) (by kernel_rfl) (by kernel_rfl) (by kernel_rfl) ?_
                      iterate 44 (refine sqB_step (fun K hK => ?_); go_simp; refine hK _ _ ?_; clear hK K)
                      refine sqB_nil ?_
                      go_wp2_with fail
                      have hqz : q ≠ z := by omega
                      have habn : a ≠ b := by omega
                      go_region
                      refine then_world (fun w6 => RowAt w6 q 49 [.int .i64 a, .int .i64 b, .int .i64 N, .int .i64 D, .int .i64 ((ka : Int) + kb)] ∧ RowAt w6 z 79 (((Z.set a ((ka : Int) + kb)).set b 0).map (Value.int .i64)) ∧ RowAt w6 (z + 1) 3 (I.map (Value.int .i64)) ∧ Upd (fun b => b = z ∨ b = z + 1) w2 w6) ?_ ?_
                      · have U : ∀ W : World, Upd (fun b => b = z) W ((W.setCell ⟨z, a, none⟩ (.int .i64 ((ka : Int) + kb))).setCell ⟨z, b, none⟩ (.int .i64 0)) := fun W => ((Upd.refl _ _).setB _ _).setB _ _
                        have hR := HR.out
                        refine ⟨RowAt.upd (w := w5.drew.drew) HM.out (U _) (by omega), ?_, RowAt.upd (w := w5.drew.drew) hR.2.1 (U _) (by omega), Upd.then (b := w5.drew.drew) hR.2.2.drew.drew (U _) (fun k _ h => .inl h)⟩
                        rw [List.map_set, List.map_set]
                        exact RowAt.set (RowAt.set (w := w5.drew.drew) hR.1 _ _) _ _
                      rintro w6 ⟨hm, hz, hr, hu6⟩
                      have m0 : w6.cell? ⟨q, 0, none⟩ = some (.int .i64 a) := hm.cell (i := 0) (by simp)
                      have m1 : w6.cell? ⟨q, 1, none⟩ = some (.int .i64 b) := hm.cell (i := 1) (by simp)
                      have fr := hr.free
                      have cr := hr.cell (i := b) (by simp; omega)
                      have H6 := Lib.hid (And.intro hz (And.intro hr hu6))
                      clear hm hz hr hu6
                      by_cases ec : (j : Int) < c
                      · obtain ⟨now', lab', HX⟩ := HI.out.next hlt hfit HA.out HB.out hb8 rfl
                        rw [if_pos ec, HS.out] at HX
                        have HX' := Lib.hid HX
                        clear HX
                        go_wp2_with fail
                        go_roundg (L.length - (j + 1))
                        case measure => omega
                        case rel => exact ⟨j + 1, now', lab', _, _, by simp, by omega, rfl, HX', ⟨H6.out.1.upd ((Upd.refl (fun b => b = z + 1) _).setB _ _) (by omega), by rw [List.map_set]; exact H6.out.2.1.set _ _, H6.out.2.2.setCell (.inl (.inr rfl)) _⟩⟩
                      · obtain ⟨now', lab', HX⟩ := HI.out.next hlt hfit HA.out HB.out hb8 rfl
                        rw [if_neg ec, HS.out] at HX
                        have HX' := Lib.hid HX
                        clear HX
                        go_wp2_with fail
                        go_roundg (L.length - (j + 1))
                        case measure => omega
                        case rel => exact ⟨j + 1, now', lab', _, _, by simp, by omega, rfl, HX', ⟨H6.out.1, H6.out.2.1, H6.out.2.2⟩⟩
                    · have hbad : ¬ fits now L[j] := fun hf => by
                        unfold fits at hf
                        rw [HA.out, HB.out, HS.out, HKA.out, HKB.out] at hf
                        omega
                      have e6' : ((ka : Int) + kb != S) = true := by simp [e6]
                      have HE := Lib.hid (HI.out.bad hlt hbad hn)
                      clear hbad
                      refine wp_region_seq ([]) (40) (by kernel_rfl) (by kernel_rfl) (by kernel_rfl) ?_
                      iterate 44 (refine sqB_step (fun K hK => ?_); go_simp; refine hK _ _ ?_; clear hK K)
                      refine sqB_nil ?_
                      go_wp2_with fail
                      go_ret2
                      exact .inl ⟨by rw [HE.out]; decide, by rw [HE.out]; rfl, HW.out.then HR.out.2.2.drew (fun k hk e => by have := HZ.out; omega)⟩
        · obtain rfl : j = L.length := by omega
          have hend := HI.out.end hn
          by_cases ec : c < 0
          · have HE := Lib.hid (hend.1 (.inl ec))
            clear hend
            go_wp2_with fail
            go_ret2
            exact .inl ⟨by rw [HE.out]; decide, by rw [HE.out]; rfl, HW.out.then HH.out.2.2 (fun k hk e => by have := HZ.out; omega)⟩
          · by_cases ec2 : (L.length : Int) < c
            · have HE := Lib.hid (hend.1 (.inr ec2))
              clear hend
              go_wp2_with fail
              go_ret2
              exact .inl ⟨by rw [HE.out]; decide, by rw [HE.out]; rfl, HW.out.then HH.out.2.2 (fun k hk e => by have := HZ.out; omega)⟩
            · obtain ⟨hE, hL⟩ := hend.2 (by omega)
              have HE := Lib.hid hE
              have HL := Lib.hid hL
              have HP := Lib.hid (Pass.start HI.out.into)
              have HB := Lib.hid (And.intro HH.out.2.1 HH.out.2.2)
              clear hend hE hL HH
              go_wp2_with fail
              go_loopg [111] i (fun k v w5 => ∃ (t : Nat) (I2 : List Int), v = .int .i64 t ∧ t ≤ i ∧ k = i - t ∧ Hid (Pass i lab I2 t) ∧ Hid (RowAt w5 (z + 1) 3 (I2.map (Value.int .i64)) ∧ Upd (fun b => b = z ∨ b = z + 1) w2 w5))
              case atStart => exact ⟨0, _, rfl, Nat.zero_le _, by omega, HP, HB⟩
              case round =>
                clear HP HB
                obtain ⟨t, I2, rfl, hti, hk, HP, HB⟩ := hrel
                by_cases hlt2 : t < i
                · have hl := HP.out.len
                  have hlow := HP.out.low t (Nat.le_refl _) hlt2
                  obtain ⟨r, hr⟩ := Int.eq_ofNat_of_zero_le hlow.1
                  have hri : r < i := by omega
                  have ct : ∀ k, k < i → ‹World›.cell? ⟨z + 1, k, none⟩ = some (.int .i64 (I2.getD k 0)) := fun k hk => by
                    rw [HB.out.1.cell (i := k) (by simp; omega)]
                    simp [List.getD_eq_getElem?_getD, List.getElem?_eq_getElem (by omega : k < I2.length)]
                  have c1 := ct t hlt2
                  have c2 := ct r hri
                  have fr := HB.out.1.free
                  have HS := Lib.hid (HP.out.step hlt2)
                  rw [hr] at c1 HS
                  rw [Int.toNat_natCast] at HS
                  obtain ⟨u, hu⟩ : ∃ u, I2.getD r 0 = u := ⟨_, rfl⟩
                  rw [hu] at c2 HS
                  clear hu
                  clear ct hlow hr
                  go_wp2_with fail
                  go_roundg (i - (t + 1))
                  case measure => omega
                  case rel => exact ⟨t + 1, _, by simp, by omega, rfl, HS, ⟨by rw [List.map_set]; exact HB.out.1.set _ _, HB.out.2.setCell (.inl (.inr rfl)) _⟩⟩
                · obtain rfl : t = i := by omega
                  have hfin := HP.out.end HI.out.ilab.len
                  have hlen := HI.out.ilab.len
                  have HF := Lib.hid (And.intro hfin hlen)
                  clear hfin hlen
                  go_wp2_with fail
                  go_ret2
                  have hb := HB.out
                  rw [HF.out.1] at hb
                  refine .inr ⟨HE.out, some ⟨z + 1, 0, none⟩, t, ?_, ?_, HW.out.then hb.2 (fun k hk e => by have := HZ.out; omega)⟩
                  · rw [HL.out, HF.out.2]; rfl
                  · rw [HL.out]; exact RowAt.ints hb.1 (by rw [HF.out.2]; omega)
/-- Labels, of any merges -/
theorem lklab_any {w : World} {a : Option Addr} {L : List MI} (h : MIs w a L) (cap : Nat) (n c : Int) :
    Calls Try.prog 19 #[.int .i64 n, .slice a L.length cap, .int .i64 c] w (Labeled w n L c) := by
  by_cases hn : n < 0 ∨ 128 < n
  · exact lklab_arg cap n c hn
  · obtain ⟨k, rfl⟩ := Int.eq_ofNat_of_zero_le (by omega : 0 ≤ n)
    exact lklab_main h cap k c (by omega)
end Go.Proofs.Ytmkggcmebeagaaa
