/- The law LinkageSteps, walked. -/
import Derived.Test.YtmkggcmebeagaaaDoorLkProp
import Derived.Test.YtmkggcmebeagaaaDoorLkHt
import Derived.Test.YtmkggcmebeagaaaDoorLkPoints
namespace Go.Proofs.YtmkggcmebeagaaaDoor
set_option linter.unusedVariables false
set_option linter.unusedSimpArgs false
open Go.RowKit Lk

theorem inBlock_world {n : Nat} {Q : Exit → Act → World → Prop} {e : Exit} {a : Act} {W : World} (I : World → Prop) (h : I W) (h2 : ∀ w1, I w1 → Exit.inBlock n Q e a w1) : Exit.inBlock n Q e a W := h2 W h
/-- the variable methods holds the three methods -/
def Meth (w : World) : Prop := w.cell? ⟨0, 0, none⟩ = some (.int .i64 1) ∧ w.cell? ⟨0, 1, none⟩ = some (.int .i64 2) ∧ w.cell? ⟨0, 2, none⟩ = some (.int .i64 3)
theorem Meth.upd {w w' : World} {S : Nat → Prop} (h : Meth w) (hu : Upd S w w') (hS : ¬ S 0) : Meth w' := ⟨hu.keepCell h.1 hS, hu.keepCell h.2.1 hS, hu.keepCell h.2.2 hS⟩
theorem index_meth {i : Nat} (h : i < 3) : ∃ m : Mt, m.num = i + 1 ∧ ∀ w : World, (Instr.index 26 (.agg #[.int .i64 1, .int .i64 2, .int .i64 3]) (.int .i64 i)).run Tryd.prog w = .ok (.int .i64 m.num) w := by
  match i, h with
  | 0, _ => exact ⟨.single, rfl, fun w => by kernel_rfl⟩
  | 1, _ => exact ⟨.complete, rfl, fun w => by kernel_rfl⟩
  | 2, _ => exact ⟨.average, rfl, fun w => by kernel_rfl⟩

theorem RowAt.int {w : World} {g : Nat} {E : TypeId} {k : IntKind} {D : List Int} (h : RowAt w g E (D.map (Value.int k))) {i : Nat} (hi : i < D.length) : w.cell? ⟨g, i, none⟩ = some (.int k (D.getD i 0)) := by
  rw [h.cell (i := i) (by simpa using hi)]; simp [List.getD_eq_getElem?_getD, List.getElem?_eq_getElem hi]

set_option maxRecDepth 100000 in
set_option maxHeartbeats 4000000 in
theorem steps_law {w : World} {a : Option Addr} {l : List Int} (h : IntsK .u64 w a l) (h64 : ∀ x ∈ l, 0 ≤ x ∧ x < 18446744073709551616) (cap n : Nat) (hn : n ≤ 255) (hM : Meth w) :
    Calls Tryd.prog 3 #[.int .u8 n, .slice a l.length cap] w fun e w' => e = .returned (.bool true) ∧ Upd (fun _ => False) w w' := by
  obtain ⟨i0, hi, hz0, hz1, hz2⟩ := info_parts int_info
  have hml : (maxLen : Nat) = 9223372036854775807 := by decide
  obtain ⟨k, hk⟩ : ∃ k, n % 61 = k := ⟨_, rfl⟩
  have hk61 : k ≤ 60 := by omega
  have q1 : (n : Int) % 61 = (k : Int) := by rw [← hk]; rfl
  have HP := Lib.hid (points_any h h64 cap k (by omega))
  have HM := Lib.hid hM
  have HI := Lib.hid (And.intro hi (And.intro hz0 (And.intro hz1 hz2)))
  clear hk h h64 hM hi hz0 hz1 hz2
  go_enter Tryd.func3, Tryd.ntmps3
  go_wp2_with fail
  refine HP.out.mono ?_
  rintro e w1 ⟨g, D, rfl, hg, hrow, hu1, hDl, hsym, hrng, -⟩
  have hM1 := HM.out.upd hu1 (fun h => h)
  have HM1 := Lib.hid hM1
  obtain ⟨c0, c1, c2⟩ := hM1
  have hD := RowAt.ints hrow (by have : k * k ≤ 60 * 60 := Nat.mul_le_mul hk61 hk61; omega)
  have hok : checkS k D = 0 := checkS_ok (by have : (D.length : Int) = (k : Int) * k := by rw [hDl]; exact Int.natCast_mul ..
                                             omega) hsym hrng
  have HDD := Lib.hid (And.intro hD (And.intro hDl (And.intro hok (dist_of (by omega) hDl hsym hrng))))
  have HU1 := Lib.hid hu1
  clear hrow hu1 hDl hsym hrng hD hok HP HM
  go_wp2_with fail
  clear c0 c1 c2
  go_loopg [22] 3 (fun c v wr => ∃ i : Nat, v = .int .i64 i ∧ i ≤ 3 ∧ c = 3 - i ∧ Hid (Upd (fun _ => False) w1 wr))
  case atStart => exact ⟨0, rfl, by omega, rfl, Upd.refl _ _⟩
  case round =>
    obtain ⟨i, rfl, hi3, hc, HU⟩ := hrel
    by_cases hlt : i < 3
    · obtain ⟨m, -, hidx⟩ := index_meth hlt
      have HR := Lib.hid (lkrun_ok m (HDD.out.1.upd HU.out) (k * k) k (by omega) HDD.out.2.1 HDD.out.2.2.1 HDD.out.2.2.2)
      have hlen := runL_length m (mat k D) k
      have HLEN := Lib.hid hlen
      clear hlen
      go_wp2_with fail
      have HRC := HR.out
      rw [HDD.out.2.1] at HRC
      with_reducible refine HRC.mono ?_
      rintro e w2 ⟨v, rfl, hown, hu2⟩
      obtain ⟨b, cb, rfl, hmg, hbx⟩ := Mgs.of_own hown (by rw [HLEN.out]; omega)
      have HX := Lib.hid (And.intro hmg (And.intro hbx hu2))
      clear hown hmg hbx hu2 HR HRC hidx
      obtain ⟨L, hL⟩ : ∃ L, runL m (mat k D) k = L := ⟨_, rfl⟩
      rw [hL] at HX HLEN ⊢
      rw [HLEN.out]
      have HL := Lib.hid hL
      clear hL
      have hmx : ((((k - 1 : Nat) : Int)) != if (k : Int) - 1 < 0 then 0 else (k : Int) - 1) = false := by
        by_cases h0 : k = 0
        · subst h0; rfl
        · have e : ((k - 1 : Nat) : Int) = (k : Int) - 1 := by omega
          rw [e, if_neg (by omega)]; simp
      go_wp2_with (refine wpList_make_full _ rfl _ _ 31 rfl w2.heap.size 3 i0 _ 1 Tryd.underlying31 HI.out.1 HI.out.2.1 HI.out.2.2.1 _ _ _ _ k rfl rfl rfl rfl (by rw [HI.out.2.2.2]; omega) (by omega) (Nat.le_refl _) ?_; intro w3 hown3 hg3)
      all_goals
        have hrow := RowAt.of_made hown3
        rw [made_zero, ← ones_zero] at hrow
        have hu3 : Upd (fun _ => False) w2 w3 := (Upd.refl _ _).grownFar hg3 (fun r e => by cases e)
        obtain ⟨r, hr⟩ : ∃ r, w2.heap.size = r := ⟨_, rfl⟩
        rw [hr] at hrow ⊢
        have HRR := Lib.hid hr
        have HU3 := Lib.hid hu3
        have HRW := Lib.hid (And.intro hrow (Upd.refl (fun b => b = r) w3))
        clear hmx hown3 hg3 hrow hu3 hr
        obtain ⟨w0, rfl⟩ : ∃ w0 : World, w0 = wr := ⟨_, rfl⟩
        go_wp2_with fail
        go_loopg [46] k (fun c v wr => ∃ j : Nat, v = .int .i64 j ∧ j ≤ k ∧ c = k - j ∧ Hid (RowAt wr r 3 ((ones k j).map (Value.int .i64)) ∧ Upd (fun b => b = r) w3 wr))
        case atStart => exact ⟨0, rfl, Nat.zero_le _, rfl, HRW⟩
        case round =>
          clear HRW
          obtain ⟨j, rfl, hj, hc2, HRW⟩ := hrel
          by_cases hlt2 : j < k
          · try (exfalso; omega)
            all_goals
              have cr := HRW.out.1.cell (i := j) (by simp [ones_length, hlt2])
              have fr := HRW.out.1.free
              go_wp2_with fail
              go_roundg (k - (j + 1))
              case measure => omega
              case rel => exact ⟨j + 1, by simp, by omega, rfl, ⟨by rw [← ones_next hlt2, List.map_set]; exact HRW.out.1.set _ _, HRW.out.2.setB _ _⟩⟩
          · obtain rfl : k = j := by omega
            have HRW2 := Lib.hid (show RowAt ‹World› r 3 ((sizes k (st m (mat k D) k 0)).map (Value.int .i64)) ∧ Upd (fun b => b = r) w3 ‹World› from by have := HRW.out; rw [ones_end] at this; exact this)
            clear HRW
            go_wp2_with fail
            go_loopg [55] (k - 1) (fun c v wr => ∃ t : Nat, v = .int .i64 t ∧ t ≤ k - 1 ∧ c = k - 1 - t ∧ Hid (RowAt wr r 3 ((sizes k (st m (mat k D) k t)).map (Value.int .i64)) ∧ Upd (fun b => b = r) w3 wr))
            case atStart => exact ⟨0, rfl, Nat.zero_le _, rfl, HRW2⟩
            case round =>
              clear HRW2
              obtain ⟨t, rfl, ht, hc3, HRW⟩ := hrel
              by_cases hlt3 : t < k - 1
              · try (exfalso; omega)
                all_goals
                  obtain ⟨A, B, N, E, la, lb, HMN⟩ := mn_of m HDD.out.2.2.2 hlt3
                  have b1 := HMN.ab
                  have b2 := HMN.bn
                  have b3 := HMN.na
                  have b4 := HMN.nb
                  have b5 := HMN.le
                  have b6 := HMN.e1
                  have b7 : E ≤ 4096 := by have := HMN.e2; have : k * k ≤ 60 * 60 := Nat.mul_le_mul hk61 hk61; omega
                  have hzl := sizes_length k (st m (mat k D) k t)
                  have hUW := (HU3.out.then HRW.out.2 (fun i hi e => by have := HRR.out; omega))
                  obtain ⟨x, rfl, c1, c2, c3, c4, c5⟩ := (HX.out.1.upd hUW).at5 (i := t) (by rw [HLEN.out]; exact hlt3)
                  have hLt : L[t]'(by rw [HLEN.out]; exact hlt3) = ⟨A, B, ((N : Int), (E : Int)), la + lb⟩ := by
                    have := HMN.eq (by rw [runL_length]; exact hlt3)
                    rw [← this]; congr 1; exact HL.out.symm
                  simp only [hLt] at c1 c2 c3 c4 c5
                  have ca := HRW.out.1.int (i := A) (by rw [hzl]; omega)
                  have cb := HRW.out.1.int (i := B) (by rw [hzl]; omega)
                  rw [sizes_get _ _ (by omega), HMN.la] at ca
                  rw [sizes_get _ _ (by omega), HMN.lb] at cb
                  have z1 : ((la : Int) == 0) = false := by simp; omega
                  have z2 : ((lb : Int) == 0) = false := by simp; omega
                  have z3 : (((la + lb : Nat) : Int) != (la : Int) + lb) = false := by simp
                  have hpr := proper_yes
                  have HPR := Lib.hid (fun w => proper_yes w N E b6 b7 HMN.ne HMN.gcd)
                  have HMN2 := Lib.hid HMN
                  have HLT := Lib.hid hLt
                  have fr := HRW.out.1.free
                  clear hLt hzl hpr HMN hUW
                  go_wp2_with fail
                  refine wp_world (fun w5 => RowAt w5 wr.heap.size 35 [.int .i64 A, .int .i64 B, .int .i64 N, .int .i64 E, .int .i64 ((la : Int) + lb)] ∧ Upd (fun _ => False) wr w5) ⟨⟨_, by rw [World.alloc_heap_new], rfl⟩, (Upd.refl _ _).alloc _⟩ ?_
                  rintro w5 ⟨hm, hu5⟩
                  obtain ⟨q, hq⟩ : ∃ q, wr.heap.size = q := ⟨_, rfl⟩
                  rw [hq] at hm ⊢
                  have hqr : q ≠ r := by have := HRW.out.1.lt; omega
                  have HQ := Lib.hid hq
                  have m0 : w5.cell? ⟨q, 0, none⟩ = some (.int .i64 A) := hm.cell (i := 0) (by simp)
                  have m1 : w5.cell? ⟨q, 1, none⟩ = some (.int .i64 B) := hm.cell (i := 1) (by simp)
                  have m2 : w5.cell? ⟨q, 2, none⟩ = some (.int .i64 N) := hm.cell (i := 2) (by simp)
                  have m3 : w5.cell? ⟨q, 3, none⟩ = some (.int .i64 E) := hm.cell (i := 3) (by simp)
                  have m4 : w5.cell? ⟨q, 4, none⟩ = some (.int .i64 ((la : Int) + lb)) := hm.cell (i := 4) (by simp)
                  have d1 := hu5.keepCell ca (fun h => h)
                  have d2 := hu5.keepCell cb (fun h => h)
                  clear ca cb c1 c2 c3 c4 c5 hq
                  have wab : IntKind.i64.wrap ((la : Int) + lb) = (la : Int) + lb := i64_in _ (by omega) (by omega)
                  have HU5 := Lib.hid hu5
                  have HMM := Lib.hid hm
                  clear hu5 hm
                  have hAk : A < k := by omega
                  rcases Nat.eq_zero_or_pos t with ht0 | ht0
                  · subst ht0
                    refine wp_region_seq ([]) (60) (by kernel_rfl) (by kernel_rfl) (by kernel_rfl) ?_
                    iterate 51 (refine sqB_step (fun K hK => ?_); go_simp; refine hK _ _ ?_; clear hK K)
                    refine sqB_step (fun K hK => ?_); go_simp; refine (HPR.out _).mono ?_; rintro e w7 ⟨rfl, hu7⟩
                    refine ⟨_, rfl, hK _ _ ?_⟩; clear hK K
                    iterate 17 (refine sqB_step (fun K hK => ?_); go_simp; refine hK _ _ ?_; clear hK K)
                    refine sqB_nil ?_
                    have hux : Upd (fun _ => False) w5 w7 := (Upd.refl _ _).drew.trans hu7
                    have HS6 := Lib.hid (HMM.out.upd hux (fun h => h))
                    have HR6 := Lib.hid ((HRW.out.1.upd HU5.out (fun h => h)).upd hux (fun h => h))
                    have HU6 := Lib.hid (HRW.out.2.trans ((HU5.out.trans hux).mono fun _ _ h => h.elim))
                    have n0 := hux.keepCell m0 (fun h => h)
                    have n1 := hux.keepCell m1 (fun h => h)
                    have n4 := hux.keepCell m4 (fun h => h)
                    have e1 := hux.keepCell d1 (fun h => h)
                    have e2 := hux.keepCell d2 (fun h => h)
                    have fr7 := HR6.out.free
                    have hAB : A ≠ B := by omega
                    clear m0 m1 m2 m3 m4 d1 d2
                    go_wp2_with fail
                    go_region
                    refine inBlock_world (fun w8 => RowAt w8 r 3 (((sizes k (st m (mat k D) k 0)).set A ((la : Int) + lb)).set B 0 |>.map (Value.int .i64)) ∧ Upd (fun b => b = r) w3 w8) ?_ ?_
                    · have U : ∀ W : World, Upd (fun b => b = r) W ((W.setCell ⟨r, A, none⟩ (.int .i64 ((la : Int) + lb))).setCell ⟨r, B, none⟩ (.int .i64 0)) := fun W => ((Upd.refl _ _).setB _ _).setB _ _
                      refine ⟨?_, Upd.then (b := World.drew _) HU6.out.drew (U _) (fun k _ h => h)⟩
                      rw [List.map_set, List.map_set]
                      exact RowAt.set (RowAt.set (w := World.drew _) HR6.out _ _) _ _
                    rintro w8 ⟨hr8, hu8⟩
                    have H8 := Lib.hid (And.intro hr8 hu8)
                    clear hr8 hu8
                    go_wp2_with fail
                    go_roundg (k - 1 - (0 + 1))
                    case measure => omega
                    case rel => exact ⟨0 + 1, by simp, by omega, rfl, by have := H8.out; rw [HMN2.out.nx, sizes_unite hAB (by omega) (by omega), HMN2.out.la, HMN2.out.lb]; exact this⟩
                  · obtain ⟨s, rfl⟩ : ∃ s, t = s + 1 := ⟨t - 1, by omega⟩
                    have hti : (0 : Int) < (s : Int) + 1 := by omega
                    have hsk : s < k - 1 := by omega
                    have ws : IntKind.i64.wrap (s : Int) = s := i64_in _ (by omega) (by omega)
                    obtain ⟨A', B', N', E', la', lb', HMN'⟩ := mn_of m HDD.out.2.2.2 hsk
                    have hLs : L[s]'(by rw [HLEN.out]; exact hsk) = ⟨A', B', ((N' : Int), (E' : Int)), la' + lb'⟩ := by
                      have := HMN'.eq (by rw [runL_length]; exact hsk)
                      rw [← this]; congr 1; exact HL.out.symm
                    obtain ⟨x', hx', -, -, p3, p4, -⟩ := ((HX.out.1.upd (HU3.out.then HRW.out.2 (fun i hi e => by have := HRR.out; omega))).upd HU5.out).at5 (i := s) (by rw [HLEN.out]; exact hsk)
                    cases hx'
                    simp only [hLs] at p3 p4
                    have hbel := below_any
                    have b7' : E' ≤ 4096 := by have := HMN'.e2; have : k * k ≤ 60 * 60 := Nat.mul_le_mul hk61 hk61; omega
                    have HBE := Lib.hid (fun w => below_any w N E N' E' b6 HMN'.e1 (by omega) (by omega) (by have := HMN2.out.ne; omega) (by have := HMN'.ne; omega))
                    have HBF := Lib.hid (decide_eq_false (mn_rise HDD.out.2.2.2 HMN2.out HMN' hlt3))
                    clear hLs HMN' hbel
                    refine wp_region_seq ([]) (60) (by kernel_rfl) (by kernel_rfl) (by kernel_rfl) ?_
                    iterate 51 (refine sqB_step (fun K hK => ?_); go_simp; refine hK _ _ ?_; clear hK K)
                    refine sqB_step (fun K hK => ?_); go_simp; refine (HPR.out _).mono ?_; rintro e w6 ⟨rfl, hu6⟩
                    refine ⟨_, rfl, hK _ _ ?_⟩; clear hK K
                    have m0' := hu6.keepCell m0 (fun h => h)
                    have m1' := hu6.keepCell m1 (fun h => h)
                    have m2' := hu6.keepCell m2 (fun h => h)
                    have m3' := hu6.keepCell m3 (fun h => h)
                    have m4' := hu6.keepCell m4 (fun h => h)
                    have d1' := hu6.keepCell d1 (fun h => h)
                    have d2' := hu6.keepCell d2 (fun h => h)
                    have p3' := hu6.keepCell p3 (fun h => h)
                    have p4' := hu6.keepCell p4 (fun h => h)
                    iterate 14 (refine sqB_step (fun K hK => ?_); go_simp; refine hK _ _ ?_; clear hK K)
                    refine sqB_step (fun K hK => ?_); go_simp; refine (HBE.out _).mono ?_; rintro e w7 ⟨rfl, hu7⟩
                    rw [HBF.out]
                    refine ⟨_, rfl, hK _ _ ?_⟩; clear hK K
                    iterate 2 (refine sqB_step (fun K hK => ?_); go_simp; refine hK _ _ ?_; clear hK K)
                    refine sqB_nil ?_
                    have hux : Upd (fun _ => False) w5 w7 := ((Upd.refl _ _).drew.trans hu6).trans hu7
                    have HS6 := Lib.hid (HMM.out.upd hux (fun h => h))
                    have HR6 := Lib.hid ((HRW.out.1.upd HU5.out (fun h => h)).upd hux (fun h => h))
                    have HU6 := Lib.hid (HRW.out.2.trans ((HU5.out.trans hux).mono fun _ _ h => h.elim))
                    have n0 := hux.keepCell m0 (fun h => h)
                    have n1 := hux.keepCell m1 (fun h => h)
                    have n4 := hux.keepCell m4 (fun h => h)
                    have e1 := hux.keepCell d1 (fun h => h)
                    have e2 := hux.keepCell d2 (fun h => h)
                    have fr7 := HR6.out.free
                    have hAB : A ≠ B := by omega
                    clear m0 m1 m2 m3 m4 d1 d2
                    go_wp2_with fail
                    go_region
                    refine inBlock_world (fun w8 => RowAt w8 r 3 (((sizes k (st m (mat k D) k (s + 1))).set A ((la : Int) + lb)).set B 0 |>.map (Value.int .i64)) ∧ Upd (fun b => b = r) w3 w8) ?_ ?_
                    · have U : ∀ W : World, Upd (fun b => b = r) W ((W.setCell ⟨r, A, none⟩ (.int .i64 ((la : Int) + lb))).setCell ⟨r, B, none⟩ (.int .i64 0)) := fun W => ((Upd.refl _ _).setB _ _).setB _ _
                      refine ⟨?_, Upd.then (b := World.drew _) HU6.out.drew (U _) (fun k _ h => h)⟩
                      rw [List.map_set, List.map_set]
                      exact RowAt.set (RowAt.set (w := World.drew _) HR6.out _ _) _ _
                    rintro w8 ⟨hr8, hu8⟩
                    have H8 := Lib.hid (And.intro hr8 hu8)
                    clear hr8 hu8
                    go_wp2_with fail
                    go_roundg (k - 1 - ((s + 1) + 1))
                    case measure => omega
                    case rel => exact ⟨(s + 1) + 1, by simp, by omega, rfl, by have := H8.out; rw [HMN2.out.nx, sizes_unite hAB (by omega) (by omega), HMN2.out.la, HMN2.out.lb]; exact this⟩
              · obtain rfl : t = k - 1 := by omega
                have hUW := Lib.hid (((HU.out.trans HX.out.2.2).trans HU3.out).then HRW.out.2 (fun i hi e => by have := HRR.out; have h1 := HU.out.size; have h2 := HX.out.2.2.size; omega))
                rcases Nat.eq_zero_or_pos k with hk0 | hk0
                · try (exfalso; omega)
                  all_goals
                    subst hk0
                    go_wp2_with fail
                    go_roundg (3 - (i + 1))
                    case measure => omega
                    case rel => exact ⟨i + 1, by simp, by omega, rfl, hUW⟩
                · try (exfalso; omega)
                  all_goals
                    have hc0 := HRW.out.1.int (i := 0) (by rw [sizes_length]; exact hk0)
                    have hone := st_ok m (mat k D) k (k - 1) (Nat.le_refl _)
                    rw [sizes_get _ _ hk0, one_all hone.1 (by rw [hone.2]; omega)] at hc0
                    have hkI : (0 : Int) < k := by omega
                    clear hone
                    go_wp2_with fail
                    go_roundg (3 - (i + 1))
                    case measure => omega
                    case rel => exact ⟨i + 1, by simp, by omega, rfl, hUW⟩
    · obtain rfl : i = 3 := by omega
      go_wp2_with fail
      refine (lkworks_any _).mono ?_
      rintro e w2 ⟨rfl, hu2⟩
      have HF := Lib.hid ((HU1.out.trans HU.out).trans hu2)
      clear hu2
      go_wp2_with fail
      go_ret
      exact ⟨rfl, HF.out⟩
end Go.Proofs.YtmkggcmebeagaaaDoor
