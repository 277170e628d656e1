/- The reference's count and Between. -/
import Derived.Test.YtmkggcmebeagaaaLkLaw
namespace Go.Proofs.Ytmkggcmebeagaaa
set_option linter.unusedVariables false
set_option linter.unusedSimpArgs false
open Go.RowKit Lk

theorem rcount_any {w : World} {a : Option Addr} {D : List Int} (h : IntsK .i64 w a D) (cap : Nat) (x : Int) :
    Calls Try.prog 28 #[.slice a D.length cap, .int .i64 x] w fun e w' => e = .returned (.int .i64 (D.count x : Nat)) ∧ w = w' := by
  have hle := h.len
  go_enter Try.func28, Try.ntmps28
  go_wp2
  go_loop [5, 6] (fun u v => ∃ i : Nat, i ≤ D.length ∧ v = .int .i64 i ∧ u = .int .i64 ((D.take i).count x : Nat)) (fun _ v => D.length - (intOf v).toNat)
  case atStart => exact ⟨0, Nat.zero_le _, rfl, by simp⟩
  case round =>
    obtain ⟨i, hi, rfl, rfl⟩ := hrel
    have hcl : (D.take i).count x ≤ i := Nat.le_trans List.count_le_length (by rw [List.length_take]; omega)
    by_cases hlt : i < D.length
    · obtain ⟨y, rfl, hc⟩ := h.cell i hlt
      have HT := Lib.hid (show (D.take (i + 1)).count x = (D.take i).count x + if D[i] == x then 1 else 0 from by
        rw [takeOne hlt, List.count_append, List.count_singleton])
      obtain ⟨z, hz⟩ : ∃ z, D[i] = z := ⟨_, rfl⟩
      rw [hz] at hc HT
      clear hz
      generalize (D.take i).count x = k at *
      by_cases e : z = x
      · have e1 : (z == x) = true := by simpa using e
        rw [e1] at HT
        subst e
        go_wp2
        go_round
        case rel => exact ⟨i + 1, by omega, by go_num, by rw [HT.out]; go_num⟩
        case measure => simp [intOf]; omega
      · have e1 : (z == x) = false := by simpa using e
        rw [e1] at HT
        go_wp2
        go_round
        case rel => exact ⟨i + 1, by omega, by go_num, by rw [HT.out]; simp⟩
        case measure => simp [intOf]; omega
    · obtain rfl : i = D.length := by omega
      go_wp2
      go_ret
      exact ⟨rfl, rfl⟩

set_option maxRecDepth 100000 in
set_option maxHeartbeats 4000000 in
theorem rbet_main (m : Mt) {w : World} {a aA aB : Option Addr} {D A B : List Int} (h : IntsK .i64 w a D) (hA : IntsK .i64 w aA A) (hB : IntsK .i64 w aB B) (cap cA cB n : Nat) (hla : A.length ≤ 30) (hlb : B.length ≤ 30) (hn : n ≤ 128) (hl : D.length = n * n) (hok : checkS n D = 0) (hd : Dist n (mat n D)) :
    Calls Try.prog 16 #[.int .i64 n, .slice a D.length cap, .int .i64 m.num, .slice aA A.length cA, .slice aB B.length cB] w (BetM w m n D A B) := by
  obtain ⟨j0, hj, hy0, hy1, hy2⟩ := info_parts int1_info
  have hml : (maxLen : Nat) = 9223372036854775807 := by decide
  have HJ := Lib.hid (And.intro hj (And.intro hy0 (And.intro hy1 hy2)))
  have HM := Lib.hid (fun w => rmethod_yes m w)
  have hch := fun w (h : IntsK .i64 w a D) => rcheck_any h cap n
  unfold Checks at hch
  rw [hok] at hch
  have HCH := Lib.hid hch
  have HDD := Lib.hid (And.intro h (And.intro hl hd))
  have HAB := Lib.hid (And.intro hA hB)
  have HMN := Lib.hid (Eq.refl m.num)
  have nA : aA = none → A.length = 0 := fun e => by
    rcases Nat.eq_zero_or_pos A.length with h0 | h0
    · exact h0
    · obtain ⟨x, hx, _⟩ := hA.cell 0 h0; rw [e] at hx; cases hx
  have nB : aB = none → B.length = 0 := fun e => by
    rcases Nat.eq_zero_or_pos B.length with h0 | h0
    · exact h0
    · obtain ⟨x, hx, _⟩ := hB.cell 0 h0; rw [e] at hx; cases hx
  clear hj hy0 hy1 hy2 hch h hA hB hl hok hd
  go_enter Try.func16, Try.ntmps16
  go_wp2_with fail
  refine calls_world (fun w1 => CB w1 w.heap.size 38 2 (fun _ => .int .i64 0) ∧ Upd (fun _ => False) w w1) ⟨CB.new _ _ _ _ rfl, (Upd.refl _ _).alloc _⟩ ?_
  rintro w1 ⟨hc, hu⟩
  obtain ⟨q, hq⟩ : ∃ q, w.heap.size = q := ⟨_, rfl⟩
  rw [hq] at hc ⊢
  have HQ := Lib.hid hq
  have HC1 := Lib.hid (And.intro hc hu)
  have hw1 := hu.size
  rw [hq] at hw1
  clear hc hu hq
  refine (HM.out _).mono ?_
  rintro e w' ⟨rfl, rfl⟩
  go_wp2_with fail
  refine (HCH.out _ (HDD.out.1.upd HC1.out.2)).mono ?_
  rintro e w2 ⟨rfl, kd, rfl⟩
  have HC2 := Lib.hid (And.intro (HC1.out.1.drewN kd) (HC1.out.2.drewN kd))
  have hw2 : q ≤ (w1.drewN kd).heap.size := hw1
  generalize w1.drewN kd = w2 at *
  clear HC1
  go_wp2_with (first
    | (at_builtin; refine wpList_app_src (o := ⟨some 29, _, _, _, _, _⟩) _ rfl _ _ 36 rfl w2.heap.size 3 j0 _ 1 8 Try.underlying36 HJ.out.1 HJ.out.2.1 HJ.out.2.2.1 HJ.out.2.2.2 rfl (by decide) _ 0 [] rfl (ownsRow_zero _ _ _ _ (Nat.le_refl _) (World.alloc_heap_new w2 _)) aA A.length cA (A.map (Value.int .i64)) rfl ((HAB.out.1.upd HC2.out.2).upd ((Upd.refl _ _).alloc _)).src (ints_one _) nA (by omega) (by omega) (by simp) ?_; intro v1 w3 hown1 hg1 _; have hu3 : Upd (fun _ => False) w2 w3 := Upd.grown (v := .slice (some ⟨w2.heap.size, 0, none⟩) 0 0) ((Upd.refl _ _).alloc _) hg1 (fun g h => .inr (by cases h; exact Nat.le_refl _)))
    | (at_builtin; refine wpList_app_src (o := ⟨some 31, _, _, _, _, _⟩) _ rfl _ _ 36 rfl w2.heap.size 3 j0 _ 1 8 Try.underlying36 HJ.out.1 HJ.out.2.1 HJ.out.2.2.1 HJ.out.2.2.2 rfl (by decide) _ (0 + A.length) _ rfl hown1 aB B.length cB (B.map (Value.int .i64)) rfl ((HAB.out.2.upd HC2.out.2).upd hu3).src (ints_one _) nB (by omega) (by omega) hu3.size ?_; intro v2 w4 hown2 hg2 _))
  have hu4 : Upd (fun _ => False) w2 w4 := Upd.grown (v := v1) hu3 hg2 (fun g h => .inr (own_block hown1 h).1)
  have hP0 : ([] : List Value) ++ A.map (Value.int .i64) ++ B.map (Value.int .i64) = (A ++ B).map (Value.int .i64) := by simp
  have hPl : (A ++ B).length = 0 + A.length + B.length := by simp
  rw [hP0, ← hPl] at hown2
  obtain ⟨pA, pc, rfl, hP, -⟩ := IntsK.of_own hown2 (by rw [hPl]; omega)
  have HP := Lib.hid hP
  have HC4 := Lib.hid (And.intro (HC2.out.1.upd hu4 (fun h => h)) (HC2.out.2.trans hu4))
  have HEA := Lib.hid (show A = [] ↔ A.length = 0 from List.length_eq_zero_iff.symm)
  have HEB := Lib.hid (show B = [] ↔ B.length = 0 from List.length_eq_zero_iff.symm)
  have hPb : (A ++ B).length ≤ 60 := by rw [hPl]; omega
  obtain ⟨P, hPP⟩ : ∃ P, A ++ B = P := ⟨_, rfl⟩
  have HPP := Lib.hid hPP
  rw [hPP] at HP hPb ⊢
  have hqw : w.heap.size ≤ q := by rw [HQ.out]; exact Nat.le_refl _
  clear hown1 hg1 hown2 hg2 hu3 hu4 hP0 hPl hP hPP HC2 nA nB
  go_loop [14] (fun v => ∃ i : Nat, v = .int .i64 i ∧ i ≤ P.length ∧ Hid (inN n (P.take i))) (fun v => P.length - (intOf v).toNat)
  case atStart => exact ⟨0, rfl, Nat.zero_le _, fun x hx => by simp at hx⟩
  case round =>
    obtain ⟨i, rfl, hi, HIN⟩ := hrel
    by_cases hlt : i < P.length
    · obtain ⟨x, rfl, hx⟩ := HP.out.cell i hlt
      have hT := takeOne hlt
      obtain ⟨y, hy⟩ : ∃ y, P[i] = y := ⟨_, rfl⟩
      rw [hy] at hx hT
      have HT := Lib.hid hT
      have HY := Lib.hid (show y ∈ P by rw [← hy]; exact List.getElem_mem _)
      clear hy hT
      by_cases e1 : y < 0
      · have HO := Lib.hid (show ¬ inN n P from fun h => by have := h y HY.out; omega)
        have k0 := HC4.out.1.cell (o := 0) (by omega)
        have k1 := HC4.out.1.cell (o := 1) (by omega)
        have f0 := HC4.out.1.free
        go_wp2_with fail
        exact bodyPost_ret (v := .tuple #[.agg #[.int .i64 0, .int .i64 0], .int .i64 3]) (by simp [results, Try.results16, go_sem, k0, k1]) rfl (BetM.rng (by rw [HPP.out]; exact HO.out) ⟨rfl, (HC4.out.2.setCell (.inr hqw) _).setCell (.inr hqw) _⟩)
      · by_cases e2 : (n : Int) ≤ y
        · have HO := Lib.hid (show ¬ inN n P from fun h => by have := h y HY.out; omega)
          have k0 := HC4.out.1.cell (o := 0) (by omega)
          have k1 := HC4.out.1.cell (o := 1) (by omega)
          have f0 := HC4.out.1.free
          go_wp2_with fail
          exact bodyPost_ret (v := .tuple #[.agg #[.int .i64 0, .int .i64 0], .int .i64 3]) (by simp [results, Try.results16, go_sem, k0, k1]) rfl (BetM.rng (by rw [HPP.out]; exact HO.out) ⟨rfl, (HC4.out.2.setCell (.inr hqw) _).setCell (.inr hqw) _⟩)
        · have HIN2 := Lib.hid (show inN n (P.take (i + 1)) from by
            rw [HT.out]; intro z hz
            rcases List.mem_append.1 hz with hz | hz
            · exact HIN.out z hz
            · rw [List.mem_singleton] at hz; omega)
          go_wp2_with fail
          go_round
          case rel => exact ⟨i + 1, by simp, by omega, HIN2⟩
          case measure => simp [intOf]; omega
    · obtain rfl : i = P.length := by omega
      have hin : inN n P := by have := HIN.out; rw [List.take_length] at this; exact this
      have HIN3 := Lib.hid hin
      clear hin HIN
      by_cases ea : A.length = 0
      · have t1 : ((A.length : Int) == 0) = true := by simpa using ea
        have HX := Lib.hid (show A = [] ∨ B = [] ∨ ¬ (A ++ B).Nodup from .inl (HEA.out.2 ea))
        have k0 := HC4.out.1.cell (o := 0) (by omega)
        have k1 := HC4.out.1.cell (o := 1) (by omega)
        have f0 := HC4.out.1.free
        go_wp2_with fail
        exact bodyPost_ret (v := .tuple #[.agg #[.int .i64 0, .int .i64 0], .int .i64 2]) (by simp [results, Try.results16, go_sem, k0, k1]) rfl (BetM.arg (by rw [HPP.out]; exact HIN3.out) HX.out ⟨rfl, (HC4.out.2.setCell (.inr hqw) _).setCell (.inr hqw) _⟩)
      · have t1 : ((A.length : Int) == 0) = false := by simpa using ea
        by_cases eb : B.length = 0
        · have t2 : ((B.length : Int) == 0) = true := by simpa using eb
          have HX := Lib.hid (show A = [] ∨ B = [] ∨ ¬ (A ++ B).Nodup from .inr (.inl (HEB.out.2 eb)))
          have k0 := HC4.out.1.cell (o := 0) (by omega)
          have k1 := HC4.out.1.cell (o := 1) (by omega)
          have f0 := HC4.out.1.free
          go_wp2_with fail
          exact bodyPost_ret (v := .tuple #[.agg #[.int .i64 0, .int .i64 0], .int .i64 2]) (by simp [results, Try.results16, go_sem, k0, k1]) rfl (BetM.arg (by rw [HPP.out]; exact HIN3.out) HX.out ⟨rfl, (HC4.out.2.setCell (.inr hqw) _).setCell (.inr hqw) _⟩)
        · have t2 : ((B.length : Int) == 0) = false := by simpa using eb
          go_wp2_with fail
          go_loop [15] (fun v => ∃ i : Nat, v = .int .i64 i ∧ i ≤ P.length ∧ Hid (∀ j (h : j < P.length), j < i → P.count P[j] ≤ 1)) (fun v => P.length - (intOf v).toNat)
          case atStart => exact ⟨0, rfl, Nat.zero_le _, fun j h h0 => by omega⟩
          case round =>
            obtain ⟨i, rfl, hi, HCN⟩ := hrel
            by_cases hlt : i < P.length
            · obtain ⟨x, rfl, hx⟩ := HP.out.cell i hlt
              obtain ⟨y, hy⟩ : ∃ y, P[i] = y := ⟨_, rfl⟩
              rw [hy] at hx
              have HY := Lib.hid hy
              have HCO := Lib.hid (rcount_any HP.out pc y)
              have hcb : P.count y ≤ P.length := List.count_le_length
              obtain ⟨k, hk⟩ : ∃ k, P.count y = k := ⟨_, rfl⟩
              rw [hk] at HCO hcb
              have HK := Lib.hid hk
              clear hy hk
              go_wp2_with fail
              with_reducible refine HCO.out.mono ?_
              rintro e w5 ⟨rfl, rfl⟩
              by_cases hk1 : 1 < k
              · have hkI : (1 : Int) < k := by omega
                have HX := Lib.hid (show A = [] ∨ B = [] ∨ ¬ (A ++ B).Nodup from .inr (.inr fun h => by rw [HPP.out] at h; have := List.nodup_iff_count.1 h y; rw [HK.out] at this; omega))
                have k0 := HC4.out.1.cell (o := 0) (by omega)
                have k1 := HC4.out.1.cell (o := 1) (by omega)
                have f0 := HC4.out.1.free
                go_wp2_with fail
                exact bodyPost_ret (v := .tuple #[.agg #[.int .i64 0, .int .i64 0], .int .i64 2]) (by simp [results, Try.results16, go_sem, k0, k1]) rfl (BetM.arg (by rw [HPP.out]; exact HIN3.out) HX.out ⟨rfl, (HC4.out.2.setCell (.inr hqw) _).setCell (.inr hqw) _⟩)
              · have hkI : ¬ (1 : Int) < k := by omega
                have HCN2 := Lib.hid (show ∀ j (h : j < P.length), j < i + 1 → P.count P[j] ≤ 1 from fun j h hj => by
                  by_cases e : j < i
                  · exact HCN.out j h e
                  · obtain rfl : j = i := by omega
                    rw [HY.out, HK.out]; omega)
                go_wp2_with fail
                go_round
                case rel => exact ⟨i + 1, by simp, by omega, HCN2⟩
                case measure => simp [intOf]; omega
            · obtain rfl : i = P.length := by omega
              have hnd : P.Nodup := List.nodup_iff_count.2 fun y => by
                by_cases hy : y ∈ P
                · obtain ⟨j, hj, rfl⟩ := List.mem_iff_getElem.1 hy
                  exact HCN.out j hj hj
                · rw [List.count_eq_zero_of_not_mem hy]; omega
              have hin : inN n (A ++ B) := by rw [HPP.out]; exact HIN3.out
              have hndP : (A ++ B).Nodup := by rw [HPP.out]; exact hnd
              have hTW := two_of hin hndP
              have hnA : natI (nats A) = A := nats_cast (fun x hx => hin x (by simp [hx]))
              have hnB : natI (nats B) = B := nats_cast (fun x hx => hin x (by simp [hx]))
              have hlA : (nats A).length = A.length := by simp [nats]
              have hlB : (nats B).length = B.length := by simp [nats]
              have hdist := rdist_any m (A := nats A) (B := nats B) (aA := aA) (aB := aB) (HDD.out.1.upd HC4.out.2) HDD.out.2.1 HDD.out.2.2 (by rw [hnA]; exact HAB.out.1.upd HC4.out.2) (by rw [hnB]; exact HAB.out.2.upd HC4.out.2) hTW.ma hTW.mb (by omega) (by omega) (by omega) (by omega) cap cA cB
              rw [hlA, hlB] at hdist
              have HDI := Lib.hid hdist
              have HFI := Lib.hid (And.intro hin (And.intro hndP (And.intro (fun h : A = [] => ea (HEA.out.1 h)) (fun h : B = [] => eb (HEB.out.1 h)))))
              clear hnd hin hndP hTW hnA hnB hlA hlB hdist HCN
              go_wp2_with fail
              refine HDI.out.mono ?_
              rintro e w5 ⟨rfl, hu5⟩
              have HBT := Lib.hid (show btF n D m A B = red (num m (mat n D) (nats A) (nats B), den m (nats A) (nats B)) from rfl)
              generalize red (num m (mat n D) (nats A) (nats B), den m (nats A) (nats B)) = F at *
              have hc5 := HC4.out.1.upd hu5 (fun h => h)
              have k0 := hc5.cell (o := 0) (by omega)
              have k1 := hc5.cell (o := 1) (by omega)
              have f0 := hc5.free
              have HU5 := Lib.hid (HC4.out.2.trans hu5)
              clear hc5 hu5 HDI
              go_wp2_with fail
              exact bodyPost_ret (v := .tuple #[.agg #[.int .i64 F.1, .int .i64 F.2], .int .i64 0]) (by simp [results, Try.results16, go_sem, k0, k1]) rfl (BetM.ok HFI.out.1 HFI.out.2.2.1 HFI.out.2.2.2 HFI.out.2.1 HBT.out ((HU5.out.setCell (.inr hqw) _).setCell (.inr hqw) _))
end Go.Proofs.Ytmkggcmebeagaaa
