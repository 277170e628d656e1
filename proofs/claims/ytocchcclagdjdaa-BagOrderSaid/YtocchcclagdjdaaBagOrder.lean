/- The law BagOrder. -/
import Derived.Test.YtocchcclagdjdaaBagShow
namespace Go.Proofs.Ytocchcclagdjdaa
open Go.RowKit Pl

theorem tot_take {l : Items} {j : Nat} (h : j < l.length) : tot (l.take (j + 1)) = tot (l.take j) + l[j].2 := by
  rw [take_oneI h, tot_append]; simp [tot]

/-- what items hands back, with its room -/
def Shown2 (w : World) (L : Items) (e : Ending) (w' : World) : Prop := ∃ a c, e = .returned (.slice a L.length c) ∧ Upd (fun _ => False) w w' ∧ Shows w' a L ∧ L.length ≤ c ∧ (a = none → c = 0)
theorem OwnItems.room {w : World} {n₀ : Nat} {v : Value} {L : Items} (h : OwnItems w n₀ v L) {a : Option Addr} {c : Nat} (hv : v = .slice a L.length c) : L.length ≤ c ∧ (a = none → c = 0) := by
  obtain ⟨_, ⟨rfl, h0⟩ | ⟨g, cap, cur, rfl, _, _, hn, _, _, _⟩⟩ := h
  · simp only [Value.slice.injEq] at hv
    obtain ⟨_, _, rfl⟩ := hv
    exact ⟨by omega, fun _ => rfl⟩
  · simp only [Value.slice.injEq] at hv
    obtain ⟨rfl, _, rfl⟩ := hv
    exact ⟨hn, fun h => by cases h⟩
theorem items301b {w : World} {p : Nat} {L : Items} {fp : List Nat} (hb : Bag w p L fp) (hL : L.length ≤ 301) :
    Calls Try.prog 16 #[.pointer (some ⟨p, 0, none⟩), .int .i64 301] w (Shown2 w L) := by
  have h := items_any hb 301 (by omega)
  rw [List.take_of_length_le hL] at h
  refine h.mono fun e w' ⟨v, he, hu, ho⟩ => ?_
  obtain ⟨a, c, hv, hs, _⟩ := ho.shows
  obtain ⟨r1, r2⟩ := ho.room hv
  subst hv
  exact ⟨a, c, he, hu, hs, r1, r2⟩
theorem Shows.take {w : World} {a : Option Addr} {L : Items} (h : Shows w a L) (m : Nat) : Shows w a (L.take m) :=
  ⟨fun i hi => by
    have hi' : i < L.length := by rw [List.length_take] at hi; omega
    obtain ⟨x, hx, h1, h2⟩ := h.cell i hi'
    refine ⟨x, hx, ?_, ?_⟩
    · rw [List.getElem_take]; exact h1
    · rw [List.getElem_take]; exact h2⟩


theorem tot_take_le {l : Items} (h : Pos l) (j : Nat) : 0 ≤ tot (l.take j) ∧ tot (l.take j) ≤ tot l := by
  have e : tot l = tot (l.take j) + tot (l.drop j) := by rw [← tot_append, List.take_append_drop]
  have h1 : Pos (l.take j) := fun q hq => h q (List.mem_of_mem_take hq)
  have h2 : Pos (l.drop j) := fun q hq => h q (List.mem_of_mem_drop hq)
  have := tot_nonneg h1
  have := tot_nonneg h2
  omega
theorem ms_cnt {l : List Int} {j : Nat} (h : j < (ms l).length) : (ms l)[j].2 = eqs l (ms l)[j].1 := by
  have h2 := (ms_ok l).cnt (ms l)[j].1
  rw [← h2]
  obtain ⟨a, b, e⟩ := List.append_of_mem (List.getElem_mem h)
  have hs := (ms_ok l).srt
  generalize (ms l)[j] = q at *
  rw [e] at hs ⊢
  exact (cnt_mid hs).symm
theorem srt_get : ∀ {l : Items} {i : Nat} (_ : Srt l) (h : i + 1 < l.length), (l[i]'(by omega)).1 < l[i + 1].1
  | [], _, _, h => by cases h
  | p :: l, 0, hs, h => hs.1 _ (List.getElem_mem _)
  | p :: l, i + 1, hs, h => by
    have := srt_get (l := l) (i := i) hs.2 (by simpa using h)
    simpa using this

set_option maxRecDepth 100000 in
set_option maxHeartbeats 1600000 in
theorem order_law {w : World} {a : Option Addr} {l : List Int} (h : Ints w a l) (cap : Nat) (stop : Int) (hs0 : 0 ≤ stop) (hs1 : stop ≤ 255) :
    Calls Try.prog 4 #[.slice a l.length cap, .int .u8 stop] w fun e w' => e = .returned (.bool true) ∧ Upd (fun _ => False) w w' := by
  by_cases hlen : 300 < l.length
  · go_enter Try.func4, Try.ntmps4
    go_wp2_with (go_at_call 10; refine (works_any w).mono ?_; rintro e w' ⟨rfl, hu⟩)
    go_ret
    exact ⟨rfl, hu⟩
  · obtain ⟨sn, rfl⟩ := Int.eq_ofNat_of_zero_le hs0
    have hlen' : l.length ≤ 300 := by omega
    have hok := ms_ok l
    have hml := ms_length l
    have hl301 : (ms l).length ≤ 301 := by omega
    have hl1m : (ms l).length ≤ 1000000 := by omega
    have htot : tot (ms l) = l.length := hok.tot
    have HOK := Lib.hid hok
    have HST := Lib.hid (And.intro hs0 hs1)
    clear hok hs0 hs1
    go_enter Try.func4, Try.ntmps4
    go_wp2_with fail
    refine (filled_any h cap false hlen').mono ?_
    rintro e w1 ⟨p, fp, rfl, hb1, hfp, hu1⟩
    have h1 := h.upd hu1
    have HU1 := Lib.hid hu1
    clear hfp hu1 h
    go_wp2_with fail
    refine (filled_any h1 cap true hlen').mono ?_
    rintro e w2 ⟨p', fp', rfl, hb2, hfp', hu2⟩
    have hb1' := hb1.upd hu2 (fun _ _ h => h)
    have h2 := h1.upd hu2
    have HU2 := Lib.hid (HU1.out.trans hu2)
    clear hfp' hu2 h1 hb1
    go_wp2_with fail
    refine (items301b hb1' hl301).mono ?_
    rintro e w3 ⟨aa, ca, rfl, hu3, hs3, hca, hcn⟩
    have HCN := Lib.hid hcn
    clear hcn
    have hba := hb1'.upd hu3 (fun _ _ h => h)
    have hbb := hb2.upd hu3 (fun _ _ h => h)
    have h3 := h2.upd hu3
    have HU3 := Lib.hid (HU2.out.trans hu3)
    clear hu3 h2 hb1' hb2
    go_wp2_with fail
    refine (items301 hbb hl301).mono ?_
    rintro e w4 ⟨ab, cb, rfl, hu4, hs4, hxb⟩
    have hba4 := hba.upd hu4 (fun _ _ h => h)
    have hsa4 := hs3.upd hu4
    have h4 := h3.upd hu4
    have HU4 := Lib.hid (HU3.out.trans hu4)
    clear hu4 h3 hba hbb hs3 hxb
    go_wp2_with fail
    refine (same_any hsa4 hs4 ca cb hl1m).mono ?_
    rw [decide_refl]
    rintro e w5 ⟨rfl, n5, rfl⟩
    go_wp2_with fail
    refine (distinct_any (hba4.drewN _)).mono ?_
    rintro e w6 ⟨rfl, n6, rfl⟩
    go_wp2_with fail
    go_loopg [8, 9] (ms l).length (fun k s v wr => ∃ (j : Nat), v = .int .i64 j ∧ s = .int .i64 (tot ((ms l).take j)) ∧ j ≤ (ms l).length ∧ k = (ms l).length - j ∧ ∃ n, w4.drewN n = wr)
    case atStart => exact ⟨0, rfl, rfl, Nat.zero_le _, by omega, _, rfl⟩
    case round =>
      obtain ⟨j, rfl, rfl, hj, hk, n, rfl⟩ := hrel
      by_cases hlt : j < (ms l).length
      · obtain ⟨x, rfl, hx, hx2⟩ := hsa4.cell j hlt
        have hT := ms_cnt hlt
        have hnext := tot_take hlt
        obtain ⟨b1, b2⟩ := tot_take_le HOK.out.pos (j + 1)
        obtain ⟨b3, b4⟩ := tot_take_le HOK.out.pos j
        have hsum : wrap64 (tot ((ms l).take j) + (ms l)[j].2) = tot ((ms l).take (j + 1)) := by rw [hnext]; exact wrap64_in _ (by omega) (by omega)
        clear hnext b1 b2 b3 b4
        have HSUM := Lib.hid hsum
        clear hsum
        go_wp2_with fail
        refine (lcount_any (h4.upd ((Upd.refl _ _).drewN n)) cap (ms l)[j].1).mono ?_
        rw [← hT]
        rintro e w7 ⟨rfl, hw⟩
        rw [hw]
        clear hw w7
        have HT := Lib.hid hT
        clear hT
        by_cases hj0 : j = 0
        · subst hj0
          have q1 : w4.cell? x = some (.int .i64 (ms l)[0].1) := hx
          have q2 : w4.cell? ⟨x.block, x.off + 1, none⟩ = some (.int .i64 (ms l)[0].2) := hx2
          go_wp2_with fail
          refine wp_region_seq ([]) (57) (by kernel_rfl) (by kernel_rfl) (by kernel_rfl) ?_
          iterate 25 (refine sqB_step (fun K hK => ?_); go_simp; refine hK _ _ ?_; clear hK K)
          refine sqB_nil ?_
          go_wp2_with fail
          go_roundg ((ms l).length - 1)
          case measure => omega
          case rel => exact ⟨1, by simp, val_eq (by have := HSUM.out; first | exact this | simpa using this), by omega, by omega, _, rfl⟩
        · obtain ⟨i, rfl⟩ : ∃ i, j = i + 1 := ⟨j - 1, by omega⟩
          have hil : i < (ms l).length := by omega
          obtain ⟨x0, hx0, hy, hy2⟩ := hsa4.cell i hil
          cases hx0
          have hlt2 := srt_get HOK.out.srt hlt
          have hge : ¬ (ms l)[i + 1].1 ≤ (ms l)[i].1 := by omega
          clear hlt2
          have g1 : (0 : Int) ≤ (i : Int) + 1 := by omega
          have g2 : (i : Int) + 1 < ((ms l).length : Nat) := by omega
          have g3 : (i : Int) < ((ms l).length : Nat) := by omega
          have g4 : (0 : Int) < (i : Int) + 1 := by omega
          have g5 : IntKind.i64.wrap (i : Int) = i := IntWalk.i64_in _ (by omega)
          go_wp2_with fail
          refine wp_region_seq ([]) (57) (by kernel_rfl) (by kernel_rfl) (by kernel_rfl) ?_
          iterate 25 (refine sqB_step (fun K hK => ?_); go_simp; refine hK _ _ ?_; clear hK K)
          refine sqB_nil ?_
          go_wp2_with fail
          go_roundg ((ms l).length - (i + 1 + 1))
          case measure => omega
          case rel => exact ⟨i + 1 + 1, by simp, val_eq (by have := HSUM.out; first | exact this | simpa using this), by omega, by omega, _, rfl⟩
      · obtain rfl : j = (ms l).length := by omega
        rw [List.take_length, htot]
        have hsn : sn ≤ 255 := by have := HST.out.2; omega
        have hsame : ∀ (mm cb : Nat) (v1 : World) (av : Option Addr) (cv : Nat), mm ≤ (ms l).length → Upd (fun _ => False) (w4.drewN (n + 1)) v1 → Shows v1 av ((ms l).take mm) →
            Calls Try.prog 17 #[.slice av mm cv, .slice aa mm cb] v1 fun e w' => e = .returned (.bool true) ∧ ∃ n, v1.drewN n = w' := fun mm cb v1 av cv hm hv hsv => by
          have hlm : ((ms l).take mm).length = mm := by rw [List.length_take]; omega
          have h := same_any hsv (((hsa4.upd ((Upd.refl _ _).drewN (n + 1))).upd hv).take mm) cv cb (by omega)
          rw [decide_refl, hlm] at h
          exact h
        obtain ⟨mm, hmm, hmm1, hmm2⟩ : ∃ mm, mm ≤ (ms l).length ∧ ((ms l).length < sn → mm = (ms l).length) ∧ (¬ (ms l).length < sn → mm = sn) := by
          by_cases c : (ms l).length < sn
          · exact ⟨_, Nat.le_refl _, fun _ => rfl, fun h => absurd c h⟩
          · exact ⟨sn, by omega, fun h => absurd h c, fun _ => rfl⟩
        have hlm : ((ms l).take mm).length = mm := by rw [List.length_take]; omega
        have hit : Calls Try.prog 16 #[.pointer (some ⟨p, 0, none⟩), .int .i64 mm] (w4.drewN (n + 1)) fun e w' => ∃ a c, e = .returned (.slice a mm c) ∧ Upd (fun _ => False) (w4.drewN (n + 1)) w' ∧ Shows w' a ((ms l).take mm) :=
          (items_shown (hba4.drewN (n + 1)) mm hl1m).mono fun e w' ⟨a, c, he, hu, hs, _⟩ => ⟨a, c, by rw [hlm] at he; exact he, hu, hs⟩
        replace hsame := fun cb v1 av cv => hsame mm cb v1 av cv hmm
        clear hlm
        by_cases c1 : (ms l).length < sn
        · obtain rfl := hmm1 c1
          clear hmm1 hmm2
          rcases aa with _ | x
          · have hc0 := HCN.out rfl
            have hl0 : (ms l).length = 0 := by omega
            rw [hl0] at hit hsame
            replace hit : Calls Try.prog 16 #[.pointer (some ⟨p, 0, none⟩), .int .i64 0] (w4.drewN (n + 1)) fun e w' => ∃ a c, e = .returned (.slice a 0 c) ∧ Upd (fun _ => False) (w4.drewN (n + 1)) w' ∧ Shows w' a ((ms l).take 0) := hit
            go_wp2_with fail
            refine wp_region_seq ([]) (97) (by kernel_rfl) (by kernel_rfl) (by kernel_rfl) ?_
            iterate 7 (refine sqB_step (fun K hK => ?_); go_simp; refine hK _ _ ?_; clear hK K)
            refine sqB_step (fun K hK => ?_); go_simp; refine (hit).mono ?_; rintro e v1 ⟨av, cv, rfl, hv1, hsv⟩
            refine ⟨_, rfl, hK _ _ ?_⟩; clear hK K
            iterate 3 (refine sqB_step (fun K hK => ?_); go_simp; refine hK _ _ ?_; clear hK K)
            refine sqB_step (fun K hK => ?_); go_simp; refine (hsame _ v1 av cv hv1 hsv).mono ?_; rintro e v2 ⟨rfl, m2, rfl⟩
            refine ⟨_, rfl, hK _ _ ?_⟩; clear hK K
            iterate 2 (refine sqB_step (fun K hK => ?_); go_simp; refine hK _ _ ?_; clear hK K)
            refine sqB_step (fun K hK => ?_); go_simp; refine (works_any _).mono ?_; rintro e v3 ⟨rfl, hv3⟩
            refine ⟨_, rfl, hK _ _ ?_⟩; clear hK K
            iterate 2 (refine sqB_step (fun K hK => ?_); go_simp; refine hK _ _ ?_; clear hK K)
            refine sqB_nil ?_
            go_wp2_with fail
            go_ret
            exact ⟨rfl, (((HU4.out.drewN _).trans hv1).drewN _).trans hv3⟩
          · go_wp2_with fail
            refine wp_region_seq ([]) (97) (by kernel_rfl) (by kernel_rfl) (by kernel_rfl) ?_
            iterate 7 (refine sqB_step (fun K hK => ?_); go_simp; refine hK _ _ ?_; clear hK K)
            refine sqB_step (fun K hK => ?_); go_simp; refine (hit).mono ?_; rintro e v1 ⟨av, cv, rfl, hv1, hsv⟩
            refine ⟨_, rfl, hK _ _ ?_⟩; clear hK K
            iterate 3 (refine sqB_step (fun K hK => ?_); go_simp; refine hK _ _ ?_; clear hK K)
            refine sqB_step (fun K hK => ?_); go_simp; refine (hsame _ v1 av cv hv1 hsv).mono ?_; rintro e v2 ⟨rfl, m2, rfl⟩
            refine ⟨_, rfl, hK _ _ ?_⟩; clear hK K
            iterate 2 (refine sqB_step (fun K hK => ?_); go_simp; refine hK _ _ ?_; clear hK K)
            refine sqB_step (fun K hK => ?_); go_simp; refine (works_any _).mono ?_; rintro e v3 ⟨rfl, hv3⟩
            refine ⟨_, rfl, hK _ _ ?_⟩; clear hK K
            iterate 2 (refine sqB_step (fun K hK => ?_); go_simp; refine hK _ _ ?_; clear hK K)
            refine sqB_nil ?_
            go_wp2_with fail
            go_ret
            exact ⟨rfl, (((HU4.out.drewN _).trans hv1).drewN _).trans hv3⟩
        · obtain rfl := hmm2 c1
          clear hmm1 hmm2
          rcases aa with _ | x
          · have hc0 := HCN.out rfl
            obtain rfl : mm = 0 := by omega
            replace hit : Calls Try.prog 16 #[.pointer (some ⟨p, 0, none⟩), .int .i64 0] (w4.drewN (n + 1)) fun e w' => ∃ a c, e = .returned (.slice a 0 c) ∧ Upd (fun _ => False) (w4.drewN (n + 1)) w' ∧ Shows w' a ((ms l).take 0) := hit
            go_wp2_with fail
            refine wp_region_seq ([]) (97) (by kernel_rfl) (by kernel_rfl) (by kernel_rfl) ?_
            iterate 7 (refine sqB_step (fun K hK => ?_); go_simp; refine hK _ _ ?_; clear hK K)
            refine sqB_step (fun K hK => ?_); go_simp; refine (hit).mono ?_; rintro e v1 ⟨av, cv, rfl, hv1, hsv⟩
            refine ⟨_, rfl, hK _ _ ?_⟩; clear hK K
            iterate 3 (refine sqB_step (fun K hK => ?_); go_simp; refine hK _ _ ?_; clear hK K)
            refine sqB_step (fun K hK => ?_); go_simp; refine (hsame _ v1 av cv hv1 hsv).mono ?_; rintro e v2 ⟨rfl, m2, rfl⟩
            refine ⟨_, rfl, hK _ _ ?_⟩; clear hK K
            iterate 2 (refine sqB_step (fun K hK => ?_); go_simp; refine hK _ _ ?_; clear hK K)
            refine sqB_step (fun K hK => ?_); go_simp; refine (works_any _).mono ?_; rintro e v3 ⟨rfl, hv3⟩
            refine ⟨_, rfl, hK _ _ ?_⟩; clear hK K
            iterate 2 (refine sqB_step (fun K hK => ?_); go_simp; refine hK _ _ ?_; clear hK K)
            refine sqB_nil ?_
            go_wp2_with fail
            go_ret
            exact ⟨rfl, (((HU4.out.drewN _).trans hv1).drewN _).trans hv3⟩
          · have hmc : mm ≤ ca := by omega
            go_wp2_with fail
            refine wp_region_seq ([]) (97) (by kernel_rfl) (by kernel_rfl) (by kernel_rfl) ?_
            iterate 7 (refine sqB_step (fun K hK => ?_); go_simp; refine hK _ _ ?_; clear hK K)
            refine sqB_step (fun K hK => ?_); go_simp; refine (hit).mono ?_; rintro e v1 ⟨av, cv, rfl, hv1, hsv⟩
            refine ⟨_, rfl, hK _ _ ?_⟩; clear hK K
            iterate 3 (refine sqB_step (fun K hK => ?_); go_simp; refine hK _ _ ?_; clear hK K)
            refine sqB_step (fun K hK => ?_); go_simp; refine (hsame _ v1 av cv hv1 hsv).mono ?_; rintro e v2 ⟨rfl, m2, rfl⟩
            refine ⟨_, rfl, hK _ _ ?_⟩; clear hK K
            iterate 2 (refine sqB_step (fun K hK => ?_); go_simp; refine hK _ _ ?_; clear hK K)
            refine sqB_step (fun K hK => ?_); go_simp; refine (works_any _).mono ?_; rintro e v3 ⟨rfl, hv3⟩
            refine ⟨_, rfl, hK _ _ ?_⟩; clear hK K
            iterate 2 (refine sqB_step (fun K hK => ?_); go_simp; refine hK _ _ ?_; clear hK K)
            refine sqB_nil ?_
            go_wp2_with fail
            go_ret
            exact ⟨rfl, (((HU4.out.drewN _).trans hv1).drewN _).trans hv3⟩
end Go.Proofs.Ytocchcclagdjdaa
