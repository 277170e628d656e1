/- Lists of merges that are compared. -/
import Derived.Test.YtmkggcmebeagaaaLkSame
namespace Go.Proofs.Ytmkggcmebeagaaa
set_option linter.unusedVariables false
set_option linter.unusedSimpArgs false
open Go.RowKit Lk

deriving instance DecidableEq for Lk.Mg
theorem Mg.eq_of {x y : Mg} (h1 : x.a = y.a) (h2 : x.b = y.b) (h3 : x.f.1 = y.f.1) (h4 : x.f.2 = y.f.2) (h5 : x.size = y.size) : x = y := by
  obtain ⟨a, b, ⟨n, d⟩, s⟩ := x
  obtain ⟨a', b', ⟨n', d'⟩, s'⟩ := y
  simp only at h1 h2 h3 h4 h5
  subst h1; subst h2; subst h3; subst h4; subst h5; rfl

set_option maxHeartbeats 1000000 in
theorem msame23_any {w : World} {a b : Option Addr} {A B : List Mg} (hA : Mgs w a A) (hB : Mgs w b B) (ca cb : Nat) :
    Calls Try.prog 13 #[.slice a A.length ca, .slice b B.length cb] w fun e w' => e = .returned (.bool (decide (A = B))) ∧ ∃ n, w.drewN n = w' := by
  have hla := hA.len
  have hlb := hB.len
  by_cases hl : A.length = B.length
  · have HL := Lib.hid hl
    rw [← hl]
    clear hl
    go_enter Try.func13, Try.ntmps13
    go_wp2
    go_loopg [5] A.length (fun k v wr => ∃ j : Nat, v = .int .i64 j ∧ A.take j = B.take j ∧ j ≤ A.length ∧ k = A.length - j ∧ ∃ n, w.drewN n = wr)
    case atStart => exact ⟨0, rfl, rfl, Nat.zero_le _, by omega, 0, rfl⟩
    case round =>
      obtain ⟨j, rfl, ht, hj, hk, n, rfl⟩ := hrel
      by_cases hlt : j < A.length
      · have hltB : j < B.length := by have := HL.out; omega
        obtain ⟨x, rfl, hx1, hx2, hx3, hx4, hx5⟩ := hA.at5 hlt
        obtain ⟨y, rfl, hy1, hy2, hy3, hy4, hy5⟩ := hB.at5 hltB
        have HT := Lib.hid ht
        clear ht
        go_wp2_with fail
        refine wp_region_seq ([]) (17) (by kernel_rfl) (by kernel_rfl) (by kernel_rfl) ?_
        iterate 8 (refine sqB_step (fun K hK => ?_); go_simp; refine hK _ _ ?_; clear hK K)
        by_cases e1 : (A[j].a : Int) = B[j].a
        · by_cases e2 : (A[j].b : Int) = B[j].b
          · by_cases e3 : A[j].f.1 = B[j].f.1
            · by_cases e4 : A[j].f.2 = B[j].f.2
              · by_cases e5 : (A[j].size : Int) = B[j].size
                · have hq : A[j] = B[j] := Mg.eq_of (by omega) (by omega) e3 e4 (by omega)
                  have HQ := Lib.hid hq
                  clear hq
                  iterate 1 (refine sqB_step (fun K hK => ?_); go_simp; refine hK _ _ ?_; clear hK K)
                  refine sqB_nil ?_
                  go_wp2_with fail
                  go_roundg (A.length - (j + 1))
                  case measure => omega
                  case rel => exact ⟨j + 1, by simp, by rw [takeOne hlt, takeOne hltB, HT.out, HQ.out], by omega, rfl, n + 1, rfl⟩
                · skip
                  have hne : decide (A = B) = false := by
                    rw [decide_eq_false_iff_not]; intro h; subst h; exact e5 rfl
                  have HN := Lib.hid hne
                  clear hne
                  iterate 1 (refine sqB_step (fun K hK => ?_); go_simp; refine hK _ _ ?_; clear hK K)
                  refine sqB_nil ?_
                  go_wp2_with fail
                  go_ret
                  exact ⟨by rw [HN.out]; rfl, n + 1, rfl⟩
              · skip
                have hne : decide (A = B) = false := by
                  rw [decide_eq_false_iff_not]; intro h; subst h; exact e4 rfl
                have HN := Lib.hid hne
                clear hne
                iterate 1 (refine sqB_step (fun K hK => ?_); go_simp; refine hK _ _ ?_; clear hK K)
                refine sqB_nil ?_
                go_wp2_with fail
                go_ret
                exact ⟨by rw [HN.out]; rfl, n + 1, rfl⟩
            · skip
              have hne : decide (A = B) = false := by
                rw [decide_eq_false_iff_not]; intro h; subst h; exact e3 rfl
              have HN := Lib.hid hne
              clear hne
              iterate 1 (refine sqB_step (fun K hK => ?_); go_simp; refine hK _ _ ?_; clear hK K)
              refine sqB_nil ?_
              go_wp2_with fail
              go_ret
              exact ⟨by rw [HN.out]; rfl, n + 1, rfl⟩
          · skip
            have hne : decide (A = B) = false := by
              rw [decide_eq_false_iff_not]; intro h; subst h; exact e2 rfl
            have HN := Lib.hid hne
            clear hne
            iterate 1 (refine sqB_step (fun K hK => ?_); go_simp; refine hK _ _ ?_; clear hK K)
            refine sqB_nil ?_
            go_wp2_with fail
            go_ret
            exact ⟨by rw [HN.out]; rfl, n + 1, rfl⟩
        · skip
          have hne : decide (A = B) = false := by
            rw [decide_eq_false_iff_not]; intro h; subst h; exact e1 rfl
          have HN := Lib.hid hne
          clear hne
          iterate 1 (refine sqB_step (fun K hK => ?_); go_simp; refine hK _ _ ?_; clear hK K)
          refine sqB_nil ?_
          go_wp2_with fail
          go_ret
          exact ⟨by rw [HN.out]; rfl, n + 1, rfl⟩
      · obtain rfl : j = A.length := by omega
        have hAB : A = B := by
          rw [List.take_length, HL.out, List.take_length] at ht
          exact ht
        have HAB := Lib.hid (show decide (A = B) = true by simp [hAB])
        clear hAB ht
        go_wp2
        go_ret
        exact ⟨by rw [HAB.out]; rfl, n, rfl⟩
  · have hli : ((A.length : Int) != B.length) = true := by simp; omega
    have hne : decide (A = B) = false := by
      rw [decide_eq_false_iff_not]; intro h; exact hl (by rw [h])
    rw [hne]
    clear hne hl
    go_enter Try.func13, Try.ntmps13
    go_wp2
    go_ret
    exact ⟨rfl, 0, rfl⟩
end Go.Proofs.Ytmkggcmebeagaaa
