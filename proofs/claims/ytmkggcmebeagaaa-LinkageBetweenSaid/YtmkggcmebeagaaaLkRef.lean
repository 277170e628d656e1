/- The reference: Check, lowest, distance. -/
import Derived.Test.YtmkggcmebeagaaaLkSame
namespace Go.Proofs.Ytmkggcmebeagaaa
set_option linter.unusedVariables false
set_option linter.unusedSimpArgs false
open Go.RowKit Lk

set_option maxRecDepth 100000 in
set_option maxHeartbeats 2000000 in
theorem rcheck_any {w : World} {a : Option Addr} {D : List Int} (h : IntsK .i64 w a D) (cap : Nat) (n : Int) :
    Calls Try.prog 10 #[.int .i64 n, .slice a D.length cap] w (Checks w n D) := by
  by_cases h1 : n < 0 ∨ 128 < n ∨ (D.length : Int) ≠ n * n
  · have HC := Lib.hid (checkS_out h1)
    by_cases h2 : n < 0
    · go_enter Try.func10, Try.ntmps10
      go_wp2
      go_ret
      exact ⟨by rw [HC.out]; rfl, 0, rfl⟩
    · by_cases h3 : 128 < n
      · go_enter Try.func10, Try.ntmps10
        go_wp2
        go_ret
        exact ⟨by rw [HC.out]; rfl, 0, rfl⟩
      · have h4 : (D.length : Int) ≠ n * n := by omega
        have hb : n * n ≤ 128 * 128 := Int.mul_le_mul (by omega) (by omega) (by omega) (by omega)
        have hb0 : 0 ≤ n * n := Int.mul_nonneg (by omega) (by omega)
        have e1 : wrap64 (n * n) = n * n := w64_in _ (by omega) (by omega)
        obtain ⟨q, hq⟩ : ∃ q, n * n = q := ⟨_, rfl⟩
        rw [hq] at e1 hb hb0 h4
        have h5 : ((D.length : Int) == q) = false := by simpa using h4
        have h6 : ((D.length : Int) != q) = true := by simpa using h4
        clear h1
        go_enter Try.func10, Try.ntmps10
        go_wp2
        go_ret
        exact ⟨by rw [HC.out]; rfl, 0, rfl⟩
  · have h1' : ¬ n < 0 ∧ ¬ 128 < n ∧ (D.length : Int) = n * n := ⟨by omega, by omega, by omega⟩
    obtain ⟨h2, h3, h4⟩ := h1'
    obtain ⟨n, rfl⟩ := Int.eq_ofNat_of_zero_le (show 0 ≤ n by omega)
    have HN := Lib.hid h1
    have hl : D.length = n * n := by exact_mod_cast h4
    have hb : n * n ≤ 128 * 128 := Nat.mul_le_mul (by omega) (by omega)
    have hne : ((D.length : Int) != (n : Int) * n) = false := by simpa using h4
    have hc := h.cell
    have hlen := h.len
    have hcast0 : ((n * n : Nat) : Int) = (n : Int) * n := Int.natCast_mul ..
    have e0 : (n : Int) * n = D.length := by omega
    have HL := Lib.hid hl
    have HE0 := Lib.hid e0
    have e0a : (n : Int) * n ≤ 128 * 128 := by omega
    have e0b : 0 ≤ (n : Int) * n := by omega
    clear h1 h4 hl hcast0 e0
    go_enter Try.func10, Try.ntmps10
    go_wp2
    clear hne
    go_loopg [5] n (fun k v wr => ∃ i : Nat, v = .int .i64 i ∧ i ≤ n ∧ k = n - i ∧ (∀ i', i' < i → ∀ j, j < n → okAt n D i' j) ∧ ∃ t, w.drewN t = wr)
    case atStart => exact ⟨0, rfl, Nat.zero_le _, by omega, fun _ h => absurd h (by omega), 0, rfl⟩
    case round =>
      obtain ⟨i, rfl, hi, hk, hok, t, rfl⟩ := hrel
      have HOK := Lib.hid hok
      clear hok
      by_cases hlt : i < n
      · go_wp2
        go_loopg [6] n (fun k v wr => ∃ j : Nat, v = .int .i64 j ∧ j ≤ n ∧ k = n - j ∧ (∀ j', j' < j → okAt n D i j') ∧ ∃ t, w.drewN t = wr)
        case atStart => exact ⟨0, rfl, Nat.zero_le _, by omega, fun _ h => absurd h (by omega), t, rfl⟩
        case round =>
          obtain ⟨j, rfl, hj, hk2, hok, t2, rfl⟩ := hrel
          have HOJ := Lib.hid hok
          clear hok
          by_cases hlt2 : j < n
          · have l1 : i * n + j < D.length := by rw [HL.out]; exact idx_lt hlt hlt2
            have l2 : j * n + i < D.length := by rw [HL.out]; exact idx_lt hlt2 hlt
            obtain ⟨x, rfl, c1⟩ := hc _ l1
            obtain ⟨x', hx', c2⟩ := hc _ l2
            cases hx'
            have hcast1 : ((i * n : Nat) : Int) = (i : Int) * n := Int.natCast_mul ..
            have hcast2 : ((j * n : Nat) : Int) = (j : Int) * n := Int.natCast_mul ..
            have w1 : IntKind.i64.wrap ((i : Int) * n) = ((i * n : Nat) : Int) := by rw [i64_in _ (by omega) (by omega)]; omega
            have w2 : IntKind.i64.wrap ((j : Int) * n) = ((j * n : Nat) : Int) := by rw [i64_in _ (by omega) (by omega)]; omega
            have w3 : IntKind.i64.wrap (((i * n : Nat) : Int) + j) = ((i * n + j : Nat) : Int) := by rw [i64_in _ (by omega) (by omega)]; omega
            have w4 : IntKind.i64.wrap (((j * n : Nat) : Int) + i) = ((j * n + i : Nat) : Int) := by rw [i64_in _ (by omega) (by omega)]; omega
            have e1 : D.getD (i * n + j) 0 = D[i * n + j] := by simp [List.getD_eq_getElem?_getD, List.getElem?_eq_getElem l1]
            have e2 : D.getD (j * n + i) 0 = D[j * n + i] := by simp [List.getD_eq_getElem?_getD, List.getElem?_eq_getElem l2]
            have hiff : okAt n D i j ↔ D[i * n + j] = D[j * n + i] ∧ (i = j → D[i * n + j] = 0) := by unfold okAt; rw [e1, e2]
            have HIFF := Lib.hid hiff
            clear e1 e2 hcast1 hcast2 hiff
            generalize i * n = p at *
            generalize j * n = q at *
            generalize D[p + j] = u at *
            generalize D[q + i] = v at *
            obtain ⟨s1, hs1⟩ : ∃ s1, p + j = s1 := ⟨_, rfl⟩
            obtain ⟨s2, hs2⟩ : ∃ s2, q + i = s2 := ⟨_, rfl⟩
            rw [hs1] at l1 c1 w3
            rw [hs2] at l2 c2 w4
            clear hs1 hs2
            go_wp2
            refine wp_region_seq ([]) (32) (by kernel_rfl) (by kernel_rfl) (by kernel_rfl) ?_
            by_cases huv : u = v
            · by_cases hij : i = j
              · by_cases hu0 : u = 0
                · have hnz : (u != 0) = false := by simp [hu0]
                  have hnv : (u != v) = false := by simp [huv]
                  have hb : ((i : Int) == j) = true := by simp [hij]
                  have HH := Lib.hid (And.intro huv (And.intro hij hu0))
                  clear huv hij hu0
                  iterate 33 (refine sqB_step (fun K hK => ?_); go_simp; refine hK _ _ ?_; clear hK K)
                  refine sqB_nil ?_
                  go_wp2
                  go_roundg (n - (j + 1))
                  case measure => omega
                  case rel => exact ⟨j + 1, by simp, by omega, rfl, fun j' hj' => by
                    rcases Nat.lt_or_ge j' j with h | h
                    · exact HOJ.out j' h
                    · obtain rfl : j' = j := by omega
                      exact HIFF.out.2 ⟨HH.out.1, fun _ => HH.out.2.2⟩, t2 + 1, rfl⟩
                · have hnz : (u != 0) = true := by simp [hu0]
                  have hnv : (u != v) = false := by simp [huv]
                  have hb : ((i : Int) == j) = true := by simp [hij]
                  have hns : ¬ Sym n D := fun hh => hu0 ((HIFF.out.1 (hh i hlt j (by omega))).2 hij)
                  have HH := Lib.hid (And.intro huv (And.intro hij hns))
                  clear huv hij hu0 hns
                  iterate 33 (refine sqB_step (fun K hK => ?_); go_simp; refine hK _ _ ?_; clear hK K)
                  refine sqB_nil ?_
                  go_wp2
                  go_ret
                  exact ⟨by rw [checkS_sym HN.out HH.out.2.2]; rfl, t2 + 1, rfl⟩
              · have hnv : (u != v) = false := by simp [huv]
                have hb : ((i : Int) == j) = false := by simp; omega
                have HH := Lib.hid (And.intro huv hij)
                clear huv hij
                iterate 33 (refine sqB_step (fun K hK => ?_); go_simp; refine hK _ _ ?_; clear hK K)
                refine sqB_nil ?_
                go_wp2
                go_roundg (n - (j + 1))
                case measure => omega
                case rel => exact ⟨j + 1, by simp, by omega, rfl, fun j' hj' => by
                    rcases Nat.lt_or_ge j' j with h | h
                    · exact HOJ.out j' h
                    · obtain rfl : j' = j := by omega
                      exact HIFF.out.2 ⟨HH.out.1, fun h => absurd h HH.out.2⟩, t2 + 1, rfl⟩
            · have hnv : (u != v) = true := by simp [huv]
              have hns : ¬ Sym n D := fun hh => huv (HIFF.out.1 (hh i hlt j (by omega))).1
              have HH := Lib.hid hns
              clear huv hns
              iterate 33 (refine sqB_step (fun K hK => ?_); go_simp; refine hK _ _ ?_; clear hK K)
              refine sqB_nil ?_
              go_wp2
              go_ret
              exact ⟨by rw [checkS_sym HN.out HH.out]; rfl, t2 + 1, rfl⟩
          · obtain rfl : j = n := by omega
            go_wp2
            go_roundg (j - (i + 1))
            case measure => omega
            case rel => exact ⟨i + 1, by simp, by omega, rfl, fun i' hi' k hk => by
              rcases Nat.lt_or_ge i' i with h | h
              · exact HOK.out i' h k hk
              · obtain rfl : i' = i := by omega
                exact HOJ.out k (by omega), t2, rfl⟩
      · obtain rfl : i = n := by omega
        have hsym : Sym i D := fun a ha b hb => HOK.out a ha b hb
        have HS := Lib.hid hsym
        clear hsym
        go_wp2
        go_loopg [7] D.length (fun k v wr => ∃ j : Nat, v = .int .i64 j ∧ j ≤ D.length ∧ k = D.length - j ∧ (∀ j' (h : j' < D.length), j' < j → 0 ≤ D[j'] ∧ D[j'] ≤ 1099511627776) ∧ ∃ t, w.drewN t = wr)
        case atStart => exact ⟨0, rfl, Nat.zero_le _, by omega, fun _ _ h => absurd h (by omega), t, rfl⟩
        case round =>
          obtain ⟨j, rfl, hj, hk2, hok, t2, rfl⟩ := hrel
          have HOJ := Lib.hid hok
          clear hok
          by_cases hlt2 : j < D.length
          · have hjI : (j : Int) < (i : Int) * i := by have := HE0.out; omega
            obtain ⟨x, rfl, c1⟩ := hc _ hlt2
            by_cases h0 : D[j] < 0
            · have hns : ¬ InR D := fun hh => by have := hh D[j] (List.getElem_mem hlt2); omega
              have HR := Lib.hid hns
              clear hns
              go_wp2
              go_ret
              exact ⟨by rw [checkS_rng HN.out HS.out HR.out]; rfl, t2, rfl⟩
            · by_cases h1 : 1099511627776 < D[j]
              · have hns : ¬ InR D := fun hh => by have := hh D[j] (List.getElem_mem hlt2); omega
                have HR := Lib.hid hns
                clear hns
                go_wp2
                go_ret
                exact ⟨by rw [checkS_rng HN.out HS.out HR.out]; rfl, t2, rfl⟩
              · go_wp2
                go_roundg (D.length - (j + 1))
                case measure => omega
                case rel => exact ⟨j + 1, by simp, by omega, rfl, fun j' hl hj' => by
                  rcases Nat.lt_or_ge j' j with h | h
                  · exact HOJ.out j' hl h
                  · obtain rfl : j' = j := by omega
                    exact ⟨by omega, by omega⟩, t2, rfl⟩
          · have hin : InR D := fun x hx => by
              obtain ⟨j', hl, rfl⟩ := List.mem_iff_getElem.1 hx
              exact HOJ.out j' hl (by omega)
            have hjI : ¬ (j : Int) < (i : Int) * i := by have := HE0.out; omega
            have HI := Lib.hid hin
            clear hin
            go_wp2
            go_ret
            exact ⟨by rw [checkS_ok HN.out HS.out HI.out]; rfl, t2, rfl⟩
end Go.Proofs.Ytmkggcmebeagaaa
