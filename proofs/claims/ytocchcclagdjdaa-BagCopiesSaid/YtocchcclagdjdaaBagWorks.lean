/- works, same. -/
import Derived.Test.YtocchcclagdjdaaBagLaw
namespace Go.Proofs.Ytocchcclagdjdaa
open Go.RowKit Pl

theorem kthIs_some {L : Items} {k : Int} {e : Ending} (h : KthIs L k e) {x : Int} (hk : 0 ≤ k) (hx : kth L k = some x) (ht : k < tot L) : e = .returned (.tuple #[.int .i64 x, .bool true]) := by
  rcases h with ⟨h, _⟩ | ⟨y, _, _, hy, rfl⟩
  · omega
  · rw [hx] at hy; cases hy; rfl

set_option maxHeartbeats 400000 in
theorem works_any (w : World) : Calls Try.prog 10 #[] w fun e w' => e = .returned (.bool true) ∧ Upd (fun _ => False) w w' := by
  have i1 : put [] 5 (cnt [] 5 + 2) = [(5, 2)] := by decide
  have i2 : put [(5, 2)] (-3) (cnt [(5, 2)] (-3) + 1) = [(-3, 1), (5, 2)] := by decide
  have t0 : tot [] + 2 ≤ 2147483647 := by simp only [tot]; omega
  have t1 : tot [(5, 2)] + 1 ≤ 2147483647 := by simp only [tot]; omega
  have k1 : kth [(-3, 1), (5, 2)] 2 = some 5 := by decide
  have k2 : tot [(-3, 1), (5, 2)] = 3 := by decide
  have s1 : sumOf [(-3, 1), (5, 2)] = 7 := by decide
  have s2 : sqOf [(-3, 1), (5, 2)] = 59 := by decide
  have s3 : In64 [(-3, 1), (5, 2)] := by intro q hq; simp at hq; rcases hq with rfl | rfl <;> simp
  have s4 : Roots [(-3, 1), (5, 2)] := by intro q hq; simp at hq; rcases hq with rfl | rfl <;> simp
  have r1 : rnk [(-3, 1), (5, 2)] 6 = 3 := by decide
  have r2 : cnt [(-3, 1), (5, 2)] 5 = 2 := by decide
  have r3 : (List.length [((-3 : Int), (1 : Int)), (5, 2)] : Int) = 2 := by decide
  obtain ⟨L2, hL2⟩ : ∃ L2 : Items, [(-3, 1), (5, 2)] = L2 := ⟨_, rfl⟩
  obtain ⟨L1, hL1⟩ : ∃ L1 : Items, [(5, 2)] = L1 := ⟨_, rfl⟩
  rw [hL2] at i2 k1 k2 s1 s2 s3 s4 r1 r2 r3
  rw [hL1] at i1 t1 i2
  have I1 := Lib.hid i1
  have I2 := Lib.hid i2
  have T0 := Lib.hid t0
  have T1 := Lib.hid t1
  have K1 := Lib.hid k1
  have K2 := Lib.hid k2
  have S3 := Lib.hid s3
  have S4 := Lib.hid s4
  have R2 := Lib.hid r2
  clear i1 i2 hL1 hL2 t0 t1 k1 s3 s4
  go_enter Try.func10, Try.ntmps10
  go_wp2_with fail
  refine (new_any w).mono ?_
  rintro e w0 ⟨p, rfl, hb0, hu0, hp0⟩
  have HU0 := Lib.hid hu0
  have HP0 := Lib.hid hp0
  clear hu0 hp0
  go_wp2_with fail
  refine (add_any hb0 5 2 (by decide) T0.out).mono ?_
  rintro e w1 ⟨rfl, f1, hu1, hb1, hf1⟩
  rw [I1.out] at hb1
  have HU1 := Lib.hid hu1
  have HF1 := Lib.hid hf1
  clear hu1 hf1
  go_wp2_with fail
  refine (add_any hb1 (-3) 1 (by decide) T1.out).mono ?_
  rintro e w2 ⟨rfl, f2, hu2, hb2, hf2⟩
  rw [I2.out] at hb2
  have HU2 := Lib.hid hu2
  have HF2 := Lib.hid hf2
  clear hu2 hf2
  go_wp2_with fail
  refine (kth_any hb2 2 (by decide) (by decide)).mono ?_
  rintro e w3 ⟨hk, n3, rfl⟩
  obtain rfl := kthIs_some hk (by decide) K1.out (by omega)
  clear hk
  have hb3 := hb2.drewN n3
  go_wp2_with fail
  refine (sum_any hb3 S3.out (by omega) (by omega)).mono ?_
  rw [s1]
  rintro e w4 ⟨rfl, hu4⟩
  have hb4 := hb3.upd hu4 (fun _ _ h => h)
  have HU4 := Lib.hid hu4
  clear hu4
  go_wp2_with fail
  refine (squares_any hb4 S4.out (by omega) (by omega)).mono ?_
  rw [s2]
  rintro e w5 ⟨rfl, hu5⟩
  have hb5 := hb4.upd hu5 (fun _ _ h => h)
  have HU5 := Lib.hid hu5
  clear hu5
  go_wp2_with fail
  refine (brank_any hb5 6).mono ?_
  rw [r1]
  rintro e w6 ⟨rfl, n6, rfl⟩
  have hb6 := hb5.drewN n6
  go_wp2_with fail
  refine (remove_none hb6 5 3 (by decide) (by omega)).mono ?_
  rintro e w7 ⟨rfl, hu7⟩
  have hb7 := hb6.upd hu7 (fun _ _ h => h)
  have HU7 := Lib.hid hu7
  clear hu7
  go_wp2_with fail
  refine (size_any hb7).mono ?_
  rw [k2]
  rintro e w8 ⟨rfl, n8, rfl⟩
  have hb8 := hb7.drewN n8
  go_wp2_with fail
  refine (distinct_any hb8).mono ?_
  rw [r3]
  rintro e w9 ⟨rfl, n9, rfl⟩
  go_wp2_with fail
  go_ret
  refine ⟨rfl, ?_⟩
  have hp0 := HP0.out
  have u2 : Upd (fun _ => False) w w1 := HU0.out.then HU1.out (fun i hi h => by rw [List.mem_singleton.1 h] at hi; omega)
  have u3 : Upd (fun _ => False) w w2 := u2.then HU2.out (fun i hi h => by
    have hs := HU0.out.size
    rcases HF1.out i h with h | h
    · rw [List.mem_singleton.1 h] at hi; omega
    · omega)
  exact ((((u3.drewN _).trans HU4.out).trans HU5.out).drewN _ |>.trans HU7.out).drewN _

theorem take_oneI {l : Items} {j : Nat} (h : j < l.length) : l.take (j + 1) = l.take j ++ [l[j]] := (List.take_append_getElem h).symm

/-- a list of items in memory, that a slice shows -/
structure Shows (w : World) (a : Option Addr) (L : Items) : Prop where
  cell : ∀ i (h : i < L.length), ∃ x, a = some x ∧ w.cell? (x.add (i * 2)) = some (.int .i64 L[i].1) ∧ w.cell? ⟨(x.add (i * 2)).block, (x.add (i * 2)).off + 1, none⟩ = some (.int .i64 L[i].2)
theorem Shows.upd {w w' : World} {a : Option Addr} {L : Items} (h : Shows w a L) (hu : Upd (fun _ => False) w w') : Shows w' a L :=
  ⟨fun i hi => by
    obtain ⟨x, hx, hc, hd⟩ := h.cell i hi
    exact ⟨x, hx, (World.cell?_of_block (hu.block _ (World.block_lt_of_cell? w _ hc) (fun h => h))).trans hc, (World.cell?_of_block (hu.block _ (World.block_lt_of_cell? w _ hd) (fun h => h))).trans hd⟩⟩

set_option maxHeartbeats 1000000 in
theorem same_any {w : World} {a b : Option Addr} {A B : Items} (hA : Shows w a A) (hB : Shows w b B) (ca cb : Nat) (hlen : A.length ≤ 1000000) :
    Calls Try.prog 17 #[.slice a A.length ca, .slice b B.length cb] w fun e w' => e = .returned (.bool (decide (A = B))) ∧ ∃ n, w.drewN n = w' := by
  by_cases hl : A.length = B.length
  · have HL := Lib.hid hl
    rw [← hl]
    clear hl
    go_enter Try.func17, Try.ntmps17
    go_wp2
    go_loopg [5] A.length (fun k v wr => ∃ j : Nat, v = .int .i64 j ∧ A.take j = B.take j ∧ j ≤ A.length ∧ k = A.length - j ∧ ∃ n, w.drewN n = wr)
    case atStart => exact ⟨0, rfl, rfl, Nat.zero_le _, by omega, 0, rfl⟩
    case round =>
      obtain ⟨j, rfl, ht, hj, hk, n, rfl⟩ := hrel
      by_cases hlt : j < A.length
      · have hltB : j < B.length := by have := HL.out; omega
        obtain ⟨x, rfl, hx, hx2⟩ := hA.cell j hlt
        obtain ⟨y, rfl, hy, hy2⟩ := hB.cell j hltB
        have HT := Lib.hid ht
        clear ht
        go_wp2_with fail
        refine wp_region_seq ([]) (17) (by kernel_rfl) (by kernel_rfl) (by kernel_rfl) ?_
        iterate 8 (refine sqB_step (fun K hK => ?_); go_simp; refine hK _ _ ?_; clear hK K)
        by_cases e1 : A[j].1 = B[j].1
        · by_cases e2 : A[j].2 = B[j].2
          · have hq : A[j] = B[j] := Prod.ext e1 e2
            have HQ := Lib.hid hq
            clear hq
            iterate 1 (refine sqB_step (fun K hK => ?_); go_simp; refine hK _ _ ?_; clear hK K)
            refine sqB_nil ?_
            go_wp2_with fail
            go_roundg (A.length - (j + 1))
            case measure => omega
            case rel => exact ⟨j + 1, by simp, by rw [take_oneI hlt, take_oneI hltB, HT.out, HQ.out], by omega, rfl, n + 1, rfl⟩
          · have hne : decide (A = B) = false := by
              rw [decide_eq_false_iff_not]; intro h; subst h; exact e2 rfl
            have HN := Lib.hid hne
            clear hne
            iterate 1 (refine sqB_step (fun K hK => ?_); go_simp; refine hK _ _ ?_; clear hK K)
            refine sqB_nil ?_
            go_wp2_with fail
            go_ret
            exact ⟨by rw [HN.out]; rfl, n + 1, rfl⟩
        · have hne : decide (A = B) = false := by
            rw [decide_eq_false_iff_not]; intro h; subst h; exact e1 rfl
          have HN := Lib.hid hne
          clear hne
          iterate 1 (refine sqB_step (fun K hK => ?_); go_simp; refine hK _ _ ?_; clear hK K)
          refine sqB_nil ?_
          go_wp2_with fail
          go_ret
          exact ⟨by rw [HN.out]; rfl, n + 1, rfl⟩
      · obtain rfl : j = A.length := by omega
        have hAB : A = B := by
          rw [List.take_length, HL.out, List.take_length] at ht
          exact ht
        go_wp2
        go_ret
        exact ⟨by simp [hAB], n, rfl⟩
  · have hli : ¬ (A.length : Int) = B.length := by omega
    have hne : decide (A = B) = false := by
      rw [decide_eq_false_iff_not]; intro h; exact hl (by rw [h])
    rw [hne]
    go_enter Try.func17, Try.ntmps17
    go_wp2
    go_ret
    exact ⟨rfl, 0, rfl⟩
end Go.Proofs.Ytocchcclagdjdaa
