/- The law BagSmall. -/
import Derived.Test.YtocchcclagdjdaaBagShow
namespace Go.Proofs.Ytocchcclagdjdaa
open Go.RowKit Pl

theorem sumOf_put {l : Items} (h : Srt l) (x n : Int) (hn : 0 ≤ n) : sumOf (put l x n) = sumOf l + x * (n - cnt l x) := by
  induction l with
  | nil =>
    simp only [put, cnt, sumOf]
    split
    · simp only [sumOf, Int.sub_zero]; omega
    · obtain rfl : n = 0 := by omega
      simp [sumOf]
  | cons q l ih =>
    obtain ⟨y, m⟩ := q
    obtain ⟨h1, h2⟩ := h
    simp only [put]
    split
    · rename_i hx
      have h0 : cnt ((y, m) :: l) x = 0 := cnt_absent fun r hr => by
        rcases List.mem_cons.1 hr with rfl | hr
        · simp only; omega
        · have := h1 r hr; simp only at this; omega
      rw [h0, Int.sub_zero]
      split
      · simp only [sumOf]; omega
      · obtain rfl : n = 0 := by omega
        simp only [sumOf]; omega
    · split
      · rename_i e
        subst e
        have e2 : cnt ((y, m) :: l) y = m := by simp only [cnt, if_true]
        rw [e2, Int.mul_sub]
        split
        · simp only [sumOf]; omega
        · obtain rfl : n = 0 := by omega
          simp only [sumOf]; omega
      · rename_i e
        have e2 : cnt ((y, m) :: l) x = cnt l x := by simp only [cnt]; rw [if_neg e]
        rw [e2]
        simp only [sumOf]
        rw [ih h2]; omega
theorem sqOf_put {l : Items} (h : Srt l) (x n : Int) (hn : 0 ≤ n) : sqOf (put l x n) = sqOf l + x * x * (n - cnt l x) := by
  induction l with
  | nil =>
    simp only [put, cnt, sqOf]
    split
    · simp only [sqOf, Int.sub_zero]; omega
    · obtain rfl : n = 0 := by omega
      simp [sqOf]
  | cons q l ih =>
    obtain ⟨y, m⟩ := q
    obtain ⟨h1, h2⟩ := h
    simp only [put]
    split
    · rename_i hx
      have h0 : cnt ((y, m) :: l) x = 0 := cnt_absent fun r hr => by
        rcases List.mem_cons.1 hr with rfl | hr
        · simp only; omega
        · have := h1 r hr; simp only at this; omega
      rw [h0, Int.sub_zero]
      split
      · simp only [sqOf]; omega
      · obtain rfl : n = 0 := by omega
        simp only [sqOf]; omega
    · split
      · rename_i e
        subst e
        have e2 : cnt ((y, m) :: l) y = m := by simp only [cnt, if_true]
        rw [e2, Int.mul_sub]
        split
        · simp only [sqOf]; omega
        · obtain rfl : n = 0 := by omega
          simp only [sqOf]; omega
      · rename_i e
        have e2 : cnt ((y, m) :: l) x = cnt l x := by simp only [cnt]; rw [if_neg e]
        rw [e2]
        simp only [sqOf]
        rw [ih h2]; omega

/-- a bag to which j small numbers were added, each twice -/
structure Small (L : Items) (j : Nat) (s q : Int) : Prop where
  srt : Srt L
  pos : Pos L
  tot : tot L = 2 * j
  sum : sumOf L = s
  sq : sqOf L = q
  key : ∀ r ∈ L, -1048576 < r.1 ∧ r.1 < 1048576
  s1 : -(2097152 * (j : Int)) ≤ s
  s2 : s ≤ 2097152 * (j : Int)
  q1 : 0 ≤ q
  q2 : q ≤ 2199023255552 * (j : Int)
theorem Small.nil : Small [] 0 0 0 := ⟨trivial, fun _ h => (by cases h), rfl, rfl, rfl, fun _ h => (by cases h), by decide, by decide, by decide, by decide⟩
theorem small_sq {y : Int} (h : -1048576 < y) (h2 : y < 1048576) : 0 ≤ y * y ∧ y * y ≤ 1099511627776 := by
  obtain ⟨n, hn⟩ : ∃ n : Nat, y.natAbs = n := ⟨_, rfl⟩
  have e : y * y = ((n * n : Nat) : Int) := by rw [← hn]; exact Int.natAbs_mul_self.symm
  have hb : n ≤ 1048576 := by omega
  have := Nat.mul_le_mul hb hb
  rw [e]; omega
theorem Small.more {L : Items} {j : Nat} {s q y : Int} (h : Small L j s q) (h1 : -1048576 < y) (h2 : y < 1048576) : Small (put L y (cnt L y + 2)) (j + 1) (s + 2 * y) (q + 2 * (y * y)) := by
  obtain ⟨a, b⟩ := small_sq h1 h2
  obtain ⟨h1s, h2s, h3s, h4s, h5s, h6s, h7s, h8s, h9s, h10s⟩ := h
  have hc := cnt_nonneg h2s y
  refine ⟨put_srt h1s _ _, put_pos h2s _ _, ?_, ?_, ?_, fun r hr => ?_, by omega, by omega, by omega, by omega⟩
  · rw [tot_put h1s _ _ (by omega)]; omega
  · rw [sumOf_put h1s _ _ (by omega), h4s, show cnt L y + 2 - cnt L y = 2 by omega]; omega
  · rw [sqOf_put h1s _ _ (by omega), h5s, show cnt L y + 2 - cnt L y = 2 by omega]; omega
  · rcases mem_put hr with ⟨rfl, _⟩ | hr
    · exact ⟨h1, h2⟩
    · exact h6s r hr

theorem tmod_bd (a : Int) : -1048576 < Int.tmod a 1048576 ∧ Int.tmod a 1048576 < 1048576 := by
  rcases a with m | m
  · have : Int.tmod (Int.ofNat m) 1048576 = ((m % 1048576 : Nat) : Int) := rfl
    rw [this]; omega
  · have : Int.tmod (Int.negSucc m) 1048576 = -(((m + 1) % 1048576 : Nat) : Int) := rfl
    rw [this]; omega

set_option maxHeartbeats 2000000 in
theorem small_law {w : World} {a : Option Addr} {l : List Int} (h : Ints w a l) (cap : Nat) :
    Calls Try.prog 6 #[.slice a l.length cap] w fun e w' => e = .returned (.bool true) ∧ Upd (fun _ => False) w w' := by
  by_cases hlen : 300 < l.length
  · go_enter Try.func6, Try.ntmps6
    go_wp2_with (go_at_call 10; refine (works_any w).mono ?_; rintro e w' ⟨rfl, hu⟩)
    go_ret
    exact ⟨rfl, hu⟩
  · have hlen' : l.length ≤ 300 := by omega
    have HI := Lib.hid h
    clear h
    go_enter Try.func6, Try.ntmps6
    go_wp2_with (go_at_call 22; refine (new_any w).mono ?_; rintro e w' ⟨p, rfl, hb0, hu0, hp0⟩)
    go_loopg [4, 5, 6, 7] l.length (fun k s q v x wr => ∃ (j : Nat) (fp : List Nat) (L : Items) (S Q : Int), v = .int .i64 j ∧ s = .int .i64 S ∧ q = .int .i64 Q ∧ Bag wr p L fp ∧ Small L j S Q ∧ (∀ b ∈ fp, w.heap.size ≤ b) ∧ Upd (fun _ => False) w wr ∧ j ≤ l.length ∧ k = l.length - j)
    case atStart => exact ⟨0, [p], [], 0, 0, rfl, rfl, rfl, hb0, Small.nil, by simpa using hp0, hu0, Nat.zero_le _, by omega⟩
    case round =>
      obtain ⟨j, fp, L, S, Q, rfl, rfl, rfl, hb, hS, hfp, hu, hj, hk⟩ := hrel
      have hw := HI.out.upd hu
      by_cases hlt : j < l.length
      · obtain ⟨x', rfl, hcell⟩ := hw.cell j hlt
        go_wp2_with fail
        obtain ⟨y, hy⟩ : ∃ y, Int.tmod l[j] 1048576 = y := ⟨_, rfl⟩
        have y1 : -1048576 < y := hy ▸ (tmod_bd l[j]).1
        have y2 : y < 1048576 := hy ▸ (tmod_bd l[j]).2
        simp only [hy]
        clear hy hcell
        have hmore := hS.more y1 y2
        have htot := hS.tot
        obtain ⟨z1, z2⟩ := small_sq y1 y2
        obtain ⟨_, _, _, _, _, _, s1, s2, q1, q2⟩ := hS
        obtain ⟨z, hz⟩ : ∃ z, y * y = z := ⟨_, rfl⟩
        have e1 : wrap64 (2 * y) = 2 * y := wrap64_in _ (by omega) (by omega)
        have e0 : 2 * y * y = 2 * z := by rw [Int.mul_assoc, hz]
        rw [hz] at z1 z2 hmore
        have e2 : wrap64 (2 * z) = 2 * z := wrap64_in _ (by omega) (by omega)
        have e3 : wrap64 (S + 2 * y) = S + 2 * y := wrap64_in _ (by omega) (by omega)
        have e4 : wrap64 (Q + 2 * z) = Q + 2 * z := wrap64_in _ (by omega) (by omega)
        refine (add_any hb y 2 (by omega) (by omega)).mono ?_
        rintro e w2 ⟨rfl, f2, hu2, hb2, hf2⟩
        have HH := Lib.hid (And.intro hfp (And.intro hu (And.intro hu2 (And.intro hf2 (And.intro hmore (And.intro hk hlt))))))
        clear hfp hu hu2 hf2 hmore hk s1 s2 q1 q2 z1 z2 y1 y2 htot hb hz
        go_wp2_with fail
        obtain ⟨hfp, hu, hu2, hf2, hmore, hk, hlt⟩ := HH.out
        go_roundg (l.length - (j + 1))
        case measure => omega
        case rel => exact ⟨j + 1, f2, _, _, _, by simp, rfl, rfl, hb2, (by rw [e3, e4]; exact hmore), fun b hb => (hf2 b hb).elim (hfp b) (fun h => Nat.le_trans hu.size h), hu.then hu2 (fun i hi h => by have := hfp i h; omega), by omega, rfl⟩
      · have h64 : In64 L := fun r hr => by have := hS.key r hr; omega
        have hro : Roots L := fun r hr => by have := hS.key r hr; omega
        have b1 : -9223372036854775808 ≤ sumOf L := by have := hS.sum; have := hS.s1; omega
        have b2 : sumOf L < 9223372036854775808 := by have := hS.sum; have := hS.s2; omega
        have b3 : -9223372036854775808 ≤ sqOf L := by have := hS.sq; have := hS.q1; omega
        have b4 : sqOf L < 9223372036854775808 := by have := hS.sq; have := hS.q2; omega
        have hsum := sum_any hb h64 b1 b2
        have es := hS.sum
        have eq := hS.sq
        rw [es] at hsum
        clear hS
        have EQ := Lib.hid eq
        clear es eq
        go_wp2_with fail
        refine hsum.mono ?_
        rintro e w2 ⟨rfl, hu2⟩
        have hb2 := hb.upd hu2 (fun _ _ h => h)
        clear hsum
        go_wp2_with fail
        refine (squares_any hb2 hro b3 b4).mono ?_
        rw [EQ.out]
        rintro e w3 ⟨rfl, hu3⟩
        go_wp2_with fail
        refine (works_any _).mono ?_
        rintro e w4 ⟨rfl, hu4⟩
        go_wp2_with fail
        go_ret
        exact ⟨rfl, ((hu.trans hu2).trans hu3).trans hu4⟩
end Go.Proofs.Ytocchcclagdjdaa
