/- The functions of the laws on bags: count, filled, same, works. -/
import Derived.Test.YtocchcclagdjdaaBagSum
import Derived.Test.YtocchcclagdjdaaBagItems2
import Derived.Test.YtocchcclagdjdaaBagMs
namespace Go.Proofs.Ytocchcclagdjdaa
open Go.RowKit Pl

/-- a list of integers in memory, that a slice shows -/
structure Ints (w : World) (a : Option Addr) (l : List Int) : Prop where
  cell : ∀ i (h : i < l.length), ∃ x, a = some x ∧ w.cell? (x.add i) = some (.int .i64 l[i])
  len : l.length ≤ 9223372036854775807
  in64 : ∀ n ∈ l, -9223372036854775808 ≤ n ∧ n < 9223372036854775808
theorem Ints.upd {w w' : World} {a : Option Addr} {l : List Int} (h : Ints w a l) (hu : Upd (fun _ => False) w w') : Ints w' a l :=
  ⟨fun i hi => by
    obtain ⟨x, hx, hc⟩ := h.cell i hi
    exact ⟨x, hx, (World.cell?_of_block (hu.block _ (World.block_lt_of_cell? w _ hc) (fun h => h))).trans hc⟩, h.len, h.in64⟩

theorem val_eq {k : IntKind} {a b : Int} (h : a = b) : Value.int k a = .int k b := by rw [h]
theorem wrap64_in (n : Int) (h : -9223372036854775808 ≤ n) (h2 : n < 9223372036854775808) : wrap64 n = n := by unfold wrap64; omega
theorem take_one {l : List Int} {j : Nat} (h : j < l.length) : l.take (j + 1) = l.take j ++ [l[j]] := (List.take_append_getElem h).symm
theorem eqs_take {l : List Int} {j : Nat} (h : j < l.length) (x : Int) : eqs (l.take (j + 1)) x = eqs (l.take j) x + (if l[j] = x then 1 else 0) := by
  rw [take_one h, eqs_snoc]
theorem less_take {l : List Int} {j : Nat} (h : j < l.length) (x : Int) : less (l.take (j + 1)) x = less (l.take j) x + (if l[j] < x then 1 else 0) := by
  rw [take_one h, less_snoc]

set_option maxHeartbeats 1000000 in
theorem lcount_any {w : World} {a : Option Addr} {l : List Int} (h : Ints w a l) (cap : Nat) (x : Int) :
    Calls Try.prog 12 #[.slice a l.length cap, .int .i64 x] w fun e w' => e = .returned (.tuple #[.int .i64 (eqs l x), .int .i64 (less l x)]) ∧ w' = w := by
  obtain ⟨hc, hl, h64⟩ := h
  clear h64
  go_enter Try.func12, Try.ntmps12
  go_wp2
  go_loopg [4, 5, 6] l.length (fun k e s i wr => ∃ j : Nat, i = .int .i64 j ∧ e = .int .i64 (eqs (l.take j) x) ∧ s = .int .i64 (less (l.take j) x) ∧ j ≤ l.length ∧ k = l.length - j ∧ wr = w)
  case atStart => exact ⟨0, rfl, rfl, rfl, Nat.zero_le _, by omega, rfl⟩
  case round =>
    obtain ⟨j, rfl, rfl, rfl, hj, hk, rfl⟩ := hrel
    by_cases hlt : j < l.length
    · obtain ⟨x', rfl, hcell⟩ := hc j hlt
      have he := eqs_take hlt x
      have hs := less_take hlt x
      have he1 := eqs_le (l.take j) x
      have hs1 := less_le (l.take j) x
      have ht : (l.take j).length = j := by rw [List.length_take]; omega
      rw [ht] at he1 hs1
      have we : wrap64 ((eqs (l.take j) x : Int) + 1) = ((eqs (l.take j) x + 1 : Nat) : Int) := by rw [wrap64_in _ (by omega) (by omega)]; omega
      have ws : wrap64 ((less (l.take j) x : Int) + 1) = ((less (l.take j) x + 1 : Nat) : Int) := by rw [wrap64_in _ (by omega) (by omega)]; omega
      have HE := Lib.hid he
      have HS := Lib.hid hs
      clear he hs he1 hs1 ht
      by_cases h1 : l[j] = x
      · have h2 : ¬ l[j] < x := by omega
        go_wp2
        go_roundg (l.length - (j + 1))
        case measure => omega
        case rel => exact ⟨j + 1, by simp, val_eq (by have := HE.out; split at this <;> omega), val_eq (by have := HS.out; split at this <;> omega), by omega, rfl, rfl⟩
      · by_cases h2 : l[j] < x
        · go_wp2
          go_roundg (l.length - (j + 1))
          case measure => omega
          case rel => exact ⟨j + 1, by simp, val_eq (by have := HE.out; split at this <;> omega), val_eq (by have := HS.out; split at this <;> omega), by omega, rfl, rfl⟩
        · go_wp2
          go_roundg (l.length - (j + 1))
          case measure => omega
          case rel => exact ⟨j + 1, by simp, val_eq (by have := HE.out; split at this <;> omega), val_eq (by have := HS.out; split at this <;> omega), by omega, rfl, rfl⟩
    · obtain rfl : j = l.length := by omega
      rw [List.take_length]
      go_wp2
      go_ret2
      exact ⟨rfl, rfl⟩

/-- a bag was made: of the list's numbers -/
def Made (w : World) (l : List Int) (e : Ending) (w' : World) : Prop :=
  ∃ p fp, e = .returned (.pointer (some ⟨p, 0, none⟩)) ∧ Bag w' p (ms l) fp ∧ (∀ b ∈ fp, w.heap.size ≤ b) ∧ Upd (fun _ => False) w w'

set_option maxHeartbeats 1000000 in
theorem filled_any {w : World} {a : Option Addr} {l : List Int} (h : Ints w a l) (cap : Nat) (back : Bool) (hlen : l.length ≤ 300) :
    Calls Try.prog 11 #[.slice a l.length cap, .bool back] w (Made w l) := by
  obtain ⟨s, hs⟩ : ∃ s, (if back then l.reverse else l) = s := ⟨_, rfl⟩
  have hsl : s.length = l.length := by rw [← hs]; split <;> simp
  have hms : ms s = ms l := by rw [← hs]; split; exact ms_reverse l; rfl
  have HM := Lib.hid hms
  have HS := Lib.hid hs
  clear hms hs
  go_enter Try.func11, Try.ntmps11
  go_wp2_with (go_at_call 22; refine (new_any w).mono ?_; rintro e w' ⟨p, rfl, hb0, hu0, hp0⟩)
  go_loopg [6, 7] l.length (fun k v i wr => ∃ (j : Nat) (fp : List Nat), v = .int .i64 j ∧ Bag wr p (ms (s.take j)) fp ∧ (∀ b ∈ fp, w.heap.size ≤ b) ∧ Upd (fun _ => False) w wr ∧ j ≤ l.length ∧ k = l.length - j)
  case atStart => exact ⟨0, [p], rfl, hb0, by simpa using hp0, hu0, Nat.zero_le _, by omega⟩
  case round =>
    obtain ⟨j, fp, rfl, hb, hfp, hu, hj, hk⟩ := hrel
    have hw := h.upd hu
    clear h
    by_cases hlt : j < l.length
    · have hjs : j < s.length := by omega
      obtain ⟨i, hil, hsi, hbt, hbf⟩ : ∃ (i : Nat) (hi : i < l.length), s[j] = l[i] ∧ (back = true → (i : Int) = l.length - 1 - j) ∧ (back = false → i = j) := by
        have hs := HS.out
        subst hs
        cases back
        · exact ⟨j, hlt, rfl, fun h => (by cases h), fun _ => rfl⟩
        · refine ⟨l.length - 1 - j, by omega, ?_, fun _ => by omega, fun h => (by cases h)⟩
          simp only [if_true]
          exact List.getElem_reverse ..
      obtain ⟨x', rfl, hcell⟩ := hw.cell i hil
      have hms := ms_ok (s.take j)
      have htot : tot (ms (s.take j)) = j := by rw [hms.tot, List.length_take]; omega
      have hadd := add_any hb l[i] 1 (by omega) (by omega)
      have hnext : put (ms (s.take j)) l[i] (cnt (ms (s.take j)) l[i] + 1) = ms (s.take (j + 1)) := by rw [take_one hjs, ms_snoc, hsi]; rfl
      rw [hnext] at hadd
      have HH := Lib.hid (And.intro hfp (And.intro hu (And.intro hb (And.intro hk hlt))))
      clear hfp hu hb hms htot hnext hsi hk
      have e1 : wrap64 ((l.length : Int) - 1) = l.length - 1 := wrap64_in _ (by omega) (by omega)
      cases back
      · obtain rfl := hbf rfl
        clear hbt hbf
        go_wp2_with (go_at_call 19; refine hadd.mono ?_; rintro e w' ⟨rfl, fp', hu', hb', hf'⟩)
        obtain ⟨hfp, hu, hb, hk, hlt⟩ := HH.out
        go_roundg (l.length - (i + 1))
        case measure => omega
        case rel => exact ⟨i + 1, fp', by simp, hb', fun b hb => (hf' b hb).elim (hfp b) (fun h => Nat.le_trans hu.size h), hu.then hu' (fun i hi h => by have := hfp i h; omega), by omega, rfl⟩
      · have hi := hbt rfl
        clear hbt hbf
        obtain rfl : i = l.length - 1 - j := by omega
        clear hi
        go_wp2_with (go_at_call 19; refine hadd.mono ?_; rintro e w' ⟨rfl, fp', hu', hb', hf'⟩)
        obtain ⟨hfp, hu, hb, hk, hlt⟩ := HH.out
        go_roundg (l.length - (j + 1))
        case measure => omega
        case rel => exact ⟨j + 1, fp', by simp, hb', fun b hb => (hf' b hb).elim (hfp b) (fun h => Nat.le_trans hu.size h), hu.then hu' (fun i hi h => by have := hfp i h; omega), by omega, rfl⟩
    · obtain rfl : j = l.length := by omega
      rw [← hsl, List.take_length] at hb
      go_wp2
      go_ret
      exact ⟨p, fp, rfl, HM.out ▸ hb, hfp, hu⟩
end Go.Proofs.Ytocchcclagdjdaa
