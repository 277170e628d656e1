/- Lists that are compared: equal, alike, same. -/
import Derived.Test.YtmkggcmebeagaaaLkMark
namespace Go.Proofs.Ytmkggcmebeagaaa
set_option linter.unusedVariables false
set_option linter.unusedSimpArgs false
open Go.RowKit Lk

theorem takeOne {α : Type} {l : List α} {j : Nat} (h : j < l.length) : l.take (j + 1) = l.take j ++ [l[j]] := (List.take_append_getElem h).symm

set_option maxHeartbeats 1000000 in
theorem equal23_any {w : World} {a b : Option Addr} {A B : List Int} (hA : IntsK .i64 w a A) (hB : IntsK .i64 w b B) (ca cb : Nat) :
    Calls Try.prog 11 #[.slice a A.length ca, .slice b B.length cb] w fun e w' => e = .returned (.bool (decide (A = B))) ∧ ∃ n, w.drewN n = w' := by
  have hla := hA.len
  have hlb := hB.len
  by_cases hl : A.length = B.length
  · have HL := Lib.hid hl
    rw [← hl]
    clear hl
    go_enter Try.func11, Try.ntmps11
    go_wp2
    go_loopg [5] A.length (fun k v wr => ∃ j : Nat, v = .int .i64 j ∧ A.take j = B.take j ∧ j ≤ A.length ∧ k = A.length - j ∧ ∃ n, w.drewN n = wr)
    case atStart => exact ⟨0, rfl, rfl, Nat.zero_le _, by omega, 0, rfl⟩
    case round =>
      obtain ⟨j, rfl, ht, hj, hk, n, rfl⟩ := hrel
      by_cases hlt : j < A.length
      · have hltB : j < B.length := by have := HL.out; omega
        obtain ⟨x, rfl, hx⟩ := hA.cell j hlt
        obtain ⟨y, rfl, hy⟩ := hB.cell j hltB
        have HT := Lib.hid ht
        clear ht
        by_cases e1 : A[j] = B[j]
        · have hb : (A[j] != B[j]) = false := by simp [e1]
          have HQ := Lib.hid e1
          clear e1
          go_wp2_with fail
          go_quiet (fail)
          go_wp2_with fail
          go_roundg (A.length - (j + 1))
          case measure => omega
          case rel => exact ⟨j + 1, by simp, by rw [takeOne hlt, takeOne hltB, HT.out, HQ.out], by omega, rfl, _, rfl⟩
        · have hb : (A[j] != B[j]) = true := by simp [e1]
          have hne : decide (A = B) = false := by
            rw [decide_eq_false_iff_not]; intro h; subst h; exact e1 rfl
          have HN := Lib.hid hne
          clear hne e1
          go_wp2_with fail
          go_quiet (fail)
          go_wp2_with fail
          go_ret
          exact ⟨by rw [HN.out]; rfl, _, (World.drewN_drewN _ _ _).symm⟩
      · obtain rfl : j = A.length := by omega
        have hAB : A = B := by
          rw [List.take_length, HL.out, List.take_length] at ht
          exact ht
        have HAB := Lib.hid (show decide (A = B) = true by simp [hAB])
        clear hAB ht
        go_wp2
        go_ret
        exact ⟨by rw [HAB.out]; rfl, n, rfl⟩
  · have hli : ((A.length : Int) != B.length) = true := by simp; omega
    have hne : decide (A = B) = false := by
      rw [decide_eq_false_iff_not]; intro h; exact hl (by rw [h])
    rw [hne]
    clear hne hl
    go_enter Try.func11, Try.ntmps11
    go_wp2
    go_ret
    exact ⟨rfl, 0, rfl⟩
set_option maxHeartbeats 1000000 in
theorem alike23_any {w : World} {a b : Option Addr} {A B : List Int} (hA : IntsK .i64 w a A) (hB : IntsK .i64 w b B) (ca cb : Nat) :
    Calls Try.prog 17 #[.slice a A.length ca, .slice b B.length cb] w fun e w' => e = .returned (.bool (decide (A = B))) ∧ ∃ n, w.drewN n = w' := by
  have hla := hA.len
  have hlb := hB.len
  by_cases hl : A.length = B.length
  · have HL := Lib.hid hl
    rw [← hl]
    clear hl
    go_enter Try.func17, Try.ntmps17
    go_wp2
    go_loopg [5] A.length (fun k v wr => ∃ j : Nat, v = .int .i64 j ∧ A.take j = B.take j ∧ j ≤ A.length ∧ k = A.length - j ∧ ∃ n, w.drewN n = wr)
    case atStart => exact ⟨0, rfl, rfl, Nat.zero_le _, by omega, 0, rfl⟩
    case round =>
      obtain ⟨j, rfl, ht, hj, hk, n, rfl⟩ := hrel
      by_cases hlt : j < A.length
      · have hltB : j < B.length := by have := HL.out; omega
        obtain ⟨x, rfl, hx⟩ := hA.cell j hlt
        obtain ⟨y, rfl, hy⟩ := hB.cell j hltB
        have HT := Lib.hid ht
        clear ht
        by_cases e1 : A[j] = B[j]
        · have hb : (A[j] != B[j]) = false := by simp [e1]
          have HQ := Lib.hid e1
          clear e1
          go_wp2_with fail
          go_quiet (fail)
          go_wp2_with fail
          go_roundg (A.length - (j + 1))
          case measure => omega
          case rel => exact ⟨j + 1, by simp, by rw [takeOne hlt, takeOne hltB, HT.out, HQ.out], by omega, rfl, _, rfl⟩
        · have hb : (A[j] != B[j]) = true := by simp [e1]
          have hne : decide (A = B) = false := by
            rw [decide_eq_false_iff_not]; intro h; subst h; exact e1 rfl
          have HN := Lib.hid hne
          clear hne e1
          go_wp2_with fail
          go_quiet (fail)
          go_wp2_with fail
          go_ret
          exact ⟨by rw [HN.out]; rfl, _, (World.drewN_drewN _ _ _).symm⟩
      · obtain rfl : j = A.length := by omega
        have hAB : A = B := by
          rw [List.take_length, HL.out, List.take_length] at ht
          exact ht
        have HAB := Lib.hid (show decide (A = B) = true by simp [hAB])
        clear hAB ht
        go_wp2
        go_ret
        exact ⟨by rw [HAB.out]; rfl, n, rfl⟩
  · have hli : ((A.length : Int) != B.length) = true := by simp; omega
    have hne : decide (A = B) = false := by
      rw [decide_eq_false_iff_not]; intro h; exact hl (by rw [h])
    rw [hne]
    clear hne hl
    go_enter Try.func17, Try.ntmps17
    go_wp2
    go_ret
    exact ⟨rfl, 0, rfl⟩

/-- merges in memory, that a slice shows -/
structure Mgs (w : World) (a : Option Addr) (L : List Mg) : Prop where
  cell : ∀ i (h : i < L.length) (j : Nat) (u : Value), (cellsM L[i])[j]? = some u → ∃ x, a = some x ∧ w.cell? (x.add (i * 5 + j)) = some u
  len : L.length ≤ 1000000
theorem Mgs.updS {w w' : World} {a : Option Addr} {L : List Mg} (h : Mgs w a L) {S : Nat → Prop} (hu : Upd S w w') (hS : ∀ x, a = some x → 0 < L.length → ¬ S x.block) : Mgs w' a L :=
  ⟨fun i hi j u hj => by
    obtain ⟨x, hx, hc⟩ := h.cell i hi j u hj
    exact ⟨x, hx, (World.cell?_of_block (hu.block _ (World.block_lt_of_cell? w _ hc) (by rw [addBlk]; exact hS x hx (by omega)))).trans hc⟩, h.len⟩
theorem Mgs.upd {w w' : World} {a : Option Addr} {L : List Mg} (h : Mgs w a L) (hu : Upd (fun _ => False) w w') : Mgs w' a L := h.updS hu fun _ _ _ h => h
theorem flatM_get : ∀ {L : List Mg} {i : Nat} (h : i < L.length) (j : Nat) (u : Value), (cellsM L[i])[j]? = some u → (flatM L)[i * 5 + j]? = some u
  | [], _, h, _, _, _ => by cases h
  | q :: L, 0, _, j, u, hj => by
    show (cellsM q ++ flatM L)[0 * 5 + j]? = some u
    have hl : j < (cellsM q).length := (List.getElem?_eq_some_iff.1 hj).1
    rw [Nat.zero_mul, Nat.zero_add, List.getElem?_append_left hl]; exact hj
  | q :: L, i + 1, h, j, u, hj => by
    have h' : i < L.length := by simpa using h
    have ih := flatM_get h' j u hj
    show (cellsM q ++ flatM L)[(i + 1) * 5 + j]? = some u
    rw [List.getElem?_append_right (by show 5 ≤ _; omega)]
    rw [show (i + 1) * 5 + j - (cellsM q).length = i * 5 + j by show (i + 1) * 5 + j - 5 = _; omega]
    exact ih
theorem Mgs.of_own {w : World} {n₀ : Nat} {v : Value} {L : List Mg} (h : w.ownsRow n₀ 49 5 v L.length (flatM L)) (hl : L.length ≤ 1000000) : ∃ a cap, v = .slice a L.length cap ∧ Mgs w a L ∧ ∀ x, a = some x → n₀ ≤ x.block := by
  obtain ⟨_, ⟨rfl, h0⟩ | ⟨g, cap, cur, rfl, hgb, hg, _, _, _, ht⟩⟩ := h
  · exact ⟨none, 0, by rw [h0], ⟨fun i hi => by omega, hl⟩, fun x hx => by cases hx⟩
  · refine ⟨_, cap, rfl, ⟨fun i hi j u hj => ⟨_, rfl, ?_⟩, hl⟩, fun x hx => by cases hx; exact hgb⟩
    have hj5 : j < 5 := (List.getElem?_eq_some_iff.1 hj).1
    have h1 := flatM_get hi j u hj
    rw [← ht, List.getElem?_take, if_pos (by omega)] at h1
    rw [addAt, cell_of hg]
    simpa using h1
/-- the cells of the merge at a place -/
theorem Mgs.at5 {w : World} {a : Option Addr} {L : List Mg} (h : Mgs w a L) {i : Nat} (hi : i < L.length) : ∃ x, a = some x ∧ w.cell? (x.add (i * 5)) = some (.int .i64 L[i].a) ∧ w.cell? ⟨(x.add (i * 5)).block, (x.add (i * 5)).off + 1, none⟩ = some (.int .i64 L[i].b) ∧
    w.cell? ⟨(x.add (i * 5)).block, (x.add (i * 5)).off + 2, none⟩ = some (.int .i64 L[i].f.1) ∧ w.cell? ⟨(x.add (i * 5)).block, (x.add (i * 5)).off + 3, none⟩ = some (.int .i64 L[i].f.2) ∧ w.cell? ⟨(x.add (i * 5)).block, (x.add (i * 5)).off + 4, none⟩ = some (.int .i64 L[i].size) := by
  obtain ⟨x, rfl, h0⟩ := h.cell i hi 0 _ rfl
  have key : ∀ j, j + 1 < 5 → (⟨(x.add (i * 5)).block, (x.add (i * 5)).off + (j + 1), none⟩ : Addr) = x.add (i * 5 + (j + 1)) := fun j _ => by
    rw [← addAdd]; simp [Addr.add]
  obtain ⟨_, e, h1⟩ := h.cell i hi 1 _ rfl; cases e
  obtain ⟨_, e, h2⟩ := h.cell i hi 2 _ rfl; cases e
  obtain ⟨_, e, h3⟩ := h.cell i hi 3 _ rfl; cases e
  obtain ⟨_, e, h4⟩ := h.cell i hi 4 _ rfl; cases e
  refine ⟨x, rfl, h0, ?_, ?_, ?_, ?_⟩
  · rw [key 0 (by omega)]; exact h1
  · rw [key 1 (by omega)]; exact h2
  · rw [key 2 (by omega)]; exact h3
  · rw [key 3 (by omega)]; exact h4
end Go.Proofs.Ytmkggcmebeagaaa
