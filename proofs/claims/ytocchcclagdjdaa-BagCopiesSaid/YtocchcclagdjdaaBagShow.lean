/- What items hands back, read as a list of items. -/
import Derived.Test.YtocchcclagdjdaaBagWorks
namespace Go.Proofs.Ytocchcclagdjdaa
open Go.RowKit Pl

theorem flat_get : ∀ {L : Items} {i : Nat} (h : i < L.length), (flat L)[i * 2]? = some (.int .i64 L[i].1) ∧ (flat L)[i * 2 + 1]? = some (.int .i64 L[i].2)
  | [], _, h => by cases h
  | q :: L, 0, _ => ⟨rfl, rfl⟩
  | q :: L, i + 1, h => by
    have h' : i < L.length := by simpa using h
    obtain ⟨h1, h2⟩ := flat_get h'
    have e : flat (q :: L) = .int .i64 q.1 :: .int .i64 q.2 :: flat L := rfl
    have e1 : (i + 1) * 2 = i * 2 + 1 + 1 := by omega
    rw [e, e1]
    refine ⟨?_, ?_⟩
    · rw [List.getElem?_cons_succ, List.getElem?_cons_succ, h1]; rfl
    · rw [List.getElem?_cons_succ, List.getElem?_cons_succ, h2]; rfl

theorem add_at (g n : Nat) : (⟨g, 0, none⟩ : Addr).add n = ⟨g, n, none⟩ := by
  cases n with
  | zero => rfl
  | succ n => simp [Addr.add]

theorem OwnItems.shows {w : World} {n₀ : Nat} {v : Value} {L : Items} (h : OwnItems w n₀ v L) : ∃ a cap, v = .slice a L.length cap ∧ Shows w a L ∧ ∀ x, a = some x → n₀ ≤ x.block := by
  obtain ⟨_, ⟨rfl, h0⟩ | ⟨g, cap, cur, rfl, hgb, hg, _, _, _, ht⟩⟩ := h
  · exact ⟨none, 0, by rw [h0], ⟨fun i hi => by omega⟩, fun x hx => by cases hx⟩
  · refine ⟨_, cap, rfl, ⟨fun i hi => ⟨_, rfl, ?_, ?_⟩⟩, fun x hx => by cases hx; exact hgb⟩
    · obtain ⟨h1, _⟩ := flat_get hi
      rw [← ht, List.getElem?_take] at h1
      rw [if_pos (by omega)] at h1
      have e : (⟨g, 0, none⟩ : Addr).add (i * 2) = ⟨g, i * 2, none⟩ := add_at _ _
      rw [e, cell_of hg]
      simpa using h1
    · obtain ⟨_, h1⟩ := flat_get hi
      rw [← ht, List.getElem?_take] at h1
      rw [if_pos (by omega)] at h1
      have e : (⟨((⟨g, 0, none⟩ : Addr).add (i * 2)).block, ((⟨g, 0, none⟩ : Addr).add (i * 2)).off + 1, none⟩ : Addr) = ⟨g, i * 2 + 1, none⟩ := by rw [add_at]
      rw [e, cell_of hg]
      simpa using h1

/-- what items hands back -/
def Shown (w : World) (L : Items) (e : Ending) (w' : World) : Prop := ∃ a c, e = .returned (.slice a L.length c) ∧ Upd (fun _ => False) w w' ∧ Shows w' a L ∧ ∀ x, a = some x → w.heap.size ≤ x.block
theorem items_shown {w : World} {p : Nat} {L : Items} {fp : List Nat} (hb : Bag w p L fp) (most : Nat) (hL : L.length ≤ 1000000) :
    Calls Try.prog 16 #[.pointer (some ⟨p, 0, none⟩), .int .i64 most] w (Shown w (L.take most)) :=
  (items_any hb most hL).mono fun e w' ⟨v, he, hu, ho⟩ => by
    obtain ⟨a, c, rfl, hs, hx⟩ := ho.shows
    exact ⟨a, c, he, hu, hs, hx⟩
theorem items301 {w : World} {p : Nat} {L : Items} {fp : List Nat} (hb : Bag w p L fp) (hL : L.length ≤ 301) :
    Calls Try.prog 16 #[.pointer (some ⟨p, 0, none⟩), .int .i64 301] w (Shown w L) := by
  have h := items_shown hb 301 (by omega)
  rw [List.take_of_length_le hL] at h
  exact h
theorem add_block (x : Addr) (n : Nat) : (x.add n).block = x.block := by
  cases n <;> simp [Addr.add]
theorem Shows.updS {w w' : World} {a : Option Addr} {L : Items} (h : Shows w a L) {S : Nat → Prop} (hu : Upd S w w') (hS : ∀ x, a = some x → 0 < L.length → ¬ S x.block) : Shows w' a L :=
  ⟨fun i hi => by
    obtain ⟨x, hx, hc, hd⟩ := h.cell i hi
    have hn := hS x hx (by omega)
    refine ⟨x, hx, (World.cell?_of_block (hu.block _ (World.block_lt_of_cell? w _ hc) ?_)).trans hc, (World.cell?_of_block (hu.block _ (World.block_lt_of_cell? w _ hd) ?_)).trans hd⟩
    · rw [add_block]; exact hn
    · show ¬ S (x.add (i * 2)).block
      rw [add_block]; exact hn⟩
theorem Shows.lt {w : World} {a : Option Addr} {L : Items} (h : Shows w a L) (y : Addr) (hy : a = some y) (h0 : 0 < L.length) : y.block < w.heap.size := by
  obtain ⟨x, hx, hc, _⟩ := h.cell 0 h0
  rw [hx] at hy; cases hy
  have := World.block_lt_of_cell? w _ hc
  rwa [add_block] at this
theorem ms_length (l : List Int) : (ms l).length ≤ l.length := by
  have h := ms_ok l
  have h1 := len_le_tot h.pos
  rw [h.tot] at h1
  omega
theorem decide_refl (L : Items) : decide (L = L) = true := by simp
end Go.Proofs.Ytocchcclagdjdaa
