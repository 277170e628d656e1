/- Between, walked. -/
import Derived.Test.YtmkggcmebeagaaaLkBet
namespace Go.Proofs.Ytmkggcmebeagaaa
set_option linter.unusedVariables false
set_option linter.unusedSimpArgs false
open Go.RowKit Lk

theorem bool_info : (Try.prog.info? 4).map (fun i => (i.zero, i.size, i.bytes)) = some (some (.bool false), 1, 1) := by kernel_rfl
theorem made_false (N : Nat) : (madeCells (Value.bool false).cells (N * 1)).toList = (List.replicate N false).map Value.bool := by
  rw [List.map_replicate]
  refine List.eq_replicate_iff.2 ⟨by simp [madeCells], fun b hb => ?_⟩
  simp only [madeCells, Array.toList_map, List.mem_map] at hb
  obtain ⟨x, _, rfl⟩ := hb
  simp [Nat.mod_one, Value.cells]
namespace Lk
/-- what has been seen -/
structure Seen (n : Nat) (P : List Int) (Z : List Bool) (t : Bool) : Prop where
  len : Z.length = n
  rng : ∀ x ∈ P, 0 ≤ x ∧ x < n
  z : ∀ i, i < n → Z.getD i false = decide ((i : Int) ∈ P)
  t : t = decide (¬ P.Nodup)
theorem Seen.start (n : Nat) : Seen n [] (List.replicate n false) false := by
  refine ⟨by simp, fun x hx => absurd hx (by simp), fun i hi => ?_, by simp⟩
  simp [List.getD_eq_getElem?_getD, List.getElem?_replicate, hi]
theorem getD_setB (l : List Bool) (p q : Nat) (v : Bool) : (l.set p v).getD q false = if p = q ∧ p < l.length then v else l.getD q false := by
  simp only [List.getD_eq_getElem?_getD, List.getElem?_set]
  by_cases h : p = q
  · subst h
    by_cases h2 : p < l.length
    · simp [h2]
    · simp [h2]
  · simp [h]
theorem Seen.next {n : Nat} {P : List Int} {Z : List Bool} {t : Bool} (h : Seen n P Z t) {x : Nat} (hx : x < n) : Seen n (P ++ [(x : Int)]) (Z.set x true) (t || Z.getD x false) := by
  refine ⟨by simp [h.len], fun y hy => ?_, fun i hi => ?_, ?_⟩
  · rcases List.mem_append.1 hy with hy | hy
    · exact h.rng y hy
    · have : y = x := by simpa using hy
      omega
  · rw [getD_setB, h.len]
    by_cases e : x = i
    · subst e; simp [hx]
    · rw [if_neg (fun c => e c.1), h.z i hi]
      have : ¬ (i : Int) = x := by omega
      simp [this]
  · rw [h.z x hx, h.t, ← Bool.decide_or, decide_eq_decide, List.nodup_append]
    constructor
    · rintro (h1 | h1) ⟨h2, _, h3⟩
      · exact h1 h2
      · exact h3 _ h1 _ (by simp) rfl
    · intro h1
      by_cases h2 : P.Nodup
      · right
        by_cases h3 : (x : Int) ∈ P
        · exact h3
        · exact absurd ⟨h2, by simp, fun a ha b hb e => by have : b = x := by simpa using hb
                                                           subst this; subst e; exact h3 ha⟩ h1
      · exact .inl h2
/-- a list of points as natural numbers -/
def nats (A : List Int) : List Nat := A.map Int.toNat
def inN (n : Int) (P : List Int) : Prop := ∀ x ∈ P, 0 ≤ x ∧ x < n
instance (n : Int) (P : List Int) : Decidable (inN n P) := by unfold inN; exact inferInstance
def btE (n : Int) (D : List Int) (mm : Int) (A B : List Int) : Int :=
  if mm ≠ 1 ∧ mm ≠ 2 ∧ mm ≠ 3 then 2 else if checkS n D ≠ 0 then checkS n D else if ¬ inN n (A ++ B) then 3 else if A = [] ∨ B = [] ∨ ¬ (A ++ B).Nodup then 2 else 0
def btF (n : Nat) (D : List Int) (m : Mt) (A B : List Int) : Int × Int := red (num m (mat n D) (nats A) (nats B), den m (nats A) (nats B))
theorem nats_cast {n : Int} {A : List Int} (h : inN n A) : (nats A).map (fun x : Nat => (x : Int)) = A := by
  unfold nats
  rw [List.map_map]
  refine (List.map_congr_left (g := id) fun x hx => ?_).trans (List.map_id _)
  exact Int.toNat_of_nonneg (h x hx).1
theorem two_of {n : Nat} {A B : List Int} (h : inN n (A ++ B)) (hn : (A ++ B).Nodup) : Two n (nats A) (nats B) := by
  have inj : ∀ x ∈ A ++ B, ∀ y ∈ A ++ B, x.toNat = y.toNat → x = y := fun x hx y hy e => by
    have h1 := (h x hx).1
    have h2 := (h y hy).1
    omega
  obtain ⟨na, nb, hd⟩ := List.nodup_append.1 hn
  have ndm : ∀ {L : List Int}, (∀ x ∈ L, x ∈ A ++ B) → L.Nodup → (nats L).Nodup := fun {L} hs hL => by
    unfold nats List.Nodup
    rw [List.pairwise_map]
    exact List.Pairwise.imp_of_mem (fun ha hb hne e => hne (inj _ (hs _ ha) _ (hs _ hb) e)) hL
  refine ⟨ndm (fun x hx => by simp [hx]) na, ndm (fun x hx => by simp [hx]) nb, fun x hx hy => ?_, fun x hx => ?_, fun x hx => ?_⟩
  · obtain ⟨a, ha, rfl⟩ := List.mem_map.1 hx
    obtain ⟨b, hb, e⟩ := List.mem_map.1 hy
    exact hd a ha b hb (inj a (by simp [ha]) b (by simp [hb]) e.symm)
  · obtain ⟨a, ha, rfl⟩ := List.mem_map.1 hx
    have := h a (by simp [ha]); omega
  · obtain ⟨a, ha, rfl⟩ := List.mem_map.1 hx
    have := h a (by simp [ha]); omega
end Lk
end Go.Proofs.Ytmkggcmebeagaaa
