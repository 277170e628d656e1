/- Between: the plain law. -/
import Derived.Test.YtmkggcmebeagaaaLkLab2
namespace Go.Proofs.Ytmkggcmebeagaaa
set_option linter.unusedVariables false
set_option linter.unusedSimpArgs false
open Go.RowKit Lk
namespace Lk
/-- two lists of points, each one once -/
structure Two (n : Nat) (A B : List Nat) : Prop where
  na : A.Nodup
  nb : B.Nodup
  ab : ∀ x ∈ A, x ∉ B
  ma : ∀ x ∈ A, x < n
  mb : ∀ x ∈ B, x < n
theorem Two.swap {n : Nat} {A B : List Nat} (h : Two n A B) : Two n B A := ⟨h.nb, h.na, fun x hx hy => h.ab x hy hx, h.mb, h.ma⟩
/-- clusters while the points of two lists are united -/
structure Gat (n : Nat) (A B : List Nat) (s t : Nat) (c : Cl) : Prop where
  base : Base n c
  a : ∀ x, A[0]? = some x → c x = A.take (s + 1)
  b : ∀ x, B[0]? = some x → c x = B.take (t + 1)
  ra : ∀ x ∈ A.drop (s + 1), c x = [x]
  rb : ∀ x ∈ B.drop (t + 1), c x = [x]
theorem Gat.swap {n : Nat} {A B : List Nat} {s t : Nat} {c : Cl} (h : Gat n A B s t c) : Gat n B A t s c := ⟨h.base, h.b, h.a, h.rb, h.ra⟩
theorem Gat.start {n : Nat} {A B : List Nat} (h : Two n A B) : Gat n A B 0 0 (start n) := by
  have k : ∀ x, x < n → Lk.start n x = [x] := fun x hx => by simp [Lk.start, hx]
  refine ⟨(start_part n).base, fun x hx => ?_, fun x hx => ?_, fun x hx => k x (h.ma x (List.mem_of_mem_drop hx)), fun x hx => k x (h.mb x (List.mem_of_mem_drop hx))⟩
  · cases A with
    | nil => simp at hx
    | cons a A =>
      obtain rfl : a = x := by simpa using hx
      rw [k _ (h.ma a (by simp))]; simp
  · cases B with
    | nil => simp at hx
    | cons a B =>
      obtain rfl : a = x := by simpa using hx
      rw [k _ (h.mb a (by simp))]; simp
theorem Gat.step {n : Nat} {A B : List Nat} (h : Two n A B) {s t : Nat} {c : Cl} (g : Gat n A B s t c) {x : Nat} (hx : A[0]? = some x) (hs : s + 1 < A.length) : Gat n A B (s + 1) t (unite c x A[s + 1]) ∧ x ≠ A[s + 1] ∧ c x ≠ [] ∧ c A[s + 1] ≠ [] := by
  have hxa : x ∈ A := List.mem_of_getElem? hx
  have hya : A[s + 1] ∈ A := List.getElem_mem hs
  have hxy : x ≠ A[s + 1] := fun e => by
    obtain ⟨h0, e0⟩ := List.getElem?_eq_some_iff.1 hx
    exact List.pairwise_iff_getElem.1 h.na 0 (s + 1) h0 hs (by omega) (by rw [e0, e])
  have hcx := g.a x hx
  have hdr : A.drop (s + 1) = A[s + 1] :: A.drop (s + 1 + 1) := List.drop_eq_getElem_cons hs
  have hcy : c A[s + 1] = [A[s + 1]] := g.ra _ (by rw [hdr]; exact List.mem_cons_self)
  have hnd : (A.take (s + 1) ++ A.drop (s + 1)).Nodup := by rw [List.take_append_drop]; exact h.na
  have hdj : ∀ z ∈ A.drop (s + 1 + 1), z ≠ x ∧ z ≠ A[s + 1] := fun z hz => by
    refine ⟨fun e => ?_, fun e => ?_⟩
    · subst e
      have hz1 : z ∈ A.take (s + 1) := by
        cases A with
        | nil => cases hxa
        | cons a A =>
          obtain rfl : a = z := by simpa using hx
          simp
      exact (List.nodup_append.1 hnd).2.2 z hz1 z (by rw [hdr]; exact List.mem_cons_of_mem _ hz) rfl
    · subst e
      have := (List.nodup_append.1 hnd).2.1
      rw [hdr] at this
      exact (List.nodup_cons.1 this).1 hz
  refine ⟨⟨g.base.unite hxy (h.ma x hxa), fun z hz => ?_, fun z hz => ?_, fun z hz => ?_, fun z hz => ?_⟩, hxy, ?_, ?_⟩
  · obtain rfl : x = z := by rw [hx] at hz; exact Option.some.inj hz
    simp only [unite, if_true]
    rw [hcx, hcy, List.take_append_getElem hs]
  · have hzb : z ∈ B := List.mem_of_getElem? hz
    simp only [unite]
    rw [if_neg (fun e : z = x => h.ab x hxa (e ▸ hzb)), if_neg (fun e : z = A[s + 1] => h.ab _ hya (e ▸ hzb))]
    exact g.b z hz
  · obtain ⟨h1, h2⟩ := hdj z hz
    simp only [unite]
    rw [if_neg h1, if_neg h2]
    exact g.ra z (by rw [hdr]; exact List.mem_cons_of_mem _ hz)
  · have hzb : z ∈ B := List.mem_of_mem_drop hz
    simp only [unite]
    rw [if_neg (fun e : z = x => h.ab x hxa (e ▸ hzb)), if_neg (fun e : z = A[s + 1] => h.ab _ hya (e ▸ hzb))]
    exact g.rb z hz
  · rw [hcx]
    cases A with
    | nil => cases hxa
    | cons a A => simp
  · rw [hcy]; simp
end Lk
end Go.Proofs.Ytmkggcmebeagaaa
