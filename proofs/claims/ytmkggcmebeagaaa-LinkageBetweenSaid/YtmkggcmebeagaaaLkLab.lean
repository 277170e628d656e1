/- Labels, walked. -/
import Derived.Test.YtmkggcmebeagaaaLkLabPlain
import Derived.Test.YtmkggcmebeagaaaLkPoints
namespace Go.Proofs.Ytmkggcmebeagaaa
set_option linter.unusedVariables false
set_option linter.unusedSimpArgs false
open Go.RowKit Lk

theorem int_info : (Try.prog.info? 3).map (fun i => (i.zero, i.size, i.bytes)) = some (some (.int .i64 0), 1, 8) := by kernel_rfl
/-- what Labels answers -/
def Labeled (w : World) (n : Int) (L : List MI) (c : Int) (e : Ending) (w' : World) : Prop :=
  (labE n L c ≠ 0 ∧ e = .returned (.tuple #[.slice none 0 0, .int .i64 (labE n L c)]) ∧ Upd (fun _ => False) w w') ∨
  (labE n L c = 0 ∧ ∃ a cap, e = .returned (.tuple #[.slice a (labL n L c).length cap, .int .i64 0]) ∧ IntsK .i64 w' a (labL n L c) ∧ Upd (fun _ => False) w w')
def Z1 (i : Nat) : List Int := List.replicate i 1 ++ List.replicate (128 - i) 0
def I1 (n i : Nat) : List Int := startL i ++ List.replicate (n - i) 0
theorem Z1_next {i : Nat} (h : i < 128) : (Z1 i).set i 1 = Z1 (i + 1) := by
  unfold Z1
  rw [List.set_append_right _ _ (by simp), List.length_replicate, Nat.sub_self]
  obtain ⟨k, hk⟩ : ∃ k, 128 - i = k + 1 := ⟨127 - i, by omega⟩
  rw [hk, show 128 - (i + 1) = k by omega, List.replicate_succ, List.set_cons_zero, List.replicate_succ', List.append_assoc]; rfl
theorem I1_next {n i : Nat} (h : i < n) : (I1 n i).set i (i : Int) = I1 n (i + 1) := by
  unfold I1
  have hl : (startL i).length = i := by simp [startL]
  rw [List.set_append_right _ _ (by omega), hl, Nat.sub_self]
  obtain ⟨k, hk⟩ : ∃ k, n - i = k + 1 := ⟨n - i - 1, by omega⟩
  rw [hk, show n - (i + 1) = k by omega, List.replicate_succ, List.set_cons_zero]
  simp [startL, List.range_succ]
theorem I1_end (n : Nat) : I1 n n = startL n := by simp [I1]
theorem I1_len {n i : Nat} (h : i ≤ n) : (I1 n i).length = n := by simp [I1, startL]; omega
theorem Z1_len {i : Nat} (h : i ≤ 128) : (Z1 i).length = 128 := by simp [Z1]; omega
theorem Z1_sizes {n : Nat} (h : n ≤ 128) : Sizes n (startL n) (Z1 n) := by
  refine ⟨Z1_len h, fun i hi => ?_⟩
  rw [count_start]
  unfold Z1
  rw [List.getD_eq_getElem?_getD, List.getElem?_append, List.length_replicate]
  split
  · rw [List.getElem?_replicate, if_pos (by omega)]; rfl
  · rw [List.getElem?_replicate, if_pos (by omega)]; rfl
theorem CB.row {w : World} {p : Nat} {T : TypeId} {N : Nat} {f : Nat → Value} (h : CB w p T N f) {xs : List Value} (hx : (List.range N).map f = xs) : RowAt w p T xs := by
  refine ⟨_, h, ?_⟩
  rw [hx]; simp

/-- in the rounds over the merges -/
structure LInv (n : Nat) (L : List MI) (c : Int) (j : Nat) (now lab Z I : List Int) : Prop where
  fnow : foldL (startL n) (L.take j) = some now
  flab : foldL (startL n) (L.take (min j c.toNat)) = some lab
  siz : Sizes n now Z
  inow : Idem n now
  ilab : Idem n lab
  into : Into n lab I
  eq : (j : Int) ≤ c → lab = now
theorem LInv.start {n : Nat} (hn : n ≤ 128) (L : List MI) (c : Int) : LInv n L c 0 (startL n) (startL n) (Z1 n) (startL n) :=
  ⟨by simp [foldL], by simp [foldL], Z1_sizes hn, Idem.start n, Idem.start n, Into.start n, fun _ => rfl⟩
theorem takeM {L : List MI} {j : Nat} (h : j < L.length) : L.take (j + 1) = L.take j ++ [L[j]] := (List.take_append_getElem h).symm
theorem LInv.bad {n : Nat} {L : List MI} {c : Int} {j : Nat} {now lab Z I : List Int} (h : LInv n L c j now lab Z I) (hj : j < L.length) (hf : ¬ fits now L[j]) (hn : n ≤ 128) : labE n L c = 2 := by
  have : foldL (startL n) (L.take (j + 1)) = none := by rw [takeM hj, foldL_append, h.fnow, Option.bind_some, if_neg hf]
  unfold labE
  rw [Int.toNat_natCast, foldL_none this]
  simp
theorem LInv.next {n : Nat} {L : List MI} {c : Int} {j : Nat} {now lab Z I : List Int} (h : LInv n L c j now lab Z I) (hj : j < L.length) (hf : fits now L[j]) {a b : Nat} (ha : L[j].a = a) (hb : L[j].b = b) (hb8 : b < 128) {I' : List Int}
    (hI : I' = if (j : Int) < c then I.set b a else I) : ∃ now' lab', LInv n L c (j + 1) now' lab' ((Z.set a L[j].s).set b 0) I' := by
  have hf0 := hf
  unfold fits at hf
  rw [ha, hb] at hf
  obtain ⟨h1, h2, h3, h4⟩ := hf
  have hab : a < b := by omega
  have e1 : foldL (startL n) (L.take (j + 1)) = some (joinL now a b) := by rw [takeM hj, foldL_append, h.fnow, Option.bind_some, if_pos hf0, ha, hb]
  by_cases hc : (j : Int) < c
  · have hl := h.eq (by omega)
    rw [if_pos hc] at hI
    subst hl
    refine ⟨_, joinL lab a b, e1, ?_, h.siz.join (by omega) hb8 hab h4, h.inow.join h2 h1, h.inow.join h2 h1, ?_, fun _ => rfl⟩
    · rw [show min (j + 1) c.toNat = j + 1 by omega]; exact e1
    · rw [hI]; exact h.into.join h.inow h2 h3 hab
  · rw [if_neg hc] at hI
    refine ⟨_, lab, e1, ?_, h.siz.join (by omega) hb8 hab h4, h.inow.join h2 h1, h.ilab, by rw [hI]; exact h.into, fun hh => by omega⟩
    rw [show min (j + 1) c.toNat = min j c.toNat by omega]; exact h.flab
theorem LInv.end {n : Nat} {L : List MI} {c : Int} {now lab Z I : List Int} (h : LInv n L c L.length now lab Z I) (hn : n ≤ 128) :
    (c < 0 ∨ (L.length : Int) < c → labE n L c = 3) ∧ (¬ (c < 0 ∨ (L.length : Int) < c) → labE n L c = 0 ∧ labL n L c = lab) := by
  have h1 := h.fnow
  rw [List.take_length] at h1
  unfold labE labL
  rw [Int.toNat_natCast, h1, if_neg (by omega), if_neg (by simp)]
  refine ⟨fun hc => by rw [if_pos hc], fun hc => ⟨by rw [if_neg hc], ?_⟩⟩
  have h2 := h.flab
  rw [show min L.length c.toNat = c.toNat by omega] at h2
  rw [h2]; rfl

set_option maxRecDepth 100000 in
theorem lklab_arg {w : World} {a : Option Addr} {L : List MI} (cap : Nat) (n c : Int) (hn : n < 0 ∨ 128 < n) :
    Calls Try.prog 19 #[.int .i64 n, .slice a L.length cap, .int .i64 c] w (Labeled w n L c) := by
  have hE : labE n L c = 2 := by unfold labE; rw [if_pos hn]
  have HE := Lib.hid hE
  clear hE
  by_cases h0 : n < 0
  · clear hn
    go_enter Try.func19, Try.ntmps19
    go_wp2_with fail
    go_ret2
    exact .inl ⟨by rw [HE.out]; decide, by rw [HE.out]; rfl, Upd.refl _ _⟩
  · have h1 : 128 < n := by omega
    clear hn
    go_enter Try.func19, Try.ntmps19
    go_wp2_with fail
    go_ret2
    exact .inl ⟨by rw [HE.out]; decide, by rw [HE.out]; rfl, Upd.refl _ _⟩
end Go.Proofs.Ytmkggcmebeagaaa
