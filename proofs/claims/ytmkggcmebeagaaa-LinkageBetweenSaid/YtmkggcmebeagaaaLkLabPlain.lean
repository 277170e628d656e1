/- Labels: the plain law. -/
import Derived.Test.YtmkggcmebeagaaaLkSameM
namespace Go.Proofs.Ytmkggcmebeagaaa
set_option linter.unusedVariables false
set_option linter.unusedSimpArgs false
open Go.RowKit Lk
namespace Lk
/-- a merge, of any numbers -/
structure MI where
  a : Int
  b : Int
  n : Int
  d : Int
  s : Int
/-- does a merge fit to the labels -/
def fits (now : List Int) (x : MI) : Prop := x.a < x.b ∧ 0 < now.count x.a ∧ 0 < now.count x.b ∧ ((now.count x.a + now.count x.b : Nat) : Int) = x.s
instance (now : List Int) (x : MI) : Decidable (fits now x) := by unfold fits; exact inferInstance
def joinL (now : List Int) (a b : Int) : List Int := now.map fun v => if v = b then a else v
def foldL : List Int → List MI → Option (List Int)
  | now, [] => some now
  | now, x :: L => if fits now x then foldL (joinL now x.a x.b) L else none
def startL (n : Nat) : List Int := (List.range n).map fun i : Nat => (i : Int)
/-- labels: each is a label of itself -/
structure Idem (n : Nat) (now : List Int) : Prop where
  len : now.length = n
  ide : ∀ v ∈ now, 0 ≤ v ∧ v < n ∧ now.getD v.toNat 0 = v
/-- an array that leads to the labels -/
structure Into (n : Nat) (now I : List Int) : Prop where
  len : I.length = n
  low : ∀ i, i < n → 0 ≤ I.getD i 0 ∧ I.getD i 0 ≤ i
  self : ∀ i, i < n → I.getD i 0 = i → now.getD i 0 = i
  next : ∀ i, i < n → I.getD i 0 < i → now.getD i 0 = now.getD (I.getD i 0).toNat 0
/-- the sizes -/
structure Sizes (n : Nat) (now Z : List Int) : Prop where
  len : Z.length = 128
  cnt : ∀ i, i < 128 → Z.getD i 0 = now.count (i : Int)
theorem foldL_append (now : List Int) (L : List MI) (x : MI) : foldL now (L ++ [x]) = (foldL now L).bind fun m => if fits m x then some (joinL m x.a x.b) else none := by
  induction L generalizing now with
  | nil => simp [foldL]
  | cons y L ih =>
    simp only [List.cons_append, foldL]
    split
    · exact ih _
    · rfl
theorem foldL_none {now : List Int} {L : List MI} {k : Nat} (h : foldL now (L.take k) = none) : foldL now L = none := by
  induction L generalizing now k with
  | nil => simpa using h
  | cons y L ih =>
    cases k with
    | zero => simp [foldL] at h
    | succ k =>
      simp only [List.take_succ_cons, foldL] at h ⊢
      split
      · rename_i hf; rw [if_pos hf] at h; exact ih h
      · rfl
theorem getD_start {n i : Nat} (h : i < n) : (startL n).getD i 0 = i := by
  simp [startL, List.getD_eq_getElem?_getD, h]
theorem Idem.start (n : Nat) : Idem n (startL n) := by
  refine ⟨by simp [startL], fun v hv => ?_⟩
  simp only [startL, List.mem_map, List.mem_range] at hv
  obtain ⟨i, hi, rfl⟩ := hv
  exact ⟨by omega, by omega, by rw [Int.toNat_natCast]; exact getD_start hi⟩
theorem Into.start (n : Nat) : Into n (startL n) (startL n) :=
  ⟨by simp [startL], fun i hi => by rw [getD_start hi]; omega, fun i hi _ => getD_start hi, fun i hi h => by rw [getD_start hi] at h; omega⟩
theorem count_start (n i : Nat) : (startL n).count (i : Int) = if i < n then 1 else 0 := by
  induction n with
  | zero => simp [startL]
  | succ n ih =>
    have : startL (n + 1) = startL n ++ [(n : Int)] := by simp [startL, List.range_succ]
    rw [this, List.count_append, ih]
    by_cases h1 : i < n
    · rw [if_pos h1, if_pos (by omega)]
      have : ((n : Int) == i) = false := by simp; omega
      simp [List.count_cons, this]
    · by_cases h2 : n = i
      · subst h2; simp
      · rw [if_neg h1, if_neg (by omega)]
        have : ((n : Int) == i) = false := by simp; omega
        simp [List.count_cons, this]
theorem joinL_len (now : List Int) (a b : Int) : (joinL now a b).length = now.length := by simp [joinL]
theorem joinL_get {now : List Int} {a b : Int} {i : Nat} (h : i < now.length) : (joinL now a b).getD i 0 = if now.getD i 0 = b then a else now.getD i 0 := by
  simp [joinL, List.getD_eq_getElem?_getD, h]
theorem Idem.at {n : Nat} {now : List Int} (h : Idem n now) {v : Int} (hv : 0 < now.count v) : 0 ≤ v ∧ v < n ∧ now.getD v.toNat 0 = v := h.ide v (List.count_pos_iff.1 hv)
theorem Idem.join {n : Nat} {now : List Int} (h : Idem n now) {a b : Int} (ha : 0 < now.count a) (hab : a < b) : Idem n (joinL now a b) := by
  refine ⟨by rw [joinL_len, h.len], fun v hv => ?_⟩
  simp only [joinL, List.mem_map] at hv
  obtain ⟨u, hu, rfl⟩ := hv
  have h1 := h.ide u hu
  have h2 := h.at ha
  split
  · refine ⟨h2.1, h2.2.1, ?_⟩
    rw [joinL_get (by rw [h.len]; omega), h2.2.2, if_neg (by omega)]
  · rename_i hub
    refine ⟨h1.1, h1.2.1, ?_⟩
    rw [joinL_get (by rw [h.len]; omega), h1.2.2, if_neg hub]
theorem count_join {now : List Int} {a b : Int} (hab : a < b) (y : Int) : (joinL now a b).count y = if y = a then now.count a + now.count b else if y = b then 0 else now.count y := by
  induction now with
  | nil => simp [joinL]
  | cons v now ih =>
    have e : joinL (v :: now) a b = (if v = b then a else v) :: joinL now a b := rfl
    rw [e, List.count_cons, ih, List.count_cons, List.count_cons, List.count_cons]
    simp only [beq_iff_eq]
    by_cases h1 : y = a
    · subst h1; simp only [if_true]; (repeat' split) <;> omega
    · by_cases h2 : y = b
      · subst h2; simp only [if_neg h1, if_true]; (repeat' split) <;> omega
      · simp only [if_neg h1, if_neg h2]; (repeat' split) <;> omega
theorem Sizes.join {n : Nat} {now Z : List Int} (h : Sizes n now Z) {a b : Nat} (ha : a < 128) (hb : b < 128) (hab : a < b) {s : Int} (hs : ((now.count (a : Int) + now.count (b : Int) : Nat) : Int) = s) :
    Sizes n (joinL now a b) ((Z.set a s).set b 0) := by
  refine ⟨by simp [h.len], fun i hi => ?_⟩
  rw [count_join (by omega), getD_set, getD_set, List.length_set, h.len]
  by_cases e1 : b = i
  · subst e1; rw [if_pos ⟨rfl, hi⟩, if_neg (by omega), if_pos rfl]; rfl
  · rw [if_neg (fun c => e1 c.1)]
    by_cases e2 : a = i
    · subst e2; rw [if_pos ⟨rfl, hi⟩, if_pos rfl, ← hs]
    · rw [if_neg (fun c => e2 c.1), if_neg (by omega), if_neg (by omega)]; exact h.cnt i hi
theorem Into.join {n : Nat} {now I : List Int} (h : Into n now I) (hd : Idem n now) {a b : Nat} (ha : 0 < now.count (a : Int)) (hb : 0 < now.count (b : Int)) (hab : a < b) : Into n (joinL now a b) (I.set b a) := by
  have h1 := hd.at ha
  have h2 := hd.at hb
  have hbn : b < n := by omega
  rw [Int.toNat_natCast] at h1 h2
  have g : ∀ i, (I.set b (a : Int)).getD i 0 = if b = i then (a : Int) else I.getD i 0 := fun i => by
    rw [getD_set, h.len]
    by_cases e : b = i
    · subst e; rw [if_pos ⟨rfl, hbn⟩, if_pos rfl]
    · rw [if_neg (fun c => e c.1), if_neg e]
  have lj : ∀ i, i < n → i < now.length := fun i hi => by rw [hd.len]; exact hi
  refine ⟨by simp [h.len], fun i hi => ?_, fun i hi hs => ?_, fun i hi hs => ?_⟩
  · rw [g]; split
    · omega
    · exact h.low i hi
  · rw [g] at hs
    rw [joinL_get (lj i hi)]
    split at hs
    · omega
    · rw [h.self i hi hs, if_neg (by omega)]
  · rw [g] at hs ⊢
    rw [joinL_get (lj i hi)]
    split at hs
    · rename_i e; subst e
      rw [if_pos rfl, h2.2.2, if_pos rfl, Int.toNat_natCast, joinL_get (lj a (by omega)), h1.2.2, if_neg (by omega)]
    · rename_i e
      have hl := h.low i hi
      rw [if_neg e, joinL_get (lj _ (by omega)), h.next i hi hs]
/-- the last pass -/
structure Pass (n : Nat) (now I : List Int) (i : Nat) : Prop where
  len : I.length = n
  done : ∀ j, j < i → j < n → I.getD j 0 = now.getD j 0
  low : ∀ j, i ≤ j → j < n → 0 ≤ I.getD j 0 ∧ I.getD j 0 ≤ j
  self : ∀ j, i ≤ j → j < n → I.getD j 0 = j → now.getD j 0 = j
  next : ∀ j, i ≤ j → j < n → I.getD j 0 < j → now.getD j 0 = now.getD (I.getD j 0).toNat 0
theorem Pass.start {n : Nat} {now I : List Int} (h : Into n now I) : Pass n now I 0 :=
  ⟨h.len, fun j hj => by omega, fun j _ hj => h.low j hj, fun j _ hj => h.self j hj, fun j _ hj => h.next j hj⟩
theorem Pass.step {n : Nat} {now I : List Int} {i : Nat} (h : Pass n now I i) (hi : i < n) : Pass n now (I.set i (I.getD (I.getD i 0).toNat 0)) (i + 1) := by
  have hl := h.low i (Nat.le_refl _) hi
  have hv : I.getD (I.getD i 0).toNat 0 = now.getD i 0 := by
    by_cases e : I.getD i 0 = i
    · rw [h.self i (Nat.le_refl _) hi e, e, Int.toNat_natCast, e]
    · rw [h.next i (Nat.le_refl _) hi (by omega)]
      exact h.done _ (by omega) (by omega)
  rw [hv]
  have g : ∀ j, (I.set i (now.getD i 0)).getD j 0 = if i = j then now.getD i 0 else I.getD j 0 := fun j => by
    rw [getD_set, h.len]
    by_cases e : i = j
    · subst e; rw [if_pos ⟨rfl, hi⟩, if_pos rfl]
    · rw [if_neg (fun c => e c.1), if_neg e]
  refine ⟨by simp [h.len], fun j hj hjn => ?_, fun j hj hjn => ?_, fun j hj hjn => ?_, fun j hj hjn => ?_⟩
  · rw [g]; split
    · rename_i e; rw [e]
    · exact h.done j (by omega) hjn
  · rw [g, if_neg (by omega)]; exact h.low j (by omega) hjn
  · rw [g, if_neg (by omega)]; exact h.self j (by omega) hjn
  · rw [g, if_neg (by omega)]; exact h.next j (by omega) hjn
theorem Pass.end {n : Nat} {now I : List Int} (h : Pass n now I n) (hl : now.length = n) : I = now := by
  refine List.ext_getElem (by rw [h.len, hl]) fun i h1 h2 => ?_
  have := h.done i (by rw [h.len] at h1; exact h1) (by rw [h.len] at h1; exact h1)
  simpa [List.getD_eq_getElem?_getD, h1, h2] using this
/-- the error -/
def labE (n : Int) (L : List MI) (c : Int) : Int :=
  if n < 0 ∨ 128 < n then 2 else if foldL (startL n.toNat) L = none then 2 else if c < 0 ∨ (L.length : Int) < c then 3 else 0
def labL (n : Int) (L : List MI) (c : Int) : List Int := (foldL (startL n.toNat) (L.take c.toNat)).getD []
end Lk
/-- merges of any numbers in memory, that a slice shows -/
structure MIs (w : World) (a : Option Addr) (L : List MI) : Prop where
  at5 : ∀ i (hi : i < L.length), ∃ x, a = some x ∧ w.cell? (x.add (i * 5)) = some (.int .i64 L[i].a) ∧ w.cell? ⟨(x.add (i * 5)).block, (x.add (i * 5)).off + 1, none⟩ = some (.int .i64 L[i].b) ∧
    w.cell? ⟨(x.add (i * 5)).block, (x.add (i * 5)).off + 2, none⟩ = some (.int .i64 L[i].n) ∧ w.cell? ⟨(x.add (i * 5)).block, (x.add (i * 5)).off + 3, none⟩ = some (.int .i64 L[i].d) ∧ w.cell? ⟨(x.add (i * 5)).block, (x.add (i * 5)).off + 4, none⟩ = some (.int .i64 L[i].s)
  len : L.length ≤ 1000000
theorem MIs.updS {w w' : World} {a : Option Addr} {L : List MI} (h : MIs w a L) {S : Nat → Prop} (hu : Upd S w w') (hS : ∀ x, a = some x → 0 < L.length → ¬ S x.block) : MIs w' a L :=
  ⟨fun i hi => by
    obtain ⟨x, hx, h1, h2, h3, h4, h5⟩ := h.at5 i hi
    have hb : ¬ S x.block := hS x hx (by omega)
    have k : ∀ (y : Addr) (u : Value), y.block = x.block → w.cell? y = some u → w'.cell? y = some u := fun y u hy hc =>
      (World.cell?_of_block (hu.block _ (World.block_lt_of_cell? w _ hc) (by rw [hy]; exact hb))).trans hc
    exact ⟨x, hx, k _ _ (addBlk ..) h1, k _ _ (addBlk ..) h2, k _ _ (addBlk ..) h3, k _ _ (addBlk ..) h4, k _ _ (addBlk ..) h5⟩, h.len⟩
theorem MIs.upd {w w' : World} {a : Option Addr} {L : List MI} (h : MIs w a L) (hu : Upd (fun _ => False) w w') : MIs w' a L := h.updS hu fun _ _ _ h => h
theorem MIs.lt {w : World} {a : Option Addr} {L : List MI} (h : MIs w a L) : ∀ x, a = some x → 0 < L.length → x.block < w.heap.size := fun x hx h0 => by
  obtain ⟨y, hy, h1, _⟩ := h.at5 0 h0
  rw [hx] at hy; cases hy
  have := World.block_lt_of_cell? w _ h1
  rwa [addBlk] at this
def Lk.Mg.mi (x : Mg) : MI := ⟨x.a, x.b, x.f.1, x.f.2, x.size⟩
theorem Mgs.mis {w : World} {a : Option Addr} {L : List Mg} (h : Mgs w a L) : MIs w a (L.map Mg.mi) :=
  ⟨fun i hi => by
    obtain ⟨x, hx, h1, h2, h3, h4, h5⟩ := h.at5 (i := i) (by simpa using hi)
    refine ⟨x, hx, ?_, ?_, ?_, ?_, ?_⟩ <;> simp only [List.getElem_map, Mg.mi] <;> assumption, by simpa using h.len⟩
end Go.Proofs.Ytmkggcmebeagaaa
