/- The reference: distance. -/
import Derived.Test.YtmkggcmebeagaaaLkRef2
namespace Go.Proofs.Ytmkggcmebeagaaa
set_option linter.unusedVariables false
set_option linter.unusedSimpArgs false
open Go.RowKit Lk

theorem addZero (x : Addr) : x.add 0 = x := by simp [Addr.add]
/-- points as integers -/
def natI (l : List Nat) : List Int := l.map fun (x : Nat) => (x : Int)
theorem natI_length (l : List Nat) : (natI l).length = l.length := by simp [natI]
theorem ints_nat {w : World} {a : Option Addr} {l : List Nat} (h : IntsK .i64 w a (natI l)) {i : Nat} (hi : i < l.length) : ∃ x, a = some x ∧ w.cell? (x.add i) = some (.int .i64 (l[i] : Int)) := by
  obtain ⟨x, hx, hc⟩ := h.cell i (by rw [natI_length]; exact hi)
  exact ⟨x, hx, by rw [hc]; simp [natI]⟩
/-- the place of a distance, in the walk's steps -/
theorem mat_place {w : World} {a : Option Addr} {n : Nat} {D : List Int} (hD : IntsK .i64 w a D) (hl : D.length = n * n) (hn : n ≤ 128) {x y : Nat} (hx : x < n) (hy : y < n) :
    ∃ ad, a = some ad ∧ w.cell? (ad.add (x * n + y)) = some (.int .i64 (mat n D x y)) ∧ IntKind.i64.wrap ((x : Int) * n) = ((x * n : Nat) : Int) ∧ IntKind.i64.wrap (((x * n : Nat) : Int) + y) = ((x * n + y : Nat) : Int) ∧ x * n + y < D.length := by
  have h1 := idx_lt hx hy
  have hb : n * n ≤ 128 * 128 := Nat.mul_le_mul hn hn
  obtain ⟨ad, h2, h3⟩ := hD.cell (x * n + y) (by omega)
  have hcast : ((x * n : Nat) : Int) = (x : Int) * n := Int.natCast_mul ..
  refine ⟨ad, h2, ?_, ?_, ?_, by omega⟩
  · rw [h3]; simp [mat, List.getD_eq_getElem?_getD, List.getElem?_eq_getElem (show x * n + y < D.length by omega)]
  · rw [i64_in _ (by omega) (by omega)]; omega
  · rw [i64_in _ (by omega) (by omega)]; omega

/-- a distance, in lowest terms -/
def RDist (w : World) (m : Mt) (d : Nat → Nat → Int) (A B : List Nat) (e : Ending) (w' : World) : Prop :=
  e = .returned (.agg #[.int .i64 (red (num m d A B, den m A B)).1, .int .i64 (red (num m d A B, den m A B)).2]) ∧ Upd (fun _ => False) w w'
/-- what the loops know -/
structure DInv (d : Nat → Nat → Int) (A B : List Nat) (i j : Nat) (lo hi su : Int) : Prop where
  lom : lo ∈ cross d A B
  lol : ∀ x ∈ seenL d A B i j, lo ≤ x
  him : hi ∈ cross d A B
  hil : ∀ x ∈ seenL d A B i j, x ≤ hi
  sum : su = sumL (seenL d A B i j)
theorem DInv.next {d : Nat → Nat → Int} {A B : List Nat} {i j : Nat} {lo hi su : Int} (h : DInv d A B i j lo hi su) (hi' : i < A.length) (hj : j < B.length) (x : Int) (hx : x = d A[i] B[j]) :
    DInv d A B i (j + 1) (if x < lo then x else lo) (if hi < x then x else hi) (su + x) := by
  have hm : x ∈ cross d A B := by
    subst hx
    simp only [cross, List.mem_flatMap, List.mem_map]
    exact ⟨_, List.getElem_mem hi', _, List.getElem_mem hj, rfl⟩
  have hs := seen_next d A B hi' hj
  rw [← hx] at hs
  refine ⟨?_, fun y hy => ?_, ?_, fun y hy => ?_, ?_⟩
  · split; exact hm; exact h.lom
  · rw [hs] at hy
    rcases List.mem_append.1 hy with hy | hy
    · have := h.lol y hy; split <;> omega
    · have : y = x := by simpa using hy
      subst this; split <;> omega
  · split; exact hm; exact h.him
  · rw [hs] at hy
    rcases List.mem_append.1 hy with hy | hy
    · have := h.hil y hy; split <;> omega
    · have : y = x := by simpa using hy
      subst this; split <;> omega
  · rw [hs, sumL_append, h.sum]; simp [sumL]
theorem DInv.done {d : Nat → Nat → Int} {A B : List Nat} {lo hi su : Int} {i : Nat} (h : DInv d A B i 0 lo hi su) (hi' : A.length ≤ i) : lo = num .single d A B ∧ hi = num .complete d A B ∧ su = num .average d A B := by
  obtain ⟨h1, h2, h3, h4, h5⟩ := h
  rw [seen_end d A B hi'] at h2 h4 h5
  exact ⟨(fold1_least h1 h2).symm, (fold1_most h3 h4).symm, by rw [h5]; exact (fold1_total _).symm⟩

theorem dinv_if {d : Nat → Nat → Int} {A B : List Nat} {i j : Nat} {a b s a' b' : Int} (h : Hid (DInv d A B i j a b s)) (e : a' = a ∧ b' = b) : Hid (DInv d A B i j a' b' s) := by
  obtain ⟨rfl, rfl⟩ := e; exact h
set_option maxRecDepth 100000 in
set_option maxHeartbeats 2000000 in
theorem rdist_single {w : World} {aD aA aB : Option Addr} {n : Nat} {D : List Int} {A B : List Nat} (hD : IntsK .i64 w aD D) (hl : D.length = n * n) (hd : Dist n (mat n D)) (hA : IntsK .i64 w aA (natI A)) (hB : IntsK .i64 w aB (natI B))
    (hAn : ∀ x ∈ A, x < n) (hBn : ∀ x ∈ B, x < n) (hA0 : 0 < A.length) (hB0 : 0 < B.length) (hAl : A.length ≤ 128) (hBl : B.length ≤ 128) (cD cA cB : Nat) :
    Calls Try.prog 27 #[.int .i64 n, .slice aD D.length cD, .int .i64 1, .slice aA A.length cA, .slice aB B.length cB] w (RDist w .single (mat n D) A B) := by
  have hn := hd.le
  have hbd : ∀ x ∈ cross (mat n D) A B, 0 ≤ x ∧ x ≤ 1099511627776 := fun x hx => by
    obtain ⟨a, ha, b, hb, rfl⟩ := mem_cross hx
    exact hd.bd a b (hAn a ha) (hBn b hb)
  have hbs : ∀ i j, ∀ x ∈ seenL (mat n D) A B i j, 0 ≤ x ∧ x ≤ 1099511627776 := fun i j x hx => by
    obtain ⟨a, ha, b, hb, rfl⟩ := mem_seen hx
    exact hd.bd a b (hAn a ha) (hBn b hb)
  have hAB : A.length * B.length ≤ 128 * 128 := Nat.mul_le_mul hAl hBl
  have hABc : ((A.length * B.length : Nat) : Int) = (A.length : Int) * B.length := Int.natCast_mul ..
  have HL := Lib.hid hl
  have HABC := Lib.hid hABc
  have hA0I : (0 : Int) < A.length := by omega
  have hB0I : (0 : Int) < B.length := by omega
  have HBS := Lib.hid (And.intro hbd hbs)
  clear hABc hbd hbs hl
  go_enter Try.func27, Try.ntmps27
  go_wp2
  refine wp_world (fun w1 => Upd (fun _ => False) w w1 ∧ w1.heap[w.heap.size]? = some (.cells #[.int .i64 0, .int .i64 0] 38 (0, 0))) ⟨(Upd.refl _ _).alloc _, World.alloc_heap_new w _⟩ ?_
  rintro w1 ⟨hu1, hb1⟩
  replace hD := hD.upd hu1
  replace hA := hA.upd hu1
  replace hB := hB.upd hu1
  obtain ⟨rb, hrb⟩ : ∃ rb, w.heap.size = rb := ⟨_, rfl⟩
  have HRB := Lib.hid hrb
  rw [hrb] at hb1 ⊢
  have HU1 := Lib.hid hu1
  clear hu1 hrb
  obtain ⟨xA, rfl, cA0⟩ := ints_nat hA hA0
  obtain ⟨xB, rfl, cB0⟩ := ints_nat hB hB0
  obtain ⟨xD, rfl, cD0, e1, e2, hix⟩ := mat_place hD HL.out hn (hAn _ (List.getElem_mem hA0)) (hBn _ (List.getElem_mem hB0))
  have hm0 : mat n D A[0] B[0] ∈ cross (mat n D) A B := by
    simp only [cross, List.mem_flatMap, List.mem_map]
    exact ⟨_, List.getElem_mem hA0, _, List.getElem_mem hB0, rfl⟩
  have hinv : DInv (mat n D) A B 0 0 (mat n D A[0] B[0]) (mat n D A[0] B[0]) 0 := ⟨hm0, fun x hx => by rw [seen_start] at hx; (cases hx), hm0, fun x hx => by rw [seen_start] at hx; (cases hx), by rw [seen_start]; rfl⟩
  have HINV := Lib.hid hinv
  obtain ⟨v0, hv0⟩ : ∃ v0, mat n D A[0] B[0] = v0 := ⟨_, rfl⟩
  obtain ⟨p0, hp0⟩ : ∃ p0, A[0] * n = p0 := ⟨_, rfl⟩
  rw [hv0] at HINV cD0
  rw [hp0] at cD0 e1 e2 hix
  obtain ⟨x0, hx0⟩ : ∃ x0 : Nat, A[0] = x0 := ⟨_, rfl⟩
  obtain ⟨y0, hy0⟩ : ∃ y0 : Nat, B[0] = y0 := ⟨_, rfl⟩
  rw [hx0] at cA0 e1
  rw [hy0] at cB0 e2 cD0 hix
  obtain ⟨s0, hs0⟩ : ∃ s0, p0 + y0 = s0 := ⟨_, rfl⟩
  rw [hs0] at e2 cD0 hix
  rw [addZero] at cA0 cB0
  clear hinv hm0 hs0 hv0 hp0 hx0 hy0
  refine wp_region_seq ([]) (17) (by kernel_rfl) (by kernel_rfl) (by kernel_rfl) ?_
  iterate 27 (refine sqB_step (fun K hK => ?_); go_simp; refine hK _ _ ?_; clear hK K)
  refine sqB_nil ?_
  go_wp2
  clear cA0 cB0 cD0 e1 e2 hix
  have hmc : ∀ i j, (h : i < A.length) → (h2 : j < B.length) → mat n D A[i] B[j] ∈ cross (mat n D) A B := fun i j h h2 => by
    simp only [cross, List.mem_flatMap, List.mem_map]
    exact ⟨_, List.getElem_mem h, _, List.getElem_mem h2, rfl⟩
  have HMC := Lib.hid hmc
  clear hmc
  go_loopg [11, 12, 13, 14] A.length (fun k a b s v wr => ∃ (i : Nat) (lo hi su : Int), a = .int .i64 lo ∧ b = .int .i64 hi ∧ s = .int .i64 su ∧ v = .int .i64 i ∧ i ≤ A.length ∧ k = A.length - i ∧ Hid (DInv (mat n D) A B i 0 lo hi su) ∧ ∃ c, w1.drewN c = wr)
  case atStart => exact ⟨0, v0, v0, 0, rfl, rfl, rfl, rfl, Nat.zero_le _, by omega, HINV, 1, rfl⟩
  case round =>
    obtain ⟨i, lo, hi, su, rfl, rfl, rfl, rfl, hi', hk, HI, c, rfl⟩ := hrel
    by_cases hlt : i < A.length
    · go_wp2
      go_loopg [11, 12, 13, 15] B.length (fun k a b s v wr => ∃ (j : Nat) (lo hi su : Int), a = .int .i64 lo ∧ b = .int .i64 hi ∧ s = .int .i64 su ∧ v = .int .i64 j ∧ j ≤ B.length ∧ k = B.length - j ∧ Hid (DInv (mat n D) A B i j lo hi su) ∧ ∃ c, w1.drewN c = wr)
      case atStart => exact ⟨0, lo, hi, su, rfl, rfl, rfl, rfl, Nat.zero_le _, by omega, HI, c, rfl⟩
      case round =>
        clear HI
        obtain ⟨j, lo, hi, su, rfl, rfl, rfl, rfl, hj', hk2, HI, c, rfl⟩ := hrel
        by_cases hlt2 : j < B.length
        · obtain ⟨xA', hxA, cA0⟩ := ints_nat hA hlt
          cases hxA
          obtain ⟨xB', hxB, cB0⟩ := ints_nat hB hlt2
          cases hxB
          obtain ⟨xD', hxD, cD0, e1, e2, hix⟩ := mat_place hD HL.out hn (hAn _ (List.getElem_mem hlt)) (hBn _ (List.getElem_mem hlt2))
          cases hxD
          obtain ⟨x, hx⟩ : ∃ x, mat n D A[i] B[j] = x := ⟨_, rfl⟩
          obtain ⟨p0, hp0⟩ : ∃ p0, A[i] * n = p0 := ⟨_, rfl⟩
          have hxb := HBS.out.1 _ (HMC.out i j hlt hlt2)
          have hsb := sumL_bd (HBS.out.2 i j)
          have hsl := seen_length (mat n D) A B i j hi' hj'
          rw [← HI.out.sum] at hsb
          have hsu : su ≤ 18155136797835264 := by omega
          have hsu0 : 0 ≤ su := hsb.1
          have HN := Lib.hid (HI.out.next hlt hlt2 x hx.symm)
          rw [hx] at cD0 hxb
          rw [hp0] at cD0 e1 e2 hix
          obtain ⟨x0, hx0⟩ : ∃ x0 : Nat, A[i] = x0 := ⟨_, rfl⟩
          obtain ⟨y0, hy0⟩ : ∃ y0 : Nat, B[j] = y0 := ⟨_, rfl⟩
          rw [hx0] at cA0 e1
          rw [hy0] at cB0 e2 cD0 hix
          obtain ⟨s0, hs0⟩ : ∃ s0, p0 + y0 = s0 := ⟨_, rfl⟩
          rw [hs0] at e2 cD0 hix
          clear hs0 hx hp0 hx0 hy0 hsb hsl HI
          go_wp2
          refine wp_region_seq ([]) (53) (by kernel_rfl) (by kernel_rfl) (by kernel_rfl) ?_
          iterate 15 (refine sqB_step (fun K hK => ?_); go_simp; refine hK _ _ ?_; clear hK K)
          refine sqB_nil ?_
          go_wp2
          all_goals
            go_roundg (B.length - (j + 1))
            case measure => omega
            case rel => exact ⟨j + 1, _, _, _, rfl, rfl, rfl, by simp, by omega, rfl, dinv_if HN (by omega), _, rfl⟩
        · obtain rfl : j = B.length := by omega
          have HN : Hid (DInv (mat n D) A B (i + 1) 0 lo hi su) := by
            have h := HI.out
            exact ⟨h.lom, by have := h.lol; rwa [seen_row _ _ _ hlt (Nat.le_refl _)] at this, h.him, by have := h.hil; rwa [seen_row _ _ _ hlt (Nat.le_refl _)] at this, by have := h.sum; rwa [seen_row _ _ _ hlt (Nat.le_refl _)] at this⟩
          clear HI
          go_wp2
          go_roundg (A.length - (i + 1))
          case measure => omega
          case rel => exact ⟨i + 1, _, _, _, rfl, rfl, rfl, by simp, by omega, rfl, HN, _, rfl⟩
    · obtain rfl : i = A.length := by omega
      obtain ⟨r1, r2, r3⟩ := HI.out.done (Nat.le_refl _)
      have HR := Lib.hid (And.intro r1 (And.intro r2 r3))
      have hsb := sumL_bd (HBS.out.2 A.length 0)
      have hsl := seen_length (mat n D) A B A.length 0 (Nat.le_refl _) (Nat.zero_le _)
      rw [← HI.out.sum] at hsb
      have hsu : su ≤ 18155136797835264 := by omega
      have hsu0 : 0 ≤ su := hsb.1
      have hlo := HBS.out.1 _ HI.out.lom
      have hhi := HBS.out.1 _ HI.out.him
      have hb2 : (w1.drewN c).heap[rb]? = some (.cells #[.int .i64 0, .int .i64 0] 38 (0, 0)) := hb1
      have k0 := cell_of hb2 0
      have k1 := cell_of hb2 1
      have kf := free_of hb2
      simp only [List.getElem?_toArray, List.getElem?_cons_zero, List.getElem?_cons_succ] at k0 k1
      clear r1 r2 r3 hsb hsl HI
      obtain ⟨w2, hw2⟩ : ∃ w2, w1.drewN c = w2 := ⟨_, rfl⟩
      have HU2 := Lib.hid (show Upd (fun _ => False) w w2 by rw [← hw2]; exact HU1.out.drewN _)
      simp only [hw2] at hb2 k0 k1 kf ⊢
      clear hw2
      have hfin : ((w2.setCell ⟨rb, 0, none⟩ (.int .i64 lo)).setCell ⟨rb, 1, none⟩ (.int .i64 1)).heap[rb]? = some (.cells #[.int .i64 lo, .int .i64 1] 38 (0, 0)) := cells_set (o := 1) _ (cells_set (o := 0) _ hb2)
      have HF := Lib.hid (And.intro (cell_of hfin 0) (cell_of hfin 1))
      clear hfin hb2
      go_wp2
      obtain ⟨b0, b1⟩ := HF.out
      simp only [List.getElem?_toArray, List.getElem?_cons_zero, List.getElem?_cons_succ] at b0 b1
      refine bodyPost_ret (v := .agg #[.int .i64 lo, .int .i64 1]) (by simp [results, Try.results27, go_sem, b0, b1]) rfl ⟨?_, ?_⟩
      · have e : red (num .single (mat n D) A B, den .single A B) = (lo, 1) := by rw [← HR.out.1]; exact red_one hlo.1
        rw [e]
      · exact (HU2.out.setCell (.inr (Nat.le_of_eq HRB.out)) _).setCell (.inr (Nat.le_of_eq HRB.out)) _
set_option maxRecDepth 100000 in
set_option maxHeartbeats 2000000 in
theorem rdist_complete {w : World} {aD aA aB : Option Addr} {n : Nat} {D : List Int} {A B : List Nat} (hD : IntsK .i64 w aD D) (hl : D.length = n * n) (hd : Dist n (mat n D)) (hA : IntsK .i64 w aA (natI A)) (hB : IntsK .i64 w aB (natI B))
    (hAn : ∀ x ∈ A, x < n) (hBn : ∀ x ∈ B, x < n) (hA0 : 0 < A.length) (hB0 : 0 < B.length) (hAl : A.length ≤ 128) (hBl : B.length ≤ 128) (cD cA cB : Nat) :
    Calls Try.prog 27 #[.int .i64 n, .slice aD D.length cD, .int .i64 2, .slice aA A.length cA, .slice aB B.length cB] w (RDist w .complete (mat n D) A B) := by
  have hn := hd.le
  have hbd : ∀ x ∈ cross (mat n D) A B, 0 ≤ x ∧ x ≤ 1099511627776 := fun x hx => by
    obtain ⟨a, ha, b, hb, rfl⟩ := mem_cross hx
    exact hd.bd a b (hAn a ha) (hBn b hb)
  have hbs : ∀ i j, ∀ x ∈ seenL (mat n D) A B i j, 0 ≤ x ∧ x ≤ 1099511627776 := fun i j x hx => by
    obtain ⟨a, ha, b, hb, rfl⟩ := mem_seen hx
    exact hd.bd a b (hAn a ha) (hBn b hb)
  have hAB : A.length * B.length ≤ 128 * 128 := Nat.mul_le_mul hAl hBl
  have hABc : ((A.length * B.length : Nat) : Int) = (A.length : Int) * B.length := Int.natCast_mul ..
  have HL := Lib.hid hl
  have HABC := Lib.hid hABc
  have hA0I : (0 : Int) < A.length := by omega
  have hB0I : (0 : Int) < B.length := by omega
  have HBS := Lib.hid (And.intro hbd hbs)
  clear hABc hbd hbs hl
  go_enter Try.func27, Try.ntmps27
  go_wp2
  refine wp_world (fun w1 => Upd (fun _ => False) w w1 ∧ w1.heap[w.heap.size]? = some (.cells #[.int .i64 0, .int .i64 0] 38 (0, 0))) ⟨(Upd.refl _ _).alloc _, World.alloc_heap_new w _⟩ ?_
  rintro w1 ⟨hu1, hb1⟩
  replace hD := hD.upd hu1
  replace hA := hA.upd hu1
  replace hB := hB.upd hu1
  obtain ⟨rb, hrb⟩ : ∃ rb, w.heap.size = rb := ⟨_, rfl⟩
  have HRB := Lib.hid hrb
  rw [hrb] at hb1 ⊢
  have HU1 := Lib.hid hu1
  clear hu1 hrb
  obtain ⟨xA, rfl, cA0⟩ := ints_nat hA hA0
  obtain ⟨xB, rfl, cB0⟩ := ints_nat hB hB0
  obtain ⟨xD, rfl, cD0, e1, e2, hix⟩ := mat_place hD HL.out hn (hAn _ (List.getElem_mem hA0)) (hBn _ (List.getElem_mem hB0))
  have hm0 : mat n D A[0] B[0] ∈ cross (mat n D) A B := by
    simp only [cross, List.mem_flatMap, List.mem_map]
    exact ⟨_, List.getElem_mem hA0, _, List.getElem_mem hB0, rfl⟩
  have hinv : DInv (mat n D) A B 0 0 (mat n D A[0] B[0]) (mat n D A[0] B[0]) 0 := ⟨hm0, fun x hx => by rw [seen_start] at hx; (cases hx), hm0, fun x hx => by rw [seen_start] at hx; (cases hx), by rw [seen_start]; rfl⟩
  have HINV := Lib.hid hinv
  obtain ⟨v0, hv0⟩ : ∃ v0, mat n D A[0] B[0] = v0 := ⟨_, rfl⟩
  obtain ⟨p0, hp0⟩ : ∃ p0, A[0] * n = p0 := ⟨_, rfl⟩
  rw [hv0] at HINV cD0
  rw [hp0] at cD0 e1 e2 hix
  obtain ⟨x0, hx0⟩ : ∃ x0 : Nat, A[0] = x0 := ⟨_, rfl⟩
  obtain ⟨y0, hy0⟩ : ∃ y0 : Nat, B[0] = y0 := ⟨_, rfl⟩
  rw [hx0] at cA0 e1
  rw [hy0] at cB0 e2 cD0 hix
  obtain ⟨s0, hs0⟩ : ∃ s0, p0 + y0 = s0 := ⟨_, rfl⟩
  rw [hs0] at e2 cD0 hix
  rw [addZero] at cA0 cB0
  clear hinv hm0 hs0 hv0 hp0 hx0 hy0
  refine wp_region_seq ([]) (17) (by kernel_rfl) (by kernel_rfl) (by kernel_rfl) ?_
  iterate 27 (refine sqB_step (fun K hK => ?_); go_simp; refine hK _ _ ?_; clear hK K)
  refine sqB_nil ?_
  go_wp2
  clear cA0 cB0 cD0 e1 e2 hix
  have hmc : ∀ i j, (h : i < A.length) → (h2 : j < B.length) → mat n D A[i] B[j] ∈ cross (mat n D) A B := fun i j h h2 => by
    simp only [cross, List.mem_flatMap, List.mem_map]
    exact ⟨_, List.getElem_mem h, _, List.getElem_mem h2, rfl⟩
  have HMC := Lib.hid hmc
  clear hmc
  go_loopg [11, 12, 13, 14] A.length (fun k a b s v wr => ∃ (i : Nat) (lo hi su : Int), a = .int .i64 lo ∧ b = .int .i64 hi ∧ s = .int .i64 su ∧ v = .int .i64 i ∧ i ≤ A.length ∧ k = A.length - i ∧ Hid (DInv (mat n D) A B i 0 lo hi su) ∧ ∃ c, w1.drewN c = wr)
  case atStart => exact ⟨0, v0, v0, 0, rfl, rfl, rfl, rfl, Nat.zero_le _, by omega, HINV, 1, rfl⟩
  case round =>
    obtain ⟨i, lo, hi, su, rfl, rfl, rfl, rfl, hi', hk, HI, c, rfl⟩ := hrel
    by_cases hlt : i < A.length
    · go_wp2
      go_loopg [11, 12, 13, 15] B.length (fun k a b s v wr => ∃ (j : Nat) (lo hi su : Int), a = .int .i64 lo ∧ b = .int .i64 hi ∧ s = .int .i64 su ∧ v = .int .i64 j ∧ j ≤ B.length ∧ k = B.length - j ∧ Hid (DInv (mat n D) A B i j lo hi su) ∧ ∃ c, w1.drewN c = wr)
      case atStart => exact ⟨0, lo, hi, su, rfl, rfl, rfl, rfl, Nat.zero_le _, by omega, HI, c, rfl⟩
      case round =>
        clear HI
        obtain ⟨j, lo, hi, su, rfl, rfl, rfl, rfl, hj', hk2, HI, c, rfl⟩ := hrel
        by_cases hlt2 : j < B.length
        · obtain ⟨xA', hxA, cA0⟩ := ints_nat hA hlt
          cases hxA
          obtain ⟨xB', hxB, cB0⟩ := ints_nat hB hlt2
          cases hxB
          obtain ⟨xD', hxD, cD0, e1, e2, hix⟩ := mat_place hD HL.out hn (hAn _ (List.getElem_mem hlt)) (hBn _ (List.getElem_mem hlt2))
          cases hxD
          obtain ⟨x, hx⟩ : ∃ x, mat n D A[i] B[j] = x := ⟨_, rfl⟩
          obtain ⟨p0, hp0⟩ : ∃ p0, A[i] * n = p0 := ⟨_, rfl⟩
          have hxb := HBS.out.1 _ (HMC.out i j hlt hlt2)
          have hsb := sumL_bd (HBS.out.2 i j)
          have hsl := seen_length (mat n D) A B i j hi' hj'
          rw [← HI.out.sum] at hsb
          have hsu : su ≤ 18155136797835264 := by omega
          have hsu0 : 0 ≤ su := hsb.1
          have HN := Lib.hid (HI.out.next hlt hlt2 x hx.symm)
          rw [hx] at cD0 hxb
          rw [hp0] at cD0 e1 e2 hix
          obtain ⟨x0, hx0⟩ : ∃ x0 : Nat, A[i] = x0 := ⟨_, rfl⟩
          obtain ⟨y0, hy0⟩ : ∃ y0 : Nat, B[j] = y0 := ⟨_, rfl⟩
          rw [hx0] at cA0 e1
          rw [hy0] at cB0 e2 cD0 hix
          obtain ⟨s0, hs0⟩ : ∃ s0, p0 + y0 = s0 := ⟨_, rfl⟩
          rw [hs0] at e2 cD0 hix
          clear hs0 hx hp0 hx0 hy0 hsb hsl HI
          go_wp2
          refine wp_region_seq ([]) (53) (by kernel_rfl) (by kernel_rfl) (by kernel_rfl) ?_
          iterate 15 (refine sqB_step (fun K hK => ?_); go_simp; refine hK _ _ ?_; clear hK K)
          refine sqB_nil ?_
          go_wp2
          all_goals
            go_roundg (B.length - (j + 1))
            case measure => omega
            case rel => exact ⟨j + 1, _, _, _, rfl, rfl, rfl, by simp, by omega, rfl, dinv_if HN (by omega), _, rfl⟩
        · obtain rfl : j = B.length := by omega
          have HN : Hid (DInv (mat n D) A B (i + 1) 0 lo hi su) := by
            have h := HI.out
            exact ⟨h.lom, by have := h.lol; rwa [seen_row _ _ _ hlt (Nat.le_refl _)] at this, h.him, by have := h.hil; rwa [seen_row _ _ _ hlt (Nat.le_refl _)] at this, by have := h.sum; rwa [seen_row _ _ _ hlt (Nat.le_refl _)] at this⟩
          clear HI
          go_wp2
          go_roundg (A.length - (i + 1))
          case measure => omega
          case rel => exact ⟨i + 1, _, _, _, rfl, rfl, rfl, by simp, by omega, rfl, HN, _, rfl⟩
    · obtain rfl : i = A.length := by omega
      obtain ⟨r1, r2, r3⟩ := HI.out.done (Nat.le_refl _)
      have HR := Lib.hid (And.intro r1 (And.intro r2 r3))
      have hsb := sumL_bd (HBS.out.2 A.length 0)
      have hsl := seen_length (mat n D) A B A.length 0 (Nat.le_refl _) (Nat.zero_le _)
      rw [← HI.out.sum] at hsb
      have hsu : su ≤ 18155136797835264 := by omega
      have hsu0 : 0 ≤ su := hsb.1
      have hlo := HBS.out.1 _ HI.out.lom
      have hhi := HBS.out.1 _ HI.out.him
      have hb2 : (w1.drewN c).heap[rb]? = some (.cells #[.int .i64 0, .int .i64 0] 38 (0, 0)) := hb1
      have k0 := cell_of hb2 0
      have k1 := cell_of hb2 1
      have kf := free_of hb2
      simp only [List.getElem?_toArray, List.getElem?_cons_zero, List.getElem?_cons_succ] at k0 k1
      clear r1 r2 r3 hsb hsl HI
      obtain ⟨w2, hw2⟩ : ∃ w2, w1.drewN c = w2 := ⟨_, rfl⟩
      have HU2 := Lib.hid (show Upd (fun _ => False) w w2 by rw [← hw2]; exact HU1.out.drewN _)
      simp only [hw2] at hb2 k0 k1 kf ⊢
      clear hw2
      have hfin : ((w2.setCell ⟨rb, 0, none⟩ (.int .i64 hi)).setCell ⟨rb, 1, none⟩ (.int .i64 1)).heap[rb]? = some (.cells #[.int .i64 hi, .int .i64 1] 38 (0, 0)) := cells_set (o := 1) _ (cells_set (o := 0) _ hb2)
      have HF := Lib.hid (And.intro (cell_of hfin 0) (cell_of hfin 1))
      clear hfin hb2
      go_wp2
      obtain ⟨b0, b1⟩ := HF.out
      simp only [List.getElem?_toArray, List.getElem?_cons_zero, List.getElem?_cons_succ] at b0 b1
      refine bodyPost_ret (v := .agg #[.int .i64 hi, .int .i64 1]) (by simp [results, Try.results27, go_sem, b0, b1]) rfl ⟨?_, ?_⟩
      · have e : red (num .complete (mat n D) A B, den .complete A B) = (hi, 1) := by rw [← HR.out.2.1]; exact red_one hhi.1
        rw [e]
      · exact (HU2.out.setCell (.inr (Nat.le_of_eq HRB.out)) _).setCell (.inr (Nat.le_of_eq HRB.out)) _
set_option maxRecDepth 100000 in
set_option maxHeartbeats 2000000 in
theorem rdist_average {w : World} {aD aA aB : Option Addr} {n : Nat} {D : List Int} {A B : List Nat} (hD : IntsK .i64 w aD D) (hl : D.length = n * n) (hd : Dist n (mat n D)) (hA : IntsK .i64 w aA (natI A)) (hB : IntsK .i64 w aB (natI B))
    (hAn : ∀ x ∈ A, x < n) (hBn : ∀ x ∈ B, x < n) (hA0 : 0 < A.length) (hB0 : 0 < B.length) (hAl : A.length ≤ 128) (hBl : B.length ≤ 128) (cD cA cB : Nat) :
    Calls Try.prog 27 #[.int .i64 n, .slice aD D.length cD, .int .i64 3, .slice aA A.length cA, .slice aB B.length cB] w (RDist w .average (mat n D) A B) := by
  have hn := hd.le
  have hbd : ∀ x ∈ cross (mat n D) A B, 0 ≤ x ∧ x ≤ 1099511627776 := fun x hx => by
    obtain ⟨a, ha, b, hb, rfl⟩ := mem_cross hx
    exact hd.bd a b (hAn a ha) (hBn b hb)
  have hbs : ∀ i j, ∀ x ∈ seenL (mat n D) A B i j, 0 ≤ x ∧ x ≤ 1099511627776 := fun i j x hx => by
    obtain ⟨a, ha, b, hb, rfl⟩ := mem_seen hx
    exact hd.bd a b (hAn a ha) (hBn b hb)
  have hAB : A.length * B.length ≤ 128 * 128 := Nat.mul_le_mul hAl hBl
  have hABc : ((A.length * B.length : Nat) : Int) = (A.length : Int) * B.length := Int.natCast_mul ..
  have HL := Lib.hid hl
  have HABC := Lib.hid hABc
  have hA0I : (0 : Int) < A.length := by omega
  have hB0I : (0 : Int) < B.length := by omega
  have HBS := Lib.hid (And.intro hbd hbs)
  clear hABc hbd hbs hl
  go_enter Try.func27, Try.ntmps27
  go_wp2
  refine wp_world (fun w1 => Upd (fun _ => False) w w1 ∧ w1.heap[w.heap.size]? = some (.cells #[.int .i64 0, .int .i64 0] 38 (0, 0))) ⟨(Upd.refl _ _).alloc _, World.alloc_heap_new w _⟩ ?_
  rintro w1 ⟨hu1, hb1⟩
  replace hD := hD.upd hu1
  replace hA := hA.upd hu1
  replace hB := hB.upd hu1
  obtain ⟨rb, hrb⟩ : ∃ rb, w.heap.size = rb := ⟨_, rfl⟩
  have HRB := Lib.hid hrb
  rw [hrb] at hb1 ⊢
  have HU1 := Lib.hid hu1
  clear hu1 hrb
  obtain ⟨xA, rfl, cA0⟩ := ints_nat hA hA0
  obtain ⟨xB, rfl, cB0⟩ := ints_nat hB hB0
  obtain ⟨xD, rfl, cD0, e1, e2, hix⟩ := mat_place hD HL.out hn (hAn _ (List.getElem_mem hA0)) (hBn _ (List.getElem_mem hB0))
  have hm0 : mat n D A[0] B[0] ∈ cross (mat n D) A B := by
    simp only [cross, List.mem_flatMap, List.mem_map]
    exact ⟨_, List.getElem_mem hA0, _, List.getElem_mem hB0, rfl⟩
  have hinv : DInv (mat n D) A B 0 0 (mat n D A[0] B[0]) (mat n D A[0] B[0]) 0 := ⟨hm0, fun x hx => by rw [seen_start] at hx; (cases hx), hm0, fun x hx => by rw [seen_start] at hx; (cases hx), by rw [seen_start]; rfl⟩
  have HINV := Lib.hid hinv
  obtain ⟨v0, hv0⟩ : ∃ v0, mat n D A[0] B[0] = v0 := ⟨_, rfl⟩
  obtain ⟨p0, hp0⟩ : ∃ p0, A[0] * n = p0 := ⟨_, rfl⟩
  rw [hv0] at HINV cD0
  rw [hp0] at cD0 e1 e2 hix
  obtain ⟨x0, hx0⟩ : ∃ x0 : Nat, A[0] = x0 := ⟨_, rfl⟩
  obtain ⟨y0, hy0⟩ : ∃ y0 : Nat, B[0] = y0 := ⟨_, rfl⟩
  rw [hx0] at cA0 e1
  rw [hy0] at cB0 e2 cD0 hix
  obtain ⟨s0, hs0⟩ : ∃ s0, p0 + y0 = s0 := ⟨_, rfl⟩
  rw [hs0] at e2 cD0 hix
  rw [addZero] at cA0 cB0
  clear hinv hm0 hs0 hv0 hp0 hx0 hy0
  refine wp_region_seq ([]) (17) (by kernel_rfl) (by kernel_rfl) (by kernel_rfl) ?_
  iterate 27 (refine sqB_step (fun K hK => ?_); go_simp; refine hK _ _ ?_; clear hK K)
  refine sqB_nil ?_
  go_wp2
  clear cA0 cB0 cD0 e1 e2 hix
  have hmc : ∀ i j, (h : i < A.length) → (h2 : j < B.length) → mat n D A[i] B[j] ∈ cross (mat n D) A B := fun i j h h2 => by
    simp only [cross, List.mem_flatMap, List.mem_map]
    exact ⟨_, List.getElem_mem h, _, List.getElem_mem h2, rfl⟩
  have HMC := Lib.hid hmc
  clear hmc
  go_loopg [11, 12, 13, 14] A.length (fun k a b s v wr => ∃ (i : Nat) (lo hi su : Int), a = .int .i64 lo ∧ b = .int .i64 hi ∧ s = .int .i64 su ∧ v = .int .i64 i ∧ i ≤ A.length ∧ k = A.length - i ∧ Hid (DInv (mat n D) A B i 0 lo hi su) ∧ ∃ c, w1.drewN c = wr)
  case atStart => exact ⟨0, v0, v0, 0, rfl, rfl, rfl, rfl, Nat.zero_le _, by omega, HINV, 1, rfl⟩
  case round =>
    obtain ⟨i, lo, hi, su, rfl, rfl, rfl, rfl, hi', hk, HI, c, rfl⟩ := hrel
    by_cases hlt : i < A.length
    · go_wp2
      go_loopg [11, 12, 13, 15] B.length (fun k a b s v wr => ∃ (j : Nat) (lo hi su : Int), a = .int .i64 lo ∧ b = .int .i64 hi ∧ s = .int .i64 su ∧ v = .int .i64 j ∧ j ≤ B.length ∧ k = B.length - j ∧ Hid (DInv (mat n D) A B i j lo hi su) ∧ ∃ c, w1.drewN c = wr)
      case atStart => exact ⟨0, lo, hi, su, rfl, rfl, rfl, rfl, Nat.zero_le _, by omega, HI, c, rfl⟩
      case round =>
        clear HI
        obtain ⟨j, lo, hi, su, rfl, rfl, rfl, rfl, hj', hk2, HI, c, rfl⟩ := hrel
        by_cases hlt2 : j < B.length
        · obtain ⟨xA', hxA, cA0⟩ := ints_nat hA hlt
          cases hxA
          obtain ⟨xB', hxB, cB0⟩ := ints_nat hB hlt2
          cases hxB
          obtain ⟨xD', hxD, cD0, e1, e2, hix⟩ := mat_place hD HL.out hn (hAn _ (List.getElem_mem hlt)) (hBn _ (List.getElem_mem hlt2))
          cases hxD
          obtain ⟨x, hx⟩ : ∃ x, mat n D A[i] B[j] = x := ⟨_, rfl⟩
          obtain ⟨p0, hp0⟩ : ∃ p0, A[i] * n = p0 := ⟨_, rfl⟩
          have hxb := HBS.out.1 _ (HMC.out i j hlt hlt2)
          have hsb := sumL_bd (HBS.out.2 i j)
          have hsl := seen_length (mat n D) A B i j hi' hj'
          rw [← HI.out.sum] at hsb
          have hsu : su ≤ 18155136797835264 := by omega
          have hsu0 : 0 ≤ su := hsb.1
          have HN := Lib.hid (HI.out.next hlt hlt2 x hx.symm)
          rw [hx] at cD0 hxb
          rw [hp0] at cD0 e1 e2 hix
          obtain ⟨x0, hx0⟩ : ∃ x0 : Nat, A[i] = x0 := ⟨_, rfl⟩
          obtain ⟨y0, hy0⟩ : ∃ y0 : Nat, B[j] = y0 := ⟨_, rfl⟩
          rw [hx0] at cA0 e1
          rw [hy0] at cB0 e2 cD0 hix
          obtain ⟨s0, hs0⟩ : ∃ s0, p0 + y0 = s0 := ⟨_, rfl⟩
          rw [hs0] at e2 cD0 hix
          clear hs0 hx hp0 hx0 hy0 hsb hsl HI
          go_wp2
          refine wp_region_seq ([]) (53) (by kernel_rfl) (by kernel_rfl) (by kernel_rfl) ?_
          iterate 15 (refine sqB_step (fun K hK => ?_); go_simp; refine hK _ _ ?_; clear hK K)
          refine sqB_nil ?_
          go_wp2
          all_goals
            go_roundg (B.length - (j + 1))
            case measure => omega
            case rel => exact ⟨j + 1, _, _, _, rfl, rfl, rfl, by simp, by omega, rfl, dinv_if HN (by omega), _, rfl⟩
        · obtain rfl : j = B.length := by omega
          have HN : Hid (DInv (mat n D) A B (i + 1) 0 lo hi su) := by
            have h := HI.out
            exact ⟨h.lom, by have := h.lol; rwa [seen_row _ _ _ hlt (Nat.le_refl _)] at this, h.him, by have := h.hil; rwa [seen_row _ _ _ hlt (Nat.le_refl _)] at this, by have := h.sum; rwa [seen_row _ _ _ hlt (Nat.le_refl _)] at this⟩
          clear HI
          go_wp2
          go_roundg (A.length - (i + 1))
          case measure => omega
          case rel => exact ⟨i + 1, _, _, _, rfl, rfl, rfl, by simp, by omega, rfl, HN, _, rfl⟩
    · obtain rfl : i = A.length := by omega
      obtain ⟨r1, r2, r3⟩ := HI.out.done (Nat.le_refl _)
      have HR := Lib.hid (And.intro r1 (And.intro r2 r3))
      have hsb := sumL_bd (HBS.out.2 A.length 0)
      have hsl := seen_length (mat n D) A B A.length 0 (Nat.le_refl _) (Nat.zero_le _)
      rw [← HI.out.sum] at hsb
      have hsu : su ≤ 18155136797835264 := by omega
      have hsu0 : 0 ≤ su := hsb.1
      have hlo := HBS.out.1 _ HI.out.lom
      have hhi := HBS.out.1 _ HI.out.him
      have hb2 : (w1.drewN c).heap[rb]? = some (.cells #[.int .i64 0, .int .i64 0] 38 (0, 0)) := hb1
      have k0 := cell_of hb2 0
      have k1 := cell_of hb2 1
      have kf := free_of hb2
      simp only [List.getElem?_toArray, List.getElem?_cons_zero, List.getElem?_cons_succ] at k0 k1
      clear r1 r2 r3 hsb hsl HI
      obtain ⟨S, rfl⟩ := Int.eq_ofNat_of_zero_le hsu0
      have hlow := rlowest_any (w1.drewN c) S (A.length * B.length) (by omega) (by omega) (Nat.mul_pos hA0 hB0)
      rw [HABC.out] at hlow
      have hb1' : (A.length : Int) * B.length ≤ 16384 := by have := HABC.out; omega
      have hb0' : 0 ≤ (A.length : Int) * B.length := by have := HABC.out; omega
      have HLOW := Lib.hid hlow
      have HB2 := Lib.hid hb2
      clear hlow hb2 k0 k1 kf
      go_wp2_with fail
      refine HLOW.out.mono ?_
      rintro e w5 ⟨rfl, hu5⟩
      obtain ⟨q, hq⟩ : ∃ q, red ((S : Int), (A.length : Int) * B.length) = q := ⟨_, rfl⟩
      rw [hq]
      have HQ := Lib.hid hq
      have h5 := hu5.at HB2.out (fun h => h)
      have k0 := cell_of h5 0
      have k1 := cell_of h5 1
      have kf := free_of h5
      simp only [List.getElem?_toArray, List.getElem?_cons_zero, List.getElem?_cons_succ] at k0 k1
      have hfin : ((w5.setCell ⟨rb, 0, none⟩ (.int .i64 q.1)).setCell ⟨rb, 1, none⟩ (.int .i64 q.2)).heap[rb]? = some (.cells #[.int .i64 q.1, .int .i64 q.2] 38 (0, 0)) := cells_set (o := 1) _ (cells_set (o := 0) _ h5)
      have HF := Lib.hid (And.intro (cell_of hfin 0) (cell_of hfin 1))
      have HU5 := Lib.hid hu5
      clear hfin h5 hq hu5
      go_wp2_with fail
      obtain ⟨b0, b1⟩ := HF.out
      simp only [List.getElem?_toArray, List.getElem?_cons_zero, List.getElem?_cons_succ] at b0 b1
      refine bodyPost_ret (v := .agg #[.int .i64 q.1, .int .i64 q.2]) (by simp [results, Try.results27, go_sem, b0, b1]) rfl ⟨?_, ?_⟩
      · have e : red (num .average (mat n D) A B, den .average A B) = q := by rw [← HQ.out, ← HR.out.2.2]; rfl
        rw [e]
      · exact (((HU1.out.drewN _).trans HU5.out).setCell (.inr (Nat.le_of_eq HRB.out)) _).setCell (.inr (Nat.le_of_eq HRB.out)) _
end Go.Proofs.Ytmkggcmebeagaaa
