/- points: a matrix of distances out of numbers. -/
import Derived.Test.YtmkggcmebeagaaaLkSame
import Derived.OwnWalk
namespace Go.Proofs.Ytmkggcmebeagaaa
set_option linter.unusedVariables false
set_option linter.unusedSimpArgs false
open Go.RowKit Lk

theorem RowAt.of_made {w : World} {n₀ : Nat} {E : TypeId} {g c n : Nat} {xs : List Value} (h : w.ownsRow n₀ E 1 (.slice (some ⟨g, 0, none⟩) n c) n xs) : RowAt w g E xs := by
  obtain ⟨hl, ⟨h0, _⟩ | ⟨g', cap, cur, hv, hgb, hg, _, _, _, ht⟩⟩ := h
  · cases h0
  · cases hv
    exact ⟨cur, hg, by rw [hl]; simpa using ht⟩
theorem RowAt.ints {w : World} {g : Nat} {l : List Int} {k : IntKind} {E : TypeId} (h : RowAt w g E (l.map (Value.int k))) (hl : l.length ≤ 9223372036854775807) : IntsK k w (some ⟨g, 0, none⟩) l :=
  ⟨fun i hi => ⟨_, rfl, by rw [addAt, h.cell (by simpa using hi)]; simp⟩, hl⟩
namespace Lk
/-- a matrix of distances, as far as it has been made -/
structure PInv (n : Nat) (l : List Int) (D : List Int) (i j : Nat) : Prop where
  len : D.length = n * n
  sym : Sym n D
  rng : InR D
  one : ∀ x, l = [x] → ∀ a b, a < b → b < n → (a < i ∨ a = i ∧ b < j) → D.getD (a * n + b) 0 = x % 1099511627777
theorem inR_set {D : List Int} {p : Nat} {v : Int} (h : InR D) (hv : 0 ≤ v ∧ v ≤ 1099511627776) : InR (D.set p v) := fun x hx => by
  rcases List.mem_or_eq_of_mem_set hx with hx | rfl
  · exact h x hx
  · exact hv
theorem set2_get {n : Nat} {D : List Int} (hD : D.length = n * n) {i j : Nat} (hi : i < n) (hj : j < n) (v : Int) {a b : Nat} (ha : a < n) (hb : b < n) :
    ((D.set (i * n + j) v).set (j * n + i) v).getD (a * n + b) 0 = if (a = i ∧ b = j) ∨ (a = j ∧ b = i) then v else D.getD (a * n + b) 0 := by
  have l1 := idx_lt hi hj
  have l2 := idx_lt hj hi
  rw [getD_set, getD_set, List.length_set, hD]
  by_cases e1 : j * n + i = a * n + b
  · obtain ⟨rfl, rfl⟩ := idx_inj hi hb e1
    rw [if_pos ⟨rfl, l2⟩, if_pos (.inr ⟨rfl, rfl⟩)]
  · rw [if_neg (fun h => e1 h.1)]
    by_cases e2 : i * n + j = a * n + b
    · obtain ⟨rfl, rfl⟩ := idx_inj hj hb e2
      rw [if_pos ⟨rfl, l1⟩, if_pos (.inl ⟨rfl, rfl⟩)]
    · rw [if_neg (fun h => e2 h.1), if_neg]
      rintro (⟨rfl, rfl⟩ | ⟨rfl, rfl⟩)
      · exact e2 rfl
      · exact e1 rfl
theorem PInv.next {n : Nat} {l D : List Int} {i j : Nat} (h : PInv n l D i j) (hij : i < j) (hj : j < n) {v : Int} (hv : 0 ≤ v ∧ v ≤ 1099511627776) (ho : ∀ x, l = [x] → v = x % 1099511627777) :
    PInv n l ((D.set (i * n + j) v).set (j * n + i) v) i (j + 1) := by
  have hi : i < n := by omega
  refine ⟨by simp [h.len], fun a ha b hb => ?_, inR_set (inR_set h.rng hv) hv, fun x hx a b hab hb hd => ?_⟩
  · obtain ⟨h1, h2⟩ := h.sym a ha b hb
    refine ⟨?_, fun e => ?_⟩
    · rw [set2_get h.len hi hj v ha hb, set2_get h.len hi hj v hb ha, h1]
      by_cases c : (a = i ∧ b = j) ∨ (a = j ∧ b = i)
      · rw [if_pos c, if_pos (by omega)]
      · rw [if_neg c, if_neg (by omega)]
    · rw [set2_get h.len hi hj v ha hb, if_neg (by omega)]
      exact h2 e
  · rw [set2_get h.len hi hj v (by omega) hb]
    by_cases c : (a = i ∧ b = j) ∨ (a = j ∧ b = i)
    · rw [if_pos c]; exact ho x hx
    · rw [if_neg c]; exact h.one x hx a b hab hb (by omega)
theorem PInv.start (n : Nat) (l : List Int) : PInv n l (List.replicate (n * n) 0) 0 1 := by
  have g : ∀ k, (List.replicate (n * n) (0 : Int)).getD k 0 = 0 := fun k => by
    simp only [List.getD_eq_getElem?_getD, List.getElem?_replicate]; split <;> rfl
  refine ⟨by simp, fun a _ b _ => ⟨by rw [g, g], fun _ => g _⟩, fun x hx => ?_, fun x _ a b _ _ hd => by omega⟩
  have := List.eq_of_mem_replicate hx
  omega
theorem PInv.row {n : Nat} {l D : List Int} {i : Nat} (h : PInv n l D i n) : PInv n l D (i + 1) (i + 1 + 1) := ⟨h.len, h.sym, h.rng, fun x hx a b hab hb hd => h.one x hx a b hab hb (by omega)⟩
end Lk
theorem made_zero (N : Nat) : (madeCells (Value.int .i64 0).cells (N * 1)).toList = (List.replicate N (0 : Int)).map (Value.int .i64) := by
  rw [List.map_replicate]
  refine List.eq_replicate_iff.2 ⟨by simp [madeCells], fun b hb => ?_⟩
  simp only [madeCells, Array.toList_map, List.mem_map] at hb
  obtain ⟨x, _, rfl⟩ := hb
  simp [Nat.mod_one, Value.cells]
/-- what points makes -/
def Pointed (w : World) (n : Nat) (l : List Int) (e : Ending) (w' : World) : Prop :=
  ∃ g D, e = .returned (.slice (some ⟨g, 0, none⟩) (n * n) (n * n)) ∧ w.heap.size ≤ g ∧ RowAt w' g 2 (D.map (Value.int .i64)) ∧ Upd (fun _ => False) w w' ∧ D.length = n * n ∧ Sym n D ∧ InR D ∧
    ∀ x, l = [x] → ∀ a b, a < n → b < n → a ≠ b → D.getD (a * n + b) 0 = x % 1099511627777

set_option maxRecDepth 100000 in
set_option maxHeartbeats 2000000 in
theorem points_any {w : World} {a : Option Addr} {l : List Int} (h : IntsK .u64 w a l) (h64 : ∀ x ∈ l, 0 ≤ x ∧ x < 18446744073709551616) (cap n : Nat) (hn : n ≤ 128) :
    Calls Try.prog 14 #[.int .i64 n, .slice a l.length cap] w (Pointed w n l) := by
  obtain ⟨i0, hi, hz0, hz1, hz2⟩ := info_parts i64_info
  have hml : (maxLen : Nat) = 9223372036854775807 := by decide
  have hb : n * n ≤ 128 * 128 := Nat.mul_le_mul hn hn
  have hcast : ((n * n : Nat) : Int) = (n : Int) * n := Int.natCast_mul ..
  have e0 : wrap64 ((n : Int) * n) = ((n * n : Nat) : Int) := by rw [w64_in _ (by omega) (by omega)]; omega
  have hle := h.len
  obtain ⟨N, hN⟩ : ∃ N, n * n = N := ⟨_, rfl⟩
  have HN := Lib.hid hN
  rw [hN] at e0 hb
  clear hcast hN
  go_enter Try.func14, Try.ntmps14
  go_wp2_with (refine wpList_make_full _ rfl _ _ 22 rfl w.heap.size 2 i0 _ 1 Try.underlying22 hi hz0 hz1 _ _ _ _ N rfl rfl e0 e0 (by rw [hz2]; omega) (by omega) (Nat.le_refl _) ?_; intro w1 hown hg1)
  have hrow := RowAt.of_made hown
  have hu1 : Upd (fun _ => False) w w1 := (Upd.refl _ _).grownFar hg1 (fun r e => by cases e)
  rw [made_zero] at hrow
  obtain ⟨g, hgg⟩ : ∃ g, w.heap.size = g := ⟨_, rfl⟩
  rw [hgg] at hrow ⊢
  have HG := Lib.hid hgg
  have hlb : ∀ x, a = some x → 0 < l.length → x.block ≠ g := fun x hx h0 e => by have := h.lt x hx h0; omega
  have HLB := Lib.hid hlb
  clear hlb
  have HU1 := Lib.hid hu1
  have hl1 := h.upd hu1
  have hinv : PInv n l (List.replicate N 0) 0 1 := by rw [← HN.out]; exact PInv.start n l
  have HINV := Lib.hid hinv
  have HRW := Lib.hid hrow
  clear hown hg1 hgg hu1 h hi hz0 hz1 hz2 hinv hrow
  go_loopg [6, 7] n (fun k u v wr => ∃ (i c : Nat) (D : List Int), u = .int .i64 c ∧ v = .int .i64 i ∧ i ≤ n ∧ c ≤ i * 128 ∧ k = n - i ∧ Hid (PInv n l D i (i + 1)) ∧ RowAt wr g 2 (D.map (Value.int .i64)) ∧ Upd (fun b => b = g) w1 wr)
  case atStart => exact ⟨0, 0, _, rfl, rfl, Nat.zero_le _, by omega, by omega, HINV, by simpa using HRW.out, Upd.refl _ _⟩
  case round =>
    clear HINV HRW
    obtain ⟨i, c, D, rfl, rfl, hin, hc, hk, HI, hrow, hu⟩ := hrel
    by_cases hlt : i < n
    · go_wp2
      go_loopg [6, 8] (n - (i + 1)) (fun k u v wr => ∃ (j c : Nat) (D : List Int), u = .int .i64 c ∧ v = .int .i64 j ∧ i < j ∧ j ≤ n ∧ c ≤ i * 128 + j ∧ k = n - j ∧ Hid (PInv n l D i j) ∧ RowAt wr g 2 (D.map (Value.int .i64)) ∧ Upd (fun b => b = g) w1 wr)
      case atStart => exact ⟨i + 1, c, D, rfl, by simp, by omega, by omega, by omega, by omega, HI, hrow, hu⟩
      case round =>
        clear HI hrow hu hc
        obtain ⟨j, c, D, rfl, rfl, hij, hjn, hc, hk2, HI, hrow, hu⟩ := hrel
        by_cases hlt2 : j < n
        · have x1 : i * n + j < N := by rw [← HN.out]; exact idx_lt hlt hlt2
          have x2 : j * n + i < N := by rw [← HN.out]; exact idx_lt hlt2 hlt
          have hDl : (D.map (Value.int .i64)).length = N := by rw [List.length_map, HI.out.len, HN.out]
          have q1 : ((i * n : Nat) : Int) = (i : Int) * n := Int.natCast_mul ..
          have q2 : ((j * n : Nat) : Int) = (j : Int) * n := Int.natCast_mul ..
          have b1 : 0 ≤ (i : Int) * n := by omega
          have b2 : (i : Int) * n + j < N := by omega
          have b3 : 0 ≤ (j : Int) * n := by omega
          have b4 : (j : Int) * n + i < N := by omega
          have hne : i * n + j ≠ j * n + i := fun e => by obtain ⟨e1, _⟩ := idx_inj hlt2 hlt e; omega
          clear q1 q2
          have cA := hrow.cell (i := i * n + j) (by omega)
          have cB := hrow.cell (i := j * n + i) (by omega)
          have hf := hrow.free
          have hrange : ∀ k, (hk : k < D.length) → 0 ≤ D[k] ∧ D[k] ≤ 1099511627776 := fun k hk => HI.out.rng _ (List.getElem_mem hk)
          have hDl' : D.length = N := by simpa using hDl
          simp only [List.getElem_map] at cA cB
          by_cases hl0 : l.length = 0
          · have hv := hrange (i * n + j) (by omega)
            obtain ⟨v, hvv⟩ : ∃ v, D[i * n + j]'(by omega) = v := ⟨_, rfl⟩
            rw [hvv] at hv cA
            obtain ⟨z, hz⟩ : ∃ z, D[j * n + i]'(by omega) = z := ⟨_, rfl⟩
            rw [hz] at cB
            clear hz
            have hself : D.set (i * n + j) v = D := by rw [← hvv]; exact List.set_getElem_self _
            have HN2 := HI.out.next hij hlt2 (v := v) hv (fun x hx => by rw [hx] at hl0; cases hl0)
            rw [hself] at HN2
            have HN3 := Lib.hid HN2
            have hl0' : (l.length : Int) = 0 := by omega
            have HRO := Lib.hid (And.intro hrow hu)
            clear HN2 hself hvv hrange hDl hDl' hrow hu hl1 HI h64
            go_wp2
            go_roundg (n - (j + 1))
            case measure => omega
            case rel => exact ⟨j + 1, c + 1, _, by simp, by simp, by omega, by omega, by omega, rfl, HN3, by rw [List.map_set]; exact HRO.out.1.set _ _, HRO.out.2.setB _ _⟩
          · have hpos : 0 < l.length := by omega
            have hm : c % l.length < l.length := Nat.mod_lt _ hpos
            obtain ⟨ad, rfl, cl⟩ := (hl1.updS hu HLB.out).cell _ hm
            have hx := h64 _ (List.getElem_mem hm)
            have hone : ∀ x, l = [x] → l[c % l.length] = x := fun x hx => by subst hx; simp
            obtain ⟨x, hxx⟩ : ∃ x, l[c % l.length] = x := ⟨_, rfl⟩
            rw [hxx] at cl hx hone
            obtain ⟨z, hz⟩ : ∃ z, D[j * n + i]'(by omega) = z := ⟨_, rfl⟩
            rw [hz] at cB
            obtain ⟨z', hz'⟩ : ∃ z', D[i * n + j]'(by omega) = z' := ⟨_, rfl⟩
            rw [hz'] at cA
            clear hz hz'
            have hx0 := hx.1
            have hx1 := hx.2
            have HN2 := HI.out.next hij hlt2 (v := x % 1099511627777) (by omega) (fun y hy => by rw [hone y hy])
            have HN3 := Lib.hid HN2
            have HRO := Lib.hid (And.intro hrow hu)
            clear HN2 hone hxx hrange hDl hDl' hrow hu hl1 HI hx h64
            go_wp2
            go_roundg (n - (j + 1))
            case measure => omega
            case rel => exact ⟨j + 1, c + 1, _, by simp, by simp, by omega, by omega, by omega, rfl, HN3, by rw [List.map_set, List.map_set]; exact (HRO.out.1.set _ _).set _ _, (HRO.out.2.setB _ _).setB _ _⟩
        · obtain rfl : j = n := by omega
          have HN := Lib.hid HI.out.row
          have HRO := Lib.hid (And.intro hrow hu)
          clear HI hrow hu
          go_wp2
          go_roundg (j - (i + 1))
          case measure => omega
          case rel => exact ⟨i + 1, c, D, rfl, by simp, by omega, by omega, rfl, HN, HRO.out.1, HRO.out.2⟩
    · obtain rfl : i = n := by omega
      have HRO := Lib.hid (And.intro hrow hu)
      clear hrow hu
      go_wp2
      go_ret
      have hN := HN.out
      refine ⟨g, D, by rw [hN]; rfl, by have := HG.out; omega, HRO.out.1, HU1.out.then HRO.out.2 (fun k hk e => by have := HG.out; omega), HI.out.len, HI.out.sym, HI.out.rng, fun x hx a b ha hb hab => ?_⟩
      rcases Nat.lt_or_gt_of_ne hab with h | h
      · exact HI.out.one x hx a b h hb (by omega)
      · rw [(HI.out.sym a ha b hb).1]; exact HI.out.one x hx b a h ha (by omega)
end Go.Proofs.Ytmkggcmebeagaaa
