/- The clusters in memory: unite. -/
import Derived.Test.YtmkggcmebeagaaaLkObj
import Derived.WalkLawsBesides
namespace Go.Proofs.Ytmkggcmebeagaaa
set_option linter.unusedVariables false
set_option linter.unusedSimpArgs false
open Go.RowKit Lk

theorem lkjoin1 (w : World) (x y : Int) : Calls Try.prog 32 #[.int .i64 x, .int .i64 y] w fun e w' => e = .returned (.int .i64 (Mt.single.jnw x y)) ∧ w' = w := by
  by_cases h : x < y
  · have e : Mt.single.jnw x y = x := by simp only [Mt.jnw, Mt.jn]; rw [if_pos h]
    rw [e]
    go_enter Try.func32, Try.ntmps32
    go_wp2
    go_ret
    exact ⟨rfl, rfl⟩
  · have e : Mt.single.jnw x y = y := by simp only [Mt.jnw, Mt.jn]; rw [if_neg h]
    rw [e]
    by_cases h2 : y < x
    · go_enter Try.func32, Try.ntmps32
      go_wp2
      go_ret
      exact ⟨rfl, rfl⟩
    · obtain rfl : x = y := by omega
      go_enter Try.func32, Try.ntmps32
      go_wp2
      go_ret
      exact ⟨rfl, rfl⟩
theorem lkjoin2 (w : World) (x y : Int) : Calls Try.prog 33 #[.int .i64 x, .int .i64 y] w fun e w' => e = .returned (.int .i64 (Mt.complete.jnw x y)) ∧ w' = w := by
  by_cases h : x < y
  · have e : Mt.complete.jnw x y = y := by simp only [Mt.jnw, Mt.jn]; rw [if_pos h]
    rw [e]
    go_enter Try.func33, Try.ntmps33
    go_wp2
    go_ret
    exact ⟨rfl, rfl⟩
  · have e : Mt.complete.jnw x y = x := by simp only [Mt.jnw, Mt.jn]; rw [if_neg h]
    rw [e]
    by_cases h2 : y < x
    · go_enter Try.func33, Try.ntmps33
      go_wp2
      go_ret
      exact ⟨rfl, rfl⟩
    · obtain rfl : x = y := by omega
      go_enter Try.func33, Try.ntmps33
      go_wp2
      go_ret
      exact ⟨rfl, rfl⟩
theorem lkjoin3 (w : World) (x y : Int) : Calls Try.prog 34 #[.int .i64 x, .int .i64 y] w fun e w' => e = .returned (.int .i64 (Mt.average.jnw x y)) ∧ w' = w := by
  have hw : wrap64 (x + y) = Mt.average.jnw x y := by simp only [wrap64, Mt.jnw]
  have HW := Lib.hid hw
  clear hw
  go_enter Try.func34, Try.ntmps34
  go_wp2
  go_ret
  exact ⟨by rw [← HW.out]; rfl, rfl⟩

theorem Obj.drewN {w : World} {p : Nat} {m : Mt} {n : Nat} {c : Cl} {D : List Int} {g cap : Nat} (h : Obj w p m n c D g cap) (k : Nat) : Obj (w.drewN k) p m n c D g cap := ⟨h.blk, h.row, h.len, h.ne, h.le⟩
theorem Obj.set {w : World} {p : Nat} {m : Mt} {n : Nat} {c : Cl} {D : List Int} {g cap : Nat} (h : Obj w p m n c D g cap) (i : Nat) (x : Int) : Obj (w.setCell ⟨g, i, none⟩ (.int .i64 x)) p m n c (D.set i x) g cap :=
  ⟨(heap_set_other _ (fun e => h.ne e.symm)).trans h.blk, by rw [List.map_set]; exact h.row.set i _, by rw [List.length_set]; exact h.len, h.ne, h.le⟩
theorem Obj.set2 {w : World} {p : Nat} {m : Mt} {n : Nat} {c : Cl} {D : List Int} {g cap : Nat} (h : Obj w p m n c D g cap) (i j : Nat) (x : Int) : Obj ((w.setCell ⟨g, i, none⟩ (.int .i64 x)).setCell ⟨g, j, none⟩ (.int .i64 x)) p m n c ((D.set i x).set j x) g cap := (h.set i x).set j x
theorem Obj.unite2 {w : World} {p : Nat} {m : Mt} {n : Nat} {c : Cl} {D : List Int} {g cap : Nat} (h : Obj w p m n c D g cap) {i j : Nat} (hij : i ≠ j) (hi : i < 128) (hj : j < 128) :
    Obj ((w.setCell ⟨p, 2 + i, none⟩ (.int .i64 ((c i).length + (c j).length : Nat))).setCell ⟨p, 2 + j, none⟩ (.int .i64 0)) p m n (unite c i j) D g cap := by
  refine ⟨((h.blk.set (2 + i) _).set (2 + j) _).congr fun o ho => ?_, ?_, h.len, h.ne, h.le⟩
  · by_cases e2 : o = 2 + j
    · subst e2
      rw [if_pos rfl, objSz _ _ _ _ hj]
      rw [show Lk.unite c i j j = [] by simp only [Lk.unite, if_true]; rw [if_neg (by omega)]]; rfl
    · rw [if_neg e2]
      by_cases e1 : o = 2 + i
      · subst e1
        rw [if_pos rfl, objSz _ _ _ _ hi]
        simp [Lk.unite]
      · rw [if_neg e1]
        by_cases e3 : 2 ≤ o ∧ o < 130
        · obtain ⟨k, rfl⟩ : ∃ k, o = 2 + k := ⟨o - 2, by omega⟩
          rw [objSz _ _ _ _ (by omega), objSz _ _ _ _ (by omega)]
          simp only [Lk.unite]; rw [if_neg (by omega), if_neg (by omega)]
        · simp only [objF]
          by_cases e4 : o = 0
          · rw [if_pos e4, if_pos e4]
          · by_cases e5 : o = 1
            · rw [if_neg e4, if_pos e5, if_neg e4, if_pos e5]
            · have e6 : ¬ o < 130 := by omega
              rw [if_neg e4, if_neg e5, if_neg e6, if_neg e4, if_neg e5, if_neg e6]
  · exact (h.row.upd ((Upd.refl (fun b => b = p) w).setCell (.inl rfl) _) h.ne).upd ((Upd.refl (fun b => b = p) _).setCell (.inl rfl) _) h.ne
/-- a union in memory -/
def United (w : World) (p : Nat) (m : Mt) (n : Nat) (c : Cl) (D : List Int) (g cap i j : Nat) (e : Ending) (w' : World) : Prop :=
  e = .returned (.tuple #[]) ∧ Obj w' p m n (unite c i j) (uD m n i j D n) g cap ∧ Upd (fun b => b = p ∨ b = g) w w'

set_option maxRecDepth 100000 in
set_option maxHeartbeats 2000000 in
theorem lkunite_single {w : World} {p : Nat} {n : Nat} {c : Cl} {D : List Int} {g cap : Nat} (h : Obj w p .single n c D g cap) {i j : Nat} (hi : i < n) (hj : j < n) (hij : i ≠ j) (hl : ∀ k, (c k).length ≤ 128) :
    Calls Try.prog 25 #[.pointer (some ⟨p, 0, none⟩), .int .i64 i, .int .i64 j] w (United w p .single n c D g cap i j) := by
  have hn := h.le
  have hb : n * n ≤ 128 * 128 := Nat.mul_le_mul hn hn
  have c1 : w.cell? ⟨p, 1, none⟩ = some (.int .i64 n) := h.blk.cell (o := 1) (by omega)
  have hiI : (i : Int) ≠ j := by omega
  go_enter Try.func25, Try.ntmps25
  go_wp2
  clear c1
  go_loopg [12] n (fun u v wr => ∃ k : Nat, v = .int .i64 k ∧ k ≤ n ∧ u = n - k ∧ Obj wr p .single n c (uD .single n i j D k) g cap ∧ Upd (fun b => b = p ∨ b = g) w wr)
  case atStart => exact ⟨0, rfl, Nat.zero_le _, by omega, h, Upd.refl _ _⟩
  case round =>
    obtain ⟨k, rfl, hk, hu, ho, hupd⟩ := hrel
    by_cases hlt : k < n
    · by_cases hki : k = i
      · subst hki
        have hS : uD .single n k j D (k + 1) = uD .single n k j D k := by simp [uD, uStep]
        rw [← hS] at ho
        have HO := Lib.hid ho
        have HU := Lib.hid hupd
        clear ho hupd hS h hb
        go_wp2
        go_roundg (n - (k + 1))
        case measure => omega
        case rel => exact ⟨k + 1, by simp, by omega, rfl, HO.out, HU.out⟩
      · by_cases hkj : k = j
        · subst hkj
          have hS : uD .single n i k D (k + 1) = uD .single n i k D k := by simp [uD, uStep]
          rw [← hS] at ho
          have hiI : ((k : Int) != i) = true := by simp; omega
          have HO := Lib.hid ho
          have HU := Lib.hid hupd
          clear ho hupd hS h hb
          go_wp2
          go_roundg (n - (k + 1))
          case measure => omega
          case rel => exact ⟨k + 1, by simp, by omega, rfl, HO.out, HU.out⟩
        · have hS : uD .single n i j D (k + 1) = ((uD .single n i j D k).set (i * n + k) (Mt.jnw .single ((uD .single n i j D k).getD (i * n + k) 0) ((uD .single n i j D k).getD (j * n + k) 0))).set (k * n + i) (Mt.jnw .single ((uD .single n i j D k).getD (i * n + k) 0) ((uD .single n i j D k).getD (j * n + k) 0)) := by
            rw [uD, uStep, if_neg (by omega)]
          generalize uD .single n i j D k = E at *
          have hEl := ho.len
          have x1 := idx_lt hi hlt
          have x2 := idx_lt hj hlt
          have x3 := idx_lt hlt hi
          have cA := ho.dcell (i := i * n + k) (by omega)
          have cB := ho.dcell (i := j * n + k) (by omega)
          have cC := ho.dcell (i := k * n + i) (by omega)
          have hf := ho.row.free
          have c1 : wr.cell? ⟨p, 1, none⟩ = some (.int .i64 n) := ho.blk.cell (o := 1) (by omega)
          have cd : wr.cell? ⟨p, 130, none⟩ = some (.slice (some ⟨g, 0, none⟩) (n * n) cap) := ho.blk.cell (o := 130) (by omega)
          have cj : wr.cell? ⟨p, 131, none⟩ = some (joinFn .single) := ho.blk.cell (o := 131) (by omega)
          have hgp := ho.ne
          have hne : i * n + k ≠ k * n + i := fun e => by obtain ⟨e1, _⟩ := idx_inj hlt hi e; omega
          simp only [joinFn] at cj
          have q1 : ((i * n : Nat) : Int) = (i : Int) * n := Int.natCast_mul ..
          have q2 : ((j * n : Nat) : Int) = (j : Int) * n := Int.natCast_mul ..
          have q3 : ((k * n : Nat) : Int) = (k : Int) * n := Int.natCast_mul ..
          have w1 : IntKind.i64.wrap ((i : Int) * n) = ((i * n : Nat) : Int) := by rw [i64_in _ (by omega) (by omega)]; omega
          have w2 : IntKind.i64.wrap ((j : Int) * n) = ((j * n : Nat) : Int) := by rw [i64_in _ (by omega) (by omega)]; omega
          have w3 : IntKind.i64.wrap ((k : Int) * n) = ((k * n : Nat) : Int) := by rw [i64_in _ (by omega) (by omega)]; omega
          have v1 : IntKind.i64.wrap (((i * n : Nat) : Int) + k) = ((i * n + k : Nat) : Int) := by rw [i64_in _ (by omega) (by omega)]; omega
          have v2 : IntKind.i64.wrap (((j * n : Nat) : Int) + k) = ((j * n + k : Nat) : Int) := by rw [i64_in _ (by omega) (by omega)]; omega
          have v3 : IntKind.i64.wrap (((k * n : Nat) : Int) + i) = ((k * n + i : Nat) : Int) := by rw [i64_in _ (by omega) (by omega)]; omega
          clear q1 q2 q3 hEl
          generalize E.getD (i * n + k) 0 = x at *
          generalize E.getD (j * n + k) 0 = y at *
          generalize E.getD (k * n + i) 0 = z at *
          generalize i * n = I at *
          generalize j * n = J at *
          generalize k * n = K at *
          obtain ⟨r1, hr1⟩ : ∃ r, I + k = r := ⟨_, rfl⟩
          obtain ⟨r2, hr2⟩ : ∃ r, J + k = r := ⟨_, rfl⟩
          obtain ⟨r3, hr3⟩ : ∃ r, K + i = r := ⟨_, rfl⟩
          rw [hr1] at x1 cA v1 hne hS
          rw [hr2] at x2 cB v2
          rw [hr3] at x3 cC v3 hne hS
          obtain ⟨N, hN⟩ : ∃ N, n * n = N := ⟨_, rfl⟩
          rw [hN] at x1 x2 x3 cd hb
          clear hr1 hr2 hr3 hN
          have hki1 : ((k : Int) != i) = true := by simp; omega
          have hki2 : ((k : Int) != j) = true := by simp; omega
          have HS := Lib.hid hS
          have HO := Lib.hid ho
          have HU := Lib.hid hupd
          clear hS ho hupd h
          go_wp2
          go_quiet ((first | (go_at_call 32; exact Calls.quiet_of_same (lkjoin1 _ _ _)) | (go_at_call 33; exact Calls.quiet_of_same (lkjoin2 _ _ _)) | (go_at_call 34; exact Calls.quiet_of_same (lkjoin3 _ _ _))))
          go_wp2
          refine wp_region_seq ([]) (56) (by kernel_rfl) (by kernel_rfl) (by kernel_rfl) ?_
          iterate 30 (refine sqB_step (fun K hK => ?_); go_simp; refine hK _ _ ?_; clear hK K)
          refine sqB_nil ?_
          go_wp2
          go_roundg (n - (k + 1))
          case measure => omega
          case rel => exact ⟨k + 1, by simp, by omega, rfl, by rw [HS.out]; exact (HO.out.drewN _).set2 _ _ _, (((HU.out.drewN _).setCell (.inl (.inr rfl)) _).setCell (.inl (.inr rfl)) _)⟩
    · obtain rfl : k = n := by omega
      have ci : wr.cell? ⟨p, 2 + i, none⟩ = some (.int .i64 (c i).length) := by rw [ho.blk.cell (o := 2 + i) (by omega), objSz _ _ _ _ (by omega)]
      have cj : wr.cell? ⟨p, 2 + j, none⟩ = some (.int .i64 (c j).length) := by rw [ho.blk.cell (o := 2 + j) (by omega), objSz _ _ _ _ (by omega)]
      have hf := ho.blk.free
      have hli := hl i
      have hlj := hl j
      have w1 : IntKind.i64.wrap (((c i).length : Int) + (c j).length) = (((c i).length + (c j).length : Nat) : Int) := by rw [i64_in _ (by omega) (by omega)]; omega
      have hne : 2 + i ≠ 2 + j := by omega
      have HO := Lib.hid ho
      have HU := Lib.hid hupd
      clear ho hupd h hb hl
      obtain ⟨S, hS⟩ : ∃ S : Nat, (c i).length + (c j).length = S := ⟨_, rfl⟩
      rw [hS] at w1
      have HS := Lib.hid hS
      clear hS
      have b1 : (i : Int) < 128 := by omega
      have b2 : (j : Int) < 128 := by omega
      go_wp2
      refine wp_region_seq ([]) (85) (by kernel_rfl) (by kernel_rfl) (by kernel_rfl) ?_
      iterate 25 (refine sqB_step (fun K hK => ?_); go_simp; refine hK _ _ ?_; clear hK K)
      refine sqB_nil ?_
      go_wp2
      go_end0
      rw [← HS.out]
      exact ⟨rfl, (HO.out.unite2 hij (by omega) (by omega)).drewN 1, (((HU.out.setCell (.inl (.inl rfl)) _).setCell (.inl (.inl rfl)) _)).drew⟩
set_option maxRecDepth 100000 in
set_option maxHeartbeats 2000000 in
theorem lkunite_complete {w : World} {p : Nat} {n : Nat} {c : Cl} {D : List Int} {g cap : Nat} (h : Obj w p .complete n c D g cap) {i j : Nat} (hi : i < n) (hj : j < n) (hij : i ≠ j) (hl : ∀ k, (c k).length ≤ 128) :
    Calls Try.prog 25 #[.pointer (some ⟨p, 0, none⟩), .int .i64 i, .int .i64 j] w (United w p .complete n c D g cap i j) := by
  have hn := h.le
  have hb : n * n ≤ 128 * 128 := Nat.mul_le_mul hn hn
  have c1 : w.cell? ⟨p, 1, none⟩ = some (.int .i64 n) := h.blk.cell (o := 1) (by omega)
  have hiI : (i : Int) ≠ j := by omega
  go_enter Try.func25, Try.ntmps25
  go_wp2
  clear c1
  go_loopg [12] n (fun u v wr => ∃ k : Nat, v = .int .i64 k ∧ k ≤ n ∧ u = n - k ∧ Obj wr p .complete n c (uD .complete n i j D k) g cap ∧ Upd (fun b => b = p ∨ b = g) w wr)
  case atStart => exact ⟨0, rfl, Nat.zero_le _, by omega, h, Upd.refl _ _⟩
  case round =>
    obtain ⟨k, rfl, hk, hu, ho, hupd⟩ := hrel
    by_cases hlt : k < n
    · by_cases hki : k = i
      · subst hki
        have hS : uD .complete n k j D (k + 1) = uD .complete n k j D k := by simp [uD, uStep]
        rw [← hS] at ho
        have HO := Lib.hid ho
        have HU := Lib.hid hupd
        clear ho hupd hS h hb
        go_wp2
        go_roundg (n - (k + 1))
        case measure => omega
        case rel => exact ⟨k + 1, by simp, by omega, rfl, HO.out, HU.out⟩
      · by_cases hkj : k = j
        · subst hkj
          have hS : uD .complete n i k D (k + 1) = uD .complete n i k D k := by simp [uD, uStep]
          rw [← hS] at ho
          have hiI : ((k : Int) != i) = true := by simp; omega
          have HO := Lib.hid ho
          have HU := Lib.hid hupd
          clear ho hupd hS h hb
          go_wp2
          go_roundg (n - (k + 1))
          case measure => omega
          case rel => exact ⟨k + 1, by simp, by omega, rfl, HO.out, HU.out⟩
        · have hS : uD .complete n i j D (k + 1) = ((uD .complete n i j D k).set (i * n + k) (Mt.jnw .complete ((uD .complete n i j D k).getD (i * n + k) 0) ((uD .complete n i j D k).getD (j * n + k) 0))).set (k * n + i) (Mt.jnw .complete ((uD .complete n i j D k).getD (i * n + k) 0) ((uD .complete n i j D k).getD (j * n + k) 0)) := by
            rw [uD, uStep, if_neg (by omega)]
          generalize uD .complete n i j D k = E at *
          have hEl := ho.len
          have x1 := idx_lt hi hlt
          have x2 := idx_lt hj hlt
          have x3 := idx_lt hlt hi
          have cA := ho.dcell (i := i * n + k) (by omega)
          have cB := ho.dcell (i := j * n + k) (by omega)
          have cC := ho.dcell (i := k * n + i) (by omega)
          have hf := ho.row.free
          have c1 : wr.cell? ⟨p, 1, none⟩ = some (.int .i64 n) := ho.blk.cell (o := 1) (by omega)
          have cd : wr.cell? ⟨p, 130, none⟩ = some (.slice (some ⟨g, 0, none⟩) (n * n) cap) := ho.blk.cell (o := 130) (by omega)
          have cj : wr.cell? ⟨p, 131, none⟩ = some (joinFn .complete) := ho.blk.cell (o := 131) (by omega)
          have hgp := ho.ne
          have hne : i * n + k ≠ k * n + i := fun e => by obtain ⟨e1, _⟩ := idx_inj hlt hi e; omega
          simp only [joinFn] at cj
          have q1 : ((i * n : Nat) : Int) = (i : Int) * n := Int.natCast_mul ..
          have q2 : ((j * n : Nat) : Int) = (j : Int) * n := Int.natCast_mul ..
          have q3 : ((k * n : Nat) : Int) = (k : Int) * n := Int.natCast_mul ..
          have w1 : IntKind.i64.wrap ((i : Int) * n) = ((i * n : Nat) : Int) := by rw [i64_in _ (by omega) (by omega)]; omega
          have w2 : IntKind.i64.wrap ((j : Int) * n) = ((j * n : Nat) : Int) := by rw [i64_in _ (by omega) (by omega)]; omega
          have w3 : IntKind.i64.wrap ((k : Int) * n) = ((k * n : Nat) : Int) := by rw [i64_in _ (by omega) (by omega)]; omega
          have v1 : IntKind.i64.wrap (((i * n : Nat) : Int) + k) = ((i * n + k : Nat) : Int) := by rw [i64_in _ (by omega) (by omega)]; omega
          have v2 : IntKind.i64.wrap (((j * n : Nat) : Int) + k) = ((j * n + k : Nat) : Int) := by rw [i64_in _ (by omega) (by omega)]; omega
          have v3 : IntKind.i64.wrap (((k * n : Nat) : Int) + i) = ((k * n + i : Nat) : Int) := by rw [i64_in _ (by omega) (by omega)]; omega
          clear q1 q2 q3 hEl
          generalize E.getD (i * n + k) 0 = x at *
          generalize E.getD (j * n + k) 0 = y at *
          generalize E.getD (k * n + i) 0 = z at *
          generalize i * n = I at *
          generalize j * n = J at *
          generalize k * n = K at *
          obtain ⟨r1, hr1⟩ : ∃ r, I + k = r := ⟨_, rfl⟩
          obtain ⟨r2, hr2⟩ : ∃ r, J + k = r := ⟨_, rfl⟩
          obtain ⟨r3, hr3⟩ : ∃ r, K + i = r := ⟨_, rfl⟩
          rw [hr1] at x1 cA v1 hne hS
          rw [hr2] at x2 cB v2
          rw [hr3] at x3 cC v3 hne hS
          obtain ⟨N, hN⟩ : ∃ N, n * n = N := ⟨_, rfl⟩
          rw [hN] at x1 x2 x3 cd hb
          clear hr1 hr2 hr3 hN
          have hki1 : ((k : Int) != i) = true := by simp; omega
          have hki2 : ((k : Int) != j) = true := by simp; omega
          have HS := Lib.hid hS
          have HO := Lib.hid ho
          have HU := Lib.hid hupd
          clear hS ho hupd h
          go_wp2
          go_quiet ((first | (go_at_call 32; exact Calls.quiet_of_same (lkjoin1 _ _ _)) | (go_at_call 33; exact Calls.quiet_of_same (lkjoin2 _ _ _)) | (go_at_call 34; exact Calls.quiet_of_same (lkjoin3 _ _ _))))
          go_wp2
          refine wp_region_seq ([]) (56) (by kernel_rfl) (by kernel_rfl) (by kernel_rfl) ?_
          iterate 30 (refine sqB_step (fun K hK => ?_); go_simp; refine hK _ _ ?_; clear hK K)
          refine sqB_nil ?_
          go_wp2
          go_roundg (n - (k + 1))
          case measure => omega
          case rel => exact ⟨k + 1, by simp, by omega, rfl, by rw [HS.out]; exact (HO.out.drewN _).set2 _ _ _, (((HU.out.drewN _).setCell (.inl (.inr rfl)) _).setCell (.inl (.inr rfl)) _)⟩
    · obtain rfl : k = n := by omega
      have ci : wr.cell? ⟨p, 2 + i, none⟩ = some (.int .i64 (c i).length) := by rw [ho.blk.cell (o := 2 + i) (by omega), objSz _ _ _ _ (by omega)]
      have cj : wr.cell? ⟨p, 2 + j, none⟩ = some (.int .i64 (c j).length) := by rw [ho.blk.cell (o := 2 + j) (by omega), objSz _ _ _ _ (by omega)]
      have hf := ho.blk.free
      have hli := hl i
      have hlj := hl j
      have w1 : IntKind.i64.wrap (((c i).length : Int) + (c j).length) = (((c i).length + (c j).length : Nat) : Int) := by rw [i64_in _ (by omega) (by omega)]; omega
      have hne : 2 + i ≠ 2 + j := by omega
      have HO := Lib.hid ho
      have HU := Lib.hid hupd
      clear ho hupd h hb hl
      obtain ⟨S, hS⟩ : ∃ S : Nat, (c i).length + (c j).length = S := ⟨_, rfl⟩
      rw [hS] at w1
      have HS := Lib.hid hS
      clear hS
      have b1 : (i : Int) < 128 := by omega
      have b2 : (j : Int) < 128 := by omega
      go_wp2
      refine wp_region_seq ([]) (85) (by kernel_rfl) (by kernel_rfl) (by kernel_rfl) ?_
      iterate 25 (refine sqB_step (fun K hK => ?_); go_simp; refine hK _ _ ?_; clear hK K)
      refine sqB_nil ?_
      go_wp2
      go_end0
      rw [← HS.out]
      exact ⟨rfl, (HO.out.unite2 hij (by omega) (by omega)).drewN 1, (((HU.out.setCell (.inl (.inl rfl)) _).setCell (.inl (.inl rfl)) _)).drew⟩
set_option maxRecDepth 100000 in
set_option maxHeartbeats 2000000 in
theorem lkunite_average {w : World} {p : Nat} {n : Nat} {c : Cl} {D : List Int} {g cap : Nat} (h : Obj w p .average n c D g cap) {i j : Nat} (hi : i < n) (hj : j < n) (hij : i ≠ j) (hl : ∀ k, (c k).length ≤ 128) :
    Calls Try.prog 25 #[.pointer (some ⟨p, 0, none⟩), .int .i64 i, .int .i64 j] w (United w p .average n c D g cap i j) := by
  have hn := h.le
  have hb : n * n ≤ 128 * 128 := Nat.mul_le_mul hn hn
  have c1 : w.cell? ⟨p, 1, none⟩ = some (.int .i64 n) := h.blk.cell (o := 1) (by omega)
  have hiI : (i : Int) ≠ j := by omega
  go_enter Try.func25, Try.ntmps25
  go_wp2
  clear c1
  go_loopg [12] n (fun u v wr => ∃ k : Nat, v = .int .i64 k ∧ k ≤ n ∧ u = n - k ∧ Obj wr p .average n c (uD .average n i j D k) g cap ∧ Upd (fun b => b = p ∨ b = g) w wr)
  case atStart => exact ⟨0, rfl, Nat.zero_le _, by omega, h, Upd.refl _ _⟩
  case round =>
    obtain ⟨k, rfl, hk, hu, ho, hupd⟩ := hrel
    by_cases hlt : k < n
    · by_cases hki : k = i
      · subst hki
        have hS : uD .average n k j D (k + 1) = uD .average n k j D k := by simp [uD, uStep]
        rw [← hS] at ho
        have HO := Lib.hid ho
        have HU := Lib.hid hupd
        clear ho hupd hS h hb
        go_wp2
        go_roundg (n - (k + 1))
        case measure => omega
        case rel => exact ⟨k + 1, by simp, by omega, rfl, HO.out, HU.out⟩
      · by_cases hkj : k = j
        · subst hkj
          have hS : uD .average n i k D (k + 1) = uD .average n i k D k := by simp [uD, uStep]
          rw [← hS] at ho
          have hiI : ((k : Int) != i) = true := by simp; omega
          have HO := Lib.hid ho
          have HU := Lib.hid hupd
          clear ho hupd hS h hb
          go_wp2
          go_roundg (n - (k + 1))
          case measure => omega
          case rel => exact ⟨k + 1, by simp, by omega, rfl, HO.out, HU.out⟩
        · have hS : uD .average n i j D (k + 1) = ((uD .average n i j D k).set (i * n + k) (Mt.jnw .average ((uD .average n i j D k).getD (i * n + k) 0) ((uD .average n i j D k).getD (j * n + k) 0))).set (k * n + i) (Mt.jnw .average ((uD .average n i j D k).getD (i * n + k) 0) ((uD .average n i j D k).getD (j * n + k) 0)) := by
            rw [uD, uStep, if_neg (by omega)]
          generalize uD .average n i j D k = E at *
          have hEl := ho.len
          have x1 := idx_lt hi hlt
          have x2 := idx_lt hj hlt
          have x3 := idx_lt hlt hi
          have cA := ho.dcell (i := i * n + k) (by omega)
          have cB := ho.dcell (i := j * n + k) (by omega)
          have cC := ho.dcell (i := k * n + i) (by omega)
          have hf := ho.row.free
          have c1 : wr.cell? ⟨p, 1, none⟩ = some (.int .i64 n) := ho.blk.cell (o := 1) (by omega)
          have cd : wr.cell? ⟨p, 130, none⟩ = some (.slice (some ⟨g, 0, none⟩) (n * n) cap) := ho.blk.cell (o := 130) (by omega)
          have cj : wr.cell? ⟨p, 131, none⟩ = some (joinFn .average) := ho.blk.cell (o := 131) (by omega)
          have hgp := ho.ne
          have hne : i * n + k ≠ k * n + i := fun e => by obtain ⟨e1, _⟩ := idx_inj hlt hi e; omega
          simp only [joinFn] at cj
          have q1 : ((i * n : Nat) : Int) = (i : Int) * n := Int.natCast_mul ..
          have q2 : ((j * n : Nat) : Int) = (j : Int) * n := Int.natCast_mul ..
          have q3 : ((k * n : Nat) : Int) = (k : Int) * n := Int.natCast_mul ..
          have w1 : IntKind.i64.wrap ((i : Int) * n) = ((i * n : Nat) : Int) := by rw [i64_in _ (by omega) (by omega)]; omega
          have w2 : IntKind.i64.wrap ((j : Int) * n) = ((j * n : Nat) : Int) := by rw [i64_in _ (by omega) (by omega)]; omega
          have w3 : IntKind.i64.wrap ((k : Int) * n) = ((k * n : Nat) : Int) := by rw [i64_in _ (by omega) (by omega)]; omega
          have v1 : IntKind.i64.wrap (((i * n : Nat) : Int) + k) = ((i * n + k : Nat) : Int) := by rw [i64_in _ (by omega) (by omega)]; omega
          have v2 : IntKind.i64.wrap (((j * n : Nat) : Int) + k) = ((j * n + k : Nat) : Int) := by rw [i64_in _ (by omega) (by omega)]; omega
          have v3 : IntKind.i64.wrap (((k * n : Nat) : Int) + i) = ((k * n + i : Nat) : Int) := by rw [i64_in _ (by omega) (by omega)]; omega
          clear q1 q2 q3 hEl
          generalize E.getD (i * n + k) 0 = x at *
          generalize E.getD (j * n + k) 0 = y at *
          generalize E.getD (k * n + i) 0 = z at *
          generalize i * n = I at *
          generalize j * n = J at *
          generalize k * n = K at *
          obtain ⟨r1, hr1⟩ : ∃ r, I + k = r := ⟨_, rfl⟩
          obtain ⟨r2, hr2⟩ : ∃ r, J + k = r := ⟨_, rfl⟩
          obtain ⟨r3, hr3⟩ : ∃ r, K + i = r := ⟨_, rfl⟩
          rw [hr1] at x1 cA v1 hne hS
          rw [hr2] at x2 cB v2
          rw [hr3] at x3 cC v3 hne hS
          obtain ⟨N, hN⟩ : ∃ N, n * n = N := ⟨_, rfl⟩
          rw [hN] at x1 x2 x3 cd hb
          clear hr1 hr2 hr3 hN
          have hki1 : ((k : Int) != i) = true := by simp; omega
          have hki2 : ((k : Int) != j) = true := by simp; omega
          have HS := Lib.hid hS
          have HO := Lib.hid ho
          have HU := Lib.hid hupd
          clear hS ho hupd h
          go_wp2
          go_quiet ((first | (go_at_call 32; exact Calls.quiet_of_same (lkjoin1 _ _ _)) | (go_at_call 33; exact Calls.quiet_of_same (lkjoin2 _ _ _)) | (go_at_call 34; exact Calls.quiet_of_same (lkjoin3 _ _ _))))
          go_wp2
          refine wp_region_seq ([]) (56) (by kernel_rfl) (by kernel_rfl) (by kernel_rfl) ?_
          iterate 30 (refine sqB_step (fun K hK => ?_); go_simp; refine hK _ _ ?_; clear hK K)
          refine sqB_nil ?_
          go_wp2
          go_roundg (n - (k + 1))
          case measure => omega
          case rel => exact ⟨k + 1, by simp, by omega, rfl, by rw [HS.out]; exact (HO.out.drewN _).set2 _ _ _, (((HU.out.drewN _).setCell (.inl (.inr rfl)) _).setCell (.inl (.inr rfl)) _)⟩
    · obtain rfl : k = n := by omega
      have ci : wr.cell? ⟨p, 2 + i, none⟩ = some (.int .i64 (c i).length) := by rw [ho.blk.cell (o := 2 + i) (by omega), objSz _ _ _ _ (by omega)]
      have cj : wr.cell? ⟨p, 2 + j, none⟩ = some (.int .i64 (c j).length) := by rw [ho.blk.cell (o := 2 + j) (by omega), objSz _ _ _ _ (by omega)]
      have hf := ho.blk.free
      have hli := hl i
      have hlj := hl j
      have w1 : IntKind.i64.wrap (((c i).length : Int) + (c j).length) = (((c i).length + (c j).length : Nat) : Int) := by rw [i64_in _ (by omega) (by omega)]; omega
      have hne : 2 + i ≠ 2 + j := by omega
      have HO := Lib.hid ho
      have HU := Lib.hid hupd
      clear ho hupd h hb hl
      obtain ⟨S, hS⟩ : ∃ S : Nat, (c i).length + (c j).length = S := ⟨_, rfl⟩
      rw [hS] at w1
      have HS := Lib.hid hS
      clear hS
      have b1 : (i : Int) < 128 := by omega
      have b2 : (j : Int) < 128 := by omega
      go_wp2
      refine wp_region_seq ([]) (85) (by kernel_rfl) (by kernel_rfl) (by kernel_rfl) ?_
      iterate 25 (refine sqB_step (fun K hK => ?_); go_simp; refine hK _ _ ?_; clear hK K)
      refine sqB_nil ?_
      go_wp2
      go_end0
      rw [← HS.out]
      exact ⟨rfl, (HO.out.unite2 hij (by omega) (by omega)).drewN 1, (((HU.out.setCell (.inl (.inl rfl)) _).setCell (.inl (.inl rfl)) _)).drew⟩
theorem lkunite_any (m : Mt) {w : World} {p : Nat} {n : Nat} {c : Cl} {D : List Int} {g cap : Nat} (h : Obj w p m n c D g cap) {i j : Nat} (hi : i < n) (hj : j < n) (hij : i ≠ j) (hl : ∀ k, (c k).length ≤ 128) :
    Calls Try.prog 25 #[.pointer (some ⟨p, 0, none⟩), .int .i64 i, .int .i64 j] w (United w p m n c D g cap i j) := by
  cases m
  · exact lkunite_single h hi hj hij hl
  · exact lkunite_complete h hi hj hij hl
  · exact lkunite_average h hi hj hij hl
end Go.Proofs.Ytmkggcmebeagaaa
