/- Between, walked: behind start. -/
import Derived.Test.YtmkggcmebeagaaaLkBet2
import Derived.Deep.RegionHeld3
namespace Go.Proofs.Ytmkggcmebeagaaa
set_option linter.unusedVariables false
set_option linter.unusedSimpArgs false
open Go.RowKit Lk

theorem index2_0 (a b : Option Addr) (l k c d : Nat) (w : World) : (Instr.index 72 (.agg #[.slice a l c, .slice b k d]) (.int .i64 0)).run Try.prog w = .ok (.slice a l c) w := by kernel_rfl
theorem index2_1 (a b : Option Addr) (l k c d : Nat) (w : World) : (Instr.index 72 (.agg #[.slice a l c, .slice b k d]) (.int .i64 1)).run Try.prog w = .ok (.slice b k d) w := by kernel_rfl
theorem addSucc (x : Addr) (j : Nat) : (⟨x.block, x.off + 1 + j, none⟩ : Addr) = x.add (j + 1) := by
  simp [Addr.add]; omega
theorem Upd.keepCell {S : Nat → Prop} {w w' : World} (h : Upd S w w') {x : Addr} {v : Value} (hc : w.cell? x = some v) (hS : ¬ S x.block) : w'.cell? x = some v :=
  (World.cell?_of_block (h.block _ (World.block_lt_of_cell? w _ hc) hS)).trans hc
/-- what Between answers, when start has answered -/
def BetM (w : World) (m : Mt) (n : Nat) (D A B : List Int) (e : Ending) (w' : World) : Prop :=
  (¬ inN n (A ++ B) ∧ NoBet w 3 e w') ∨ (inN n (A ++ B) ∧ (A = [] ∨ B = [] ∨ ¬ (A ++ B).Nodup) ∧ NoBet w 2 e w') ∨
  (inN n (A ++ B) ∧ A ≠ [] ∧ B ≠ [] ∧ (A ++ B).Nodup ∧ e = .returned (.tuple #[.agg #[.int .i64 (btF n D m A B).1, .int .i64 (btF n D m A B).2], .int .i64 0]) ∧ Upd (fun _ => False) w w')
theorem BetM.rng {w : World} {m : Mt} {n : Nat} {D A B : List Int} {e : Ending} {w' : World} (h : ¬ inN n (A ++ B)) (k : NoBet w 3 e w') : BetM w m n D A B e w' := .inl ⟨h, k⟩
theorem BetM.arg {w : World} {m : Mt} {n : Nat} {D A B : List Int} {e : Ending} {w' : World} (h : inN n (A ++ B)) (h2 : A = [] ∨ B = [] ∨ ¬ (A ++ B).Nodup) (k : NoBet w 2 e w') : BetM w m n D A B e w' := .inr (.inl ⟨h, h2, k⟩)
theorem BetM.ok {w : World} {m : Mt} {n : Nat} {D A B : List Int} {w' : World} {v1 v2 : Int} (h : inN n (A ++ B)) (ha : A ≠ []) (hb : B ≠ []) (hn : (A ++ B).Nodup) (hv : btF n D m A B = (v1, v2)) (k : Upd (fun _ => False) w w') :
    BetM w m n D A B (.returned (.tuple #[.agg #[.int .i64 v1, .int .i64 v2], .int .i64 0])) w' := .inr (.inr ⟨h, ha, hb, hn, by rw [hv], k⟩)
set_option maxRecDepth 100000 in
set_option maxHeartbeats 4000000 in
theorem lkbet_main (m : Mt) {w : World} {a aA aB : Option Addr} {D A B : List Int} (h : IntsK .i64 w a D) (hA : IntsK .i64 w aA A) (hB : IntsK .i64 w aB B) (cap cA cB n : Nat) (hcA : A.length ≤ cA) (hcB : B.length ≤ cB) (hn : n ≤ 128) (hl : D.length = n * n) (hok : checkS n D = 0) (hd : Dist n (mat n D)) :
    Calls Try.prog 15 #[.int .i64 n, .slice a D.length cap, .int .i64 m.num, .slice aA A.length cA, .slice aB B.length cB] w (BetM w m n D A B) := by
  obtain ⟨i0, hi, hz0, hz1, hz2⟩ := info_parts bool_info
  have hml : (maxLen : Nat) = 9223372036854775807 := by decide
  have hla := hA.len
  have hlb := hB.len
  have HH := Lib.hid (And.intro h (And.intro hok hl))
  have HD := Lib.hid hd
  clear h hok hl hd
  go_enter Try.func15, Try.ntmps15
  go_wp2_with fail
  refine calls_world (fun w1 => CB w1 w.heap.size 38 2 (fun _ => .int .i64 0) ∧ Upd (fun _ => False) w w1) ⟨CB.new _ _ _ _ rfl, (Upd.refl _ _).alloc _⟩ ?_
  rintro w1 ⟨hc, hu⟩
  refine (lkstart_ok m (HH.out.1.upd hu) cap n HH.out.2.1 hn HH.out.2.2).mono ?_
  rintro e w2 ⟨p, rfl, hu2, hp, hobj⟩
  generalize m.num = mm at *
  go_wp2_with (refine wpList_make_full _ rfl _ _ 71 rfl w2.heap.size 4 i0 _ 1 Try.underlying71 hi hz0 hz1 _ _ _ _ n rfl rfl rfl rfl (by rw [hz2]; omega) (by omega) (Nat.le_refl _) ?_; intro w3 hown hg3)
  have hrow := RowAt.of_made hown
  rw [made_false] at hrow
  have hu3 : Upd (fun _ => False) w2 w3 := (Upd.refl _ _).grownFar hg3 (fun r e => by cases e)
  obtain ⟨r, hr⟩ : ∃ r, w2.heap.size = r := ⟨_, rfl⟩
  obtain ⟨q, hq⟩ : ∃ q, w.heap.size = q := ⟨_, rfl⟩
  have HLTA := Lib.hid hA.lt
  have HLTB := Lib.hid hB.lt
  have HQ := Lib.hid hq
  rw [hr] at hrow ⊢
  rw [hq] at hc ⊢
  have HR := Lib.hid hr
  have HL1 := Lib.hid (show q < w1.heap.size from hc.lt)
  have HU23 := Lib.hid hu3
  have HDL := Lib.hid HH.out.2.2
  have hc3 := (hc.upd hu2 (fun h => h)).upd hu3 (fun h => h)
  have hqr : q < r := by have := (hc.upd hu2 (fun h => h)).lt; omega
  have HOB := Lib.hid hobj
  have HC := Lib.hid hc3
  have HU := Lib.hid ((hu.trans hu2).trans hu3)
  have HLA := Lib.hid (((hA.upd hu).upd hu2).upd hu3)
  have HLB := Lib.hid (((hB.upd hu).upd hu2).upd hu3)
  have HS0 := Lib.hid (Seen.start n)
  have HB0 := Lib.hid (And.intro hrow (Upd.refl (fun b => b = r) w3))
  clear hown hg3 hrow hobj hc hc3 hu hu2 hu3 hA hB hi hz0 hz1 hz2 HH
  go_wp2_with fail
  go_loopg [41, 15] 2 (fun k v u wr => ∃ (P : List Int) (Z : List Bool) (t : Bool), u = .bool t ∧ (v = .int .i64 0 ∧ P = [] ∧ k = 2 ∨ v = .int .i64 1 ∧ P = A ∧ k = 1 ∨ v = .int .i64 2 ∧ P = A ++ B ∧ k = 0) ∧ Hid (Seen n P Z t) ∧ Hid (RowAt wr r 4 (Z.map Value.bool) ∧ Upd (fun b => b = r) w3 wr))
  case atStart => exact ⟨[], _, _, rfl, .inl ⟨rfl, rfl, rfl⟩, HS0, HB0⟩
  case round =>
    clear HS0 HB0
    obtain ⟨P, Z, t, rfl, ⟨rfl, hP, hk⟩ | ⟨rfl, hP, hk⟩ | ⟨rfl, hP, hk⟩, HS, HB⟩ := hrel
    · subst hP
      have HIN := HLA
      have HLT := HLTA
      have ix0 := index2_0 aA aB A.length B.length cA cB
      have ix1 := index2_1 aA aB A.length B.length cA cB
      go_wp2_with fail
      go_loopg [46, 15] A.length (fun k v u wr => ∃ (j : Nat) (Z : List Bool) (t : Bool), v = .int .i64 j ∧ u = .bool t ∧ j ≤ A.length ∧ k = A.length - j ∧ Hid (Seen n (([]:List Int) ++ A.take j) Z t) ∧ Hid (RowAt wr r 4 (Z.map Value.bool) ∧ Upd (fun b => b = r) w3 wr))
      case atStart => exact ⟨0, Z, t, rfl, rfl, Nat.zero_le _, by omega, by simpa using HS, HB⟩
      case round =>
        clear HS HB
        obtain ⟨j, Z, t, rfl, rfl, hj, hk, HS, HB⟩ := hrel
        by_cases hlt : j < A.length
        · obtain ⟨x, rfl, hx⟩ := (HIN.out.updS HB.out.2 (fun x hx h0 e => by have h1 := HLT.out x hx h0; have h2 := HQ.out; omega)).cell j hlt
          obtain ⟨y, hy⟩ : ∃ y, A[j] = y := ⟨_, rfl⟩
          rw [hy] at hx
          have HT := Lib.hid (show ([]:List Int) ++ A.take (j + 1) = ([]:List Int) ++ A.take j ++ [y] by rw [takeOne hlt, hy, List.append_assoc])
          have HY := Lib.hid hy
          clear hy
          by_cases e1 : y < 0
          · have hout : ¬ inN n (A ++ B) := fun hh => by
              have := hh y (by rw [← HY.out]; exact List.mem_append_left _ (List.getElem_mem _))
              omega
            have HO := Lib.hid hout
            have hcw := HC.out.upd HB.out.2 (by omega)
            have k0 := hcw.cell (o := 0) (by omega)
            have k1 := hcw.cell (o := 1) (by omega)
            have f0 := hcw.free
            have HV := Lib.hid (HU.out.then HB.out.2 (fun i hi e => by have := HQ.out; omega))
            have hwq := HQ.out
            have HWQ := Lib.hid (show w.heap.size ≤ q by omega)
            clear hout hcw hwq
            go_wp2_with fail
            exact bodyPost_ret (v := .tuple #[.agg #[.int .i64 0, .int .i64 0], .int .i64 3]) (by simp [results, Try.results15, go_sem, k0, k1]) rfl (BetM.rng HO.out ⟨rfl, (HV.out.setCell (.inr HWQ.out) _).setCell (.inr HWQ.out) _⟩)
          · obtain ⟨b, rfl⟩ := Int.eq_ofNat_of_zero_le (by omega : 0 ≤ y)
            by_cases e2 : (n : Int) ≤ b
            · have hout : ¬ inN n (A ++ B) := fun hh => by
                have := hh b (by rw [← HY.out]; exact List.mem_append_left _ (List.getElem_mem _))
                omega
              have HO := Lib.hid hout
              have hcw := HC.out.upd HB.out.2 (by omega)
              have k0 := hcw.cell (o := 0) (by omega)
              have k1 := hcw.cell (o := 1) (by omega)
              have f0 := hcw.free
              have HV := Lib.hid (HU.out.then HB.out.2 (fun i hi e => by have := HQ.out; omega))
              have hwq := HQ.out
              have HWQ := Lib.hid (show w.heap.size ≤ q by omega)
              clear hout hcw hwq
              go_wp2_with fail
              exact bodyPost_ret (v := .tuple #[.agg #[.int .i64 0, .int .i64 0], .int .i64 3]) (by simp [results, Try.results15, go_sem, k0, k1]) rfl (BetM.rng HO.out ⟨rfl, (HV.out.setCell (.inr HWQ.out) _).setCell (.inr HWQ.out) _⟩)
            · have hbn : b < n := by omega
              clear e1 e2
              have hZl := HS.out.len
              have cz := HB.out.1.cell (i := b) (by simp; omega)
              have fz := HB.out.1.free
              have HS3 := HS.out.next hbn
              rw [← HT.out] at HS3
              have HS4 := Lib.hid HS3
              have ez : (Z.map Value.bool)[b]'(by simp; omega) = .bool (Z.getD b false) := by simp [List.getD_eq_getElem?_getD, List.getElem?_eq_getElem (by omega : b < Z.length)]
              rw [ez] at cz
              obtain ⟨zb, hzb⟩ : ∃ zb, Z.getD b false = zb := ⟨_, rfl⟩
              rw [hzb] at cz HS4
              clear HS3 hzb ez
              cases t
              · go_wp2_with fail
                go_roundg (A.length - (j + 1))
                case measure => omega
                case rel => exact ⟨j + 1, _, _, by simp, rfl, by omega, rfl, HS4, ⟨by rw [List.map_set]; exact HB.out.1.set _ _, HB.out.2.setB _ _⟩⟩
              · go_wp2_with fail
                go_roundg (A.length - (j + 1))
                case measure => omega
                case rel => exact ⟨j + 1, _, _, by simp, rfl, by omega, rfl, HS4, ⟨by rw [List.map_set]; exact HB.out.1.set _ _, HB.out.2.setB _ _⟩⟩
        · obtain rfl : j = A.length := by omega
          have HS2 : Hid (Seen n (([]:List Int) ++ A) Z t) := by simpa using HS
          clear HS
          go_wp2_with fail
          go_roundg 1
          case measure => omega
          case rel => exact ⟨_, Z, t, rfl, (.inr (.inl ⟨rfl,rfl,rfl⟩)), HS2, HB⟩
    · have hP' := hP.symm
      subst hP'
      have HIN := HLB
      have HLT := HLTB
      have ix0 := index2_0 aA aB A.length B.length cA cB
      have ix1 := index2_1 aA aB A.length B.length cA cB
      go_wp2_with fail
      go_loopg [46, 15] B.length (fun k v u wr => ∃ (j : Nat) (Z : List Bool) (t : Bool), v = .int .i64 j ∧ u = .bool t ∧ j ≤ B.length ∧ k = B.length - j ∧ Hid (Seen n (A ++ B.take j) Z t) ∧ Hid (RowAt wr r 4 (Z.map Value.bool) ∧ Upd (fun b => b = r) w3 wr))
      case atStart => exact ⟨0, Z, t, rfl, rfl, Nat.zero_le _, by omega, by simpa using HS, HB⟩
      case round =>
        clear HS HB
        obtain ⟨j, Z, t, rfl, rfl, hj, hk, HS, HB⟩ := hrel
        by_cases hlt : j < B.length
        · obtain ⟨x, rfl, hx⟩ := (HIN.out.updS HB.out.2 (fun x hx h0 e => by have h1 := HLT.out x hx h0; have h2 := HQ.out; omega)).cell j hlt
          obtain ⟨y, hy⟩ : ∃ y, B[j] = y := ⟨_, rfl⟩
          rw [hy] at hx
          have HT := Lib.hid (show A ++ B.take (j + 1) = A ++ B.take j ++ [y] by rw [takeOne hlt, hy, List.append_assoc])
          have HY := Lib.hid hy
          clear hy
          by_cases e1 : y < 0
          · have hout : ¬ inN n (A ++ B) := fun hh => by
              have := hh y (by rw [← HY.out]; exact List.mem_append_right _ (List.getElem_mem _))
              omega
            have HO := Lib.hid hout
            have hcw := HC.out.upd HB.out.2 (by omega)
            have k0 := hcw.cell (o := 0) (by omega)
            have k1 := hcw.cell (o := 1) (by omega)
            have f0 := hcw.free
            have HV := Lib.hid (HU.out.then HB.out.2 (fun i hi e => by have := HQ.out; omega))
            have hwq := HQ.out
            have HWQ := Lib.hid (show w.heap.size ≤ q by omega)
            clear hout hcw hwq
            go_wp2_with fail
            exact bodyPost_ret (v := .tuple #[.agg #[.int .i64 0, .int .i64 0], .int .i64 3]) (by simp [results, Try.results15, go_sem, k0, k1]) rfl (BetM.rng HO.out ⟨rfl, (HV.out.setCell (.inr HWQ.out) _).setCell (.inr HWQ.out) _⟩)
          · obtain ⟨b, rfl⟩ := Int.eq_ofNat_of_zero_le (by omega : 0 ≤ y)
            by_cases e2 : (n : Int) ≤ b
            · have hout : ¬ inN n (A ++ B) := fun hh => by
                have := hh b (by rw [← HY.out]; exact List.mem_append_right _ (List.getElem_mem _))
                omega
              have HO := Lib.hid hout
              have hcw := HC.out.upd HB.out.2 (by omega)
              have k0 := hcw.cell (o := 0) (by omega)
              have k1 := hcw.cell (o := 1) (by omega)
              have f0 := hcw.free
              have HV := Lib.hid (HU.out.then HB.out.2 (fun i hi e => by have := HQ.out; omega))
              have hwq := HQ.out
              have HWQ := Lib.hid (show w.heap.size ≤ q by omega)
              clear hout hcw hwq
              go_wp2_with fail
              exact bodyPost_ret (v := .tuple #[.agg #[.int .i64 0, .int .i64 0], .int .i64 3]) (by simp [results, Try.results15, go_sem, k0, k1]) rfl (BetM.rng HO.out ⟨rfl, (HV.out.setCell (.inr HWQ.out) _).setCell (.inr HWQ.out) _⟩)
            · have hbn : b < n := by omega
              clear e1 e2
              have hZl := HS.out.len
              have cz := HB.out.1.cell (i := b) (by simp; omega)
              have fz := HB.out.1.free
              have HS3 := HS.out.next hbn
              rw [← HT.out] at HS3
              have HS4 := Lib.hid HS3
              have ez : (Z.map Value.bool)[b]'(by simp; omega) = .bool (Z.getD b false) := by simp [List.getD_eq_getElem?_getD, List.getElem?_eq_getElem (by omega : b < Z.length)]
              rw [ez] at cz
              obtain ⟨zb, hzb⟩ : ∃ zb, Z.getD b false = zb := ⟨_, rfl⟩
              rw [hzb] at cz HS4
              clear HS3 hzb ez
              cases t
              · go_wp2_with fail
                go_roundg (B.length - (j + 1))
                case measure => omega
                case rel => exact ⟨j + 1, _, _, by simp, rfl, by omega, rfl, HS4, ⟨by rw [List.map_set]; exact HB.out.1.set _ _, HB.out.2.setB _ _⟩⟩
              · go_wp2_with fail
                go_roundg (B.length - (j + 1))
                case measure => omega
                case rel => exact ⟨j + 1, _, _, by simp, rfl, by omega, rfl, HS4, ⟨by rw [List.map_set]; exact HB.out.1.set _ _, HB.out.2.setB _ _⟩⟩
        · obtain rfl : j = B.length := by omega
          have HS2 : Hid (Seen n (A ++ B) Z t) := by simpa using HS
          clear HS
          go_wp2_with fail
          go_roundg 0
          case measure => omega
          case rel => exact ⟨_, Z, t, rfl, (.inr (.inr ⟨rfl,rfl,rfl⟩)), HS2, HB⟩
    · subst hP
      have hin : inN n (A ++ B) := HS.out.rng
      have ht := HS.out.t
      by_cases ea : A = []
      · have t1 : ((A.length : Int) == 0) = true := by simp [ea]
        have HX := Lib.hid (And.intro hin (show A = [] ∨ B = [] ∨ ¬ (A ++ B).Nodup from .inl ea))
        have hcw := HC.out.upd HB.out.2 (by omega)
        have k0 := hcw.cell (o := 0) (by omega)
        have k1 := hcw.cell (o := 1) (by omega)
        have f0 := hcw.free
        have HV := Lib.hid (HU.out.then HB.out.2 (fun i hi e => by have := HQ.out; omega))
        have hwq := HQ.out
        have HWQ := Lib.hid (show w.heap.size ≤ q by omega)
        clear hin ht hcw hwq
        go_wp2_with fail
        exact bodyPost_ret (v := .tuple #[.agg #[.int .i64 0, .int .i64 0], .int .i64 2]) (by simp [results, Try.results15, go_sem, k0, k1]) rfl (BetM.arg HX.out.1 HX.out.2 ⟨rfl, (HV.out.setCell (.inr HWQ.out) _).setCell (.inr HWQ.out) _⟩)
      · by_cases eb : B = []
        · have t1 : ((A.length : Int) == 0) = false := by simpa using ea
          have t2 : ((B.length : Int) == 0) = true := by simp [eb]
          have HX := Lib.hid (And.intro hin (show A = [] ∨ B = [] ∨ ¬ (A ++ B).Nodup from .inr (.inl eb)))
          have hcw := HC.out.upd HB.out.2 (by omega)
          have k0 := hcw.cell (o := 0) (by omega)
          have k1 := hcw.cell (o := 1) (by omega)
          have f0 := hcw.free
          have HV := Lib.hid (HU.out.then HB.out.2 (fun i hi e => by have := HQ.out; omega))
          have hwq := HQ.out
          have HWQ := Lib.hid (show w.heap.size ≤ q by omega)
          clear hin ht hcw hwq
          go_wp2_with fail
          exact bodyPost_ret (v := .tuple #[.agg #[.int .i64 0, .int .i64 0], .int .i64 2]) (by simp [results, Try.results15, go_sem, k0, k1]) rfl (BetM.arg HX.out.1 HX.out.2 ⟨rfl, (HV.out.setCell (.inr HWQ.out) _).setCell (.inr HWQ.out) _⟩)
        · have t1 : ((A.length : Int) == 0) = false := by simpa using ea
          have t2 : ((B.length : Int) == 0) = false := by simpa using eb
          cases t
          · have hnd : (A ++ B).Nodup := by simpa using ht
            have HN := Lib.hid (And.intro hin hnd)
            have ha1 : 1 ≤ A.length := by rcases A with _ | ⟨x, A⟩; exact absurd rfl ea; simp
            have hb1 : 1 ≤ B.length := by rcases B with _ | ⟨x, B⟩; exact absurd rfl eb; simp
            have hn1 : 0 < n := by
              rcases A with _ | ⟨x, A⟩
              · exact absurd rfl ea
              · have := hin x (by simp); omega
            have HTW := Lib.hid (two_of hin hnd)
            obtain ⟨g, cp, hg, hobj⟩ := HOB.out hn1
            have hU4 := HU23.out.then HB.out.2 (fun i hi e => by have := HR.out; omega)
            have hpr : p < r := by have := hobj.blk.lt; have := HR.out; omega
            have hgr : g < r := by have := hobj.row.lt; have := HR.out; omega
            have HPQ := Lib.hid (And.intro (show q < p by have := HL1.out; omega) (show q < g by have := HL1.out; omega))
            have hobj4 := (hobj.upd HU23.out (fun h => h) (fun h => h)).upd HB.out.2 (by omega) (by omega)
            have HA4 := Lib.hid (HLA.out.updS HB.out.2 (fun x hx h0 e => by have h1 := HLTA.out x hx h0; have h2 := HQ.out; omega))
            have HB4 := Lib.hid (HLB.out.updS HB.out.2 (fun x hx h0 e => by have h1 := HLTB.out x hx h0; have h2 := HQ.out; omega))
            have HC4 := Lib.hid (HC.out.upd HB.out.2 (by omega))
            have HU4 := Lib.hid (HU.out.then HB.out.2 (fun i hi e => by have := HQ.out; omega))
            have HO4 := Lib.hid (And.intro (Gat.start HTW.out) (And.intro (good_start m HDL.out) (And.intro hobj4 (Upd.refl (fun b => b = p ∨ b = g) wr))))
            clear hin ht hnd HLA HLB HC HU HS HB hobj hobj4 hU4 hg
            obtain ⟨xA, rfl, hxa⟩ := HA4.out.cell 0 (by omega)
            obtain ⟨xB, rfl, hxb⟩ := HB4.out.cell 0 (by omega)
            clear hxa hxb
            obtain ⟨w4, rfl⟩ : ∃ w4 : World, w4 = wr := ⟨_, rfl⟩
            go_wp2_with fail
            go_loopg [85] 2 (fun k v wr => ∃ (s t : Nat) (c : Cl) (Dt : List Int), (v = .int .i64 0 ∧ s = 0 ∧ t = 0 ∧ k = 2 ∨ v = .int .i64 1 ∧ s = A.length - 1 ∧ t = 0 ∧ k = 1 ∨ v = .int .i64 2 ∧ s = A.length - 1 ∧ t = B.length - 1 ∧ k = 0) ∧ Hid (Gat n (nats A) (nats B) s t c ∧ Lk.Good m (mat n D) n c Dt ∧ Obj wr p m n c Dt g cp ∧ Upd (fun b => b = p ∨ b = g) w4 wr))
            case atStart => exact ⟨0, 0, _, _, .inl ⟨rfl, rfl, rfl, rfl⟩, HO4⟩
            case round =>
              clear HO4
              obtain ⟨s, t, c, Dt, ⟨rfl, rfl, rfl, hk⟩ | ⟨rfl, rfl, rfl, hk⟩ | ⟨rfl, rfl, rfl, hk⟩, HO4⟩ := hrel
              · have ix0 := index2_0 (some xA) (some xB) A.length B.length cA cB
                obtain ⟨w5, rfl⟩ : ∃ w5 : World, w5 = wr := ⟨_, rfl⟩
                by_cases hcap : cA = 1
                · have hz : decide ((0 : Int) < ((A.length - 1 : Nat) : Int)) = false := by simp; omega
                  have hz0 : A.length - 1 = 0 := by omega
                  have HZ0 := Lib.hid hz0
                  subst hcap
                  clear hz0
                  go_wp2_with fail
                  refine wp_loop_rounds 1 ?_
                  rw [rounds_succ]
                  go_wp2_with fail
                  go_roundg 1
                  case measure => omega
                  case rel => exact ⟨_, _, c, Dt, .inr (.inl ⟨rfl,rfl,rfl,rfl⟩), by have := HO4; have e := HZ0.out; rw [e]; exact this⟩
                · have h1l : 1 < cA := by omega
                  go_wp2_with fail
                  go_loopg [91] (A.length - 1) (fun k v wr => ∃ (j : Nat) (c : Cl) (Dt : List Int), v = .int .i64 j ∧ j ≤ A.length - 1 ∧ k = A.length - 1 - j ∧ Hid (Gat n (nats A) (nats B) j 0 c ∧ Lk.Good m (mat n D) n c Dt ∧ Obj wr p m n c Dt g cp ∧ Upd (fun b => b = p ∨ b = g) w4 wr))
                  case atStart => exact ⟨0, c, Dt, rfl, Nat.zero_le _, by omega, HO4⟩
                  case round =>
                    clear HO4
                    obtain ⟨j, c, Dt, rfl, hj, hk, HO4⟩ := hrel
                    by_cases hlt : j < A.length - 1
                    · have hab := HA4.out.updS HO4.out.2.2.2 (fun x hx h0 e => by cases hx; have h1 := (HLTA.out xA rfl) (by omega); have h2 := HQ.out; have h3 := HR.out; have h4 := HPQ.out; omega)
                      obtain ⟨x0, hx0, hc0⟩ := hab.cell 0 (by omega)
                      obtain ⟨x1, hx1, hc1⟩ := hab.cell (j + 1) (by omega)
                      cases hx0
                      cases hx1
                      have i0 := HN.out.1 A[0] (by exact List.mem_append_left _ (List.getElem_mem _))
                      have i1 := HN.out.1 A[j + 1] (by exact List.mem_append_left _ (List.getElem_mem _))
                      rw [← addSucc] at hc1
                      have hc0' : ‹World›.cell? xA = some (.int .i64 A[0]) := hc0
                      obtain ⟨u, hu⟩ := Int.eq_ofNat_of_zero_le i0.1
                      obtain ⟨v, hv⟩ := Int.eq_ofNat_of_zero_le i1.1
                      have e0 : (nats A)[0]? = some u := by simp [nats, List.getElem?_eq_getElem (show 0 < A.length by omega), hu]
                      have hjl : j + 1 < (nats A).length := by simp [nats]; omega
                      have e1 : (nats A)[j + 1] = v := by simp [nats, hv]
                      obtain ⟨hg', hne, hcu, hcv⟩ := Gat.step HTW.out HO4.out.1 e0 hjl
                      rw [e1] at hg' hne hcv
                      rw [hu] at hc0' i0
                      rw [hv] at hc1 i1
                      have hun := lkunite_any m HO4.out.2.2.1 (i := u) (j := v) (by omega) (by omega) hne (fun k => by have := HO4.out.1.base.len k; omega)
                      have HX := Lib.hid (And.intro hg' (HO4.out.2.1.unite HD.out HO4.out.1.base hne (by omega) (by omega) hcu hcv))
                      have HUN := Lib.hid hun
                      clear hu hv e0 e1 hg' hne hcu hcv hun hc0 hab
                      go_wp2_with fail
                      refine HUN.out.mono ?_
                      rintro e w6 ⟨rfl, hob6, hu6⟩
                      have H6 := Lib.hid (And.intro hob6 (HO4.out.2.2.2.trans hu6))
                      clear hob6 hu6
                      go_wp2_with fail
                      go_roundg (A.length - 1 - (j + 1))
                      case measure => omega
                      case rel => exact ⟨j + 1, _, _, by simp, by omega, rfl, ⟨HX.out.1, HX.out.2, H6.out.1, H6.out.2⟩⟩
                    · obtain rfl : j = A.length - 1 := by omega
                      go_wp2_with fail
                      go_roundg 1
                      case measure => omega
                      case rel => exact ⟨_, _, c, Dt, .inr (.inl ⟨rfl,rfl,rfl,rfl⟩), HO4⟩
              · have ix1 := index2_1 (some xA) (some xB) A.length B.length cA cB
                obtain ⟨w5, rfl⟩ : ∃ w5 : World, w5 = wr := ⟨_, rfl⟩
                by_cases hcap : cB = 1
                · have hz : decide ((0 : Int) < ((B.length - 1 : Nat) : Int)) = false := by simp; omega
                  have hz0 : B.length - 1 = 0 := by omega
                  have HZ0 := Lib.hid hz0
                  subst hcap
                  clear hz0
                  go_wp2_with fail
                  refine wp_loop_rounds 1 ?_
                  rw [rounds_succ]
                  go_wp2_with fail
                  go_roundg 0
                  case measure => omega
                  case rel => exact ⟨_, _, c, Dt, .inr (.inr ⟨rfl,rfl,rfl,rfl⟩), by have := HO4; have e := HZ0.out; rw [e]; exact this⟩
                · have h1l : 1 < cB := by omega
                  go_wp2_with fail
                  go_loopg [91] (B.length - 1) (fun k v wr => ∃ (j : Nat) (c : Cl) (Dt : List Int), v = .int .i64 j ∧ j ≤ B.length - 1 ∧ k = B.length - 1 - j ∧ Hid (Gat n (nats A) (nats B) (A.length - 1) j c ∧ Lk.Good m (mat n D) n c Dt ∧ Obj wr p m n c Dt g cp ∧ Upd (fun b => b = p ∨ b = g) w4 wr))
                  case atStart => exact ⟨0, c, Dt, rfl, Nat.zero_le _, by omega, HO4⟩
                  case round =>
                    clear HO4
                    obtain ⟨j, c, Dt, rfl, hj, hk, HO4⟩ := hrel
                    by_cases hlt : j < B.length - 1
                    · have hab := HB4.out.updS HO4.out.2.2.2 (fun x hx h0 e => by cases hx; have h1 := (HLTB.out xB rfl) (by omega); have h2 := HQ.out; have h3 := HR.out; have h4 := HPQ.out; omega)
                      obtain ⟨x0, hx0, hc0⟩ := hab.cell 0 (by omega)
                      obtain ⟨x1, hx1, hc1⟩ := hab.cell (j + 1) (by omega)
                      cases hx0
                      cases hx1
                      have i0 := HN.out.1 B[0] (by exact List.mem_append_right _ (List.getElem_mem _))
                      have i1 := HN.out.1 B[j + 1] (by exact List.mem_append_right _ (List.getElem_mem _))
                      rw [← addSucc] at hc1
                      have hc0' : ‹World›.cell? xB = some (.int .i64 B[0]) := hc0
                      obtain ⟨u, hu⟩ := Int.eq_ofNat_of_zero_le i0.1
                      obtain ⟨v, hv⟩ := Int.eq_ofNat_of_zero_le i1.1
                      have e0 : (nats B)[0]? = some u := by simp [nats, List.getElem?_eq_getElem (show 0 < B.length by omega), hu]
                      have hjl : j + 1 < (nats B).length := by simp [nats]; omega
                      have e1 : (nats B)[j + 1] = v := by simp [nats, hv]
                      obtain ⟨hg', hne, hcu, hcv⟩ := Gat.step HTW.out.swap HO4.out.1.swap e0 hjl
                      rw [e1] at hg' hne hcv
                      rw [hu] at hc0' i0
                      rw [hv] at hc1 i1
                      have hun := lkunite_any m HO4.out.2.2.1 (i := u) (j := v) (by omega) (by omega) hne (fun k => by have := HO4.out.1.base.len k; omega)
                      have HX := Lib.hid (And.intro hg' (HO4.out.2.1.unite HD.out HO4.out.1.base hne (by omega) (by omega) hcu hcv))
                      have HUN := Lib.hid hun
                      clear hu hv e0 e1 hg' hne hcu hcv hun hc0 hab
                      go_wp2_with fail
                      refine HUN.out.mono ?_
                      rintro e w6 ⟨rfl, hob6, hu6⟩
                      have H6 := Lib.hid (And.intro hob6 (HO4.out.2.2.2.trans hu6))
                      clear hob6 hu6
                      go_wp2_with fail
                      go_roundg (B.length - 1 - (j + 1))
                      case measure => omega
                      case rel => exact ⟨j + 1, _, _, by simp, by omega, rfl, ⟨HX.out.1.swap, HX.out.2, H6.out.1, H6.out.2⟩⟩
                    · obtain rfl : j = B.length - 1 := by omega
                      go_wp2_with fail
                      go_roundg 0
                      case measure => omega
                      case rel => exact ⟨_, _, c, Dt, .inr (.inr ⟨rfl,rfl,rfl,rfl⟩), HO4⟩
              · obtain ⟨w5, rfl⟩ : ∃ w5 : World, w5 = wr := ⟨_, rfl⟩
                have habA := HA4.out.updS HO4.out.2.2.2 (fun x hx h0 e => by cases hx; have h1 := HLTA.out xA rfl (by omega); have h2 := HQ.out; have h3 := HR.out; have h4 := HPQ.out; omega)
                have habB := HB4.out.updS HO4.out.2.2.2 (fun x hx h0 e => by cases hx; have h1 := HLTB.out xB rfl (by omega); have h2 := HQ.out; have h3 := HR.out; have h4 := HPQ.out; omega)
                obtain ⟨x0, hx0, hca⟩ := habA.cell 0 (by omega)
                obtain ⟨x1, hx1, hcb⟩ := habB.cell 0 (by omega)
                cases hx0
                cases hx1
                have hca' : ‹World›.cell? xA = some (.int .i64 A[0]) := hca
                have hcb' : ‹World›.cell? xB = some (.int .i64 B[0]) := hcb
                have i0 := HN.out.1 A[0] (by exact List.mem_append_left _ (List.getElem_mem _))
                have i1 := HN.out.1 B[0] (by exact List.mem_append_right _ (List.getElem_mem _))
                obtain ⟨u, hu⟩ := Int.eq_ofNat_of_zero_le i0.1
                obtain ⟨v, hv⟩ := Int.eq_ofNat_of_zero_le i1.1
                have eA : (nats A)[0]? = some u := by simp [nats, List.getElem?_eq_getElem (show 0 < A.length by omega), hu]
                have eB : (nats B)[0]? = some v := by simp [nats, List.getElem?_eq_getElem (show 0 < B.length by omega), hv]
                have cu : c u = nats A := by rw [HO4.out.1.a u eA, List.take_of_length_le (by simp [nats]; omega)]
                have cv : c v = nats B := by rw [HO4.out.1.b v eB, List.take_of_length_le (by simp [nats]; omega)]
                have huv : u ≠ v := fun e => HTW.out.ab u (List.mem_of_getElem? eA) (e ▸ List.mem_of_getElem? eB)
                have hcu : c u ≠ [] := by rw [cu]; intro e; rw [e] at eA; cases eA
                have hcv : c v ≠ [] := by rw [cv]; intro e; rw [e] at eB; cases eB
                rw [hu] at hca' i0
                rw [hv] at hcb' i1
                have hun : u < n := by omega
                have hvn : v < n := by omega
                have heq := HO4.out.2.1.eq u v hun hvn huv hcu hcv
                obtain ⟨b1, b2, b3, b4, _⟩ := HD.out.num_bd HO4.out.1.base m hcu hcv
                obtain ⟨N, hNN⟩ := Int.eq_ofNat_of_zero_le b1
                obtain ⟨E, hEE⟩ := Int.eq_ofNat_of_zero_le (show 0 ≤ den m (c u) (c v) by omega)
                have hdist := fun (W : World) (hW : Upd (fun _ => False) w5 W) => lkdist_any (show Obj W p m n c Dt g cp from HO4.out.2.2.1.upd hW (fun h => h) (fun h => h)) hun hvn (fun k => by have := HO4.out.1.base.len k; omega)
                simp only [show dfr m n c Dt u v = .agg #[.int .i64 N, .int .i64 E] from by simp only [dfr]; rw [heq, hNN, hEE]] at hdist
                rw [hNN] at b1 b2
                rw [hEE] at b3 b4
                have HBT := Lib.hid (show btF n D m A B = (((N / Nat.gcd N E : Nat) : Int), ((E / Nat.gcd N E : Nat) : Int)) by unfold btF; rw [← cu, ← cv, hNN, hEE, red_nat])
                have HDI := Lib.hid hdist
                have HRE := Lib.hid (fun w => ckReduce_any w N E (by omega) (by omega) (by omega))
                have HC5 := Lib.hid (HC4.out.upd HO4.out.2.2.2 (by have := HPQ.out; omega))
                have HU5 := Lib.hid (HU4.out.then HO4.out.2.2.2 (fun i hi e => by have h2 := HQ.out; have h4 := HPQ.out; omega))
                clear habA habB hca hcb hu hv eA eB cu cv huv hcu hcv heq hNN hEE hdist HO4
                generalize N / Nat.gcd N E = RN at *
                generalize E / Nat.gcd N E = RE at *
                go_wp2_with fail
                have pa : 0 < A.length := by omega
                have pb : 0 < B.length := by omega
                have S3 : ∀ W, Upd (fun _ => False) w5 W → Upd (fun _ => False) w5 W ∧ W.cell? xA = some (.int .i64 u) ∧ W.cell? xB = some (.int .i64 v) := fun W h => ⟨h, Upd.keepCell h hca' (fun h => h), Upd.keepCell h hcb' (fun h => h)⟩
                go_region_held3 (fun w' => Upd (fun _ => False) w5 w' ∧ w'.cell? xA = some (.int .i64 u) ∧ w'.cell? xB = some (.int .i64 v)) ((refine S3 _ ?_; first | (refine Upd.setCell (Upd.setCell (Upd.trans ?_ hu6) (.inr (Nat.le_refl _)) _) (.inr (Nat.le_refl _)) _; (repeat (first | exact Upd.refl _ _ | apply Upd.drew | apply Upd.alloc)); done) | ((repeat (first | exact Upd.refl _ _ | apply Upd.drew | apply Upd.alloc)); done) | (refine Upd.trans ?_ hu6; (repeat (first | exact Upd.refl _ _ | apply Upd.drew | apply Upd.alloc)); done) | (apply Upd.alloc; refine Upd.trans ?_ hu6; (repeat (first | exact Upd.refl _ _ | apply Upd.drew | apply Upd.alloc)); done) | (apply Upd.drew; refine Upd.trans ?_ hu6; (repeat (first | exact Upd.refl _ _ | apply Upd.drew | apply Upd.alloc)); done) | (refine Upd.setCell (Upd.trans ?_ hu6) (.inr ?_) _; ((repeat (first | exact Upd.refl _ _ | apply Upd.drew | apply Upd.alloc)); done); have hs := hu6.size; simp at hs ⊢; first | done | omega))) ((go_at_call 22; refine (HDI.out _ (by repeat (first | exact Upd.refl _ _ | apply Upd.drew | apply Upd.alloc))).mono ?_; rintro e w6 ⟨rfl, hu6⟩; try (have hn6 := hu6.at (World.alloc_heap_new w5 (.cells #[.int .i64 0, .int .i64 0] 38)) (fun h => h); have cn0 := cell_of hn6 0; have cn1 := cell_of hn6 1; have fn6 := free_of hn6; have ln6 := heap_lt hn6; simp only [List.getElem?_toArray, List.getElem?_cons_zero, List.getElem?_cons_succ] at cn0 cn1)))
                all_goals
                  first
                    | refine then_world (fun w7 => Upd (fun _ => False) w5 w7 ∧ w7.heap[w5.heap.size]? = some (.cells #[.int .i64 N, .int .i64 E] 38 (0, 0))) ⟨(S3 _ (by refine Upd.setCell (Upd.setCell (Upd.trans ?_ hu6) (.inr (Nat.le_refl _)) _) (.inr (Nat.le_refl _)) _; repeat (first | exact Upd.refl _ _ | apply Upd.drew | apply Upd.alloc))).1, cells_set (o := 1) _ (cells_set (o := 0) _ hn6)⟩ ?_
                    | refine then_world (fun w7 => Upd (fun _ => False) w5 w7 ∧ w7.heap[w6.heap.size]? = some (.cells #[.int .i64 N, .int .i64 E] 38 (0, 0))) ⟨(S3 _ (by apply Upd.alloc; refine Upd.trans ?_ hu6; repeat (first | exact Upd.refl _ _ | apply Upd.drew | apply Upd.alloc))).1, World.alloc_heap_new _ _⟩ ?_
                  rintro w7 ⟨hu7, hn7⟩
                  have cn0 := cell_of hn7 0
                  have cn1 := cell_of hn7 1
                  simp only [List.getElem?_toArray, List.getElem?_cons_zero, List.getElem?_cons_succ] at cn0 cn1
                  have HU7 := Lib.hid hu7
                  clear hu7 hn7
                  go_wp2_with fail
                  refine (HRE.out _).mono ?_
                  rintro e w8 ⟨rfl, hu8⟩
                  have hcw := (HC5.out.upd HU7.out (fun h => h)).upd hu8 (fun h => h)
                  have k0 := hcw.cell (o := 0) (by omega)
                  have k1 := hcw.cell (o := 1) (by omega)
                  have f0 := hcw.free
                  have HWQ := Lib.hid (show w.heap.size ≤ q by have := HQ.out; omega)
                  have HU8 := Lib.hid (((HU5.out.trans HU7.out).trans hu8))
                  clear hcw hu8
                  go_wp2_with fail
                  exact bodyPost_ret (v := .tuple #[.agg #[.int .i64 RN, .int .i64 RE], .int .i64 0]) (by simp [results, Try.results15, go_sem, k0, k1]) rfl (BetM.ok HN.out.1 ea eb HN.out.2 (by rw [HBT.out]) ((HU8.out.setCell (.inr HWQ.out) _).setCell (.inr HWQ.out) _))
          · have HX := Lib.hid (And.intro hin (show A = [] ∨ B = [] ∨ ¬ (A ++ B).Nodup from .inr (.inr (by simpa using ht))))
            have hcw := HC.out.upd HB.out.2 (by omega)
            have k0 := hcw.cell (o := 0) (by omega)
            have k1 := hcw.cell (o := 1) (by omega)
            have f0 := hcw.free
            have HV := Lib.hid (HU.out.then HB.out.2 (fun i hi e => by have := HQ.out; omega))
            have hwq := HQ.out
            have HWQ := Lib.hid (show w.heap.size ≤ q by omega)
            clear hin ht hcw hwq
            go_wp2_with fail
            exact bodyPost_ret (v := .tuple #[.agg #[.int .i64 0, .int .i64 0], .int .i64 2]) (by simp [results, Try.results15, go_sem, k0, k1]) rfl (BetM.arg HX.out.1 HX.out.2 ⟨rfl, (HV.out.setCell (.inr HWQ.out) _).setCell (.inr HWQ.out) _⟩)
end Go.Proofs.Ytmkggcmebeagaaa
