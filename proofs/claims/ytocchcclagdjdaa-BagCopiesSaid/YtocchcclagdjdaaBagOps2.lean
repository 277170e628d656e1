/- More methods of a bag: Kth, Min, Max, Add, Remove. -/
import Derived.Test.YtocchcclagdjdaaBagOps
namespace Go.Proofs.Ytocchcclagdjdaa
open Go.RowKit Pl

/-- what Kth answers -/
def KthIs (L : Items) (k : Int) (e : Ending) : Prop :=
  ((k < 0 ∨ tot L ≤ k) ∧ e = .returned (.tuple #[.int .i64 0, .bool false])) ∨ ∃ x, 0 ≤ k ∧ k < tot L ∧ kth L k = some x ∧ e = .returned (.tuple #[.int .i64 x, .bool true])

/-- where the search for the k-th number stands -/
def AtKth (w : World) (R : Option Int) (j : Nat) (k : Int) (v : Value) : Prop := ∃ t : AT, v = .pointer t.adr ∧ t.Lies w ∧ t.Good ∧ t.sz < j ∧ 0 ≤ k ∧ k < tot t.items ∧ tot t.items ≤ 2147483647 ∧ kth t.items k = R
theorem AtKth.cases {w : World} {R : Option Int} {j : Nat} {k : Int} {v : Value} (h : AtKth w R j k v) : ∃ b y m la rp tt s n bef, v = .pointer (some ⟨b, 0, none⟩) ∧ Nd w b y m la rp tt s n ∧
    (k < bef → ∃ j', j' < j ∧ AtKth w R j' k (.pointer la)) ∧ (¬ k < bef → k < bef + m → R = some y) ∧ (¬ k < bef + m → ∃ j', j' < j ∧ AtKth w R j' (k - (bef + m)) (.pointer rp)) ∧ 0 ≤ bef ∧ 1 ≤ m ∧ bef + m ≤ 2147483647 ∧ 0 ≤ k ∧ k ≤ 2147483647 ∧
    (∀ W : World, W.heap = w.heap → Calls Try.prog 28 #[.pointer la] W fun e w' => ∃ i, e = .returned (.tuple #[.int .i64 bef, .int .i64 i]) ∧ ∃ n, W.drewN n = w') := by
  obtain ⟨t, hv, hl, hg, hj, hk0, hk1, hab, hR⟩ := h
  rcases t.adr_cases with ⟨rfl, ha⟩ | ⟨b, y, m, l, r, tt, s, n, rfl, ha⟩
  · exact absurd hk1 (by simp only [AT.items, tot]; omega)
  · have hj' : 1 + l.sz + r.sz < j := hj
    have gl : l.Good := hg.2.2.2.2.2.1
    have gr : r.Good := hg.2.2.2.2.2.2
    have p1 := tot_nonneg gl.pos
    have p2 := tot_nonneg gr.pos
    have hm : 1 ≤ m := hg.1
    have et : tot (AT.node b y m l r tt s n).items = tot l.items + (m + tot r.items) := by show tot (l.items ++ (y, m) :: r.items) = _; rw [tot_append]; rfl
    have hR' : kth (l.items ++ (y, m) :: r.items) k = R := hR
    rw [kth_append gl.pos hk0] at hR'
    refine ⟨b, y, m, l.adr, r.adr, tt, s, n, tot l.items, by rw [hv, ha], hl.1, fun hx => ⟨l.sz + 1, by omega, l, rfl, hl.2.1, gl, by omega, hk0, hx, by omega, ?_⟩, fun h1 h2 => ?_, fun hx => ⟨r.sz + 1, by omega, r, rfl, hl.2.2, gr, by omega, by omega, by omega, by omega, ?_⟩, p1, hm, by omega, hk0, by omega, fun W hW => ?_⟩
    · rw [if_pos hx] at hR'; exact hR'
    · rw [if_neg h1, kth, if_pos (by show k - tot l.items < m; omega)] at hR'; exact hR'.symm
    · rw [if_neg (by omega), kth, if_neg (by show ¬ k - tot l.items < m; omega)] at hR'
      rw [← hR']; congr 1; show k - (tot l.items + m) = k - tot l.items - m; omega
    · exact (count_tree gl (hl.2.1.same hW)).mono fun e w' h => ⟨_, h.1, h.2⟩

set_option maxHeartbeats 1000000 in
theorem kth_any {w : World} {p : Nat} {L : Items} {fp : List Nat} (h : Bag w p L fp) (k : Int) (hk1 : -9223372036854775808 ≤ k) (hk2 : k ≤ 9223372036854775807) : Calls Try.prog 15 #[.pointer (some ⟨p, 0, none⟩), .int .i64 k] w fun e w' => KthIs L k e ∧ ∃ n, w.drewN n = w' := by
  by_cases h0 : k < 0
  · go_enter Try.func15, Try.ntmps15
    go_wp2_with fail
    go_ret2
    exact ⟨.inl ⟨.inl h0, rfl⟩, 0, rfl⟩
  by_cases h1 : tot L ≤ k
  · have hz := size_any h
    have HZ := Lib.hid hz
    clear hz h
    go_enter Try.func15, Try.ntmps15
    go_wp2_with (go_at_call 21; refine HZ.out.mono ?_; rintro e w1 ⟨rfl, n, rfl⟩)
    go_ret2
    exact ⟨.inl ⟨.inr h1, rfl⟩, n, rfl⟩
  · have hz := size_any h
    obtain ⟨t, hp, hT, rfl, hs, ht, rfl, hn⟩ := h
    obtain ⟨R, hR⟩ : ∃ R, kth t.items k = R := ⟨_, rfl⟩
    have hfin : ∀ (x : Int) (e : Ending), R = some x → e = .returned (.tuple #[.int .i64 x, .bool true]) → KthIs t.items k e := fun x e h h' => .inr ⟨x, by omega, by omega, hR.trans h, h'⟩
    have hA : AtKth w R (t.sz + 1) k (.pointer t.adr) := ⟨t, rfl, hT.lies, hT.good, by omega, by omega, by omega, ht, hR⟩
    have c1 : w.cell? ⟨p, 1, none⟩ = some (.pointer t.adr) := cell_of hp 1
    have HZ := Lib.hid hz
    have HF := Lib.hid hfin
    clear hz hfin hR
    generalize t.sz + 1 = k0 at hA
    generalize t.adr = ta at hA c1
    go_enter Try.func15, Try.ntmps15
    go_wp2_with (go_at_call 21; refine HZ.out.mono ?_; rintro e w1 ⟨rfl, n, rfl⟩)
    go_loopg [1, 6] k0 (fun j kv v wr => ∃ kk : Int, kv = .int .i64 kk ∧ AtKth w R j kk v ∧ ∃ n, w.drewN n = wr)
    case atStart => exact ⟨k, rfl, hA, n, rfl⟩
    case round =>
      obtain ⟨kk, rfl, h, i, rfl⟩ := hrel
      clear hA
      obtain ⟨b, y, m, lp, rp, tt, s, n, bef, rfl, hN, hL, hE, hR, p1, p2, p3, p4, p5, hcall⟩ := h.cases
      have HL := Lib.hid hL
      have HR := Lib.hid hR
      have HE := Lib.hid hE
      have HC := Lib.hid hcall
      clear h hL hR hE hcall
      obtain ⟨b0, b1, b2, b3, b4, b5, b6, bf⟩ := hN.cells
      go_wp2_with (go_at_call 28; refine (HC.out (w.drewN i) rfl).mono ?_; rintro e w1 ⟨j1, rfl, n1, rfl⟩)
      · have hx : kk < bef := by assumption
        obtain ⟨k', hk', h'⟩ := HL.out hx
        go_roundg k'
        case measure => exact hk'
        case rel => exact ⟨_, rfl, h', i + n1, rfl⟩
      · have hx : bef ≤ kk := by assumption
        have hx2 : kk < bef + m := by assumption
        go_ret2
        exact ⟨HF.out _ _ (HE.out (by omega) hx2) rfl, i + n1, rfl⟩
      · have hx : bef + m ≤ kk := by assumption
        obtain ⟨k', hk', h'⟩ := HR.out (by omega)
        go_roundg k'
        case measure => exact hk'
        case rel => exact ⟨_, rfl, h', i + n1, rfl⟩

theorem kthIs_cases {L : Items} {k : Int} {e : Ending} (h : KthIs L k e) : ∃ x ok, e = .returned (.tuple #[.int .i64 x, .bool ok]) ∧ KthIs L k (.returned (.tuple #[.int .i64 x, .bool ok])) := by
  rcases h with ⟨h, rfl⟩ | ⟨x, h1, h2, h3, rfl⟩
  · exact ⟨_, _, rfl, .inl ⟨h, rfl⟩⟩
  · exact ⟨_, _, rfl, .inr ⟨x, h1, h2, h3, rfl⟩⟩

theorem min_any {w : World} {p : Nat} {L : Items} {fp : List Nat} (h : Bag w p L fp) : Calls Try.prog 25 #[.pointer (some ⟨p, 0, none⟩)] w fun e w' => KthIs L 0 e ∧ ∃ n, w.drewN n = w' := by
  have hz := kth_any h 0 (by omega) (by omega)
  go_enter Try.func25, Try.ntmps25
  go_wp2_with fail
  refine hz.mono ?_
  rintro e w1 ⟨hK, n, rfl⟩
  obtain ⟨x, ok, rfl, hK⟩ := kthIs_cases hK
  have HK := Lib.hid hK
  clear hK hz
  go_wp2_with fail
  go_ret2
  exact ⟨HK.out, n, rfl⟩

theorem max_any {w : World} {p : Nat} {L : Items} {fp : List Nat} (h : Bag w p L fp) : Calls Try.prog 26 #[.pointer (some ⟨p, 0, none⟩)] w fun e w' => KthIs L (tot L - 1) e ∧ ∃ n, w.drewN n = w' := by
  have h1 := tot_nonneg h.pos
  have h2 := h.le
  go_enter Try.func26, Try.ntmps26
  go_wp2_with fail
  refine (size_any h).mono ?_
  rintro e w1 ⟨rfl, n, rfl⟩
  go_wp2_with fail
  refine (kth_any (h.drewN n) (tot L - 1) (by omega) (by omega)).mono ?_
  rintro e w1 ⟨hK, n2, rfl⟩
  obtain ⟨x, ok, rfl, hK⟩ := kthIs_cases hK
  have HK := Lib.hid hK
  clear hK
  go_wp2_with fail
  go_ret2
  exact ⟨HK.out, n + n2, rfl⟩

theorem quiet_flip {P : Program} {f : FuncId} {args : Array Value} {w : World} {v : Value} (h : Calls P f args w fun e w' => e = .returned v ∧ ∃ n, w.drewN n = w') : Calls P f args w fun e w' => e = .returned v ∧ ∃ m, w' = w.drewN m :=
  h.mono fun _ _ ⟨he, n, hn⟩ => ⟨he, n, hn.symm⟩

/-- a step of a bag: it holds other items, in its own blocks and new ones -/
def BagStep (w : World) (fp : List Nat) (p : Nat) (L' : Items) (w' : World) : Prop := ∃ fp', Upd (fun i => i ∈ fp) w w' ∧ Bag w' p L' fp' ∧ ∀ b ∈ fp', b ∈ fp ∨ w.heap.size ≤ b

theorem add1_tells {w : World} {tb : Nat} {k : Int} (c : Int) (h : w.cell? ⟨tb, 0, none⟩ = some (.int .i64 k)) (h0 : 0 ≤ c) (h1 : 0 ≤ k) (h2 : c + k ≤ 2147483647) : Tells w 31 #[.pointer (some ⟨tb, 0, none⟩)] c (c + k) := fun n => by
  show Calls Try.prog 31 #[.int .i64 c, .pointer (some ⟨tb, 0, none⟩)] (w.drewN n) _
  go_enter Try.func31, Try.ntmps31
  go_wp2
  go_ret
  exact ⟨rfl, rfl⟩
theorem add1_enters : Enters 31 := Go.Proofs.enters_of Try.func31 (by kernel_rfl) rfl
theorem remove1_tells {w : World} {tb : Nat} {k : Int} (c : Int) (h : w.cell? ⟨tb, 0, none⟩ = some (.int .i64 k)) (h0 : 0 ≤ c) (h1 : 0 ≤ k) (h2 : c ≤ 2147483647) (h3 : k ≤ 2147483647) : Tells w 32 #[.pointer (some ⟨tb, 0, none⟩)] c (c - k) := fun n => by
  show Calls Try.prog 32 #[.int .i64 c, .pointer (some ⟨tb, 0, none⟩)] (w.drewN n) _
  go_enter Try.func32, Try.ntmps32
  go_wp2
  go_ret
  exact ⟨rfl, rfl⟩
theorem remove1_enters : Enters 32 := Go.Proofs.enters_of Try.func32 (by kernel_rfl) rfl

theorem add_nil (w : World) (x k : Int) : Calls Try.prog 19 #[.pointer none, .int .i64 x, .int .i64 k] w fun e w' => e = .returned (.int .i64 1) ∧ Upd (fun _ => False) w w' := by
  go_enter Try.func19, Try.ntmps19
  go_wp2
  go_ret
  exact ⟨rfl, (Upd.refl _ _).alloc _⟩

set_option maxHeartbeats 1000000 in
theorem add_any {w : World} {p : Nat} {L : Items} {fp : List Nat} (h : Bag w p L fp) (x k : Int) (hk : 0 ≤ k) (hk2 : tot L + k ≤ 2147483647) : Calls Try.prog 19 #[.pointer (some ⟨p, 0, none⟩), .int .i64 x, .int .i64 k] w fun e w' => e = .returned (.int .i64 0) ∧ BagStep w fp p (put L x (cnt L x + k)) w' := by
  have hb := h
  have hp0 := tot_nonneg h.pos
  have hc0 := cnt_nonneg h.pos x
  have hc1 := cnt_le_tot h.pos x
  obtain ⟨t, hp, hT, rfl, hs, ht, rfl, hn⟩ := h
  have hlt := heap_lt hp
  have c0 : w.cell? ⟨p, 0, none⟩ = some (.bool true) := cell_of hp 0
  have c1 : w.cell? ⟨p, 1, none⟩ = some (.pointer t.adr) := cell_of hp 1
  go_enter Try.func19, Try.ntmps19
  go_wp2_with fail
  refine wp_world (fun w1 => Upd (fun _ => False) w w1 ∧ w1.heap[w.heap.size]? = some (.cells #[.int .i64 k] 3 (0, 0))) ⟨(Upd.refl _ _).alloc _, World.alloc_heap_new w _⟩ ?_
  rintro w1 ⟨hu1, hbox⟩
  have hb1 := hb.upd hu1 (fun _ _ h => h)
  have hp1 := hu1.at hp (fun h => h)
  clear c0 c1
  have c0 : w1.cell? ⟨p, 0, none⟩ = some (.bool true) := cell_of hp1 0
  have c1 : w1.cell? ⟨p, 1, none⟩ = some (.pointer t.adr) := cell_of hp1 1
  have cb : w1.cell? ⟨w.heap.size, 0, none⟩ = some (.int .i64 k) := cell_of hbox 0
  go_quiet ((go_at_call 21; refine Calls.quiet_of (quiet_flip (size_any (L := t.items) (fp := p :: t.blocks) ?_)); first | exact hb1 | exact hb1.drew | exact hb1.drewN _))
  go_wp2_with fail
  refine calls_world (fun w2 => Upd (fun _ => False) w1 w2) ((Upd.refl _ _).drewN _) ?_
  rintro w2 hu2
  have hbox2 := hu2.at hbox (fun h => h)
  have hp2 := hu2.at hp1 (fun h => h)
  have hT2 : Tr w2 t := ⟨(hT.lies.upd hu1 fun _ _ h => h).upd hu2 fun _ _ h => h, hT.nodup, hT.good⟩
  have ht2 := add1_tells (w := w2) (tb := w.heap.size) (cnt t.items x) (cell_of hbox2 0) hc0 hk (by omega)
  refine (change_any t w2 x (cnt t.items x) (cnt t.items x + k) 31 #[.pointer (some ⟨w.heap.size, 0, none⟩)] hT2 hs rfl (by omega) (by omega) ht2 add1_enters).mono ?_
  rintro e w3 ⟨t', rfl, hu3, hT3, hi3, hb3⟩
  have HI := Lib.hid hi3
  have hp3 := hu3.at hp2 hn
  clear c0 c1 cb hi3
  have c0 : w3.cell? ⟨p, 0, none⟩ = some (.bool true) := cell_of hp3 0
  have c1 : w3.cell? ⟨p, 1, none⟩ = some (.pointer t.adr) := cell_of hp3 1
  have cf : w3.frozen? ⟨p, 1, none⟩ = false := free_of hp3 1
  go_wp2_with fail
  go_ret
  have hsz : w.heap.size ≤ w2.heap.size := Nat.le_trans hu1.size hu2.size
  have hb3' : ∀ b ∈ t'.blocks, b ∈ t.blocks ∨ w.heap.size ≤ b := fun b hb => (hb3 b hb).imp id (fun h => Nat.le_trans hsz h)
  have hn' : p ∉ t'.blocks := fun hh => (hb3' p hh).elim hn (fun h => by omega)
  have hu4 : Upd (fun i => i = p) w3 (w3.setCell ⟨p, 1, none⟩ (.pointer t'.adr)) := (Upd.refl _ _).setB _ _
  refine ⟨rfl, p :: t'.blocks, ?_, ⟨t', cells_set (o := 1) _ hp3, ⟨hT3.lies.upd hu4 (fun i hi e => hn' (e ▸ hi)), hT3.nodup, hT3.good⟩, HI.out, put_srt hs _ _, ?_, rfl, hn'⟩, ?_⟩
  · refine (((hu1.mono fun _ _ h => h.elim).trans (hu2.mono fun _ _ h => h.elim)).trans (hu3.mono ?_)).trans (hu4.mono ?_)
    · exact fun i _ h => List.mem_cons_of_mem _ h
    · rintro i _ rfl; exact List.mem_cons_self ..
  · rw [tot_put hs _ _ (by omega)]; omega
  · intro b hb
    rcases List.mem_cons.1 hb with rfl | hb
    · exact .inl (List.mem_cons_self ..)
    · exact (hb3' b hb).imp (fun h => List.mem_cons_of_mem _ h) id
end Go.Proofs.Ytocchcclagdjdaa
