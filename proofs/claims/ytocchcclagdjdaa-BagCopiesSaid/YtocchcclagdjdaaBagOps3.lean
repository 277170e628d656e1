/- More methods of a bag: the errors of Add, Remove, Copy. -/
import Derived.Test.YtocchcclagdjdaaBagOps2
namespace Go.Proofs.Ytocchcclagdjdaa
open Go.RowKit Pl

theorem add_neg {w : World} {p : Nat} {L : Items} {fp : List Nat} (h : Bag w p L fp) (x k : Int) (hk : k < 0) : Calls Try.prog 19 #[.pointer (some ⟨p, 0, none⟩), .int .i64 x, .int .i64 k] w fun e w' => e = .returned (.int .i64 2) ∧ Upd (fun _ => False) w w' := by
  obtain ⟨t, hp, hT, rfl, hs, ht, rfl, hn⟩ := h
  have hlt := heap_lt hp
  have c0 : w.cell? ⟨p, 0, none⟩ = some (.bool true) := cell_of hp 0
  go_enter Try.func19, Try.ntmps19
  go_wp2_with fail
  go_ret
  exact ⟨rfl, (Upd.refl _ _).alloc _⟩

set_option maxHeartbeats 400000 in
theorem add_full {w : World} {p : Nat} {L : Items} {fp : List Nat} (h : Bag w p L fp) (x k : Int) (hk : 0 ≤ k) (hk2 : 2147483647 - tot L < k) : Calls Try.prog 19 #[.pointer (some ⟨p, 0, none⟩), .int .i64 x, .int .i64 k] w fun e w' => e = .returned (.int .i64 4) ∧ Upd (fun _ => False) w w' := by
  have hb := h
  have hp0 := tot_nonneg h.pos
  obtain ⟨t, hp, hT, rfl, hs, ht, rfl, hn⟩ := h
  have hlt := heap_lt hp
  have c0 : w.cell? ⟨p, 0, none⟩ = some (.bool true) := cell_of hp 0
  go_enter Try.func19, Try.ntmps19
  go_wp2_with fail
  refine wp_world (fun w1 => Upd (fun _ => False) w w1 ∧ w1.heap[w.heap.size]? = some (.cells #[.int .i64 k] 3 (0, 0))) ⟨(Upd.refl _ _).alloc _, World.alloc_heap_new w _⟩ ?_
  rintro w1 ⟨hu1, hbox⟩
  have hb1 := hb.upd hu1 (fun _ _ h => h)
  clear c0
  have cb : w1.cell? ⟨w.heap.size, 0, none⟩ = some (.int .i64 k) := cell_of hbox 0
  go_quiet ((go_at_call 21; refine Calls.quiet_of (quiet_flip (size_any (L := t.items) (fp := p :: t.blocks) ?_)); first | exact hb1 | exact hb1.drew | exact hb1.drewN _))
  go_wp2_with fail
  go_ret
  exact ⟨rfl, hu1.drewN _⟩

theorem remove_nil (w : World) (x k : Int) : Calls Try.prog 20 #[.pointer none, .int .i64 x, .int .i64 k] w fun e w' => e = .returned (.int .i64 1) ∧ Upd (fun _ => False) w w' := by
  go_enter Try.func20, Try.ntmps20
  go_wp2
  go_ret
  exact ⟨rfl, (Upd.refl _ _).alloc _⟩
theorem remove_neg {w : World} {p : Nat} {L : Items} {fp : List Nat} (h : Bag w p L fp) (x k : Int) (hk : k < 0) : Calls Try.prog 20 #[.pointer (some ⟨p, 0, none⟩), .int .i64 x, .int .i64 k] w fun e w' => e = .returned (.int .i64 2) ∧ Upd (fun _ => False) w w' := by
  obtain ⟨t, hp, hT, rfl, hs, ht, rfl, hn⟩ := h
  have hlt := heap_lt hp
  have c0 : w.cell? ⟨p, 0, none⟩ = some (.bool true) := cell_of hp 0
  go_enter Try.func20, Try.ntmps20
  go_wp2_with fail
  go_ret
  exact ⟨rfl, (Upd.refl _ _).alloc _⟩

theorem count_flip {w : World} {p : Nat} {L : Items} {fp : List Nat} (h : Bag w p L fp) (x : Int) : Calls Try.prog 14 #[.pointer (some ⟨p, 0, none⟩), .int .i64 x] w fun e w' => e = .returned (.int .i64 (cnt L x)) ∧ w' = w := (bcount_any h x).mono fun _ _ ⟨he, hw⟩ => ⟨he, hw.symm⟩

set_option maxHeartbeats 400000 in
theorem remove_none {w : World} {p : Nat} {L : Items} {fp : List Nat} (h : Bag w p L fp) (x k : Int) (hk : 0 ≤ k) (hk2 : cnt L x < k) : Calls Try.prog 20 #[.pointer (some ⟨p, 0, none⟩), .int .i64 x, .int .i64 k] w fun e w' => e = .returned (.int .i64 5) ∧ Upd (fun _ => False) w w' := by
  have hb := h
  obtain ⟨t, hp, hT, rfl, hs, ht, rfl, hn⟩ := h
  have hlt := heap_lt hp
  have c0 : w.cell? ⟨p, 0, none⟩ = some (.bool true) := cell_of hp 0
  go_enter Try.func20, Try.ntmps20
  go_wp2_with fail
  refine wp_world (fun w1 => Upd (fun _ => False) w w1 ∧ w1.heap[w.heap.size]? = some (.cells #[.int .i64 k] 3 (0, 0))) ⟨(Upd.refl _ _).alloc _, World.alloc_heap_new w _⟩ ?_
  rintro w1 ⟨hu1, hbox⟩
  have hb1 := hb.upd hu1 (fun _ _ h => h)
  clear c0
  have cb : w1.cell? ⟨w.heap.size, 0, none⟩ = some (.int .i64 k) := cell_of hbox 0
  go_quiet ((go_at_call 14; refine Calls.quiet_of_same (count_flip (L := t.items) (fp := p :: t.blocks) ?_ x); first | exact hb1 | exact hb1.drew | exact hb1.drewN _))
  go_wp2_with fail
  go_ret
  exact ⟨rfl, hu1.drewN _⟩

set_option maxHeartbeats 1000000 in
theorem remove_any {w : World} {p : Nat} {L : Items} {fp : List Nat} (h : Bag w p L fp) (x k : Int) (hk : 0 ≤ k) (hk2 : k ≤ cnt L x) : Calls Try.prog 20 #[.pointer (some ⟨p, 0, none⟩), .int .i64 x, .int .i64 k] w fun e w' => e = .returned (.int .i64 0) ∧ BagStep w fp p (put L x (cnt L x - k)) w' := by
  have hb := h
  have hp0 := tot_nonneg h.pos
  have hc0 := cnt_nonneg h.pos x
  have hc1 := cnt_le_tot h.pos x
  obtain ⟨t, hp, hT, rfl, hs, ht, rfl, hn⟩ := h
  have hlt := heap_lt hp
  have c0 : w.cell? ⟨p, 0, none⟩ = some (.bool true) := cell_of hp 0
  have c1 : w.cell? ⟨p, 1, none⟩ = some (.pointer t.adr) := cell_of hp 1
  go_enter Try.func20, Try.ntmps20
  go_wp2_with fail
  refine wp_world (fun w1 => Upd (fun _ => False) w w1 ∧ w1.heap[w.heap.size]? = some (.cells #[.int .i64 k] 3 (0, 0))) ⟨(Upd.refl _ _).alloc _, World.alloc_heap_new w _⟩ ?_
  rintro w1 ⟨hu1, hbox⟩
  have hb1 := hb.upd hu1 (fun _ _ h => h)
  have hp1 := hu1.at hp (fun h => h)
  clear c0 c1
  have c0 : w1.cell? ⟨p, 0, none⟩ = some (.bool true) := cell_of hp1 0
  have c1 : w1.cell? ⟨p, 1, none⟩ = some (.pointer t.adr) := cell_of hp1 1
  have cb : w1.cell? ⟨w.heap.size, 0, none⟩ = some (.int .i64 k) := cell_of hbox 0
  go_quiet ((go_at_call 14; refine Calls.quiet_of_same (count_flip (L := t.items) (fp := p :: t.blocks) ?_ x); first | exact hb1 | exact hb1.drew | exact hb1.drewN _))
  go_wp2_with fail
  refine calls_world (fun w2 => Upd (fun _ => False) w1 w2) ((Upd.refl _ _).drewN _) ?_
  rintro w2 hu2
  have hbox2 := hu2.at hbox (fun h => h)
  have hp2 := hu2.at hp1 (fun h => h)
  have hT2 : Tr w2 t := ⟨(hT.lies.upd hu1 fun _ _ h => h).upd hu2 fun _ _ h => h, hT.nodup, hT.good⟩
  have ht2 := remove1_tells (w := w2) (tb := w.heap.size) (cnt t.items x) (cell_of hbox2 0) hc0 hk (by omega) (by omega)
  refine (change_any t w2 x (cnt t.items x) (cnt t.items x - k) 32 #[.pointer (some ⟨w.heap.size, 0, none⟩)] hT2 hs rfl (by omega) (by omega) ht2 remove1_enters).mono ?_
  rintro e w3 ⟨t', rfl, hu3, hT3, hi3, hb3⟩
  have HI := Lib.hid hi3
  have hp3 := hu3.at hp2 hn
  clear c0 c1 cb hi3
  have c0 : w3.cell? ⟨p, 0, none⟩ = some (.bool true) := cell_of hp3 0
  have c1 : w3.cell? ⟨p, 1, none⟩ = some (.pointer t.adr) := cell_of hp3 1
  have cf : w3.frozen? ⟨p, 1, none⟩ = false := free_of hp3 1
  go_wp2_with fail
  go_ret
  have hsz : w.heap.size ≤ w2.heap.size := Nat.le_trans hu1.size hu2.size
  have hb3' : ∀ b ∈ t'.blocks, b ∈ t.blocks ∨ w.heap.size ≤ b := fun b hb => (hb3 b hb).imp id (fun h => Nat.le_trans hsz h)
  have hn' : p ∉ t'.blocks := fun hh => (hb3' p hh).elim hn (fun h => by omega)
  have hu4 : Upd (fun i => i = p) w3 (w3.setCell ⟨p, 1, none⟩ (.pointer t'.adr)) := (Upd.refl _ _).setB _ _
  refine ⟨rfl, p :: t'.blocks, ?_, ⟨t', cells_set (o := 1) _ hp3, ⟨hT3.lies.upd hu4 (fun i hi e => hn' (e ▸ hi)), hT3.nodup, hT3.good⟩, HI.out, put_srt hs _ _, ?_, rfl, hn'⟩, ?_⟩
  · refine (((hu1.mono fun _ _ h => h.elim).trans (hu2.mono fun _ _ h => h.elim)).trans (hu3.mono ?_)).trans (hu4.mono ?_)
    · exact fun i _ h => List.mem_cons_of_mem _ h
    · rintro i _ rfl; exact List.mem_cons_self ..
  · rw [tot_put hs _ _ (by omega)]; omega
  · intro b hb
    rcases List.mem_cons.1 hb with rfl | hb
    · exact .inl (List.mem_cons_self ..)
    · exact (hb3' b hb).imp (fun h => List.mem_cons_of_mem _ h) id

/-! ### copies -/

/-- a copy of a tree: the same items, in new blocks -/
def Copied (w : World) (its : Items) (e : Ending) (w' : World) : Prop :=
  ∃ t' : AT, e = .returned (.pointer t'.adr) ∧ Upd (fun _ => False) w w' ∧ Tr w' t' ∧ t'.items = its ∧ (∀ b ∈ t'.blocks, w.heap.size ≤ b)

set_option maxHeartbeats 1000000 in
theorem copied_any (t : AT) : ∀ w : World, t.Lies w → t.Good → Calls Try.prog 35 #[.pointer t.adr] w (Copied w t.items) := by
  induction t with
  | nil =>
    intro w _ _
    show Calls Try.prog 35 #[.pointer none] w _
    go_enter Try.func35, Try.ntmps35
    go_wp2_with fail
    go_ret
    exact ⟨.nil, rfl, Upd.refl _ _, ⟨trivial, List.nodup_nil, trivial⟩, rfl, fun _ h => by cases h⟩
  | node b x k l r tt s n ihl ihr =>
    intro w ⟨hN, hl, hr⟩ hG
    have gl : l.Good := hG.2.2.2.2.2.1
    have gr : r.Good := hG.2.2.2.2.2.2
    obtain ⟨b0, b1, b2, b3, b4, b5, b6, bf⟩ := hN.cells
    have i0 : ∀ w, (Instr.index 52 (.agg #[.pointer l.adr, .pointer r.adr]) (.int .i64 0)).run Try.prog w = .ok (.pointer l.adr) w := fun _ => by kernel_rfl
    have i1 : ∀ w, (Instr.index 52 (.agg #[.pointer l.adr, .pointer r.adr]) (.int .i64 1)).run Try.prog w = .ok (.pointer r.adr) w := fun _ => by kernel_rfl
    have HG := Lib.hid hG
    clear hG
    have hlt := hN.lt
    show Calls Try.prog 35 #[.pointer (some ⟨b, 0, none⟩)] w _
    go_enter Try.func35, Try.ntmps35
    go_wp2_with fail
    refine wp_world (fun w1 => Upd (fun _ => False) w w1 ∧ Nd w1 w.heap.size x k l.adr r.adr tt s n) ⟨(Upd.refl _ _).alloc _, World.alloc_heap_new w _⟩ ?_
    rintro w1 ⟨hu1, hN1⟩
    obtain ⟨nb, hnb⟩ : ∃ nb, w.heap.size = nb := ⟨_, rfl⟩
    have HNB := Lib.hid hnb
    rw [hnb] at hN1 ⊢
    clear hnb b0 b1 b2 b3 b4 b5 b6 bf
    have hl1 := hl.upd hu1 (fun _ _ h => h)
    have hr1 := hr.upd hu1 (fun _ _ h => h)
    refine wp_loop_rounds 3 ?_
    rw [rounds_succ]
    go_wp2_with fail
    refine (ihl w1 hl1 gl).mono ?_
    rintro e w2 ⟨l', rfl, hu2, hT2, hi2, hb2⟩
    have HI2 := Lib.hid hi2
    clear hi2
    have hN2 := hN1.upd hu2 (fun h => h)
    obtain ⟨b0, b1, b2, b3, b4, b5, b6, bf⟩ := hN2.cells
    go_wp2_with fail
    have hnl : nb ∉ l'.blocks := fun h => by have := hb2 nb h; have := hN1.lt; omega
    refine rounds_world (fun w3 => Upd (fun i => i = nb) w2 w3 ∧ Nd w3 nb x k l'.adr r.adr tt s n) ⟨(Upd.refl _ _).setB _ _, hN2.set2 _⟩ ?_
    rintro w3 ⟨hu3, hN3⟩
    have hnr : nb ∉ r.blocks := fun h => by have := hr.lt nb h; have := HNB.out; omega
    have hr3 := (hr1.upd hu2 (fun _ _ h => h)).upd hu3 (fun i hi e => hnr (e ▸ hi))
    have hl3 := hT2.lies.upd hu3 (fun i hi e => hnl (e ▸ hi))
    clear b0 b1 b2 b3 b4 b5 b6 bf
    rw [rounds_succ]
    go_wp2_with fail
    refine (ihr w3 hr3 gr).mono ?_
    rintro e w4 ⟨r', rfl, hu4, hT4, hi4, hb4⟩
    have HI4 := Lib.hid hi4
    clear hi4
    have hN4 := hN3.upd hu4 (fun h => h)
    have hl4 := hl3.upd hu4 (fun _ _ h => h)
    obtain ⟨b0, b1, b2, b3, b4, b5, b6, bf⟩ := hN4.cells
    go_wp2_with fail
    have hnr' : nb ∉ r'.blocks := fun h => by have := hb4 nb h; have := hN3.lt; omega
    refine rounds_world (fun w5 => Upd (fun i => i = nb) w4 w5 ∧ Nd w5 nb x k l'.adr r'.adr tt s n) ⟨(Upd.refl _ _).setB _ _, hN4.set3 _⟩ ?_
    rintro w5 ⟨hu5, hN5⟩
    rw [rounds_succ]
    go_wp2_with fail
    go_ret
    have hsz : w.heap.size ≤ w1.heap.size := hu1.size
    have hsz3 : w2.heap.size ≤ w3.heap.size := hu3.size
    have hlt2 := hl3.lt
    have hS : Upd (fun i => i = nb) w w5 := ((((hu1.mono fun _ _ h => h.elim).trans (hu2.mono fun _ _ h => h.elim)).trans hu3).trans (hu4.mono fun _ _ h => h.elim)).trans hu5
    have hG := HG.out
    refine ⟨AT.node nb x k l' r' tt s n, rfl, hS.mono fun i hi e => by have := HNB.out; omega, ⟨⟨hN5, hl4.upd hu5 (fun i hi e => hnl (e ▸ hi)), hT4.lies.upd hu5 (fun i hi e => hnr' (e ▸ hi))⟩, ?_, ?_⟩, by simp only [AT.items]; rw [HI2.out, HI4.out], ?_⟩
    · refine List.nodup_cons.2 ⟨fun h => (List.mem_append.1 h).elim hnl hnr', List.nodup_append.2 ⟨hT2.nodup, hT4.nodup, fun i hi j hj e => ?_⟩⟩
      have h1 := hlt2 i hi
      have h2 := hb4 j hj
      omega
    · refine ⟨hG.1, hG.2.1, hG.2.2.1, ?_, ?_, hT2.good, hT4.good⟩
      · rw [HI2.out, HI4.out]; exact hG.2.2.2.1
      · rw [HI2.out, HI4.out]; exact hG.2.2.2.2.1
    · intro i hi
      rcases List.mem_cons.1 hi with rfl | hi
      · have := HNB.out; omega
      · rcases List.mem_append.1 hi with hi | hi
        · have := hb2 i hi; omega
        · have := hb4 i hi; have := hu2.size; omega

theorem copy_nil (w : World) : Calls Try.prog 27 #[.pointer none] w fun e w' => e = .returned (.pointer none) ∧ w = w' := by
  go_enter Try.func27, Try.ntmps27
  go_wp2
  go_ret
  exact ⟨rfl, rfl⟩

set_option maxHeartbeats 400000 in
theorem copy_any {w : World} {p : Nat} {L : Items} {fp : List Nat} (h : Bag w p L fp) : Calls Try.prog 27 #[.pointer (some ⟨p, 0, none⟩)] w fun e w' => ∃ q fq, e = .returned (.pointer (some ⟨q, 0, none⟩)) ∧ Bag w' q L fq ∧ Upd (fun _ => False) w w' ∧ ∀ b ∈ fq, w.heap.size ≤ b := by
  obtain ⟨t, hp, hT, rfl, hs, ht, rfl, hn⟩ := h
  have c0 : w.cell? ⟨p, 0, none⟩ = some (.bool true) := cell_of hp 0
  have c1 : w.cell? ⟨p, 1, none⟩ = some (.pointer t.adr) := cell_of hp 1
  go_enter Try.func27, Try.ntmps27
  go_wp2_with fail
  refine (copied_any t w hT.lies hT.good).mono ?_
  rintro e w1 ⟨t', rfl, hu1, hT1, hi1, hb1⟩
  have HI := Lib.hid hi1
  clear hi1
  go_wp2_with fail
  go_ret
  have hu2 : Upd (fun _ => False) w1 (w1.alloc (.cells #[.bool true, .pointer t'.adr] 49)) := (Upd.refl _ _).alloc _
  refine ⟨w1.heap.size, w1.heap.size :: t'.blocks, rfl, ⟨t', World.alloc_heap_new w1 _, ⟨hT1.lies.upd hu2 (fun _ _ h => h), hT1.nodup, hT1.good⟩, HI.out, hs, ht, rfl, fun h => by have := hT1.lies.lt _ h; omega⟩, hu1.trans hu2, fun b hb => ?_⟩
  rcases List.mem_cons.1 hb with rfl | hb
  · exact hu1.size
  · exact hb1 b hb
end Go.Proofs.Ytocchcclagdjdaa
