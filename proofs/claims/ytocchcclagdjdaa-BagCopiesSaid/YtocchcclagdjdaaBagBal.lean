/- balance and first, of the bag's tree. -/
import Derived.Test.YtocchcclagdjdaaBagRot
namespace Go.Proofs.Ytocchcclagdjdaa
open Go.RowKit Pl

/-- what balance and change hand back -/
def Bal (w : World) (its : Items) (bl : List Nat) (e : Ending) (w' : World) : Prop :=
  ∃ t' : AT, e = .returned (.pointer t'.adr) ∧ Upd (fun i => i ∈ bl) w w' ∧ Tr w' t' ∧ t'.items = its ∧ t'.blocks.Perm bl

theorem AT.node_of {t : AT} {a : Addr} (h : t.adr = some a) : ∃ b x k l r tt s n, t = .node b x k l r tt s n ∧ a = ⟨b, 0, none⟩ := by
  cases t with
  | nil => cases h
  | node b x k l r tt s n => exact ⟨b, x, k, l, r, tt, s, n, rfl, by injection h with h; exact h.symm⟩
theorem AT.node_of_ht {t : AT} (h : 0 < t.ht) : ∃ b x k l r tt s n, t = .node b x k l r tt s n := by
  cases t with
  | nil => exact absurd h (by decide)
  | node b x k l r tt s n => exact ⟨b, x, k, l, r, tt, s, n, rfl⟩

theorem bal_of_turned {w w3 w4 : World} {b c : Nat} {its its' : Items} {bl bl' : List Nat} (hu : Upd (fun i => i ∈ bl) w w3) (ht : Turned b c w3 its' bl' w4) (hi : its' = its) (hp : bl'.Perm bl) (hb : b ∈ bl) (hc : c < w.heap.size → c ∈ bl) {e : Ending} (he : e = .returned (.pointer (some ⟨c, 0, none⟩))) : Bal w its bl e w4 := by
  obtain ⟨hu4, t', ha, hT, hi', hp'⟩ := ht
  refine ⟨t', by rw [ha]; exact he, hu.then hu4 ?_, hT, hi'.trans hi, hp'.trans hp⟩
  rintro i hi (rfl | rfl)
  · exact hb
  · exact hc hi

set_option maxHeartbeats 1000000 in
theorem balance_any (w : World) (b : Nat) (x k : Int) (l r : AT) (t s n : Int) (hb : Nd w b x k l.adr r.adr t s n) (hl : l.Lies w) (hr : r.Lies w) (gl : l.Good) (gr : r.Good)
    (hd : (b :: (l.blocks ++ r.blocks)).Nodup) (hk : 1 ≤ k) (htot : k + tot l.items + tot r.items ≤ 2147483647) :
    Calls Try.prog 39 #[.pointer (some ⟨b, 0, none⟩)] w (Bal w (l.items ++ (x, k) :: r.items) (b :: (l.blocks ++ r.blocks))) := by
  have ND := Lib.hid hd
  simp only [List.nodup_cons, List.mem_append, not_or] at hd
  obtain ⟨⟨hbl, hbr⟩, _⟩ := hd
  have p1 := tot_nonneg gl.pos
  have p2 := tot_nonneg gr.pos
  have l1 := gl.ht_bd
  have l2 := gr.ht_bd
  have l3 := len_le_tot gl.pos
  have l4 := len_le_tot gr.pos
  have q1 : l.ht ≤ 2147483647 := by omega
  have q2 : r.ht ≤ 2147483647 := by omega
  have q3 : 0 ≤ l.ht := by omega
  have q4 : 0 ≤ r.ht := by omega
  clear l1 l2 l3 l4
  go_enter Try.func39, Try.ntmps39
  go_wp2_with (go_at_call 38; refine (update_tree w b x k l r t s n hb hl hr gl gr hbl hbr hk (by omega)).mono ?_; rintro e w1 ⟨rfl, hu, t1, s1, n1, ⟨hB, hl1, hr1⟩, hG⟩; obtain ⟨b0, b1, b2, b3, b4, b5, b6, bf⟩ := hB.cells)
  refine wp_loop_rounds 3 ?_
  rw [rounds_succ]
  have ew : IntKind.i64.wrap 1 = 1 := by decide
  have ew0 : IntKind.i64.wrap 0 = 0 := by decide
  by_cases hA : l.ht ≤ r.ht + 1
  · go_wp2_with fail
    go_quiet ((first | (go_at_call_of 44 l.adr; refine Calls.quiet_of_same (height_tree gl ?_); first | exact hl1 | exact hl1.drew | exact hl1.drewN _) | (go_at_call_of 44 r.adr; refine Calls.quiet_of_same (height_tree gr ?_); first | exact hr1 | exact hr1.drew | exact hr1.drewN _)))
    go_wp2_with fail
    refine rounds_world (fun w2 => Upd (fun i => i = b) w w2 ∧ (AT.node b x k l r t1 s1 n1).Lies w2) ⟨hu.drewN _, hB.drewN _, hl1.drewN _, hr1.drewN _⟩ ?_
    rintro w2 ⟨hu2, hB2, hl2, hr2⟩
    clear hu hB hl1 hr1 b0 b1 b2 b3 b4 b5 b6 bf
    obtain ⟨b0, b1, b2, b3, b4, b5, b6, bf⟩ := hB2.cells
    rw [rounds_succ]
    by_cases hA2 : r.ht ≤ l.ht + 1
    · go_wp2_with fail
      go_quiet ((first | (go_at_call_of 44 l.adr; refine Calls.quiet_of_same (height_tree gl ?_); first | exact hl2 | exact hl2.drew | exact hl2.drewN _) | (go_at_call_of 44 r.adr; refine Calls.quiet_of_same (height_tree gr ?_); first | exact hr2 | exact hr2.drew | exact hr2.drewN _)))
      go_wp2_with fail
      rw [rounds_succ]
      go_wp2_with fail
      go_ret
      exact ⟨AT.node b x k l r t1 s1 n1, rfl, (hu2.drewN _).mono (fun i _ h => h ▸ List.mem_cons_self ..), ⟨⟨hB2.drewN _, hl2.drewN _, hr2.drewN _⟩, ND.out, hG⟩, rfl, List.Perm.refl _⟩
    · -- the right one is too high
      obtain ⟨c, y, m, rl, rr, t2, s2, n2, rfl⟩ := AT.node_of_ht (t := r) (by omega)
      have hA3 : l.ht + 1 < t2 := by have : ¬ t2 ≤ l.ht + 1 := hA2; omega
      have q2' : t2 ≤ 2147483647 := q2
      have q4' : 0 ≤ t2 := q4
      clear hA hA2 q2 q4
      have nd := ND.out
      simp only [AT.blocks, List.nodup_cons, List.nodup_append, List.mem_append, List.mem_cons, not_or, ne_eq] at nd
      obtain ⟨⟨_, hbc, hbrl, hbrr⟩, hndl, ⟨⟨hcrl, hcrr⟩, hndrl, hndrr, hdr⟩, hdlr⟩ := nd
      have HDR := Lib.hid hdr
      have HDLR := Lib.hid hdlr
      clear hdr hdlr
      obtain ⟨hC2, hrl2, hrr2⟩ := id hr2
      obtain ⟨c0, c1, c2, c3, c4, c5, c6, cf⟩ := hC2.cells
      have hm : 1 ≤ m := gr.1
      have grl : rl.Good := gr.2.2.2.2.2.1
      have grr : rr.Good := gr.2.2.2.2.2.2
      have hB2' : Nd w2 b x k l.adr (some ⟨c, 0, none⟩) t1 s1 n1 := hB2
      clear b0 b1 b2 b3 b4 b5 b6 bf
      obtain ⟨b0, b1, b2, b3, b4, b5, b6, bf⟩ := hB2'.cells
      go_wp2_with fail
      go_quiet ((first | (go_at_call_of 44 l.adr; refine Calls.quiet_of_same (height_tree gl ?_); first | exact hl2 | exact hl2.drew | exact hl2.drewN _) | (go_at_call 44; refine Calls.quiet_of_same (height_any (b := b) (t := t2) (s := s2) (n := n2) (.inr ⟨c, y, m, rl.adr, rr.adr, fun e => hbc e.symm, rfl, ?_⟩)); first | exact hC2 | exact hC2.drew | exact hC2.drewN _)))
      go_wp2_with fail
      refine wp_world (fun w3 => Upd (fun i => i = b) w w3 ∧ (AT.node b x k l (AT.node c y m rl rr t2 s2 n2) t1 s1 n1).Lies w3) ⟨hu2.drewN _, hB2.drewN _, hl2.drewN _, hr2.drewN _⟩ ?_
      rintro w3 ⟨hu3, hB3, hl3, hr3⟩
      replace hB3 : Nd w3 b x k l.adr (some ⟨c, 0, none⟩) t1 s1 n1 := hB3
      clear hu2 hB2 hB2' hl2 hr2 hC2 hrl2 hrr2 b0 b1 b2 b3 b4 b5 b6 bf c0 c1 c2 c3 c4 c5 c6 cf
      obtain ⟨hC3, hrl3, hrr3⟩ := id hr3
      obtain ⟨b0, b1, b2, b3, b4, b5, b6, bf⟩ := hB3.cells
      obtain ⟨c0, c1, c2, c3, c4, c5, c6, cf⟩ := hC3.cells
      by_cases hR : rr.ht < rl.ht
      · obtain ⟨d, z, q, dl, dr, t4, s4, n4, rfl⟩ := AT.node_of_ht (t := rl) (by have := grr.ht_bd; omega)
        have hR3 : rr.ht < t4 := hR
        have hC3' : Nd w3 c y m (some ⟨d, 0, none⟩) rr.adr t2 s2 n2 := hC3
        clear c0 c1 c2 c3 c4 c5 c6 cf hR
        obtain ⟨c0, c1, c2, c3, c4, c5, c6, cf⟩ := hC3'.cells
        have hD3 := hrl3.1
        have hbd : b ≠ d := fun e => hbrl (by simp [AT.blocks, e])
        go_quiet ((first | (go_at_call_of 44 rr.adr; refine Calls.quiet_of_same (height_tree grr ?_); first | exact hrr3 | exact hrr3.drew | exact hrr3.drewN _) | (go_at_call 44; refine Calls.quiet_of_same (height_any (b := b) (t := t4) (s := s4) (n := n4) (.inr ⟨d, z, q, dl.adr, dr.adr, fun e => hbd e.symm, rfl, ?_⟩)); first | exact hD3 | exact hD3.drew | exact hD3.drewN _)))
        go_wp2_with fail
        refine wp_world (fun w4 => Upd (fun i => i = b) w w4 ∧ (AT.node b x k l (AT.node c y m (AT.node d z q dl dr t4 s4 n4) rr t2 s2 n2) t1 s1 n1).Lies w4) ⟨hu3.drewN _, hB3.drewN _, hl3.drewN _, hr3.drewN _⟩ ?_
        rintro w4 ⟨hu4, hB4, hl4, hr4⟩
        replace hB4 : Nd w4 b x k l.adr (some ⟨c, 0, none⟩) t1 s1 n1 := hB4
        clear hu3 hB3 hl3 hr3 hC3 hC3' hrl3 hrr3 hD3 b0 b1 b2 b3 b4 b5 b6 bf c0 c1 c2 c3 c4 c5 c6 cf
        obtain ⟨hC4, hrl4, hrr4⟩ := id hr4
        replace hC4 : Nd w4 c y m (some ⟨d, 0, none⟩) rr.adr t2 s2 n2 := hC4
        have ndr := (List.nodup_append.1 (List.nodup_cons.1 ND.out).2).2.1
        have NDR := Lib.hid ndr
        clear ndr
        have htr : m + tot (AT.node d z q dl dr t4 s4 n4).items + tot rr.items ≤ 2147483647 := by
          have e : tot (AT.node c y m (AT.node d z q dl dr t4 s4 n4) rr t2 s2 n2).items = tot (AT.node d z q dl dr t4 s4 n4).items + (m + tot rr.items) := by show tot ((AT.node d z q dl dr t4 s4 n4).items ++ (y, m) :: rr.items) = _; rw [tot_append]; rfl
          omega
        go_region_with (go_at_call 45; refine (rotate0 _ c y m d z q dl dr t4 s4 n4 rr t2 s2 n2 ?_ ?_ ?_ grl grr NDR.out hm htr).mono ?_; exact hC4.drew; exact hrl4.drew; exact hrr4.drew; rintro e w5 ⟨rfl, hT⟩; obtain ⟨b0, b1, b2, b3, b4, b5, b6, bf⟩ := (hB4.upd (Upd.of_drew hT.1) (fun h => h.elim hbc hbd)).cells)
        go_wp2_with fail
        clear b0 b1 b2 b3 b4 b5 b6 bf
        obtain ⟨hu5, t5, ha5, hT5, hi5, hp5⟩ := hT
        replace hu5 := Upd.of_drew hu5
        have hsub : ∀ i, i = c ∨ i = d → i ∈ (AT.node c y m (AT.node d z q dl dr t4 s4 n4) rr t2 s2 n2).blocks := by
          rintro i (rfl | rfl) <;> simp [AT.blocks]
        have hdisj : ∀ i, i ∈ l.blocks → i ∉ (AT.node c y m (AT.node d z q dl dr t4 s4 n4) rr t2 s2 n2).blocks := fun i h1 h2 => (List.nodup_append.1 (List.nodup_cons.1 ND.out).2).2.2 i h1 i h2 rfl
        have hB5 := hB4.upd hu5 (fun h => h.elim hbc hbd)
        have hl5 := hl4.upd hu5 (fun i hi h => hdisj i hi (hsub i h))
        refine calls_world (fun w6 => Upd (fun i => i = b) w5 w6 ∧ Nd w6 b x k l.adr (some ⟨d, 0, none⟩) t1 s1 n1) ⟨?_, ?_⟩ ?_
        · exact (Upd.refl _ _).setB _ _
        · exact hB5.set3 _
        rintro w6 ⟨hu6, hB6⟩
        have hp5' : t5.blocks.Perm (AT.node c y m (AT.node d z q dl dr t4 s4 n4) rr t2 s2 n2).blocks := hp5
        have hb5 : b ∉ t5.blocks := fun h => hbr (hp5'.mem_iff.1 h)
        obtain ⟨e5, y5, m5, l5, r5, t5', s5, n5, rfl, he5⟩ := AT.node_of ha5
        injection he5 with he5
        subst he5
        have hpp : (b :: (l.blocks ++ (AT.node d y5 m5 l5 r5 t5' s5 n5).blocks)).Perm (b :: (l.blocks ++ (AT.node c y m (AT.node d z q dl dr t4 s4 n4) rr t2 s2 n2).blocks)) := (List.Perm.append_left _ hp5').cons _
        refine (rotate1 w6 b x k d y5 m5 l l5 r5 t5' s5 n5 t1 s1 n1 hB6 (hT5.lies.upd hu6 (fun i hi e => hb5 (e ▸ hi))) (hl5.upd hu6 (fun i hi e => hbl (e ▸ hi))) hT5.good gl (hpp.nodup_iff.2 ND.out) hk ?_).mono ?_
        · rw [hi5]; exact htot
        rintro e w7 ⟨rfl, hT7⟩
        go_wp2_with fail
        go_ret
        refine bal_of_turned (w3 := w6) ?_ hT7 (by rw [hi5]; rfl) hpp (List.mem_cons_self ..) (fun _ => by simp [AT.blocks]) rfl
        refine ((hu4.mono ?_).trans (hu5.mono ?_)).trans (hu6.mono ?_)
        · rintro i _ rfl; exact List.mem_cons_self ..
        · rintro i _ h; exact List.mem_cons_of_mem _ (List.mem_append_right _ (hsub i h))
        · rintro i _ rfl; exact List.mem_cons_self ..
      · go_quiet ((first | (go_at_call_of 44 rl.adr; refine Calls.quiet_of_same (height_tree grl ?_); first | exact hrl3 | exact hrl3.drew | exact hrl3.drewN _) | (go_at_call_of 44 rr.adr; refine Calls.quiet_of_same (height_tree grr ?_); first | exact hrr3 | exact hrr3.drew | exact hrr3.drewN _)))
        go_wp2_with fail
        refine (rotate1 _ b x k c y m l rl rr t2 s2 n2 t1 s1 n1 ?_ ?_ ?_ gr gl ND.out hk htot).mono ?_
        · exact hB3.drewN _
        · exact hr3.drewN _
        · exact hl3.drewN _
        rintro e w4 ⟨rfl, hT⟩
        go_wp2_with fail
        go_ret
        exact bal_of_turned ((hu3.drewN _).mono (fun i _ h => h ▸ List.mem_cons_self ..)) hT rfl (List.Perm.refl _) (List.mem_cons_self ..) (fun _ => by simp [AT.blocks]) rfl
  · -- the left one is too high
    obtain ⟨c, y, m, ll, lr, t2, s2, n2, rfl⟩ := AT.node_of_ht (t := l) (by omega)
    have hA3 : r.ht + 1 < t2 := by have : ¬ t2 ≤ r.ht + 1 := hA; omega
    have q1' : t2 ≤ 2147483647 := q1
    have q3' : 0 ≤ t2 := q3
    clear hA q1 q3
    have nd := ND.out
    simp only [AT.blocks, List.nodup_cons, List.nodup_append, List.mem_append, List.mem_cons, not_or, ne_eq] at nd
    obtain ⟨⟨⟨hbc, hbll, hblr⟩, _⟩, ⟨⟨hcll, hclr⟩, hndll, hndlr, hdl⟩, hndr, hdlr⟩ := nd
    have HDL := Lib.hid hdl
    have HDLR := Lib.hid hdlr
    clear hdl hdlr
    obtain ⟨hC1, hll1, hlr1⟩ := id hl1
    obtain ⟨c0, c1, c2, c3, c4, c5, c6, cf⟩ := hC1.cells
    have hm : 1 ≤ m := gl.1
    have gll : ll.Good := gl.2.2.2.2.2.1
    have glr : lr.Good := gl.2.2.2.2.2.2
    have hB1 : Nd w1 b x k (some ⟨c, 0, none⟩) r.adr t1 s1 n1 := hB
    clear b0 b1 b2 b3 b4 b5 b6 bf
    obtain ⟨b0, b1, b2, b3, b4, b5, b6, bf⟩ := hB1.cells
    go_wp2_with fail
    go_quiet ((first | (go_at_call_of 44 r.adr; refine Calls.quiet_of_same (height_tree gr ?_); first | exact hr1 | exact hr1.drew | exact hr1.drewN _) | (go_at_call 44; refine Calls.quiet_of_same (height_any (b := b) (t := t2) (s := s2) (n := n2) (.inr ⟨c, y, m, ll.adr, lr.adr, fun e => hbc e.symm, rfl, ?_⟩)); first | exact hC1 | exact hC1.drew | exact hC1.drewN _)))
    go_wp2_with fail
    refine wp_world (fun w3 => Upd (fun i => i = b) w w3 ∧ (AT.node b x k (AT.node c y m ll lr t2 s2 n2) r t1 s1 n1).Lies w3) ⟨hu.drewN _, hB.drewN _, hl1.drewN _, hr1.drewN _⟩ ?_
    rintro w3 ⟨hu3, hB3, hl3, hr3⟩
    replace hB3 : Nd w3 b x k (some ⟨c, 0, none⟩) r.adr t1 s1 n1 := hB3
    clear hu hB hB1 hl1 hr1 hC1 hll1 hlr1 b0 b1 b2 b3 b4 b5 b6 bf c0 c1 c2 c3 c4 c5 c6 cf
    obtain ⟨hC3, hll3, hlr3⟩ := id hl3
    obtain ⟨b0, b1, b2, b3, b4, b5, b6, bf⟩ := hB3.cells
    obtain ⟨c0, c1, c2, c3, c4, c5, c6, cf⟩ := hC3.cells
    by_cases hR : ll.ht < lr.ht
    · obtain ⟨d, z, q, dl, dr, t4, s4, n4, rfl⟩ := AT.node_of_ht (t := lr) (by have := gll.ht_bd; omega)
      have hR3 : ll.ht < t4 := hR
      have hC3' : Nd w3 c y m ll.adr (some ⟨d, 0, none⟩) t2 s2 n2 := hC3
      clear c0 c1 c2 c3 c4 c5 c6 cf hR
      obtain ⟨c0, c1, c2, c3, c4, c5, c6, cf⟩ := hC3'.cells
      have hD3 := hlr3.1
      have hbd : b ≠ d := fun e => hblr (by simp [AT.blocks, e])
      go_quiet ((first | (go_at_call_of 44 ll.adr; refine Calls.quiet_of_same (height_tree gll ?_); first | exact hll3 | exact hll3.drew | exact hll3.drewN _) | (go_at_call 44; refine Calls.quiet_of_same (height_any (b := b) (t := t4) (s := s4) (n := n4) (.inr ⟨d, z, q, dl.adr, dr.adr, fun e => hbd e.symm, rfl, ?_⟩)); first | exact hD3 | exact hD3.drew | exact hD3.drewN _)))
      go_wp2_with fail
      refine wp_world (fun w4 => Upd (fun i => i = b) w w4 ∧ (AT.node b x k (AT.node c y m ll (AT.node d z q dl dr t4 s4 n4) t2 s2 n2) r t1 s1 n1).Lies w4) ⟨hu3.drewN _, hB3.drewN _, hl3.drewN _, hr3.drewN _⟩ ?_
      rintro w4 ⟨hu4, hB4, hl4, hr4⟩
      replace hB4 : Nd w4 b x k (some ⟨c, 0, none⟩) r.adr t1 s1 n1 := hB4
      clear hu3 hB3 hl3 hr3 hC3 hC3' hll3 hlr3 hD3 b0 b1 b2 b3 b4 b5 b6 bf c0 c1 c2 c3 c4 c5 c6 cf
      obtain ⟨hC4, hll4, hlr4⟩ := id hl4
      replace hC4 : Nd w4 c y m ll.adr (some ⟨d, 0, none⟩) t2 s2 n2 := hC4
      have ndr := (List.nodup_append.1 (List.nodup_cons.1 ND.out).2).1
      have NDR := Lib.hid ndr
      clear ndr
      have htr : m + tot ll.items + tot (AT.node d z q dl dr t4 s4 n4).items ≤ 2147483647 := by
        have e : tot (AT.node c y m ll (AT.node d z q dl dr t4 s4 n4) t2 s2 n2).items = tot ll.items + (m + tot (AT.node d z q dl dr t4 s4 n4).items) := by show tot (ll.items ++ (y, m) :: (AT.node d z q dl dr t4 s4 n4).items) = _; rw [tot_append]; rfl
        omega
      go_region_with (go_at_call 45; refine (rotate1 _ c y m d z q ll dl dr t4 s4 n4 t2 s2 n2 ?_ ?_ ?_ glr gll NDR.out hm htr).mono ?_; exact hC4.drew; exact hlr4.drew; exact hll4.drew; rintro e w5 ⟨rfl, hT⟩; obtain ⟨b0, b1, b2, b3, b4, b5, b6, bf⟩ := (hB4.upd (Upd.of_drew hT.1) (fun h => h.elim hbc hbd)).cells)
      go_wp2_with fail
      clear b0 b1 b2 b3 b4 b5 b6 bf
      obtain ⟨hu5, t5, ha5, hT5, hi5, hp5⟩ := hT
      replace hu5 := Upd.of_drew hu5
      have hsub : ∀ i, i = c ∨ i = d → i ∈ (AT.node c y m ll (AT.node d z q dl dr t4 s4 n4) t2 s2 n2).blocks := by
        rintro i (rfl | rfl) <;> simp [AT.blocks]
      have hdisj : ∀ i, i ∈ r.blocks → i ∉ (AT.node c y m ll (AT.node d z q dl dr t4 s4 n4) t2 s2 n2).blocks := fun i h1 h2 => (List.nodup_append.1 (List.nodup_cons.1 ND.out).2).2.2 i h2 i h1 rfl
      have hB5 := hB4.upd hu5 (fun h => h.elim hbc hbd)
      have hr5 := hr4.upd hu5 (fun i hi h => hdisj i hi (hsub i h))
      refine calls_world (fun w6 => Upd (fun i => i = b) w5 w6 ∧ Nd w6 b x k (some ⟨d, 0, none⟩) r.adr t1 s1 n1) ⟨?_, ?_⟩ ?_
      · exact (Upd.refl _ _).setB _ _
      · exact hB5.set2 _
      rintro w6 ⟨hu6, hB6⟩
      have hp5' : t5.blocks.Perm (AT.node c y m ll (AT.node d z q dl dr t4 s4 n4) t2 s2 n2).blocks := hp5
      have hb5 : b ∉ t5.blocks := fun h => hbl (hp5'.mem_iff.1 h)
      obtain ⟨e5, y5, m5, l5, r5, t5', s5, n5, rfl, he5⟩ := AT.node_of ha5
      injection he5 with he5
      subst he5
      have hpp : (b :: ((AT.node d y5 m5 l5 r5 t5' s5 n5).blocks ++ r.blocks)).Perm (b :: ((AT.node c y m ll (AT.node d z q dl dr t4 s4 n4) t2 s2 n2).blocks ++ r.blocks)) := (List.Perm.append_right _ hp5').cons _
      refine (rotate0 w6 b x k d y5 m5 l5 r5 t5' s5 n5 r t1 s1 n1 hB6 (hT5.lies.upd hu6 (fun i hi e => hb5 (e ▸ hi))) (hr5.upd hu6 (fun i hi e => hbr (e ▸ hi))) hT5.good gr (hpp.nodup_iff.2 ND.out) hk ?_).mono ?_
      · rw [hi5]; exact htot
      rintro e w7 ⟨rfl, hT7⟩
      go_wp2_with fail
      go_ret
      refine bal_of_turned (w3 := w6) ?_ hT7 (by rw [hi5]; rfl) hpp (List.mem_cons_self ..) (fun _ => by simp [AT.blocks]) rfl
      refine ((hu4.mono ?_).trans (hu5.mono ?_)).trans (hu6.mono ?_)
      · rintro i _ rfl; exact List.mem_cons_self ..
      · rintro i _ h; exact List.mem_cons_of_mem _ (List.mem_append_left _ (hsub i h))
      · rintro i _ rfl; exact List.mem_cons_self ..
    · go_quiet ((first | (go_at_call_of 44 ll.adr; refine Calls.quiet_of_same (height_tree gll ?_); first | exact hll3 | exact hll3.drew | exact hll3.drewN _) | (go_at_call_of 44 lr.adr; refine Calls.quiet_of_same (height_tree glr ?_); first | exact hlr3 | exact hlr3.drew | exact hlr3.drewN _)))
      go_wp2_with fail
      refine (rotate0 _ b x k c y m ll lr t2 s2 n2 r t1 s1 n1 ?_ ?_ ?_ gl gr ND.out hk htot).mono ?_
      · exact hB3.drewN _
      · exact hl3.drewN _
      · exact hr3.drewN _
      rintro e w4 ⟨rfl, hT⟩
      go_wp2_with fail
      go_ret
      exact bal_of_turned ((hu3.drewN _).mono (fun i _ h => h ▸ List.mem_cons_self ..)) hT rfl (List.Perm.refl _) (List.mem_cons_self ..) (fun _ => by simp [AT.blocks]) rfl
end Go.Proofs.Ytocchcclagdjdaa
