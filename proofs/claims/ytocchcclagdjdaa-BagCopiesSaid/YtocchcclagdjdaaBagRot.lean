/- rotate, of the bag's tree: what it does to the tree in memory. -/
import Derived.Test.YtocchcclagdjdaaBagTree
namespace Go.Proofs.Ytocchcclagdjdaa
open Go.RowKit Pl

/-- a tree that lies in memory, its nodes in different blocks, its numbers right -/
structure Tr (w : World) (t : AT) : Prop where
  lies : t.Lies w
  nodup : t.blocks.Nodup
  good : t.Good

def SomeNode (b : Nat) (x k : Int) (l r : AT) (w : World) : Prop := ∃ t s n, (AT.node b x k l r t s n).Lies w ∧ (AT.node b x k l r t s n).Good

theorem update_tree (w : World) (b : Nat) (x k : Int) (l r : AT) (t s n : Int) (hb : Nd w b x k l.adr r.adr t s n) (hl : l.Lies w) (hr : r.Lies w) (gl : l.Good) (gr : r.Good) (hbl : b ∉ l.blocks) (hbr : b ∉ r.blocks)
    (hk : 1 ≤ k) (htot : k + tot l.items + tot r.items ≤ 2147483647) :
    Calls Try.prog 38 #[.pointer (some ⟨b, 0, none⟩)] w fun e w' => e = .returned (.pointer (some ⟨b, 0, none⟩)) ∧ Upd (fun i => i = b) w w' ∧ SomeNode b x k l r w' := by
  have h1 := gl.ht_bd
  have h2 := gr.ht_bd
  have h3 := len_le_tot gl.pos
  have h4 := len_le_tot gr.pos
  refine (update_any w b x k l.adr r.adr t s n l.ht (tot l.items) l.items.length r.ht (tot r.items) r.items.length hb (gl.kid hl hbl) (gr.kid hr hbr) (by omega) (by omega) (by omega) (by omega) (by omega) (by omega) (by omega) (by omega) (by omega) (by omega) (by omega)).mono ?_
  rintro e w' ⟨he, hu, hn⟩
  refine ⟨he, hu, _, _, _, ⟨hn, hl.upd hu (fun c hc e => hbl (e ▸ hc)), hr.upd hu (fun c hc e => hbr (e ▸ hc))⟩, hk, by omega, by omega, rfl, rfl, gl, gr⟩

/-- behind rotate: the tree that has come of it -/
def Turned (b c : Nat) (w : World) (its : Items) (bl : List Nat) (w' : World) : Prop :=
  Upd (fun i => i = b ∨ i = c) w w' ∧ ∃ t' : AT, t'.adr = some ⟨c, 0, none⟩ ∧ Tr w' t' ∧ t'.items = its ∧ t'.blocks.Perm bl

set_option maxHeartbeats 1000000 in
/-- the left kid moves up -/
theorem rotate0 (w : World) (b : Nat) (x k : Int) (c : Nat) (y m : Int) (ll lr : AT) (t1 s1 n1 : Int) (r : AT) (t s n : Int) (hb : Nd w b x k (some ⟨c, 0, none⟩) r.adr t s n)
    (hl : (AT.node c y m ll lr t1 s1 n1).Lies w) (hr : r.Lies w) (gl : (AT.node c y m ll lr t1 s1 n1).Good) (gr : r.Good)
    (hd : (b :: ((AT.node c y m ll lr t1 s1 n1).blocks ++ r.blocks)).Nodup)
    (hk : 1 ≤ k) (htot : k + tot (AT.node c y m ll lr t1 s1 n1).items + tot r.items ≤ 2147483647) :
    Calls Try.prog 45 #[.pointer (some ⟨b, 0, none⟩), .int .i64 0] w fun e w' => e = .returned (.pointer (some ⟨c, 0, none⟩)) ∧
      Turned b c w ((AT.node c y m ll lr t1 s1 n1).items ++ (x, k) :: r.items) (b :: ((AT.node c y m ll lr t1 s1 n1).blocks ++ r.blocks)) w' := by
  obtain ⟨hlN, hll, hlr⟩ := hl
  obtain ⟨hm, _, _, _, _, gll, glr⟩ := gl
  obtain ⟨b0, b1, b2, b3, b4, b5, b6, bf⟩ := hb.cells
  obtain ⟨c0, c1, c2, c3, c4, c5, c6, cf⟩ := hlN.cells
  simp only [AT.blocks, AT.items, tot_append, tot] at hd htot
  have hP : (c :: (ll.blocks ++ (b :: (lr.blocks ++ r.blocks)))).Perm (b :: ((c :: (ll.blocks ++ lr.blocks)) ++ r.blocks)) := by
    rw [List.perm_iff_count]; intro a; simp [List.count_append, List.count_cons]; omega
  have hd' := hP.nodup_iff.2 hd
  have ND := Lib.hid hd'
  simp only [List.nodup_cons, List.mem_append, List.mem_cons, not_or, List.nodup_append, ne_eq] at hd'
  obtain ⟨⟨hcl, hcb, hclr, hcr⟩, hndl, ⟨⟨hblr, hbr⟩, hndlr, hndr, hdis⟩, hdis2⟩ := hd'
  have hbl : b ∉ ll.blocks := fun h => hdis2 b h b (.inl rfl) rfl
  have HD := Lib.hid hdis
  have HD2 := Lib.hid hdis2
  have HP := Lib.hid hP
  have p1 := tot_nonneg gll.pos
  have p2 := tot_nonneg glr.pos
  have p3 := tot_nonneg gr.pos
  clear hd hdis hdis2 hP
  go_enter Try.func45, Try.ntmps45
  go_wp2_with fail
  go_region
  go_wp2_with fail
  refine wp_world (fun w1 => Upd (fun i => i = b) w w1 ∧ Nd w1 b x k lr.adr r.adr t s n) ⟨?_, ?_⟩ ?_
  · exact ((Upd.refl _ _).setB _ _).drew
  · exact (hb.set2 _).same rfl
  rintro w1 ⟨hu, hN⟩
  have hc1 := hlN.upd hu hcb
  have hlr1 := hlr.upd hu (fun i hi e => hblr (e ▸ hi))
  have hr1 := hr.upd hu (fun i hi e => hbr (e ▸ hi))
  have hll1 := hll.upd hu (fun i hi e => hbl (e ▸ hi))
  clear b0 b1 b2 b3 b4 b5 b6 bf c0 c1 c2 c3 c4 c5 c6 cf
  have ew : IntKind.i64.wrap 1 = 1 := by decide
  go_region_with (go_at_call 38; refine (update_tree _ b x k lr r t s n ?_ ?_ ?_ glr gr hblr hbr hk (by omega)).mono ?_; exact hN.drew; exact hlr1.drew; exact hr1.drew; rintro e w2 ⟨rfl, hu2, t2, s2, n2, hB, hG⟩; obtain ⟨c0, c1, c2, c3, c4, c5, c6, cf⟩ := (hc1.upd (Upd.of_drew hu2) hcb).cells)
  go_wp2_with fail
  clear c0 c1 c2 c3 c4 c5 c6 cf
  replace hu2 := Upd.of_drew hu2
  have hc2 := hc1.upd hu2 hcb
  have hll2 := hll1.upd hu2 (fun i hi e => hbl (e ▸ hi))
  refine calls_world (fun w3 => Upd (fun i => i = c) w2 w3 ∧ Nd w3 c y m ll.adr (some ⟨b, 0, none⟩) t1 s1 n1) ⟨?_, ?_⟩ ?_
  · exact (Upd.refl _ _).setB _ _
  · exact hc2.set3 _
  rintro w3 ⟨hu3, hN3⟩
  have hll3 := hll2.upd hu3 (fun i hi e => hcl (e ▸ hi))
  have hB3 := hB.upd hu3 (fun i hi e => by
    subst e
    simp only [AT.blocks, List.mem_cons, List.mem_append] at hi
    rcases hi with h | h | h
    · exact hcb h
    · exact hclr h
    · exact hcr h)
  refine (update_tree w3 c y m ll (AT.node b x k lr r t2 s2 n2) t1 s1 n1 hN3 hll3 hB3 gll hG hcl ?_ hm ?_).mono ?_
  · intro hi
    simp only [AT.blocks, List.mem_cons, List.mem_append] at hi
    rcases hi with h | h | h
    · exact hcb h
    · exact hclr h
    · exact hcr h
  · simp only [AT.items, tot_append, tot]; omega
  rintro e w4 ⟨rfl, hu4, t4, s4, n4, hC, hG4⟩
  go_wp2_with fail
  go_ret
  refine ⟨rfl, ?_, AT.node c y m ll (AT.node b x k lr r t2 s2 n2) t4 s4 n4, rfl, ⟨hC, ND.out, hG4⟩, ?_, HP.out⟩
  · exact (((hu.mono fun _ _ h => .inl h).trans (hu2.mono fun _ _ h => .inl h)).trans (hu3.mono fun _ _ h => .inr h)).trans (hu4.mono fun _ _ h => .inr h)
  · simp [AT.items]

set_option maxHeartbeats 1000000 in
/-- the right kid moves up -/
theorem rotate1 (w : World) (b : Nat) (x k : Int) (c : Nat) (y m : Int) (l rl rr : AT) (t1 s1 n1 : Int) (t s n : Int) (hb : Nd w b x k l.adr (some ⟨c, 0, none⟩) t s n)
    (hr : (AT.node c y m rl rr t1 s1 n1).Lies w) (hl : l.Lies w) (gr : (AT.node c y m rl rr t1 s1 n1).Good) (gl : l.Good)
    (hd : (b :: (l.blocks ++ (AT.node c y m rl rr t1 s1 n1).blocks)).Nodup)
    (hk : 1 ≤ k) (htot : k + tot l.items + tot (AT.node c y m rl rr t1 s1 n1).items ≤ 2147483647) :
    Calls Try.prog 45 #[.pointer (some ⟨b, 0, none⟩), .int .i64 1] w fun e w' => e = .returned (.pointer (some ⟨c, 0, none⟩)) ∧
      Turned b c w (l.items ++ (x, k) :: (AT.node c y m rl rr t1 s1 n1).items) (b :: (l.blocks ++ (AT.node c y m rl rr t1 s1 n1).blocks)) w' := by
  obtain ⟨hrN, hrl, hrr⟩ := hr
  obtain ⟨hm, _, _, _, _, grl, grr⟩ := gr
  obtain ⟨b0, b1, b2, b3, b4, b5, b6, bf⟩ := hb.cells
  obtain ⟨c0, c1, c2, c3, c4, c5, c6, cf⟩ := hrN.cells
  simp only [AT.blocks, AT.items, tot_append, tot] at hd htot
  have hP : (c :: ((b :: (l.blocks ++ rl.blocks)) ++ rr.blocks)).Perm (b :: (l.blocks ++ (c :: (rl.blocks ++ rr.blocks)))) := by
    rw [List.perm_iff_count]; intro a; simp [List.count_append, List.count_cons]; omega
  have hd' := hP.nodup_iff.2 hd
  have ND := Lib.hid hd'
  simp only [List.nodup_cons, List.mem_append, List.mem_cons, List.cons_append, not_or, List.nodup_append, ne_eq] at hd'
  obtain ⟨⟨hcb, ⟨hcl, hcrl⟩, hcrr⟩, ⟨⟨hbl, hbrl⟩, hbrr⟩, _⟩ := hd'
  have HP := Lib.hid hP
  have p1 := tot_nonneg grl.pos
  have p2 := tot_nonneg grr.pos
  have p3 := tot_nonneg gl.pos
  clear hd hP
  go_enter Try.func45, Try.ntmps45
  go_wp2_with fail
  go_region
  go_wp2_with fail
  refine wp_world (fun w1 => Upd (fun i => i = b) w w1 ∧ Nd w1 b x k l.adr rl.adr t s n) ⟨?_, ?_⟩ ?_
  · exact ((Upd.refl _ _).setB _ _).drew
  · exact (hb.set3 _).same rfl
  rintro w1 ⟨hu, hN⟩
  have hc1 := hrN.upd hu hcb
  have hrl1 := hrl.upd hu (fun i hi e => hbrl (e ▸ hi))
  have hl1 := hl.upd hu (fun i hi e => hbl (e ▸ hi))
  have hrr1 := hrr.upd hu (fun i hi e => hbrr (e ▸ hi))
  clear b0 b1 b2 b3 b4 b5 b6 bf c0 c1 c2 c3 c4 c5 c6 cf
  have ew : IntKind.i64.wrap 0 = 0 := by decide
  go_region_with (go_at_call 38; refine (update_tree _ b x k l rl t s n ?_ ?_ ?_ gl grl hbl hbrl hk (by omega)).mono ?_; exact hN.drew; exact hl1.drew; exact hrl1.drew; rintro e w2 ⟨rfl, hu2, t2, s2, n2, hB, hG⟩; obtain ⟨c0, c1, c2, c3, c4, c5, c6, cf⟩ := (hc1.upd (Upd.of_drew hu2) hcb).cells)
  go_wp2_with fail
  clear c0 c1 c2 c3 c4 c5 c6 cf
  replace hu2 := Upd.of_drew hu2
  have hc2 := hc1.upd hu2 hcb
  have hrr2 := hrr1.upd hu2 (fun i hi e => hbrr (e ▸ hi))
  refine calls_world (fun w3 => Upd (fun i => i = c) w2 w3 ∧ Nd w3 c y m (some ⟨b, 0, none⟩) rr.adr t1 s1 n1) ⟨?_, ?_⟩ ?_
  · exact (Upd.refl _ _).setB _ _
  · exact hc2.set2 _
  rintro w3 ⟨hu3, hN3⟩
  have hrr3 := hrr2.upd hu3 (fun i hi e => hcrr (e ▸ hi))
  have hnc : c ∉ (AT.node b x k l rl t2 s2 n2).blocks := by
    intro hi
    simp only [AT.blocks, List.mem_cons, List.mem_append] at hi
    rcases hi with h | h | h
    · exact hcb h
    · exact hcl h
    · exact hcrl h
  have hB3 := hB.upd hu3 (fun i hi e => by subst e; exact hnc hi)
  refine (update_tree w3 c y m (AT.node b x k l rl t2 s2 n2) rr t1 s1 n1 hN3 hB3 hrr3 hG grr hnc hcrr hm ?_).mono ?_
  · simp only [AT.items, tot_append, tot]; omega
  rintro e w4 ⟨rfl, hu4, t4, s4, n4, hC, hG4⟩
  go_wp2_with fail
  go_ret
  refine ⟨rfl, ?_, AT.node c y m (AT.node b x k l rl t2 s2 n2) rr t4 s4 n4, rfl, ⟨hC, ND.out, hG4⟩, ?_, HP.out⟩
  · exact (((hu.mono fun _ _ h => .inl h).trans (hu2.mono fun _ _ h => .inl h)).trans (hu3.mono fun _ _ h => .inr h)).trans (hu4.mono fun _ _ h => .inr h)
  · simp [AT.items]
end Go.Proofs.Ytocchcclagdjdaa
