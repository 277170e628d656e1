/- change, of the bag's tree: a number comes to be there as often as a function of its count tells. -/
import Derived.Test.YtocchcclagdjdaaBagFirst
import Derived.RangeFuncBound
import Derived.Shelf.Abstract
namespace Go.Proofs.Ytocchcclagdjdaa
open Go.RowKit Pl

/-- what change hands back -/
def Chg (w : World) (its : Items) (bl : List Nat) (e : Ending) (w' : World) : Prop :=
  ∃ t' : AT, e = .returned (.pointer t'.adr) ∧ Upd (fun i => i ∈ bl) w w' ∧ Tr w' t' ∧ t'.items = its ∧ ∀ b ∈ t'.blocks, b ∈ bl ∨ w.heap.size ≤ b

/-- a function value that, called with c, returns m, and leaves all as it is -/
def Tells (w : World) (fid : Nat) (cap : Array Value) (c m : Int) : Prop :=
  ∀ n, Calls Try.prog fid (#[.int .i64 c] ++ cap) (w.drewN n) fun e w' => e = .returned (.int .i64 m) ∧ w.drewN n = w'
def Enters (fid : Nat) : Prop := ∀ args w, (callFunc fid args).run Try.prog w = .ok (.enter fid args) w

theorem Tells.now {w : World} {fid : Nat} {cap : Array Value} {c m : Int} (h : Tells w fid cap c m) : Calls Try.prog fid (#[.int .i64 c] ++ cap) w fun e w' => e = .returned (.int .i64 m) ∧ w = w' := h 0
theorem Tells.drewN {w : World} {fid : Nat} {cap : Array Value} {c m : Int} (h : Tells w fid cap c m) (k : Nat) : Tells (w.drewN k) fid cap c m := fun n => by
  have := h (k + n)
  rw [World.drewN_drewN]; exact this
theorem Tells.drew {w : World} {fid : Nat} {cap : Array Value} {c m : Int} (h : Tells w fid cap c m) : Tells w.drew fid cap c m := h.drewN 1

/-- a leaf that has just been made -/
theorem leaf_new (w : World) (x m : Int) : Nd (w.alloc (.cells #[.int .i64 x, .int .i64 m, .pointer none, .pointer none, .int .i64 0, .int .i64 0, .int .i64 0] 54)) w.heap.size x m none none 0 0 0 := World.alloc_heap_new w _

set_option maxHeartbeats 400000 in
theorem change_nil (w : World) (x m : Int) (fid : Nat) (cap : Array Value) (hm : 0 ≤ m) (hm' : m ≤ 2147483647) (hto : Tells w fid cap 0 m) (eg : Enters fid) :
    Calls Try.prog 30 #[.pointer none, .int .i64 x, .func (.func fid) #[] cap] w (Chg w (put [] x m) []) := by
  have eg' := eg
  unfold Enters at eg'
  by_cases h : 0 < m
  · go_enter Try.func30, Try.ntmps30
    go_wp2_with fail
    refine hto.now.mono ?_
    rintro e w' ⟨rfl, rfl⟩
    go_wp2_with fail
    refine (update_tree _ w.heap.size x m .nil .nil 0 0 0 (leaf_new w x m) trivial trivial trivial trivial (by simp [AT.blocks]) (by simp [AT.blocks]) (by omega) (by simp only [AT.items, tot]; omega)).mono ?_
    rintro e w2 ⟨rfl, hu, t2, s2, n2, hL, hG⟩
    go_wp2_with fail
    go_ret
    refine ⟨AT.node w.heap.size x m .nil .nil t2 s2 n2, rfl, ?_, ⟨hL, by simp [AT.blocks], hG⟩, by simp only [AT.items, put, if_pos h]; rfl, by simp [AT.blocks]⟩
    exact ((Upd.refl (fun i => i ∈ ([] : List Nat)) w).alloc _).then (hu.mono (T := fun i => i = w.heap.size) fun _ _ h => h) (fun i hi h => absurd h (by omega))
  · go_enter Try.func30, Try.ntmps30
    go_wp2_with fail
    refine hto.now.mono ?_
    rintro e w' ⟨rfl, rfl⟩
    go_wp2_with fail
    go_ret
    exact ⟨.nil, rfl, Upd.refl _ _, ⟨trivial, List.nodup_nil, trivial⟩, by simp only [put]; rw [if_neg (by omega)]; rfl, fun _ h => by cases h⟩

/-- behind the change of a subtree and the balance of the node above it -/
theorem chg_of_bal {w w2 w3 w4 : World} {b : Nat} {bl bl' : List Nat} {its its' : Items} {e : Ending} (hu2 : Upd (fun i => i ∈ bl) w w2) (hu3 : Upd (fun i => i = b) w2 w3) (h : Bal w3 its' bl' e w4) (hi : its' = its) (hb : b ∈ bl) (hbl : ∀ i ∈ bl', i ∈ bl ∨ w.heap.size ≤ i) : Chg w its bl e w4 := by
  obtain ⟨t', he, hu4, hT, hi', hp⟩ := h
  refine ⟨t', he, ?_, hT, hi'.trans hi, fun i hi => hbl i (hp.mem_iff.1 hi)⟩
  refine ((hu2.then hu3 fun i _ e => e ▸ hb).then hu4 ?_)
  intro i hi h
  rcases hbl i h with h | h
  · exact h
  · omega

def ChangeAt (t : AT) : Prop := ∀ (w : World) (x c m : Int) (fid : Nat) (cap : Array Value), Tr w t → Srt t.items → c = cnt t.items x → 0 ≤ m → tot t.items - c + m ≤ 2147483647 → Tells w fid cap c m → Enters fid →
  Calls Try.prog 30 #[.pointer t.adr, .int .i64 x, .func (.func fid) #[] cap] w (Chg w (put t.items x m) t.blocks)

set_option maxHeartbeats 1000000 in
theorem change_left (b : Nat) (x0 k : Int) (l r : AT) (tt s n : Int) (ihl : ChangeAt l) (w : World) (x c m : Int) (fid : Nat) (cap : Array Value) (hT : Tr w (.node b x0 k l r tt s n)) (hS : Srt (AT.node b x0 k l r tt s n).items)
    (hc : c = cnt (AT.node b x0 k l r tt s n).items x) (hm : 0 ≤ m) (htot : tot (AT.node b x0 k l r tt s n).items - c + m ≤ 2147483647) (hto : Tells w fid cap c m) (eg : Enters fid) (hx : x < x0) :
    Calls Try.prog 30 #[.pointer (some ⟨b, 0, none⟩), .int .i64 x, .func (.func fid) #[] cap] w (Chg w (put (AT.node b x0 k l r tt s n).items x m) (AT.node b x0 k l r tt s n).blocks) := by
  obtain ⟨⟨hN, hl, hr⟩, hnd, hG⟩ := hT
  have gl : l.Good := hG.2.2.2.2.2.1
  have gr : r.Good := hG.2.2.2.2.2.2
  have hk : 1 ≤ k := hG.1
  have hS' : Srt (l.items ++ (x0, k) :: r.items) := hS
  have ei : put (AT.node b x0 k l r tt s n).items x m = put l.items x m ++ (x0, k) :: r.items := put_lt hS' m hx
  have ec : c = cnt l.items x := hc.trans (cnt_lt hS' hx)
  have hSl := (srt_append.1 hS').1
  have et : tot (AT.node b x0 k l r tt s n).items = tot l.items + (k + tot r.items) := by show tot (l.items ++ (x0, k) :: r.items) = _; rw [tot_append]; rfl
  have etl := tot_put hSl x m hm
  have pr := tot_nonneg gr.pos
  have hnd' := hnd
  simp only [AT.blocks, List.nodup_cons, List.mem_append, not_or] at hnd'
  obtain ⟨⟨hbl, hbr⟩, hndlr⟩ := hnd'
  obtain ⟨hndl, hndr, hdis⟩ := List.nodup_append.1 hndlr
  have hlt := hN.lt
  have hrlt := hr.lt
  rw [ei]
  have EC := Lib.hid ec
  have ET := Lib.hid et
  have ETL := Lib.hid etl
  have HS := Lib.hid hS
  have HDIS := Lib.hid hdis
  have HTOT := Lib.hid htot
  have HRLT := Lib.hid hrlt
  have HTO := Lib.hid hto
  clear ec et etl hdis hS hS' hc ei htot hnd hndlr hG hrlt hto
  obtain ⟨b0, b1, b2, b3, b4, b5, b6, bf⟩ := hN.cells
  have ew : IntKind.i64.wrap 1 = 1 := by decide
  go_enter Try.func30, Try.ntmps30
  go_wp2_with fail
  go_region_with (go_at_call 30; refine (ihl w.drew x c m fid cap ⟨hl.drew, hndl, gl⟩ hSl EC.out hm (by have := ET.out; have := HTOT.out; omega) HTO.out.drew eg).mono ?_; rintro e w2 ⟨l', rfl, hu2, hT2, hi2, hb2⟩; obtain ⟨b0, b1, b2, b3, b4, b5, b6, bf⟩ := (hN.upd (Upd.of_drew hu2) hbl).cells)
  go_wp2_with fail
  clear b0 b1 b2 b3 b4 b5 b6 bf
  replace hu2 := Upd.of_drew hu2
  replace hb2 : ∀ i ∈ l'.blocks, i ∈ l.blocks ∨ w.heap.size ≤ i := hb2
  have hB2 := hN.upd hu2 hbl
  have hr2 := hr.upd hu2 (fun i hi h => HDIS.out i h i hi rfl)
  have hbl' : b ∉ l'.blocks := fun h => (hb2 b h).elim hbl (fun h => by omega)
  refine calls_world (fun w3 => Upd (fun i => i = b) w2 w3 ∧ Nd w3 b x0 k l'.adr r.adr tt s n) ⟨?_, ?_⟩ ?_
  · exact (Upd.refl _ _).setB _ _
  · exact hB2.set2 _
  rintro w3 ⟨hu3, hB3⟩
  refine (balance_any w3 b x0 k l' r tt s n hB3 (hT2.lies.upd hu3 (fun i hi e => hbl' (e ▸ hi))) (hr2.upd hu3 (fun i hi e => hbr (e ▸ hi))) hT2.good gr ?_ hk ?_).mono ?_
  · refine List.nodup_cons.2 ⟨fun h => (List.mem_append.1 h).elim hbl' hbr, List.nodup_append.2 ⟨hT2.nodup, hndr, fun i hi j hj e => ?_⟩⟩
    subst e
    rcases hb2 i hi with h | h
    · exact HDIS.out i h i hj rfl
    · have := HRLT.out i hj; omega
  · rw [hi2, ETL.out]
    have := ET.out; have := HTOT.out; have := EC.out
    omega
  rintro e w4 hB4
  obtain ⟨t', rfl, hR4⟩ := id hB4
  clear hR4
  go_wp2_with fail
  go_ret
  refine chg_of_bal (bl' := b :: (l'.blocks ++ r.blocks)) (hu2.mono fun i _ h => List.mem_cons_of_mem _ (List.mem_append_left _ h)) hu3 hB4 (by rw [hi2]) (List.mem_cons_self ..) ?_
  intro i hi
  rcases List.mem_cons.1 hi with rfl | hi
  · exact .inl (List.mem_cons_self ..)
  · rcases List.mem_append.1 hi with hi | hi
    · exact (hb2 i hi).imp (fun h => List.mem_cons_of_mem _ (List.mem_append_left _ h)) id
    · exact .inl (List.mem_cons_of_mem _ (List.mem_append_right _ hi))

set_option maxHeartbeats 1000000 in
theorem change_right (b : Nat) (x0 k : Int) (l r : AT) (tt s n : Int) (ihr : ChangeAt r) (w : World) (x c m : Int) (fid : Nat) (cap : Array Value) (hT : Tr w (.node b x0 k l r tt s n)) (hS : Srt (AT.node b x0 k l r tt s n).items)
    (hc : c = cnt (AT.node b x0 k l r tt s n).items x) (hm : 0 ≤ m) (htot : tot (AT.node b x0 k l r tt s n).items - c + m ≤ 2147483647) (hto : Tells w fid cap c m) (eg : Enters fid) (hx : x0 < x) :
    Calls Try.prog 30 #[.pointer (some ⟨b, 0, none⟩), .int .i64 x, .func (.func fid) #[] cap] w (Chg w (put (AT.node b x0 k l r tt s n).items x m) (AT.node b x0 k l r tt s n).blocks) := by
  obtain ⟨⟨hN, hl, hr⟩, hnd, hG⟩ := hT
  have gl : l.Good := hG.2.2.2.2.2.1
  have gr : r.Good := hG.2.2.2.2.2.2
  have hk : 1 ≤ k := hG.1
  have hS' : Srt (l.items ++ (x0, k) :: r.items) := hS
  have ei : put (AT.node b x0 k l r tt s n).items x m = l.items ++ (x0, k) :: put r.items x m := put_gt hS' m hx
  have ec : c = cnt r.items x := hc.trans (cnt_gt hS' hx)
  have hSr := ((srt_append.1 hS').2.1).2
  have et : tot (AT.node b x0 k l r tt s n).items = tot l.items + (k + tot r.items) := by show tot (l.items ++ (x0, k) :: r.items) = _; rw [tot_append]; rfl
  have etl := tot_put hSr x m hm
  have pr := tot_nonneg gl.pos
  have hnd' := hnd
  simp only [AT.blocks, List.nodup_cons, List.mem_append, not_or] at hnd'
  obtain ⟨⟨hbl, hbr⟩, hndlr⟩ := hnd'
  obtain ⟨hndl, hndr, hdis⟩ := List.nodup_append.1 hndlr
  have hlt := hN.lt
  have hrlt := hl.lt
  rw [ei]
  have EC := Lib.hid ec
  have ET := Lib.hid et
  have ETL := Lib.hid etl
  have HS := Lib.hid hS
  have HDIS := Lib.hid hdis
  have HTOT := Lib.hid htot
  have HRLT := Lib.hid hrlt
  have HTO := Lib.hid hto
  clear ec et etl hdis hS hS' hc ei htot hnd hndlr hG hrlt hto
  obtain ⟨b0, b1, b2, b3, b4, b5, b6, bf⟩ := hN.cells
  go_enter Try.func30, Try.ntmps30
  go_wp2_with fail
  go_region_with (go_at_call 30; refine (ihr w.drew x c m fid cap ⟨hr.drew, hndr, gr⟩ hSr EC.out hm (by have := ET.out; have := HTOT.out; omega) HTO.out.drew eg).mono ?_; rintro e w2 ⟨r', rfl, hu2, hT2, hi2, hb2⟩; obtain ⟨b0, b1, b2, b3, b4, b5, b6, bf⟩ := (hN.upd (Upd.of_drew hu2) hbr).cells)
  go_wp2_with fail
  clear b0 b1 b2 b3 b4 b5 b6 bf
  replace hu2 := Upd.of_drew hu2
  replace hb2 : ∀ i ∈ r'.blocks, i ∈ r.blocks ∨ w.heap.size ≤ i := hb2
  have hB2 := hN.upd hu2 hbr
  have hl2 := hl.upd hu2 (fun i hi h => HDIS.out i hi i h rfl)
  have hbr' : b ∉ r'.blocks := fun h => (hb2 b h).elim hbr (fun h => by omega)
  refine calls_world (fun w3 => Upd (fun i => i = b) w2 w3 ∧ Nd w3 b x0 k l.adr r'.adr tt s n) ⟨?_, ?_⟩ ?_
  · exact (Upd.refl _ _).setB _ _
  · exact hB2.set3 _
  rintro w3 ⟨hu3, hB3⟩
  refine (balance_any w3 b x0 k l r' tt s n hB3 (hl2.upd hu3 (fun i hi e => hbl (e ▸ hi))) (hT2.lies.upd hu3 (fun i hi e => hbr' (e ▸ hi))) gl hT2.good ?_ hk ?_).mono ?_
  · refine List.nodup_cons.2 ⟨fun h => (List.mem_append.1 h).elim hbl hbr', List.nodup_append.2 ⟨hndl, hT2.nodup, fun i hi j hj e => ?_⟩⟩
    subst e
    rcases hb2 i hj with h | h
    · exact HDIS.out i hi i h rfl
    · have := HRLT.out i hi; omega
  · rw [hi2, ETL.out]
    have := ET.out; have := HTOT.out; have := EC.out
    omega
  rintro e w4 hB4
  obtain ⟨t', rfl, hR4⟩ := id hB4
  clear hR4
  go_wp2_with fail
  go_ret
  refine chg_of_bal (bl' := b :: (l.blocks ++ r'.blocks)) (hu2.mono fun i _ h => List.mem_cons_of_mem _ (List.mem_append_right _ h)) hu3 hB4 (by rw [hi2]) (List.mem_cons_self ..) ?_
  intro i hi
  rcases List.mem_cons.1 hi with rfl | hi
  · exact .inl (List.mem_cons_self ..)
  · rcases List.mem_append.1 hi with hi | hi
    · exact .inl (List.mem_cons_of_mem _ (List.mem_append_left _ hi))
    · exact (hb2 i hi).imp (fun h => List.mem_cons_of_mem _ (List.mem_append_right _ h)) id

theorem zero_tells (w : World) (c : Int) : Tells w 41 #[] c 0 := fun n => by
  show Calls Try.prog 41 #[.int .i64 c] (w.drewN n) _
  go_enter Try.func41, Try.ntmps41
  go_wp2
  go_ret
  exact ⟨rfl, rfl⟩
theorem zero_enters : Enters 41 := Go.Proofs.enters_of Try.func41 (by kernel_rfl) rfl

set_option maxHeartbeats 1000000 in
theorem change_here (b : Nat) (x0 k : Int) (l r : AT) (tt s n : Int) (ihr : ChangeAt r) (w : World) (c m : Int) (fid : Nat) (cap : Array Value) (hT : Tr w (.node b x0 k l r tt s n)) (hS : Srt (AT.node b x0 k l r tt s n).items)
    (hc : c = cnt (AT.node b x0 k l r tt s n).items x0) (hm : 0 ≤ m) (htot : tot (AT.node b x0 k l r tt s n).items - c + m ≤ 2147483647) (hto : Tells w fid cap c m) (eg : Enters fid) :
    Calls Try.prog 30 #[.pointer (some ⟨b, 0, none⟩), .int .i64 x0, .func (.func fid) #[] cap] w (Chg w (put (AT.node b x0 k l r tt s n).items x0 m) (AT.node b x0 k l r tt s n).blocks) := by
  obtain ⟨⟨hN, hl, hr⟩, hnd, hG⟩ := hT
  have gl : l.Good := hG.2.2.2.2.2.1
  have gr : r.Good := hG.2.2.2.2.2.2
  have hS' : Srt (l.items ++ (x0, k) :: r.items) := hS
  have ec : c = k := hc.trans (cnt_mid hS')
  subst ec
  have ei : put (AT.node b x0 c l r tt s n).items x0 m = if 0 < m then l.items ++ (x0, m) :: r.items else l.items ++ r.items := put_eq hS' m
  have et : tot (AT.node b x0 c l r tt s n).items = tot l.items + (c + tot r.items) := by show tot (l.items ++ (x0, c) :: r.items) = _; rw [tot_append]; rfl
  have hSr := ((srt_append.1 hS').2.1).2
  have pl := tot_nonneg gl.pos
  have pr := tot_nonneg gr.pos
  have hnd' := hnd
  simp only [AT.blocks, List.nodup_cons, List.mem_append, not_or] at hnd'
  obtain ⟨⟨hbl, hbr⟩, hndlr⟩ := hnd'
  obtain ⟨hndl, hndr, hdis⟩ := List.nodup_append.1 hndlr
  have hlt := hN.lt
  have hllt := hl.lt
  have ET := Lib.hid et
  have ND := Lib.hid hnd
  have EI := Lib.hid ei
  have HDIS := Lib.hid hdis
  have HTOT := Lib.hid htot
  have HLLT := Lib.hid hllt
  clear et hdis hS hS' hc ei htot hnd hndlr hG hllt
  obtain ⟨b0, b1, b2, b3, b4, b5, b6, bf⟩ := hN.cells
  have eg' := eg
  unfold Enters at eg'
  have ew : IntKind.i64.wrap 1 = 1 := by decide
  by_cases hm0 : 0 < m
  · have ei := EI.out
    rw [if_pos hm0] at ei
    rw [ei]
    clear ei
    go_enter Try.func30, Try.ntmps30
    go_wp2_with fail
    refine hto.now.mono ?_
    rintro e w' ⟨rfl, rfl⟩
    go_wp2_with fail
    refine calls_world (fun w1 => Upd (fun i => i = b) w w1 ∧ Nd w1 b x0 m l.adr r.adr tt s n) ⟨(Upd.refl _ _).setB _ _, cells_set _ hN⟩ ?_
    rintro w1 ⟨hu1, hN1⟩
    refine (update_tree w1 b x0 m l r tt s n hN1 (hl.upd hu1 (fun i hi e => hbl (e ▸ hi))) (hr.upd hu1 (fun i hi e => hbr (e ▸ hi))) gl gr hbl hbr (by omega) (by have := ET.out; have := HTOT.out; omega)).mono ?_
    rintro e w2 ⟨rfl, hu2, t2, s2, n2, hL, hG2⟩
    go_wp2_with fail
    go_ret
    exact ⟨AT.node b x0 m l r t2 s2 n2, rfl, (hu1.trans hu2).mono (fun i _ h => h ▸ List.mem_cons_self ..), ⟨hL, ND.out, hG2⟩, rfl, fun i hi => .inl hi⟩
  · have ei := EI.out
    rw [if_neg hm0] at ei
    rw [ei]
    clear ei
    obtain rfl : m = 0 := by omega
    go_enter Try.func30, Try.ntmps30
    go_wp2_with fail
    refine hto.now.mono ?_
    rintro e w' ⟨rfl, rfl⟩
    go_wp2_with fail
    refine wp_world (fun w1 => Upd (fun i => i = b) w w1 ∧ Nd w1 b x0 0 l.adr r.adr tt s n) ⟨(Upd.refl _ _).setB _ _, cells_set _ hN⟩ ?_
    rintro w1 ⟨hu1, hN1⟩
    have hl1 := hl.upd hu1 (fun i hi e => hbl (e ▸ hi))
    have hr1 := hr.upd hu1 (fun i hi e => hbr (e ▸ hi))
    clear b0 b1 b2 b3 b4 b5 b6 bf
    obtain ⟨b0, b1, b2, b3, b4, b5, b6, bf⟩ := hN1.cells
    refine wp_loop_rounds 3 ?_
    rw [rounds_succ]
    cases l with
    | nil =>
      have b2' : w1.cell? ⟨b, 2, none⟩ = some (.pointer none) := b2
      clear b2
      go_wp2_with fail
      go_ret
      exact ⟨r, rfl, hu1.mono (fun i _ h => h ▸ List.mem_cons_self ..), ⟨hr1, hndr, gr⟩, rfl, fun i hi => .inl (List.mem_cons_of_mem _ hi)⟩
    | node lb lx lk ll lr lt ls ln =>
      have b2' : w1.cell? ⟨b, 2, none⟩ = some (.pointer (some ⟨lb, 0, none⟩)) := b2
      clear b2
      go_wp2_with fail
      rw [rounds_succ]
      cases r with
      | nil =>
        have b3' : w1.cell? ⟨b, 3, none⟩ = some (.pointer none) := b3
        clear b3
        go_wp2_with fail
        go_ret
        exact ⟨AT.node lb lx lk ll lr lt ls ln, rfl, hu1.mono (fun i _ h => h ▸ List.mem_cons_self ..), ⟨hl1, hndl, gl⟩, by simp [AT.items], fun i hi => .inl (List.mem_cons_of_mem _ (List.mem_append_left _ hi))⟩
      | node rb rx rk rl rr rt rs rn =>
        have b3' : w1.cell? ⟨b, 3, none⟩ = some (.pointer (some ⟨rb, 0, none⟩)) := b3
        clear b3
        go_wp2_with fail
        rw [rounds_succ]
        go_wp2_with fail
        have hnl := (List.nodup_append.1 (List.nodup_cons.1 ND.out).2)
        generalize hL : AT.node lb lx lk ll lr lt ls ln = L at *
        generalize hR : AT.node rb rx rk rl rr rt rs rn = R at *
        have hRa : R.adr = some ⟨rb, 0, none⟩ := by rw [← hR]; rfl
        have HRA := Lib.hid hRa
        clear hL hR hRa hnl
        refine (first_any w1 R rb HRA.out hr1).mono ?_
        rintro e w2 ⟨⟨fb, fx, fk, fr, ft, fs, fn, rest, rfl, hF, hfb, hfi⟩, rfl⟩
        have HFI := Lib.hid hfi
        clear hfi
        have hbf : fb ≠ b := fun e => hbr (e ▸ hfb)
        obtain ⟨f0, f1, f2, f3, f4, f5, f6, ff⟩ := hF.cells
        go_wp2_with fail
        go_region
        go_wp2_with fail
        refine wp_world (fun w3 => Upd (fun i => i = b) w1 w3 ∧ Nd w3 b fx fk L.adr (some ⟨rb, 0, none⟩) tt s n) ⟨?_, ?_⟩ ?_
        · exact (((Upd.refl _ _).setB _ _).setB _ _).drew
        · have h1 : Nd w1 b x0 0 L.adr (some ⟨rb, 0, none⟩) tt s n := by have := hN1; rwa [HRA.out] at this
          exact (cells_set (o := 1) _ (cells_set (o := 0) _ h1))
        rintro w3 ⟨hu3, hN3⟩
        have hF3 := hF.upd hu3 hbf
        have hr3 := hr1.upd hu3 (fun i hi e => hbr (e ▸ hi))
        have hl3 := hl1.upd hu3 (fun i hi e => hbl (e ▸ hi))
        clear b0 b1 b2' b3' b4 b5 b6 bf f0 f1 f2 f3 f4 f5 f6 ff
        obtain ⟨b0, b1, b2, b3, b4, b5, b6, bf⟩ := hN3.cells
        obtain ⟨f0, f1, f2, f3, f4, f5, f6, ff⟩ := hF3.cells
        have hcr : fk = cnt R.items fx := by rw [HFI.out, cnt, if_pos rfl]
        have hput : put R.items fx 0 = rest := by rw [HFI.out]; simp [put]
        have htr : tot R.items = fk + tot rest := by rw [HFI.out]; rfl
        have hkf : 1 ≤ fk := by have := gr.pos (fx, fk) (by rw [HFI.out]; exact List.mem_cons_self ..); exact this
        have htb : tot R.items ≤ 2147483647 := by have := ET.out; have := HTOT.out; omega
        have hcall := ihr w3.drew fx fk 0 41 #[] ⟨hr3.drew, hndr, gr⟩ hSr hcr (by omega) (by omega) (zero_tells _ _) zero_enters
        rw [HRA.out, hput] at hcall
        have HCALL := Lib.hid hcall
        have HTR := Lib.hid htr
        have HCR := Lib.hid hcr
        clear hcall htr hcr hput
        go_region_with (go_at_call 30; refine HCALL.out.mono ?_; rintro e w4 ⟨r', rfl, hu4, hT4, hi4, hb4⟩; obtain ⟨b0, b1, b2, b3, b4, b5, b6, bf⟩ := (hN3.upd (Upd.of_drew hu4) hbr).cells)
        all_goals
          go_wp2_with fail
          clear b0 b1 b2 b3 b4 b5 b6 bf f0 f1 f2 f3 f4 f5 f6 ff
          replace hu4 := Upd.of_drew hu4
          have hsz : w.heap.size ≤ w3.heap.size := Nat.le_trans hu1.size hu3.size
          replace hb4 : ∀ i ∈ r'.blocks, i ∈ R.blocks ∨ w.heap.size ≤ i := fun i hi => (hb4 i hi).imp id (fun h => Nat.le_trans hsz h)
          have hN4 := hN3.upd hu4 hbr
          have hl4 := hl3.upd hu4 (fun i hi h => HDIS.out i hi i h rfl)
          have hbr' : b ∉ r'.blocks := fun h => (hb4 b h).elim hbr (fun h => by omega)
          refine calls_world (fun w5 => Upd (fun i => i = b) w4 w5 ∧ Nd w5 b fx fk L.adr r'.adr tt s n) ⟨?_, ?_⟩ ?_
          · exact (Upd.refl _ _).setB _ _
          · exact hN4.set3 _
          rintro w5 ⟨hu5, hN5⟩
          refine (balance_any w5 b fx fk L r' tt s n hN5 (hl4.upd hu5 (fun i hi e => hbl (e ▸ hi))) (hT4.lies.upd hu5 (fun i hi e => hbr' (e ▸ hi))) gl hT4.good ?_ hkf ?_).mono ?_
          · refine List.nodup_cons.2 ⟨fun h => (List.mem_append.1 h).elim hbl hbr', List.nodup_append.2 ⟨hndl, hT4.nodup, fun i hi j hj e => ?_⟩⟩
            subst e
            rcases hb4 i hj with h | h
            · exact HDIS.out i hi i h rfl
            · have := HLLT.out i hi; omega
          · rw [hi4]
            have := ET.out; have := HTOT.out; have := HTR.out
            omega
          rintro e w6 hB6
          obtain ⟨t', rfl, hR6⟩ := id hB6
          clear hR6
          go_wp2_with fail
          go_ret
          refine chg_of_bal (w2 := w4) (bl' := b :: (L.blocks ++ r'.blocks)) ?_ hu5 hB6 (by rw [hi4, HFI.out]) (List.mem_cons_self ..) ?_
          · refine ((hu1.mono ?_).trans (hu3.mono ?_)).trans (hu4.mono ?_)
            · rintro i _ rfl; exact List.mem_cons_self ..
            · rintro i _ rfl; exact List.mem_cons_self ..
            · rintro i _ h; exact List.mem_cons_of_mem _ (List.mem_append_right _ h)
          · intro i hi
            rcases List.mem_cons.1 hi with rfl | hi
            · exact .inl (List.mem_cons_self ..)
            · rcases List.mem_append.1 hi with hi | hi
              · exact .inl (List.mem_cons_of_mem _ (List.mem_append_left _ hi))
              · exact (hb4 i hi).imp (fun h => List.mem_cons_of_mem _ (List.mem_append_right _ h)) id

/-- change, at every tree -/
theorem change_any : ∀ t : AT, ChangeAt t
  | .nil => fun w x c m fid cap _ _ hc hm htot hto eg => by
    subst hc
    exact change_nil w x m fid cap hm (by simpa [AT.items, tot, cnt] using htot) hto eg
  | .node b x0 k l r tt s n => fun w x c m fid cap hT hS hc hm htot hto eg => by
    rcases Int.lt_trichotomy x x0 with h | h | h
    · exact change_left b x0 k l r tt s n (change_any l) w x c m fid cap hT hS hc hm htot hto eg h
    · subst h
      exact change_here b x k l r tt s n (change_any r) w c m fid cap hT hS hc hm htot hto eg
    · exact change_right b x0 k l r tt s n (change_any r) w x c m fid cap hT hS hc hm htot hto eg h
end Go.Proofs.Ytocchcclagdjdaa
