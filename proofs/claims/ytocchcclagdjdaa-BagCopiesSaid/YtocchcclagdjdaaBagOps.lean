/- What the methods of a bag answer, and what they do to it. -/
import Derived.Test.YtocchcclagdjdaaBagChange
namespace Go.Proofs.Ytocchcclagdjdaa
open Go.RowKit Pl

/-- a bag in memory: it holds the items L; its blocks are fp -/
def Bag (w : World) (p : Nat) (L : Items) (fp : List Nat) : Prop :=
  ∃ t : AT, w.heap[p]? = some (.cells #[.bool true, .pointer t.adr] 49 (0, 0)) ∧ Tr w t ∧ t.items = L ∧ Srt L ∧ tot L ≤ 2147483647 ∧ fp = p :: t.blocks ∧ p ∉ t.blocks

theorem Bag.srt {w : World} {p : Nat} {L : Items} {fp : List Nat} (h : Bag w p L fp) : Srt L := by obtain ⟨_, _, _, _, h, _⟩ := h; exact h
theorem Bag.le {w : World} {p : Nat} {L : Items} {fp : List Nat} (h : Bag w p L fp) : tot L ≤ 2147483647 := by obtain ⟨_, _, _, _, _, h, _⟩ := h; exact h
theorem Bag.pos {w : World} {p : Nat} {L : Items} {fp : List Nat} (h : Bag w p L fp) : Pos L := by obtain ⟨t, _, hT, rfl, _⟩ := h; exact hT.good.pos
theorem Bag.upd {w w' : World} {p : Nat} {L : Items} {fp : List Nat} (h : Bag w p L fp) {S : Nat → Prop} (hu : Upd S w w') (hS : ∀ b ∈ fp, ¬ S b) : Bag w' p L fp := by
  obtain ⟨t, hp, hT, hi, hs, ht, rfl, hn⟩ := h
  exact ⟨t, hu.at hp (hS _ (List.mem_cons_self ..)), ⟨hT.lies.upd hu fun b hb => hS b (List.mem_cons_of_mem _ hb), hT.nodup, hT.good⟩, hi, hs, ht, rfl, hn⟩
theorem Bag.lt {w : World} {p : Nat} {L : Items} {fp : List Nat} (h : Bag w p L fp) : ∀ b ∈ fp, b < w.heap.size := by
  obtain ⟨t, hp, hT, hi, hs, ht, rfl, hn⟩ := h
  intro b hb
  rcases List.mem_cons.1 hb with rfl | hb
  · exact heap_lt hp
  · exact hT.lies.lt b hb
theorem Bag.drewN {w : World} {p : Nat} {L : Items} {fp : List Nat} (h : Bag w p L fp) (n : Nat) : Bag (w.drewN n) p L fp := h.upd ((Upd.refl (fun _ => False) w).drewN n) fun _ _ h => h
theorem Bag.drew {w : World} {p : Nat} {L : Items} {fp : List Nat} (h : Bag w p L fp) : Bag w.drew p L fp := h.drewN 1
theorem Bag.mem {w : World} {p : Nat} {L : Items} {fp : List Nat} (h : Bag w p L fp) : p ∈ fp := by obtain ⟨_, _, _, _, _, _, rfl, _⟩ := h; exact List.mem_cons_self ..

theorem new_any (w : World) : Calls Try.prog 22 #[] w fun e w' => ∃ p, e = .returned (.pointer (some ⟨p, 0, none⟩)) ∧ Bag w' p [] [p] ∧ Upd (fun _ => False) w w' ∧ w.heap.size ≤ p := by
  go_enter Try.func22, Try.ntmps22
  go_wp2
  go_ret
  exact ⟨w.heap.size, rfl, ⟨.nil, World.alloc_heap_new w _, ⟨trivial, List.nodup_nil, trivial⟩, rfl, trivial, by simp [tot], rfl, by simp [AT.blocks]⟩, (Upd.refl _ _).alloc _, Nat.le_refl _⟩

theorem size_any {w : World} {p : Nat} {L : Items} {fp : List Nat} (h : Bag w p L fp) : Calls Try.prog 21 #[.pointer (some ⟨p, 0, none⟩)] w fun e w' => e = .returned (.int .i64 (tot L)) ∧ ∃ n, w.drewN n = w' := by
  obtain ⟨t, hp, hT, rfl, hs, ht, rfl, hn⟩ := h
  have c0 := cell_of hp 0
  have c1 : w.cell? ⟨p, 1, none⟩ = some (.pointer t.adr) := cell_of hp 1
  go_enter Try.func21, Try.ntmps21
  go_wp2_with (go_at_call 28; refine (count_tree hT.good hT.lies).mono ?_; rintro e w1 ⟨rfl, n, rfl⟩)
  go_ret
  exact ⟨rfl, n, rfl⟩
theorem distinct_any {w : World} {p : Nat} {L : Items} {fp : List Nat} (h : Bag w p L fp) : Calls Try.prog 18 #[.pointer (some ⟨p, 0, none⟩)] w fun e w' => e = .returned (.int .i64 L.length) ∧ ∃ n, w.drewN n = w' := by
  obtain ⟨t, hp, hT, rfl, hs, ht, rfl, hn⟩ := h
  have c1 : w.cell? ⟨p, 1, none⟩ = some (.pointer t.adr) := cell_of hp 1
  go_enter Try.func18, Try.ntmps18
  go_wp2_with (go_at_call 28; refine (count_tree hT.good hT.lies).mono ?_; rintro e w1 ⟨rfl, n, rfl⟩)
  go_ret
  exact ⟨rfl, n, rfl⟩

theorem AT.adr_cases (t : AT) : (t = .nil ∧ t.adr = none) ∨ ∃ b x k l r tt s n, t = .node b x k l r tt s n ∧ t.adr = some ⟨b, 0, none⟩ := by
  cases t with
  | nil => exact .inl ⟨rfl, rfl⟩
  | node b x k l r tt s n => exact .inr ⟨b, x, k, l, r, tt, s, n, rfl, rfl⟩

/-- where the search for x stands: a subtree that counts x as the whole tree does -/
def AtCount (w : World) (c x : Int) (k : Nat) (v : Value) : Prop := ∃ t : AT, v = .pointer t.adr ∧ t.Lies w ∧ t.sz < k ∧ Srt t.items ∧ c = cnt t.items x
theorem AtCount.cases {w : World} {c x : Int} {k : Nat} {v : Value} (h : AtCount w c x k v) : (v = .pointer none ∧ 0 = c) ∨ ∃ b y m lp rp tt s n, v = .pointer (some ⟨b, 0, none⟩) ∧ Nd w b y m lp rp tt s n ∧
    (x < y → ∃ k', k' < k ∧ AtCount w c x k' (.pointer lp)) ∧ (y < x → ∃ k', k' < k ∧ AtCount w c x k' (.pointer rp)) ∧ (x = y → m = c) := by
  obtain ⟨t, hv, hl, hk, hs, hc⟩ := h
  rcases t.adr_cases with ⟨rfl, ha⟩ | ⟨b, y, m, l, r, tt, s, n, rfl, ha⟩
  · exact .inl ⟨by rw [hv, ha], hc.symm⟩
  · have hs' : Srt (l.items ++ (y, m) :: r.items) := hs
    have hc' : c = cnt (l.items ++ (y, m) :: r.items) x := hc
    have hk' : 1 + l.sz + r.sz < k := hk
    refine .inr ⟨b, y, m, l.adr, r.adr, tt, s, n, by rw [hv, ha], hl.1, fun hx => ⟨l.sz + 1, by omega, l, rfl, hl.2.1, by omega, (srt_append.1 hs').1, hc'.trans (cnt_lt hs' hx)⟩, fun hx => ⟨r.sz + 1, by omega, r, rfl, hl.2.2, by omega, ((srt_append.1 hs').2.1).2, hc'.trans (cnt_gt hs' hx)⟩, fun hx => ?_⟩
    subst hx
    exact (hc'.trans (cnt_mid hs')).symm

set_option maxHeartbeats 400000 in
theorem bcount_any {w : World} {p : Nat} {L : Items} {fp : List Nat} (h : Bag w p L fp) (x : Int) : Calls Try.prog 14 #[.pointer (some ⟨p, 0, none⟩), .int .i64 x] w fun e w' => e = .returned (.int .i64 (cnt L x)) ∧ w = w' := by
  obtain ⟨t, hp, hT, rfl, hs, ht, rfl, hn⟩ := h
  have h0 : AtCount w (cnt t.items x) x (t.sz + 1) (.pointer t.adr) := ⟨t, rfl, hT.lies, by omega, hs, rfl⟩
  have c1 : w.cell? ⟨p, 1, none⟩ = some (.pointer t.adr) := cell_of hp 1
  generalize t.sz + 1 = k0 at h0
  generalize cnt t.items x = c at h0 ⊢
  generalize t.adr = ta at h0 c1
  clear hp hT hs ht hn
  go_enter Try.func14, Try.ntmps14
  go_wp2
  go_loopg [5] k0 (fun k v wr => AtCount w c x k v ∧ wr = w)
  case atStart => exact ⟨h0, rfl⟩
  case round =>
    obtain ⟨h, rfl⟩ := hrel
    clear h0
    rcases h.cases with ⟨rfl, hc⟩ | ⟨b, y, m, lp, rp, tt, s, n, rfl, hN, hL, hR, hE⟩
    · clear h
      subst hc
      go_wp2
      go_ret
      exact ⟨rfl, rfl⟩
    · have HL := Lib.hid hL
      have HR := Lib.hid hR
      have HE := Lib.hid hE
      clear h hL hR hE
      obtain ⟨b0, b1, b2, b3, b4, b5, b6, bf⟩ := hN.cells
      go_wp2
      · have hx : x < y := by assumption
        obtain ⟨k', hk', h'⟩ := HL.out hx
        go_roundg k'
        case measure => exact hk'
        case rel => exact ⟨h', rfl⟩
      · have hx : y < x := by assumption
        obtain ⟨k', hk', h'⟩ := HR.out hx
        go_roundg k'
        case measure => exact hk'
        case rel => exact ⟨h', rfl⟩
      · have hx : y ≤ x := by assumption
        have hx2 : x ≤ y := by assumption
        go_ret
        exact ⟨ret_int (HE.out (by omega)), rfl⟩

/-- where the search for the rank of x stands -/
def AtRank (w : World) (R x : Int) (k : Nat) (acc : Int) (v : Value) : Prop := ∃ t : AT, v = .pointer t.adr ∧ t.Lies w ∧ t.Good ∧ t.sz < k ∧ Srt t.items ∧ 0 ≤ acc ∧ acc + tot t.items ≤ 2147483647 ∧ acc + rnk t.items x = R
theorem AtRank.cases {w : World} {R x acc : Int} {k : Nat} {v : Value} (h : AtRank w R x k acc v) : (v = .pointer none ∧ acc = R) ∨ ∃ b y m la rp tt s n bef, v = .pointer (some ⟨b, 0, none⟩) ∧ Nd w b y m la rp tt s n ∧
    (x ≤ y → ∃ k', k' < k ∧ AtRank w R x k' acc (.pointer la)) ∧ (y < x → ∃ k', k' < k ∧ AtRank w R x k' (acc + (bef + m)) (.pointer rp)) ∧ 0 ≤ bef ∧ 1 ≤ m ∧ bef + m ≤ 2147483647 ∧ acc + (bef + m) ≤ 2147483647 ∧ 0 ≤ acc ∧
    (∀ W : World, W.heap = w.heap → Calls Try.prog 28 #[.pointer la] W fun e w' => ∃ j, e = .returned (.tuple #[.int .i64 bef, .int .i64 j]) ∧ ∃ n, W.drewN n = w') := by
  obtain ⟨t, hv, hl, hg, hk, hs, ha0, hab, hR⟩ := h
  rcases t.adr_cases with ⟨rfl, ha⟩ | ⟨b, y, m, l, r, tt, s, n, rfl, ha⟩
  · exact .inl ⟨by rw [hv, ha], by simpa [AT.items, rnk] using hR⟩
  · have hs' : Srt (l.items ++ (y, m) :: r.items) := hs
    have hR' : acc + rnk (l.items ++ (y, m) :: r.items) x = R := hR
    have hab' : acc + tot (l.items ++ (y, m) :: r.items) ≤ 2147483647 := hab
    have hk' : 1 + l.sz + r.sz < k := hk
    have gl : l.Good := hg.2.2.2.2.2.1
    have gr : r.Good := hg.2.2.2.2.2.2
    have p1 := tot_nonneg gl.pos
    have p2 := tot_nonneg gr.pos
    have hm : 1 ≤ m := hg.1
    rw [tot_append] at hab'
    simp only [tot] at hab'
    rw [rnk_append] at hR'
    obtain ⟨hsl, hsr, hlr⟩ := srt_append.1 hs'
    refine .inr ⟨b, y, m, l.adr, r.adr, tt, s, n, tot l.items, by rw [hv, ha], hl.1, fun hx => ⟨l.sz + 1, by omega, l, rfl, hl.2.1, gl, by omega, hsl, ha0, by omega, ?_⟩, fun hx => ⟨r.sz + 1, by omega, r, rfl, hl.2.2, gr, by omega, hsr.2, by omega, by omega, ?_⟩, p1, hm, by omega, by omega, ha0, fun W hW => ?_⟩
    · have e : rnk ((y, m) :: r.items) x = 0 := rnk_none fun q hq => by
        rcases List.mem_cons.1 hq with rfl | hq
        · exact hx
        · have : y < q.1 := hsr.1 q hq; omega
      omega
    · have e1 : rnk l.items x = tot l.items := rnk_all fun q hq => by have : q.1 < y := hlr q hq (y, m) (List.mem_cons_self ..); omega
      have e2 : rnk ((y, m) :: r.items) x = m + rnk r.items x := by rw [rnk, if_pos hx]
      omega
    · exact (count_tree gl (hl.2.1.same hW)).mono fun e w' h => ⟨_, h.1, h.2⟩

set_option maxHeartbeats 400000 in
theorem brank_any {w : World} {p : Nat} {L : Items} {fp : List Nat} (h : Bag w p L fp) (x : Int) : Calls Try.prog 13 #[.pointer (some ⟨p, 0, none⟩), .int .i64 x] w fun e w' => e = .returned (.int .i64 (rnk L x)) ∧ ∃ n, w.drewN n = w' := by
  obtain ⟨t, hp, hT, rfl, hs, ht, rfl, hn⟩ := h
  have h0 : AtRank w (rnk t.items x) x (t.sz + 1) 0 (.pointer t.adr) := ⟨t, rfl, hT.lies, hT.good, by omega, hs, by omega, by omega, by omega⟩
  have c1 : w.cell? ⟨p, 1, none⟩ = some (.pointer t.adr) := cell_of hp 1
  generalize t.sz + 1 = k0 at h0
  generalize rnk t.items x = R at h0 ⊢
  generalize t.adr = ta at h0 c1
  clear hp hT hs ht hn
  go_enter Try.func13, Try.ntmps13
  go_wp2
  go_loopg [5, 6] k0 (fun k a v wr => ∃ acc : Int, a = .int .i64 acc ∧ AtRank w R x k acc v ∧ ∃ n, w.drewN n = wr)
  case atStart => exact ⟨0, rfl, h0, 0, rfl⟩
  case round =>
    obtain ⟨acc, rfl, h, j, rfl⟩ := hrel
    clear h0
    rcases h.cases with ⟨rfl, hc⟩ | ⟨b, y, m, lp, rp, tt, s, n, bef, rfl, hN, hL, hR, p1, p2, p3, p4, p5, hcall⟩
    · clear h
      subst hc
      go_wp2
      go_ret
      exact ⟨rfl, j, rfl⟩
    · have HL := Lib.hid hL
      have HR := Lib.hid hR
      have HC := Lib.hid hcall
      clear h hL hR hcall
      obtain ⟨b0, b1, b2, b3, b4, b5, b6, bf⟩ := hN.cells
      go_wp2_with (go_at_call 28; refine (HC.out (w.drewN j) rfl).mono ?_; rintro e w1 ⟨j1, rfl, n1, rfl⟩)
      · have hx : x ≤ y := by assumption
        obtain ⟨k', hk', h'⟩ := HL.out hx
        go_roundg k'
        case measure => exact hk'
        case rel => exact ⟨acc, rfl, h', j, rfl⟩
      · have hx : y < x := by assumption
        obtain ⟨k', hk', h'⟩ := HR.out hx
        go_roundg k'
        case measure => exact hk'
        case rel => exact ⟨_, rfl, h', j + n1, rfl⟩
end Go.Proofs.Ytocchcclagdjdaa
