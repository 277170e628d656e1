/- The reference's Run. -/
import Derived.Test.YtmkggcmebeagaaaLkRef3
import Derived.Test.YtmkggcmebeagaaaLkRRP
import Derived.Test.YtmkggcmebeagaaaLkRuns
import Derived.Test.YtmkggcmebeagaaaLkPoints
import Derived.Test.YtmkggcmebeagaaaLkLab2
import Derived.Deep.RegionHeld3
import Derived.Laws.OwnMore
namespace Go.Proofs.Ytmkggcmebeagaaa
set_option linter.unusedVariables false
set_option linter.unusedSimpArgs false
open Go.RowKit Lk

theorem inBlock_world' {n : Nat} {Q : Exit → Act → World → Prop} {e : Exit} {a : Act} {W : World} (I : World → Prop) (h : I W) (h2 : ∀ w1, I w1 → Exit.inBlock n Q e a w1) : Exit.inBlock n Q e a W := h2 W h
theorem sints_info : (Try.prog.info? 36).map (fun i => (i.zero, i.size, i.bytes)) = some (some (.slice none 0 0), 1, 24) := by kernel_rfl
theorem int1_info : (Try.prog.info? 3).map (fun i => (i.zero, i.size, i.bytes)) = some (some (.int .i64 0), 1, 8) := by kernel_rfl
theorem Upd.keepCell' {S : Nat → Prop} {w w' : World} (h : Upd S w w') {x : Addr} {v : Value} (hc : w.cell? x = some v) (hS : ¬ S x.block) : w'.cell? x = some v :=
  (World.cell?_of_block (h.block _ (World.block_lt_of_cell? w _ hc) hS)).trans hc
/-- a slice that shows a list of points -/
def El (w : World) (n₀ : Nat) (x : Value) (A : List Nat) : Prop := ∃ b cap, x = .slice (some ⟨b, 0, none⟩) A.length cap ∧ RowAt w b 3 ((natI A).map (Value.int .i64)) ∧ n₀ ≤ b ∧ A.length ≤ cap
def Els (w : World) (n₀ : Nat) (vs : List Value) (C : List (List Nat)) : Prop := vs.length = C.length ∧ ∀ i (h : i < C.length) (h' : i < vs.length), El w n₀ vs[i] C[i]
theorem El.upd {S : Nat → Prop} {w w' : World} {n₀ : Nat} {x : Value} {A : List Nat} (h : El w n₀ x A) (hu : Upd S w w') (hS : ∀ b cur, w.heap[b]? = some (.cells cur 3 (0, 0)) → ¬ S b) : El w' n₀ x A := by
  obtain ⟨b, cap, h1, h2, h3⟩ := h
  have h2' := h2
  obtain ⟨cur, hc, _⟩ := h2'
  exact ⟨b, cap, h1, h2.upd hu (hS b cur hc), h3⟩
theorem Els.upd {S : Nat → Prop} {w w' : World} {n₀ : Nat} {vs : List Value} {C : List (List Nat)} (h : Els w n₀ vs C) (hu : Upd S w w') (hS : ∀ b cur, w.heap[b]? = some (.cells cur 3 (0, 0)) → ¬ S b) : Els w' n₀ vs C := ⟨h.1, fun i hi hi' => (h.2 i hi hi').upd hu hS⟩
theorem Els.nil (w : World) (n₀ : Nat) : Els w n₀ [] [] := ⟨rfl, fun i hi => by simp at hi⟩
theorem Els.snoc {w : World} {n₀ : Nat} {vs : List Value} {C : List (List Nat)} {x : Value} {A : List Nat} (h : Els w n₀ vs C) (hx : El w n₀ x A) : Els w n₀ (vs ++ [x]) (C ++ [A]) :=
  ⟨by simp [h.1], fun i hi hi' => by
    by_cases e : i < C.length
    · rw [List.getElem_append_left e, List.getElem_append_left (by rw [h.1]; exact e)]; exact h.2 i e (by rw [h.1]; exact e)
    · have hl := h.1
      rw [List.length_append] at hi
      simp only [List.length_cons, List.length_nil] at hi
      have e1 : i = C.length := by omega
      subst e1
      have : (vs ++ [x])[C.length]'hi' = x := by
        have : vs.length = C.length := hl
        simp [← this]
      rw [this]
      simpa using hx⟩
theorem Els.append {w : World} {n₀ : Nat} {vs us : List Value} {C D : List (List Nat)} (h : Els w n₀ vs C) (k : Els w n₀ us D) : Els w n₀ (vs ++ us) (C ++ D) :=
  ⟨by simp [h.1, k.1], fun i hi hi' => by
    by_cases e : i < C.length
    · rw [List.getElem_append_left e, List.getElem_append_left (by rw [h.1]; exact e)]; exact h.2 i e (by rw [h.1]; exact e)
    · have hl := h.1
      rw [List.length_append] at hi
      rw [List.getElem_append_right (by omega), List.getElem_append_right (by omega)]
      have : i - vs.length = i - C.length := by rw [hl]
      simp only [this]
      exact k.2 (i - C.length) (by omega) (by have := k.1; omega)⟩
theorem Els.take {w : World} {n₀ : Nat} {vs : List Value} {C : List (List Nat)} (h : Els w n₀ vs C) (k : Nat) : Els w n₀ (vs.take k) (C.take k) :=
  ⟨by simp [h.1], fun i hi hi' => by
    simp only [List.length_take] at hi hi'
    rw [List.getElem_take, List.getElem_take]; exact h.2 i (by omega) (by omega)⟩
theorem Els.drop {w : World} {n₀ : Nat} {vs : List Value} {C : List (List Nat)} (h : Els w n₀ vs C) (k : Nat) : Els w n₀ (vs.drop k) (C.drop k) :=
  ⟨by simp [h.1], fun i hi hi' => by
    simp only [List.length_drop] at hi hi'
    rw [List.getElem_drop, List.getElem_drop]; exact h.2 (k + i) (by omega) (by omega)⟩
theorem Els.set {w : World} {n₀ : Nat} {vs : List Value} {C : List (List Nat)} (h : Els w n₀ vs C) (k : Nat) {x : Value} {A : List Nat} (hx : El w n₀ x A) : Els w n₀ (vs.set k x) (C.set k A) :=
  ⟨by simp [h.1], fun i hi hi' => by
    simp only [List.length_set] at hi hi'
    rw [List.getElem_set, List.getElem_set]
    by_cases e : k = i
    · rw [if_pos e, if_pos e]; exact hx
    · rw [if_neg e, if_neg e]; exact h.2 i hi hi'⟩
theorem slices_one {w : World} {n₀ : Nat} {vs : List Value} {C : List (List Nat)} (h : Els w n₀ vs C) : ∀ u ∈ vs, u.oneCell' = true := fun u hu => by
  obtain ⟨i, hi, rfl⟩ := List.mem_iff_getElem.1 hu
  obtain ⟨b, cap, e, _⟩ := h.2 i (by rw [← h.1]; exact hi) hi
  rw [e]; rfl
/-- the clusters and the merges in memory -/
structure RS (w : World) (m : Mt) (d : Nat → Nat → Int) (n t : Nat) (v ov : Value) (vs : List Value) (wr : World) : Prop where
  own : wr.ownsRow w.heap.size 36 1 v (rC (st m d n t) n).length vs
  els : Els wr w.heap.size vs (rC (st m d n t) n)
  out : wr.ownsRow w.heap.size 49 5 ov t (flatM ((runL m d n).take t))
  upd : Upd (fun _ => False) w wr
theorem RS.mv {w : World} {m : Mt} {d : Nat → Nat → Int} {n t : Nat} {v ov : Value} {vs : List Value} {wr w' : World} (h : RS w m d n t v ov vs wr) {S : Nat → Prop} (hu : Upd S wr w') (hS : ∀ b E cur, (E = 3 ∨ E = 36 ∨ E = 49) → wr.heap[b]? = some (.cells cur E (0, 0)) → ¬ S b) (hw : ∀ b, b < w.heap.size → ¬ S b) : RS w m d n t v ov vs w' :=
  ⟨ownsRow_upd h.own hu fun g cur _ hg => hS g _ cur (.inr (.inl rfl)) hg, h.els.upd hu fun b cur hb => hS b _ cur (.inl rfl) hb, ownsRow_upd h.out hu fun g cur _ hg => hS g _ cur (.inr (.inr rfl)) hg, h.upd.then hu fun k hk e => hw k hk e⟩
theorem RowAt.news {w : World} {b : Nat} {E : TypeId} {xs : List Value} (h : RowAt w b E xs) : ∀ j u, xs[j]? = some u → w.cell? ((⟨b, 0, none⟩ : Addr).add j) = some u := fun j u hu => by
  obtain ⟨hj, e⟩ := List.getElem?_eq_some_iff.1 hu
  rw [addAt, h.cell hj, e]
theorem ownsRow_zero (w : World) (base : Nat) (E : TypeId) (size : Nat) {g : Nat} (hg : base ≤ g) (h : w.heap[g]? = some (.cells #[] E (0, 0))) : w.ownsRow base E size (.slice (some ⟨g, 0, none⟩) 0 0) 0 [] :=
  ⟨by simp, .inr ⟨g, 0, #[], rfl, hg, h, Nat.le_refl _, Nat.zero_le _, by simp, by simp⟩⟩
theorem src_row {w : World} {g : Nat} {E : TypeId} {xs : List Value} (h : RowAt w g E xs) (k m : Nat) (hk : k + m ≤ xs.length) : Src w (some ⟨g, k, none⟩) 1 m ((xs.drop k).take m) :=
  ⟨by simp [List.length_take, List.length_drop]; omega, fun j u hu => by
    obtain ⟨hj, e⟩ := List.getElem?_eq_some_iff.1 hu
    simp only [List.length_take, List.length_drop] at hj
    refine ⟨_, rfl, ?_⟩
    have e2 : ((⟨g, k, none⟩ : Addr).add j) = ⟨g, k + j, none⟩ := by cases j <;> simp [Addr.add]
    rw [e2, h.cell (i := k + j) (by omega), ← e]
    simp⟩
theorem src_none {w : World} (A : Option Addr) : Src w A 1 0 [] := ⟨by simp, fun j u hu => by simp at hu⟩
theorem rdist_any (m : Mt) {w : World} {aD aA aB : Option Addr} {n : Nat} {D : List Int} {A B : List Nat} (hD : IntsK .i64 w aD D) (hl : D.length = n * n) (hd : Dist n (mat n D)) (hA : IntsK .i64 w aA (natI A)) (hB : IntsK .i64 w aB (natI B))
    (hAn : ∀ x ∈ A, x < n) (hBn : ∀ x ∈ B, x < n) (hA0 : 0 < A.length) (hB0 : 0 < B.length) (hAl : A.length ≤ 128) (hBl : B.length ≤ 128) (cD cA cB : Nat) :
    Calls Try.prog 27 #[.int .i64 n, .slice aD D.length cD, .int .i64 m.num, .slice aA A.length cA, .slice aB B.length cB] w (RDist w m (mat n D) A B) := by
  cases m
  · exact rdist_single hD hl hd hA hB hAn hBn hA0 hB0 hAl hBl cD cA cB
  · exact rdist_complete hD hl hd hA hB hAn hBn hA0 hB0 hAl hBl cD cA cB
  · exact rdist_average hD hl hd hA hB hAn hBn hA0 hB0 hAl hBl cD cA cB
theorem rmethod_yes (m : Mt) (w : World) : Calls Try.prog 26 #[.int .i64 m.num] w fun e w' => e = .returned (.bool true) ∧ w = w' := by
  cases m <;> simp only [Mt.num] <;> (go_enter Try.func26, Try.ntmps26) <;> go_wp2 <;> go_ret <;> exact ⟨rfl, rfl⟩
theorem rmethod_no {mm : Int} (h : mm ≠ 1 ∧ mm ≠ 2 ∧ mm ≠ 3) (w : World) : Calls Try.prog 26 #[.int .i64 mm] w fun e w' => e = .returned (.bool false) ∧ w = w' := by
  have h1 : (mm == 1) = false := by simpa using h.1
  have h2 : (mm == 2) = false := by simpa using h.2.1
  have h3 : (mm == 3) = false := by simpa using h.2.2
  clear h
  go_enter Try.func26, Try.ntmps26
  go_wp2
  go_ret
  exact ⟨rfl, rfl⟩

set_option maxRecDepth 100000 in
set_option maxHeartbeats 4000000 in
theorem rrun_main (m : Mt) {w : World} {a : Option Addr} {D : List Int} (h : IntsK .i64 w a D) (cap : Nat) (n : Nat) (hok : checkS n D = 0) (hn : n ≤ 14) (hl : D.length = n * n) (hd : Dist n (mat n D)) :
    Calls Try.prog 12 #[.int .i64 n, .slice a D.length cap, .int .i64 m.num] w (Ran w (runL m (mat n D) n)) := by
  obtain ⟨i0, hi, hz0, hz1, hz2⟩ := info_parts sints_info
  obtain ⟨j0, hj, hy0, hy1, hy2⟩ := info_parts int1_info
  obtain ⟨k0, hk, hx0, hx1, hx2⟩ := info_parts merge_info
  have hml : (maxLen : Nat) = 9223372036854775807 := by decide
  have HI := Lib.hid (And.intro hi (And.intro hz0 (And.intro hz1 hz2)))
  have HJ := Lib.hid (And.intro hj (And.intro hy0 (And.intro hy1 hy2)))
  have HK := Lib.hid (And.intro hk (And.intro hx0 (And.intro hx1 hx2)))
  have hch := rcheck_any h cap n
  unfold Checks at hch
  rw [hok] at hch
  have HCH := Lib.hid hch
  clear hch
  have HM := Lib.hid (fun w => rmethod_yes m w)
  have HDD := Lib.hid (And.intro h (And.intro hl hd))
  have HNM := Lib.hid (Eq.refl m.num)
  clear hi hz0 hz1 hz2 hj hy0 hy1 hy2 hk hx0 hx1 hx2 hok h hl hd
  obtain ⟨len, hlen⟩ : ∃ len, D.length = len := ⟨_, rfl⟩
  rw [hlen] at HCH ⊢
  have HLEN := Lib.hid hlen
  obtain ⟨mm, hmm⟩ : ∃ mm, m.num = mm := ⟨_, rfl⟩
  rw [hmm] at HM HNM ⊢
  have HMM := Lib.hid hmm
  clear hlen hmm
  go_enter Try.func12, Try.ntmps12
  go_wp2_with fail
  refine (HM.out _).mono ?_
  rintro e w' ⟨rfl, rfl⟩
  go_wp2_with fail
  refine HCH.out.mono ?_
  rintro e w1 ⟨rfl, kd, rfl⟩
  go_wp2_with fail
  go_loopg [9, 10] n (fun c u v wr => ∃ (i : Nat) (vs : List Value), v = .int .i64 i ∧ i ≤ n ∧ c = n - i ∧ Hid (wr.ownsRow w.heap.size 36 1 u i vs ∧ Els wr w.heap.size vs ((List.range i).map fun k => [k]) ∧ Upd (fun _ => False) w wr))
  case atStart => exact ⟨0, [], rfl, Nat.zero_le _, rfl, ⟨World.ownsRow_nil _ _ _ _, Els.nil _ _, (Upd.refl _ _).drewN _⟩⟩
  case round =>
    obtain ⟨i, vs, rfl, hin, hc, HR⟩ := hrel
    obtain ⟨uA, uc, hu⟩ := own_slice' HR.out.1
    subst hu
    by_cases hlt : i < n
    · have HB := Lib.hid (show w.heap.size ≤ wr.heap.size from HR.out.2.2.size)
      go_wp2_with (at_builtin; refine wpList_app_src _ rfl _ _ 68 rfl w.heap.size 36 i0 _ 1 24 Try.underlying68 HI.out.1 HI.out.2.1 HI.out.2.2.1 HI.out.2.2.2 rfl (by decide) _ i vs rfl ((HR.out.1.alloc _).alloc _) _ 1 1 [.slice (some ⟨wr.heap.size, 0, none⟩) 1 1] rfl (src_new (heapNew (by simp)) 1 1 rfl) (by simp [Value.oneCell']) (by simp) (by omega) (by omega) (by have := HB.out; simp; omega) ?_; intro v' w2 hown hg2 _)
      have hA : Upd (fun _ => False) wr ((wr.alloc (.cells #[.int .i64 i] 3)).alloc (.cells #[.slice (some ⟨wr.heap.size, 0, none⟩) 1 1] 36)) := ((Upd.refl _ _).alloc _).alloc _
      have hgu := Upd.ofGrown hg2
      have hob := fun {b : Nat} (h : (Value.slice uA i uc).ownBlock = some b) => own_block HR.out.1 h
      have hnew : RowAt ((wr.alloc (.cells #[.int .i64 i] 3)).alloc (.cells #[.slice (some ⟨wr.heap.size, 0, none⟩) 1 1] 36)) wr.heap.size 3 ((natI [i]).map (Value.int .i64)) := ⟨_, heapOld (by simp) (heapNew rfl), rfl⟩
      have hne : ∀ b cur, ((wr.alloc (.cells #[.int .i64 i] 3)).alloc (.cells #[.slice (some ⟨wr.heap.size, 0, none⟩) 1 1] 36)).heap[b]? = some (.cells cur 3 (0, 0)) → ¬ (Value.slice uA i uc).ownBlock = some b := fun b cur hb e => by
        obtain ⟨h1, cur', h2⟩ := hob e
        exact ne_type hb (hA.at h2 (fun h => h)) (by decide) rfl
      have HX := Lib.hid (show w2.ownsRow w.heap.size 36 1 v' (i + 1) (vs ++ [.slice (some ⟨wr.heap.size, 0, none⟩) 1 1]) ∧ Els w2 w.heap.size (vs ++ [.slice (some ⟨wr.heap.size, 0, none⟩) 1 1]) ((List.range (i + 1)).map fun k => [k]) ∧ Upd (fun _ => False) w w2 from by
        refine ⟨hown, ?_, (HR.out.2.2.trans hA).then hgu fun k hk e => by have := (hob e).1; omega⟩
        rw [List.range_succ, List.map_append]
        refine Els.snoc ((HR.out.2.1.upd hA fun _ _ _ h => h).upd hgu hne) ⟨wr.heap.size, 1, rfl, hnew.upd hgu (fun e => hne wr.heap.size _ (heapOld (by simp) (heapNew rfl)) e), HB.out, Nat.le_refl _⟩)
      clear hown hg2 hA hgu hob hnew hne
      go_wp2_with fail
      go_roundg (n - (i + 1))
      case measure => omega
      case rel => exact ⟨i + 1, _, by simp, by omega, rfl, HX⟩
    · obtain rfl : i = n := by omega
      have hdd := HDD.out.2.2
      obtain ⟨d, hdm⟩ : ∃ d, mat i D = d := ⟨_, rfl⟩
      have HS := Lib.hid (show RS w m d i 0 (.slice uA i uc) (.slice none 0 0) vs wr from ⟨by rw [rC_length]; simp only [st]; rw [start_live, List.length_range]; exact HR.out.1, by simp only [st]; rw [rC_start]; exact HR.out.2.1, World.ownsRow_nil _ _ _ _, HR.out.2.2⟩)
      have HDM := Lib.hid hdm
      rw [hdm] at hdd ⊢
      have HD2 := Lib.hid hdd
      clear hdm hdd HR
      go_wp2_with fail
      go_loopg [9, 11] i (fun c v ov wr => ∃ (t : Nat) (vs : List Value), t ≤ i - 1 ∧ c = i - t ∧ Hid (RS w m d i t v ov vs wr))
      case atStart => exact ⟨0, vs, Nat.zero_le _, rfl, HS⟩
      case round =>
        clear HS
        obtain ⟨t, vs, ht, hc2, HS⟩ := hrel
        have hlen : (rC (st m d i t) i).length = i - t := by rw [rC_length, (st_ok m d i t ht).2]
        have HLN := Lib.hid hlen
        have hown := HS.out.own
        rw [hlen] at hown
        obtain ⟨vA, vc, rfl⟩ := own_slice' hown
        obtain ⟨oA, oc, rfl⟩ := own_slice' HS.out.out
        clear hlen hown
        by_cases hlt2 : 1 < i - t
        · have ht1 : t < i - 1 := by omega
          obtain ⟨ln, hln⟩ : ∃ ln, i - t = ln := ⟨_, rfl⟩
          rw [hln] at HLN hlt2 ⊢
          have hpart := Lib.hid (st_ok m d i t ht)
          obtain ⟨c, hcc⟩ : ∃ c, st m d i t = c := ⟨_, rfl⟩
          have HCC := Lib.hid hcc
          rw [hcc] at HLN hpart
          obtain ⟨L, hL⟩ : ∃ L, live c i = L := ⟨_, rfl⟩
          have HL := Lib.hid hL
          have hLl : L.length = ln := by rw [← hL, ← rC_length]; exact HLN.out
          have HLL := Lib.hid hLl
          have HLNI := Lib.hid (show i - t = ln from hln)
          have hlb : ln ≤ 14 := by omega
          clear hcc hL hLl hln
          have hq0 := HS.out.upd.size
          have hd1 : decide ((1 : Int) < (ln : Int)) = true := by simp; omega
          go_wp2_with fail
          obtain ⟨q, hq⟩ : ∃ q, wr.heap.size = q := ⟨_, rfl⟩
          refine wp_world (fun w2 => w2.heap[q]? = some (.cells #[.int .i64 0, .int .i64 0] 38 (0, 0)) ∧ Upd (fun _ => False) wr w2) ⟨by rw [← hq]; exact World.alloc_heap_new _ _, (Upd.refl _ _).alloc _⟩ ?_
          rintro w2 ⟨hb2, hu2⟩
          rw [hq] at hq0 ⊢
          have HS2 := Lib.hid (HS.out.mv hu2 (fun _ _ _ _ _ h => h) (fun _ _ h => h))
          have HB2 := Lib.hid (show RBest L (rat m d c) (pick (rat m d c) (pp L 0 (0 + 1))) (-1) (-1) (0, 0) from by rw [show pp L 0 (0 + 1) = [] from pp_start L]; exact ⟨rfl, rfl, rfl⟩)
          have HW2 := Lib.hid (And.intro hb2 (Upd.refl (fun b => b = q) w2))
          have HQ := Lib.hid hb2
          clear hb2 hu2 hq HS
          go_loopg [12, 13, 15] ln (fun k x y z wr => ∃ (e : Nat) (X Y : Int) (f : Int × Int), x = .int .i64 X ∧ y = .int .i64 Y ∧ z = .int .i64 e ∧ e ≤ ln ∧ k = ln - e ∧ Hid (RBest L (rat m d c) (pick (rat m d c) (pp L e (e + 1))) X Y f) ∧ Hid (wr.heap[q]? = some (.cells #[.int .i64 f.1, .int .i64 f.2] 38 (0, 0)) ∧ Upd (fun b => b = q) w2 wr))
          case atStart => exact ⟨0, -1, -1, (0, 0), rfl, rfl, rfl, Nat.zero_le _, rfl, HB2, HW2⟩
          case round =>
            clear HB2 HW2
            obtain ⟨e, X, Y, f, rfl, rfl, rfl, he, hk3, HB, HW⟩ := hrel
            by_cases hlt3 : e < ln
            · go_wp2_with fail
              go_loopg [12, 13, 16] (ln - (e + 1)) (fun k x y z wr => ∃ (p : Nat) (X Y : Int) (f : Int × Int), x = .int .i64 X ∧ y = .int .i64 Y ∧ z = .int .i64 p ∧ e < p ∧ p ≤ ln ∧ k = ln - p ∧ Hid (RBest L (rat m d c) (pick (rat m d c) (pp L e p)) X Y f) ∧ Hid (wr.heap[q]? = some (.cells #[.int .i64 f.1, .int .i64 f.2] 38 (0, 0)) ∧ Upd (fun b => b = q) w2 wr))
              case atStart => exact ⟨e + 1, X, Y, f, rfl, rfl, by simp, by omega, by omega, rfl, HB, HW⟩
              case round =>
                clear HB HW
                obtain ⟨p, X, Y, f, rfl, rfl, rfl, hep, hp, hk4, HB, HW⟩ := hrel
                by_cases hlt4 : p < ln
                · have hbase := hpart.out.1.base
                  have hLe : e < L.length := by rw [HLL.out]; exact hlt3
                  have hLp : p < L.length := by rw [HLL.out]; exact hlt4
                  have hCe : e < (rC c i).length := by rw [HLN.out]; exact hlt3
                  have hCp : p < (rC c i).length := by rw [HLN.out]; exact hlt4
                  have hge : (rC c i)[e] = c L[e] := by rw [rC_get]; simp only [HL.out]
                  have hgp : (rC c i)[p] = c L[p] := by rw [rC_get]; simp only [HL.out]
                  have hne : L[e] < i ∧ c L[e] ≠ [] := by have := live_get (c := c) (n := i) (i := e) (by rw [HL.out]; exact hLe); simp only [HL.out] at this; exact this
                  have hnp : L[p] < i ∧ c L[p] ≠ [] := by have := live_get (c := c) (n := i) (i := p) (by rw [HL.out]; exact hLp); simp only [HL.out] at this; exact this
                  have hlt5 : L[e] < L[p] := by
                    have := live_sorted c i
                    rw [HL.out] at this
                    exact List.pairwise_iff_getElem.1 this e p hLe hLp hep
                  have hmem : (L[e], L[p]) ∈ prs c i := mem_prs.2 ⟨hlt5, hnp.1, hne.2, hnp.2⟩
                  have hown := HS2.out.own
                  have hels := HS2.out.els
                  rw [HCC.out, HLN.out] at hown
                  rw [HCC.out] at hels
                  obtain ⟨g, vc', hv, hg0, hrow⟩ := RowAt.of_own hown (by omega)
                  simp only [Value.slice.injEq] at hv
                  obtain ⟨rfl, -, rfl⟩ := hv
                  have hvl : vs.length = ln := by have := hels.1; rw [HLN.out] at this; exact this
                  obtain ⟨be, ce, hve, hre, hb0, hcl⟩ := hels.2 e hCe (by omega)
                  obtain ⟨bp, cp', hvp, hrp, hb1, hcl2⟩ := hels.2 p hCp (by omega)
                  rw [hge] at hve hre hcl
                  rw [hgp] at hvp hrp hcl2
                  have nqT : ∀ b E cur, E ≠ 38 → w2.heap[b]? = some (.cells cur E (0, 0)) → b ≠ q := fun b E cur hE h => ne_type h HQ.out hE
                  have gq : g ≠ q := by obtain ⟨cur, h, _⟩ := hrow; exact nqT g _ cur (by decide) h
                  have bq : be ≠ q := by obtain ⟨cur, h, _⟩ := hre; exact nqT be _ cur (by decide) h
                  have pq : bp ≠ q := by obtain ⟨cur, h, _⟩ := hrp; exact nqT bp _ cur (by decide) h
                  have hrow' := hrow.upd HW.out.2 gq
                  have xe := hrow'.cell (i := e) (by omega)
                  have xp := hrow'.cell (i := p) (by omega)
                  rw [hve] at xe
                  rw [hvp] at xp
                  have hDw : ∀ W, Upd (fun b => b = q) w2 W → Calls Try.prog 27 #[.int .i64 i, .slice a len cap, .int .i64 mm, .slice (some ⟨be, 0, none⟩) (c L[e]).length ce, .slice (some ⟨bp, 0, none⟩) (c L[p]).length cp'] W (RDist W m d (c L[e]) (c L[p])) := fun W hW => by
                    have hu : Upd (fun _ => False) w W := HS2.out.upd.then hW (fun k hk e => by omega)
                    have h1 := rdist_any m (HDD.out.1.upd hu) HDD.out.2.1 HDD.out.2.2 (RowAt.ints (hre.upd hW bq) (by rw [natI_length]; have := hbase.len L[e]; omega)) (RowAt.ints (hrp.upd hW pq) (by rw [natI_length]; have := hbase.len L[p]; omega))
                      (hbase.mem _) (hbase.mem _) (List.length_pos_iff.2 hne.2) (List.length_pos_iff.2 hnp.2) (by have := hbase.len L[e]; omega) (by have := hbase.len L[p]; omega) cap ce cp'
                    rw [HDM.out, HLEN.out, HMM.out] at h1
                    exact h1
                  have hrat : (num m d (c L[e]) (c L[p]), den m (c L[e]) (c L[p])) = rat m d c (L[e], L[p]) := rfl
                  obtain ⟨⟨N, E⟩, hF⟩ : ∃ F, red (rat m d c (L[e], L[p])) = F := ⟨_, rfl⟩
                  have hsm := sm_of m HD2.out hbase hn hmem
                  rw [hF] at hsm
                  obtain ⟨⟨s1, s2, s3, s4⟩, s5⟩ := hsm
                  simp only at s1 s2 s3 s4 s5
                  have hDI : ∀ W, Upd (fun b => b = q) w2 W → Calls Try.prog 27 #[.int .i64 i, .slice a len cap, .int .i64 mm, .slice (some ⟨be, 0, none⟩) (c L[e]).length ce, .slice (some ⟨bp, 0, none⟩) (c L[p]).length cp'] W fun e w' => e = .returned (.agg #[.int .i64 N, .int .i64 E]) ∧ Upd (fun _ => False) W w' := fun W hW => (hDw W hW).mono fun e w' h => by
                    obtain ⟨h1, h2⟩ := h
                    rw [hrat, hF] at h1
                    exact ⟨h1, h2⟩
                  have HDI := Lib.hid hDI
                  have hb := HB.out
                  rw [← HL.out] at hb
                  obtain ⟨⟨r1, r2, r3, r4⟩, hX⟩ := rbest_sm HD2.out hbase hn hb
                  have hLp' : p < (live c i).length := by rw [HL.out]; exact hLp
                  have hnx := rbest_next HD2.out hbase hb hep hLp' (F := (N, E)) (by simp only [HL.out]; exact hF)
                  simp only [HL.out] at hnx
                  rw [← pp_next hep hLp] at hnx
                  have HNX := Lib.hid hnx
                  have HX := Lib.hid hX
                  have HWQ := Lib.hid (show ‹World›.heap.size ≤ ‹World›.heap.size from Nat.le_refl _)
                  obtain ⟨f1, f2⟩ := f
                  simp only at r1 r2 r3 r4
                  have HUW := Lib.hid HW.out.2
                  have hqc := HW.out.1
                  have hql := heap_lt hqc
                  clear hnx hbase hCe hCp hge hgp hmem hown hels hrow hre hrp hve hvp hb0 hb1 hcl hcl2 nqT hDw hrat hF hDI hb hX hLp' hrow' hvl hlt5 HWQ bq pq
                  obtain ⟨w3, rfl⟩ : ∃ w3 : World, w3 = wr := ⟨_, rfl⟩
                  go_wp2_with fail
                  have S3 : ∀ W, Upd (fun _ => False) w3 W → Upd (fun _ => False) w3 W ∧ W.cell? ⟨g, e, none⟩ = some (.slice (some ⟨be, 0, none⟩) (c L[e]).length ce) ∧ W.cell? ⟨g, p, none⟩ = some (.slice (some ⟨bp, 0, none⟩) (c L[p]).length cp') := fun W h => ⟨h, Upd.keepCell' h xe (fun h => h), Upd.keepCell' h xp (fun h => h)⟩
                  go_region_held3 (fun W => Upd (fun _ => False) w3 W ∧ W.cell? ⟨g, e, none⟩ = some (.slice (some ⟨be, 0, none⟩) (c L[e]).length ce) ∧ W.cell? ⟨g, p, none⟩ = some (.slice (some ⟨bp, 0, none⟩) (c L[p]).length cp'))
                    ((refine S3 _ ?_; first | (refine Upd.setCell (Upd.setCell (Upd.trans ?_ hu6) (.inr (Nat.le_refl _)) _) (.inr (Nat.le_refl _)) _; (repeat (first | exact Upd.refl _ _ | apply Upd.drew | apply Upd.alloc)); done) | ((repeat (first | exact Upd.refl _ _ | apply Upd.drew | apply Upd.alloc)); done) | (refine Upd.trans ?_ hu6; (repeat (first | exact Upd.refl _ _ | apply Upd.drew | apply Upd.alloc)); done) | (apply Upd.alloc; refine Upd.trans ?_ hu6; (repeat (first | exact Upd.refl _ _ | apply Upd.drew | apply Upd.alloc)); done) | (apply Upd.drew; refine Upd.trans ?_ hu6; (repeat (first | exact Upd.refl _ _ | apply Upd.drew | apply Upd.alloc)); done)))
                    ((go_at_call 27; refine (HDI.out _ (HUW.out.trans (Upd.mono (S := fun _ => False) (by repeat (first | exact Upd.refl _ _ | apply Upd.drew | apply Upd.alloc)) (fun _ _ h => h.elim)))).mono ?_; rintro e w6 ⟨rfl, hu6⟩; try (have hn6 := hu6.at (World.alloc_heap_new w3 (.cells #[.int .i64 0, .int .i64 0] 38)) (fun h => h); have cn0 := cell_of hn6 0; have cn1 := cell_of hn6 1; have fn6 := free_of hn6; have ln6 := heap_lt hn6; simp only [List.getElem?_toArray, List.getElem?_cons_zero, List.getElem?_cons_succ] at cn0 cn1)))
                  all_goals
                    first
                      | refine then_world (fun w7 => Upd (fun _ => False) w3 w7 ∧ w7.heap[w3.heap.size]? = some (.cells #[.int .i64 N, .int .i64 E] 38 (0, 0))) ⟨(S3 _ (by refine Upd.setCell (Upd.setCell (Upd.trans ?_ hu6) (.inr (Nat.le_refl _)) _) (.inr (Nat.le_refl _)) _; repeat (first | exact Upd.refl _ _ | apply Upd.drew | apply Upd.alloc))).1, cells_set (o := 1) _ (cells_set (o := 0) _ hn6)⟩ ?_
                      | refine then_world (fun w7 => Upd (fun _ => False) w3 w7 ∧ w7.heap[w6.heap.size]? = some (.cells #[.int .i64 N, .int .i64 E] 38 (0, 0))) ⟨(S3 _ (by apply Upd.alloc; refine Upd.trans ?_ hu6; repeat (first | exact Upd.refl _ _ | apply Upd.drew | apply Upd.alloc))).1, World.alloc_heap_new _ _⟩ ?_
                    rintro w7 ⟨hu7, hn7⟩
                    have cn0 := cell_of hn7 0
                    have cn1 := cell_of hn7 1
                    have hq7 := hu7.at hqc (fun h => h)
                    have cq0 := cell_of hq7 0
                    have cq1 := cell_of hq7 1
                    have fq := free_of hq7
                    simp only [List.getElem?_toArray, List.getElem?_cons_zero, List.getElem?_cons_succ] at cn0 cn1 cq0 cq1
                    have HU8 := Lib.hid (HUW.out.trans (hu7.mono fun _ _ h => h.elim))
                    have HQ7 := Lib.hid hq7
                    have hlq : q < w7.heap.size := heap_lt hq7
                    clear hu7 hn7 hq7 hqc S3 xe xp
                    by_cases hX0 : X < 0
                    · have HNW := Lib.hid (HNX.out.1 (.inl hX0))
                      go_wp2_with fail
                      go_region
                      refine inBlock_world' (fun w8 => w8.heap[q]? = some (.cells #[.int .i64 N, .int .i64 E] 38 (0, 0)) ∧ Upd (fun b => b = q) w2 w8) ⟨cells_set (o := 1) _ (cells_set (o := 0) (w := World.drew _) _ HQ7.out), ((HU8.out.drew).setB _ _).setB _ _⟩ ?_
                      rintro w8 ⟨hq8, hu8⟩
                      have H8 := Lib.hid (And.intro hq8 hu8)
                      clear hq8 hu8
                      go_wp2_with fail
                      go_roundg (ln - (p + 1))
                      case measure => omega
                      case rel => exact ⟨p + 1, e, p, (N, E), rfl, rfl, by simp, by omega, by omega, rfl, HNW.out, H8.out⟩
                    · have hX1 : 0 ≤ X := by omega
                      have k1 : N * f2 ≤ 215504279044096 * 196 := Int.mul_le_mul s2 r4 r3 (by omega)
                      have k2 : 0 ≤ N * f2 := Int.mul_nonneg s1 r3
                      have k3 : f1 * E ≤ 215504279044096 * 196 := Int.mul_le_mul r2 s4 s3 (by omega)
                      have k4 : 0 ≤ f1 * E := Int.mul_nonneg r1 s3
                      by_cases hcmp : N * f2 < f1 * E
                      · have HNW := Lib.hid (HNX.out.1 (.inr hcmp))
                        go_wp2_with fail
                        go_region
                        refine inBlock_world' (fun w8 => w8.heap[q]? = some (.cells #[.int .i64 N, .int .i64 E] 38 (0, 0)) ∧ Upd (fun b => b = q) w2 w8) ⟨cells_set (o := 1) _ (cells_set (o := 0) (w := World.drew _) _ HQ7.out), ((HU8.out.drew).setB _ _).setB _ _⟩ ?_
                        rintro w8 ⟨hq8, hu8⟩
                        have H8 := Lib.hid (And.intro hq8 hu8)
                        clear hq8 hu8
                        go_wp2_with fail
                        go_roundg (ln - (p + 1))
                        case measure => omega
                        case rel => exact ⟨p + 1, e, p, (N, E), rfl, rfl, by simp, by omega, by omega, rfl, HNW.out, H8.out⟩
                      · have HNW := Lib.hid (HNX.out.2 (fun h => by rcases h with h | h; exact hX0 h; exact hcmp h))
                        go_wp2_with fail
                        go_roundg (ln - (p + 1))
                        case measure => omega
                        case rel => exact ⟨p + 1, X, Y, (f1, f2), rfl, rfl, by simp, by omega, by omega, rfl, HNW.out, ⟨HQ7.out, HU8.out⟩⟩
                · obtain rfl : p = ln := by omega
                  have HB5 := Lib.hid (show RBest L (rat m d c) (pick (rat m d c) (pp L (e + 1) (e + 1 + 1))) X Y f from by have := HB.out; rw [← HLL.out, pp_row (by rw [HLL.out]; omega)] at this; exact this)
                  clear HB
                  go_wp2_with fail
                  go_roundg (p - (e + 1))
                  case measure => omega
                  case rel => exact ⟨e + 1, X, Y, f, rfl, rfl, by simp, by omega, rfl, HB5, HW⟩
            · obtain rfl : e = ln := by omega
              have hb := HB.out
              have hpe : pp L e (e + 1) = prs c i := by rw [prs_pairs, HL.out, ← HLL.out]; exact pp_end L
              rw [hpe, choice_some m d (by rw [hpart.out.2, HLNI.out]; omega)] at hb
              obtain ⟨x, y, rfl, rfl, hxy, hy, hx1, hy1, hf⟩ := hb
              rw [HLL.out] at hy
              obtain ⟨hLx, eA⟩ := List.getElem?_eq_some_iff.1 hx1
              obtain ⟨hLy, eB⟩ := List.getElem?_eq_some_iff.1 hy1
              have hmg : mgOf m d i c = ⟨(choice m d i c).1, (choice m d i c).2, red (rat m d c (choice m d i c)), (c (choice m d i c).1).length + (c (choice m d i c).2).length⟩ := rfl
              have hst : st m d i (t + 1) = unite c (choice m d i c).1 (choice m d i c).2 := by simp only [st, HCC.out]
              rw [← hf] at hmg
              have hpr := mem_prs.1 (choice_mem m d (c := c) (n := i) (by rw [hpart.out.2, HLNI.out]; omega))
              generalize choice m d i c = P at *
              obtain ⟨A, B⟩ := P
              simp only at eA eB hmg hst hpr
              obtain ⟨-, hBi, hA0, hB0⟩ := hpr
              have hCx : x < (rC c i).length := by rw [HLN.out]; omega
              have hCy : y < (rC c i).length := by rw [HLN.out]; omega
              have hgx : (rC c i)[x] = c A := by rw [rC_get]; simp only [HL.out, eA]
              have hgy : (rC c i)[y] = c B := by rw [rC_get]; simp only [HL.out, eB]
              have hown := HS2.out.own
              have hels := HS2.out.els
              rw [HCC.out, HLN.out] at hown
              rw [HCC.out] at hels
              obtain ⟨g, vc', hv, hg0, hrow⟩ := RowAt.of_own hown (by omega)
              simp only [Value.slice.injEq] at hv
              obtain ⟨rfl, -, rfl⟩ := hv
              have hvl : vs.length = e := by have := hels.1; rw [HLN.out] at this; exact this
              obtain ⟨bx, cx, hvx, hrx, hb0, hcl⟩ := hels.2 x hCx (by omega)
              obtain ⟨by', cy, hvy, hry, hb1, hcl2⟩ := hels.2 y hCy (by omega)
              rw [hgx] at hvx hrx hcl
              rw [hgy] at hvy hry hcl2
              have nqT : ∀ b E cur, E ≠ 38 → w2.heap[b]? = some (.cells cur E (0, 0)) → b ≠ q := fun b E cur hE h => ne_type h HQ.out hE
              have gq : g ≠ q := by obtain ⟨cur, h, _⟩ := hrow; exact nqT g _ cur (by decide) h
              have hrow3 := hrow.upd HW.out.2 gq
              have hrx3 := hrx.upd HW.out.2 (by obtain ⟨cur, h, _⟩ := hrx; exact nqT bx _ cur (by decide) h)
              have hry3 := hry.upd HW.out.2 (by obtain ⟨cur, h, _⟩ := hry; exact nqT by' _ cur (by decide) h)
              have xe := hrow3.cell (i := x) (by omega)
              have xp := hrow3.cell (i := y) (by omega)
              rw [hvx] at xe
              rw [hvy] at xp
              have hbase := hpart.out.1.base
              have lA := hbase.len A
              have lB := hbase.len B
              have pA := List.length_pos_iff.2 hA0
              have pB := List.length_pos_iff.2 hB0
              have HS3 := Lib.hid (HS2.out.mv HW.out.2 (fun b E cur hE h e => ne_type HQ.out h (by rcases hE with rfl | rfl | rfl <;> decide) e.symm) (fun b hb e => by omega))
              have HRX := Lib.hid hrx3
              have HGQ := Lib.hid gq
              have HRY := Lib.hid hry3
              have HMG := Lib.hid hmg
              have HST := Lib.hid hst
              have HEAB := Lib.hid (And.intro eA eB)
              have hxI : (0 : Int) ≤ x := by omega
              have hyI : (0 : Int) ≤ y := by omega
              have hxe : (x : Int) < e := by omega
              have hye : (y : Int) < e := by omega
              have hxeN : x < e := by omega
              have hyeN : y < e := by omega
              clear hpe hf hCx hCy hgx hgy hown hels hrow hrx hry hvx hvy hb0 hb1 hcl hcl2 nqT hrow3 hrx3 hry3 hbase hmg hst hx1 hy1 eA eB hvl
              obtain ⟨w3, rfl⟩ : ∃ w3 : World, w3 = wr := ⟨_, rfl⟩
              go_wp2_with fail
              have S3 : ∀ W, Upd (fun _ => False) w3 W → Upd (fun _ => False) w3 W ∧ W.cell? ⟨g, x, none⟩ = some (.slice (some ⟨bx, 0, none⟩) (c A).length cx) ∧ W.cell? ⟨g, y, none⟩ = some (.slice (some ⟨by', 0, none⟩) (c B).length cy) := fun W h => ⟨h, Upd.keepCell' h xe (fun h => h), Upd.keepCell' h xp (fun h => h)⟩
              go_region_held3 (fun W => Upd (fun _ => False) w3 W ∧ W.cell? ⟨g, x, none⟩ = some (.slice (some ⟨bx, 0, none⟩) (c A).length cx) ∧ W.cell? ⟨g, y, none⟩ = some (.slice (some ⟨by', 0, none⟩) (c B).length cy))
                ((first | exact S3 _ U6 | exact S3 _ U5 | (refine S3 _ ?_; (repeat (first | exact Upd.refl _ _ | apply Upd.drew | apply Upd.alloc)); done)))
                ((first
                  | (refine step_append_lies _ (by rfl) _ _ _ (by rfl) w3.heap.size 3 j0 _ 1 8 Try.underlying36 HJ.out.1 HJ.out.2.1 HJ.out.2.2.1 HJ.out.2.2.2 rfl (by omega) (.slice (some ⟨w3.heap.size, 0, none⟩) 0 0) 0 [] (by rfl) (ownsRow_zero _ _ _ _ (Nat.le_refl _) (World.alloc_heap_new w3 _)) ⟨bx, 0, none⟩ (c A).length cx ((natI (c A)).map (Value.int .i64)) (by rfl) (by simp [natI_length]) (HRX.out.upd (((Upd.refl (fun _ => False) w3).alloc (.cells #[] 3)).drew) (fun h => h)).news (ints_one _) pA (by omega) (by omega) (by simp) (w3.heap.size + 1) (by simp) ?_; intro g5 c5 w5 hown5 hgrow5 hat5 hlt5; have U5 : Upd (fun _ => False) w3 w5 := Upd.grown (v := .slice (some ⟨w3.heap.size, 0, none⟩) 0 0) (((Upd.refl _ _).alloc _).drew) hgrow5 (fun g h => .inr (by cases h; exact Nat.le_refl _)))
                  | (refine step_append_lies _ (by rfl) _ _ _ (by rfl) w3.heap.size 3 j0 _ 1 8 Try.underlying36 HJ.out.1 HJ.out.2.1 HJ.out.2.2.1 HJ.out.2.2.2 rfl (by omega) (.slice (some ⟨g5, 0, none⟩) (0 + (c A).length) c5) (0 + (c A).length) _ (by rfl) hown5 ⟨by', 0, none⟩ (c B).length cy ((natI (c B)).map (Value.int .i64)) (by rfl) (by simp [natI_length]) (HRY.out.upd U5 (fun h => h)).news (ints_one _) pB (by omega) (by omega) U5.size _ rfl ?_; intro g6 c6 w6 hown6 hgrow6 hat6 hlt6; have U6 : Upd (fun _ => False) w3 w6 := Upd.grown (v := .slice (some ⟨g5, 0, none⟩) (0 + (c A).length) c5) U5 hgrow6 (fun g h => .inr ((own_block hown5 h).1)))))
              obtain ⟨sz, hsz⟩ : ∃ sz, 0 + (c A).length + (c B).length = sz := ⟨_, rfl⟩
              rw [hsz] at hown6 ⊢
              have hszI : ((c A).length + (c B).length : Nat) = sz := by omega
              have hszb : sz ≤ 28 := by omega
              have hhA : (natI (c A))[0]? = some (A : Int) := by
                have := hpart.out.1.head A hA0
                cases hc : c A with
                | nil => exact absurd hc hA0
                | cons z l => rw [hc] at this; simp at this; subst this; simp [natI]
              have hhB : (natI (c B))[0]? = some (B : Int) := by
                have := hpart.out.1.head B hB0
                cases hc : c B with
                | nil => exact absurd hc hB0
                | cons z l => rw [hc] at this; simp at this; subst this; simp [natI]
              have za : w6.cell? ⟨bx, 0, none⟩ = some (.int .i64 A) := by
                have := (HRX.out.upd U6 (fun h => h)).cell (i := 0) (by simp [natI_length]; omega)
                rw [this]; obtain ⟨h0, e0⟩ := List.getElem?_eq_some_iff.1 hhA; simp [e0]
              have zb : w6.cell? ⟨by', 0, none⟩ = some (.int .i64 B) := by
                have := (HRY.out.upd U6 (fun h => h)).cell (i := 0) (by simp [natI_length]; omega)
                rw [this]; obtain ⟨h0, e0⟩ := List.getElem?_eq_some_iff.1 hhB; simp [e0]
              obtain ⟨-, ze, zp⟩ := S3 w6 U6
              have hq6 := U6.at HW.out.1 (fun h => h)
              have zf0 := cell_of hq6 0
              have zf1 := cell_of hq6 1
              simp only [List.getElem?_toArray, List.getElem?_cons_zero, List.getElem?_cons_succ] at zf0 zf1
              have HO6 := Lib.hid hown6
              have HU6 := Lib.hid U6
              have HS6 := Lib.hid (HS3.out.mv U6 (fun _ _ _ _ _ h => h) (fun _ _ h => h))
              have hw6 := HS6.out.upd.size
              clear S3 U5 U6 hown5 hgrow5 hat5 hlt5 hown6 hgrow6 hat6 hlt6 xe xp hhA hhB hq6
              go_wp2_with fail
              refine wp_region_seq ([]) (97) (by kernel_rfl) (by kernel_rfl) (by kernel_rfl) ?_
              iterate 18 (refine sqB_step (fun K hK => ?_); go_simp; refine hK _ _ ?_; clear hK K)
              refine sqB_step (fun K hK => ?_)
              have hout := HS6.out.out
              have hown8 := ownsRow_upd hout (((Upd.refl (fun _ => False) w6).drew).alloc (.cells #[.int .i64 A, .int .i64 B, .int .i64 f.1, .int .i64 f.2, .int .i64 sz] 49)) (fun _ _ _ _ h => h)
              refine sqB_append rfl (by simp) _ _ 27 rfl w.heap.size 49 k0 _ 5 40 Try.underlying27 HK.out.1 HK.out.2.1 HK.out.2.2.1 HK.out.2.2.2 rfl (by decide) _ t _ rfl hown8 _ 1 1 _ rfl (src_new (World.alloc_heap_new _ _) 5 1 rfl) (by simp [Value.oneCell']) (by simp) (by omega) (by omega) (by simp; omega) ?_
              intro v' w9 hown9 hg9 hat9
              refine hK _ _ ?_
              clear hK K
              go_simp
              iterate 1 (refine sqB_step (fun K hK => ?_); go_simp; refine hK _ _ ?_; clear hK K)
              refine sqB_nil ?_
              have U8 : Upd (fun _ => False) w6 (w6.drew.alloc (.cells #[.int .i64 A, .int .i64 B, .int .i64 f.1, .int .i64 f.2, .int .i64 sz] 49)) := (Upd.refl _ _).drew.alloc _
              have U9 := Upd.ofGrown hg9
              have hob := fun {b : Nat} (h : (Value.slice oA t oc).ownBlock = some b) => own_block hown8 h
              have hne9 : ∀ b E cur, E ≠ 49 → (w6.drew.alloc (.cells #[.int .i64 A, .int .i64 B, .int .i64 f.1, .int .i64 f.2, .int .i64 sz] 49)).heap[b]? = some (.cells cur E (0, 0)) → ¬ (Value.slice oA t oc).ownBlock = some b := fun b E cur hE hb e => by
                obtain ⟨_, cur', h2⟩ := hob e
                exact ne_type hb h2 hE rfl
              have hown9' := ownsRow_upd (ownsRow_upd HS6.out.own U8 (fun _ _ _ _ h => h)) U9 (fun b cur _ hb => hne9 b _ cur (by decide) hb)
              have hels9 := (HS6.out.els.upd U8 (fun _ _ _ h => h)).upd U9 (fun b cur hb => hne9 b _ cur (by decide) hb)
              have hO9 := ownsRow_upd (ownsRow_upd HO6.out U8 (fun _ _ _ _ h => h)) U9 (fun b cur _ hb => hne9 b _ cur (by decide) hb)
              have hu9 := (HS6.out.upd.trans U8).then U9 (fun k hk e => by have := (hob e).1; omega)
              rw [HCC.out, HLN.out, HLNI.out] at hown9'
              rw [HCC.out] at hels9
              obtain ⟨g9, c9, hv9, hb9, hr9⟩ := RowAt.of_own hown9' (by omega)
              simp only [Value.slice.injEq, Option.some.injEq, Addr.mk.injEq, and_true, true_and] at hv9
              obtain ⟨rfl, -⟩ := hv9
              obtain ⟨old, hold⟩ : ∃ old, vs[x]'(by have := hels9.1; rw [HLN.out] at this; omega) = old := ⟨_, rfl⟩
              have hel := hels9.2 x (by rw [HLN.out]; omega) (by have := hels9.1; rw [HLN.out] at this; omega)
              obtain ⟨ob, oc2, hov, -⟩ := hel
              rw [hold] at hov
              have cg : w9.cell? ⟨g, x, none⟩ = some (.slice (some ⟨ob, 0, none⟩) ((rC c i)[x]'(by rw [HLN.out]; omega)).length oc2) := by rw [← hov, ← hold]; exact hr9.cell (i := x) (by have := hels9.1; rw [HLN.out] at this; omega)
              obtain ⟨oln, hoo⟩ : ∃ oln, ((rC c i)[x]'(by rw [HLN.out]; omega)).length = oln := ⟨_, rfl⟩
              rw [hoo] at cg
              clear hov hold hoo
              have fg := hr9.free
              have HO9 := Lib.hid hO9
              have HW9 := Lib.hid (And.intro hown9' (And.intro hels9 (And.intro hown9 hu9)))
              clear U8 U9 hob hne9 hown9' hels9 hO9 hu9 hr9 hg9 hown9 hown8 hout
              go_wp2_with fail
              refine wp_world (fun w10 => (w10.ownsRow w.heap.size 36 1 (.slice (some ⟨g, 0, none⟩) e vc) e (vs.set x (.slice (some ⟨g6, 0, none⟩) sz c6)) ∧ Els w10 w.heap.size (vs.set x (.slice (some ⟨g6, 0, none⟩) sz c6)) ((rC c i).set x (c A ++ c B))) ∧ w10.ownsRow w.heap.size 49 5 v' (t + 1) (flatM ((runL m d i).take (t + 1))) ∧ Upd (fun _ => False) w w10) ?_ ?_
              · have hWg := HW9.out
                have hst := hWg.1.stored x (.slice (some ⟨g6, 0, none⟩) sz c6)
                have hU : Upd (fun b => b = g) w9 (w9.setCell ⟨g, x, none⟩ (.slice (some ⟨g6, 0, none⟩) sz c6)) := (Upd.refl _ _).setB _ _
                have hgc : ∃ cur, w9.heap[g]? = some (.cells cur 36 (0, 0)) := (own_block hWg.1 (b := g) rfl).2
                obtain ⟨gcur, hgc⟩ := hgc
                have hl6 := HO9.out
                obtain ⟨g6', c6', hv6, hg6, hr6⟩ := RowAt.of_own hl6 (by omega)
                simp only [Value.slice.injEq, Option.some.injEq, Addr.mk.injEq, and_true, true_and] at hv6
                obtain ⟨rfl, rfl⟩ := hv6
                have hc6 : sz ≤ c6 := by
                  obtain ⟨_, ⟨h0, _⟩ | ⟨_, _, _, h1, _, _, h2, _⟩⟩ := hl6
                  · cases h0
                  · simp only [Value.slice.injEq] at h1; obtain ⟨-, -, rfl⟩ := h1; exact h2
                have hx6 : ([] : List Value) ++ (natI (c A)).map (Value.int .i64) ++ (natI (c B)).map (Value.int .i64) = (natI (c A ++ c B)).map (Value.int .i64) := by simp [natI]
                rw [hx6] at hr6
                have hlen6 : (c A ++ c B).length = sz := by rw [List.length_append]; exact hszI
                refine ⟨⟨hst.1, Els.set (hWg.2.1.upd hU fun b cur hb e => ne_type hb (e ▸ hgc) (by decide) rfl) x ⟨g6, c6, by rw [hlen6], hr6.upd hU (fun e => by obtain ⟨cur, h, _⟩ := hr6; exact ne_type h (e ▸ hgc) (by decide) rfl), Nat.le_trans HS3.out.upd.size hg6, by rw [hlen6]; exact hc6⟩⟩, ?_, hWg.2.2.2.then hU (fun k hk e => by have := (own_block hWg.1 (b := g) rfl).1; omega)⟩
                have h1 := ownsRow_upd hWg.2.2.1 hU fun b cur _ hb e => ne_type hb (e ▸ hgc) (by decide) rfl
                rw [runL_take m d ht1, flatM_append, HCC.out, HMG.out]
                have : flatM [⟨A, B, f, (c A).length + (c B).length⟩] = [.int .i64 A, .int .i64 B, .int .i64 f.1, .int .i64 f.2, .int .i64 sz] := by
                  simp only [flatM, cellsM, List.flatMap_cons, List.flatMap_nil, List.append_nil, hszI]
                rw [this]
                exact h1
              rintro w10 ⟨⟨hown10, hels10⟩, hout10, hu10⟩
              have hec : e ≤ vc := by
                obtain ⟨_, ⟨h0, _⟩ | ⟨_, _, _, h1, _, _, h2, _⟩⟩ := hown10
                · cases h0
                · simp only [Value.slice.injEq] at h1; obtain ⟨-, -, rfl⟩ := h1; exact h2
              obtain ⟨g10, c10, hv10, hg10, hr10⟩ := RowAt.of_own hown10 (by omega)
              simp only [Value.slice.injEq, Option.some.injEq, Addr.mk.injEq, and_true, true_and] at hv10
              obtain ⟨rfl, -⟩ := hv10
              obtain ⟨vs2, hvs2⟩ : ∃ vs2, vs.set x (.slice (some ⟨g6, 0, none⟩) sz c6) = vs2 := ⟨_, rfl⟩
              rw [hvs2] at hown10 hels10 hr10
              have hvl2 : vs2.length = e := by have := hels10.1; rw [List.length_set, HLN.out] at this; exact this
              have H10 := Lib.hid (And.intro hels10 (And.intro hout10 hu10))
              have HR10 := Lib.hid hr10
              have hb10 := hu10.size
              have wy : IntKind.i64.wrap ((y : Int) + 1) = (y : Int) + 1 := i64_in _ (by omega) (by omega)
              have hyv : (y : Int) ≤ vc := by omega
              have hyvN : y ≤ vc := by omega
              clear hvs2 hown10 hels10 hout10 hu10 hr10 cg fg HW9 HO9
              go_wp2_with fail
              have hy1I : (y : Int) + 1 ≤ e := by omega
              have hy1V : (y : Int) + 1 ≤ vc := by omega
              have hy1N : y + 1 ≤ e := by omega
              have hy1M : y + 1 ≤ vc := by omega
              refine wp_region_seq ([]) (120) (by kernel_rfl) (by kernel_rfl) (by kernel_rfl) ?_
              iterate 4 (refine sqB_step (fun K hK => ?_); go_simp; refine hK _ _ ?_; clear hK K)
              have hW : Upd (fun _ => False) w10 (w10.drew.alloc (.cells #[] 36)) := (Upd.refl _ _).drew.alloc _
              have hr11 := HR10.out.upd hW (fun h => h)
              have hone := slices_one H10.out.1
              refine sqB_step (fun K hK => ?_)
              have hsrc := src_row hr11 0 y (by omega)
              rw [List.drop_zero] at hsrc
              refine sqB_append rfl (by simp) _ _ 68 rfl w.heap.size 36 i0 _ 1 24 Try.underlying68 HI.out.1 HI.out.2.1 HI.out.2.2.1 HI.out.2.2.2 rfl (by decide) _ 0 [] rfl (ownsRow_zero _ _ _ _ hb10 (World.alloc_heap_new w10.drew _)) (some ⟨g, 0, none⟩) y vc (vs2.take y) rfl hsrc (fun u hu => hone u (List.mem_of_mem_take hu)) (by simp) (by omega) (by omega) (by simp; omega) ?_
              intro v11 w11 hown11 hg11 hat11
              refine hK _ _ ?_
              clear hK K hsrc
              have hU11 : Upd (fun _ => False) w10 w11 := Upd.grown (v := .slice (some ⟨w10.heap.size, 0, none⟩) 0 0) hW hg11 (fun g h => .inr (by cases h; exact Nat.le_refl _))
              have hr12 := HR10.out.upd hU11 (fun h => h)
              have HU11 := Lib.hid hU11
              have HO11 := Lib.hid hown11
              clear hW hr11 hown11 hg11 hat11 hU11
              go_simp
              have hy0I : (0 : Int) ≤ (y : Int) + 1 := by omega
              have hsrc : Src w11 (if vc = y + 1 then some ⟨g, 0, none⟩ else some ⟨g, y + 1, none⟩) 1 (e - (y + 1)) (vs2.drop (y + 1)) := by
                by_cases hcap : vc = y + 1
                · have h0 : e - (y + 1) = 0 := by omega
                  have hd : vs2.drop (y + 1) = [] := List.drop_eq_nil_of_le (by omega)
                  rw [h0, hd]
                  exact src_none _
                · rw [if_neg hcap]
                  have := src_row hr12 (y + 1) (e - (y + 1)) (by omega)
                  rw [List.take_of_length_le (by rw [List.length_drop]; omega)] at this
                  exact this
              have HSRC := Lib.hid hsrc
              obtain ⟨A2, hA2⟩ : ∃ A2, (if vc = y + 1 then some (⟨g, 0, none⟩ : Addr) else some ⟨g, y + 1, none⟩) = A2 := ⟨_, rfl⟩
              rw [hA2] at HSRC
              have hA2n : A2 = none → e - (y + 1) = 0 := fun h => by
                rw [h] at hA2; split at hA2 <;> cases hA2
              clear hsrc hr12
              iterate 4 (refine sqB_step (fun K hK => ?_); go_simp; refine hK _ _ ?_; clear hK K)
              refine sqB_step (fun K hK => ?_)
              refine sqB_append rfl (by simp) _ _ 68 rfl w.heap.size 36 i0 _ 1 24 Try.underlying68 HI.out.1 HI.out.2.1 HI.out.2.2.1 HI.out.2.2.2 rfl (by decide) _ (0 + y) _ rfl HO11.out A2 (e - (y + 1)) (vc - (y + 1)) (vs2.drop (y + 1)) (by first | rfl | (rw [← hA2]; rfl)) HSRC.out (fun u hu => hone u (List.mem_of_mem_drop hu)) hA2n (by omega) (by omega) (by have := HU11.out.size; omega) ?_
              intro v12 w12 hown12 hg12 hat12
              refine hK _ _ ?_
              clear hK K
              go_simp
              iterate 1 (refine sqB_step (fun K hK => ?_); go_simp; refine hK _ _ ?_; clear hK K)
              refine sqB_nil ?_
              have U12 := Upd.ofGrown hg12
              have hne12 : ∀ b E cur, E ≠ 36 → w11.heap[b]? = some (.cells cur E (0, 0)) → ¬ v11.ownBlock = some b := fun b E cur hE hb h => by
                obtain ⟨_, cur', h2⟩ := own_block HO11.out h
                exact ne_type hb h2 hE rfl
              have hels12 := ((H10.out.1.upd HU11.out (fun _ _ _ h => h)).upd U12 fun b cur hb => hne12 b _ cur (by decide) hb)
              have hout12 := ownsRow_upd (ownsRow_upd H10.out.2.1 HU11.out (fun _ _ _ _ h => h)) U12 fun b cur _ hb => hne12 b _ cur (by decide) hb
              have hu12 := (H10.out.2.2.trans HU11.out).then U12 fun k hk h => by have := (own_block HO11.out h).1; omega
              have hru := rC_unite (c := c) (n := i) hxy (by rw [HL.out]; exact hLy)
              simp only [HL.out, HEAB.out.1, HEAB.out.2] at hru
              have hlen12 : (rC (st m d i (t + 1)) i).length = 0 + y + (e - (y + 1)) := by
                rw [rC_length, (st_ok m d i (t + 1) (by omega)).2]; have := HLNI.out; omega
              have HRS := Lib.hid (show RS w m d i (t + 1) v12 v' (vs2.take y ++ vs2.drop (y + 1)) w12 from
                ⟨by rw [hlen12]; simpa using hown12, by rw [HST.out, hru]; exact Els.append (hels12.take y) (hels12.drop (y + 1)), hout12, hu12⟩)
              clear U12 hne12 hels12 hout12 hu12 hru hlen12 hown12 hg12 hat12
              go_wp2_with fail
              go_roundg (i - (t + 1))
              case measure => omega
              case rel => exact ⟨t + 1, _, by omega, rfl, HRS⟩
        · have htt : t = i - 1 := by omega
          have HT := Lib.hid htt
          clear htt
          go_wp2_with fail
          go_ret2
          have h1 := HS.out.out
          have h2 := runL_length m d i
          rw [List.take_of_length_le (by rw [h2, HT.out]; exact Nat.le_refl _)] at h1
          refine ⟨.slice oA t oc, rfl, ?_, HS.out.upd⟩
          have h3 : (runL m d i).length = t := by rw [h2, HT.out]
          rw [show mat i D = d from HDM.out, h3]
          exact h1
theorem rrun_method {w : World} {a : Option Addr} {l : Nat} (cap : Nat) (n mm : Int) (hm : mm ≠ 1 ∧ mm ≠ 2 ∧ mm ≠ 3) :
    Calls Try.prog 12 #[.int .i64 n, .slice a l cap, .int .i64 mm] w (NoRun w 2) := by
  have HM := Lib.hid (fun w => rmethod_no hm w)
  clear hm
  go_enter Try.func12, Try.ntmps12
  go_wp2_with fail
  refine (HM.out _).mono ?_
  rintro e w' ⟨rfl, rfl⟩
  go_wp2_with fail
  go_ret2
  exact ⟨rfl, Upd.refl _ _⟩
theorem rrun_refused (m : Mt) {w : World} {a : Option Addr} {D : List Int} (h : IntsK .i64 w a D) (cap : Nat) (n : Int) (hn : checkS n D ≠ 0) :
    Calls Try.prog 12 #[.int .i64 n, .slice a D.length cap, .int .i64 m.num] w (NoRun w (checkS n D)) := by
  have HM := Lib.hid (fun w => rmethod_yes m w)
  have hch := rcheck_any h cap n
  unfold Checks at hch
  have HCH := Lib.hid hch
  have hne : (checkS n D != 0) = true := by simpa using hn
  generalize m.num = mm at *
  generalize D.length = len at *
  generalize checkS n D = x at *
  clear h hn hch
  go_enter Try.func12, Try.ntmps12
  go_wp2_with fail
  refine (HM.out _).mono ?_
  rintro e w' ⟨rfl, rfl⟩
  go_wp2_with fail
  refine HCH.out.mono ?_
  rintro e w1 ⟨rfl, kd, rfl⟩
  go_wp2_with fail
  go_ret2
  exact ⟨rfl, (Upd.refl _ _).drewN _⟩
/-- the reference's Run, of at most 14 points -/
theorem rrun_any {w : World} {a : Option Addr} {D : List Int} (h : IntsK .i64 w a D) (cap : Nat) (n mm : Int) (hn : checkS n D = 0 → n ≤ 14) :
    Calls Try.prog 12 #[.int .i64 n, .slice a D.length cap, .int .i64 mm] w (RunIs w n D mm) := by
  rcases method_cases mm with hm | ⟨m, rfl⟩
  · exact (rrun_method cap n mm hm).mono fun e w' h => .inl ⟨hm, h⟩
  · by_cases hc : checkS n D = 0
    · have h14 := hn hc
      obtain ⟨k, rfl, hk, hl, hs, hr⟩ := checkS_zero hc
      have hd := dist_of hk hl hs hr
      exact (rrun_main m h cap k hc (by omega) hl hd).mono fun e w' hh => .inr (.inr ⟨m, k, rfl, rfl, hk, hl, hc, hd, hh⟩)
    · exact (rrun_refused m h cap n hc).mono fun e w' hh => .inr (.inl ⟨m, rfl, hc, hh⟩)
end Go.Proofs.Ytmkggcmebeagaaa
