/- start: one cluster for each point. -/
import Derived.Test.YtmkggcmebeagaaaLkUnite
import Derived.Test.YtmkggcmebeagaaaLkPairs
import Derived.Test.YtmkggcmebeagaaaApp
import Derived.Laws.EntriesVeiled
namespace Go.Proofs.Ytmkggcmebeagaaa
set_option linter.unusedVariables false
set_option linter.unusedSimpArgs false
open Go.RowKit Lk

/-- a pair of clusters -/
abbrev Pr (c : Cl) (n : Nat) := { q : Nat × Nat // q ∈ prs c n }
def prVals {c : Cl} {n : Nat} (q : Pr c n) : Array Value := #[.int .i64 q.1.1, .int .i64 q.1.2]
theorem lkpairs_stops {w0 : World} {p : Nat} {m : Mt} {n : Nat} {c : Cl} {dv : Value} (hn : n ≤ 128) (hb0 : CB w0 p 66 132 (objF m n c dv)) (B k : Nat) (hB0 : w0.heap[B]? = some (.cells #[.pointer (some ⟨p, 0, none⟩)] 52 (0, 0))) :
    SeqStopsK Fence.wide k Try.prog 35 #[.pointer (some ⟨B, 0, none⟩)] (prVals (c := c) (n := n)) (KeptB [p, B]) (fun xs => xs.map (·.1) = prs c n) (fun pre => pre.map (·.1) <+: prs c n) (prs c n).length w0 := by
  intro l J Jx W hW _ _ hY h0
  refine (lkpairs1_in hn B k l W ((hW.block p hb0.lt).trans hb0) ((hW.block B (heap_lt hB0)).trans hB0) (fun q W => ∃ xs : List (Pr c n), xs.map (·.1) = q ∧ J xs W) (fun q W => ∃ xs : List (Pr c n), xs.map (·.1) = q ∧ Jx xs W) ?_ ⟨[], rfl, h0⟩).mono ?_
  · rintro pre x W1 ⟨xs, rfl, hJ⟩ hpre
    have hx : x ∈ prs c n := hpre.subset (by simp)
    have hlen : xs.length < (prs c n).length := by have := hpre.length_le; simp at this; omega
    refine (hY xs ⟨x, hx⟩ W1 hJ hlen).mono ?_
    rintro e W' (⟨rfl, h1, h2⟩ | ⟨rfl, h1⟩)
    · exact .inl ⟨rfl, ⟨xs ++ [⟨x, hx⟩], by simp, h1⟩, h2⟩
    · exact .inr ⟨rfl, xs ++ [⟨x, hx⟩], by simp, h1⟩
  · rintro e W' ⟨hv, ⟨q, rfl, xs, hx, hJ⟩ | ⟨q, hq, xs, hx, hJ⟩⟩
    · exact ⟨hv, .inl ⟨xs, hx, hJ⟩⟩
    · exact ⟨hv, .inr ⟨xs, by show xs.map (·.1) <+: _; rw [hx]; exact hq, hJ⟩⟩

theorem i64_info : (Try.prog.info? 2).map (fun i => (i.zero, i.size, i.bytes)) = some (some (.int .i64 0), 1, 8) := by kernel_rfl
theorem RowAt.of_own {w : World} {n₀ : Nat} {E : TypeId} {v : Value} {n : Nat} {xs : List Value} (h : w.ownsRow n₀ E 1 v n xs) (hn : 0 < n) : ∃ g cap, v = .slice (some ⟨g, 0, none⟩) n cap ∧ n₀ ≤ g ∧ RowAt w g E xs := by
  obtain ⟨hl, ⟨rfl, h0⟩ | ⟨g, cap, cur, rfl, hgb, hg, _, _, _, ht⟩⟩ := h
  · subst h0; simp at hl; omega
  · refine ⟨g, cap, rfl, hgb, cur, hg, ?_⟩
    rw [hl]; simpa using ht

theorem own_slice {w : World} {n₀ : Nat} {E : TypeId} {v : Value} {n : Nat} {xs : List Value} (h : w.ownsRow n₀ E 1 v n xs) : ∃ A cap, v = .slice A n cap ∧ (0 < n → ∃ g, A = some ⟨g, 0, none⟩ ∧ n₀ ≤ g ∧ RowAt w g E xs) := by
  rcases Nat.eq_zero_or_pos n with h0 | h0
  · subst h0
    obtain ⟨hl, ⟨rfl, _⟩ | ⟨g, cap, cur, rfl, _⟩⟩ := h
    · exact ⟨_, _, rfl, fun h => absurd h (by omega)⟩
    · exact ⟨_, _, rfl, fun h => absurd h (by omega)⟩
  · obtain ⟨g, cap, rfl, hg, hr⟩ := RowAt.of_own h h0
    exact ⟨_, _, rfl, fun _ => ⟨g, rfl, hg, hr⟩⟩
/-- a start: nothing that was there is changed -/
def Started (w : World) (m : Mt) (n : Nat) (D : List Int) (e : Ending) (w' : World) : Prop :=
  ∃ p, e = .returned (.tuple #[.pointer (some ⟨p, 0, none⟩), .int .i64 0]) ∧ Upd (fun _ => False) w w' ∧ w.heap.size ≤ p ∧ (0 < n → ∃ g cap, w.heap.size ≤ g ∧ Obj w' p m n (Lk.start n) D g cap)
/-- none -/
def Refused (w : World) (x : Int) (e : Ending) (w' : World) : Prop := e = .returned (.tuple #[.pointer none, .int .i64 x]) ∧ Upd (fun _ => False) w w'

set_option maxRecDepth 100000 in
set_option maxHeartbeats 1000000 in
theorem lkstart_method {w : World} {a : Option Addr} {l : Nat} (cap : Nat) (n mm : Int) (hm : mm ≠ 1 ∧ mm ≠ 2 ∧ mm ≠ 3) :
    Calls Try.prog 20 #[.int .i64 n, .slice a l cap, .int .i64 mm] w (Refused w 2) := by
  have h1 : (mm == 1) = false := by simp; omega
  have h2 : (mm == 2) = false := by simp; omega
  have h3 : (mm == 3) = false := by simp; omega
  clear hm
  go_enter Try.func20, Try.ntmps20
  go_wp2_with fail
  go_ret2
  exact ⟨rfl, (Upd.refl _ _).alloc _⟩

/-- the object before it has its points -/
def obj0 (m : Mt) (n : Int) (o : Nat) : Value := if o = 0 then .int .i64 m.num else if o = 1 then .int .i64 n else if o < 130 then .int .i64 0 else if o = 130 then .slice none 0 0 else joinFn m

set_option maxRecDepth 100000 in
set_option maxHeartbeats 1000000 in
theorem lkstart_refused_single {w : World} {a : Option Addr} {D : List Int} (h : IntsK .i64 w a D) (cap : Nat) (n : Int) (hn : checkS n D ≠ 0) :
    Calls Try.prog 20 #[.int .i64 n, .slice a D.length cap, .int .i64 1] w (Refused w (checkS n D)) := by
  go_enter Try.func20, Try.ntmps20
  go_wp2_with fail
  refine calls_world (fun w1 => Upd (fun _ => False) w w1) ((Upd.refl _ _).alloc _) ?_
  rintro w1 hu1
  have h1 := h.upd hu1
  refine (lkcheck_any h1 cap n).mono ?_
  rintro e w2 ⟨rfl, k, rfl⟩
  have hne : (checkS n D != 0) = true := by simpa using hn
  clear hn
  go_wp2_with fail
  go_ret2
  exact ⟨rfl, hu1.drewN _⟩
set_option maxRecDepth 100000 in
set_option maxHeartbeats 1000000 in
theorem lkstart_refused_complete {w : World} {a : Option Addr} {D : List Int} (h : IntsK .i64 w a D) (cap : Nat) (n : Int) (hn : checkS n D ≠ 0) :
    Calls Try.prog 20 #[.int .i64 n, .slice a D.length cap, .int .i64 2] w (Refused w (checkS n D)) := by
  go_enter Try.func20, Try.ntmps20
  go_wp2_with fail
  refine calls_world (fun w1 => Upd (fun _ => False) w w1) ((Upd.refl _ _).alloc _) ?_
  rintro w1 hu1
  have h1 := h.upd hu1
  refine (lkcheck_any h1 cap n).mono ?_
  rintro e w2 ⟨rfl, k, rfl⟩
  have hne : (checkS n D != 0) = true := by simpa using hn
  clear hn
  go_wp2_with fail
  go_ret2
  exact ⟨rfl, hu1.drewN _⟩
set_option maxRecDepth 100000 in
set_option maxHeartbeats 1000000 in
theorem lkstart_refused_average {w : World} {a : Option Addr} {D : List Int} (h : IntsK .i64 w a D) (cap : Nat) (n : Int) (hn : checkS n D ≠ 0) :
    Calls Try.prog 20 #[.int .i64 n, .slice a D.length cap, .int .i64 3] w (Refused w (checkS n D)) := by
  go_enter Try.func20, Try.ntmps20
  go_wp2_with fail
  refine calls_world (fun w1 => Upd (fun _ => False) w w1) ((Upd.refl _ _).alloc _) ?_
  rintro w1 hu1
  have h1 := h.upd hu1
  refine (lkcheck_any h1 cap n).mono ?_
  rintro e w2 ⟨rfl, k, rfl⟩
  have hne : (checkS n D != 0) = true := by simpa using hn
  clear hn
  go_wp2_with fail
  go_ret2
  exact ⟨rfl, hu1.drewN _⟩

/-- the object while its points come -/
def objS (m : Mt) (n : Int) (k : Nat) (dv : Value) (o : Nat) : Value := if o = 0 then .int .i64 m.num else if o = 1 then .int .i64 n else if o < 130 then (if o < 2 + k then .int .i64 1 else .int .i64 0) else if o = 130 then dv else joinFn m
theorem obj_start (m : Mt) (n : Int) (dv : Value) (o : Nat) : (if o = 130 then dv else obj0 m n o) = objS m n 0 dv o := by
  unfold obj0 objS
  by_cases h0 : o = 0
  · subst h0; rfl
  · by_cases h1 : o = 1
    · subst h1; rfl
    · by_cases h2 : o < 130
      · have h3 : ¬ o = 130 := by omega
        have h4 : ¬ o < 2 + 0 := by omega
        simp only [h0, h1, h2, h3, h4, if_true, if_false]
      · by_cases h3 : o = 130 <;> simp only [h0, h1, h2, h3, if_true, if_false]
        rfl
theorem obj_next (m : Mt) (n : Int) (i : Nat) (dv : Value) (o : Nat) (hi : i < 128 := by omega) : (if o = 2 + i then .int .i64 1 else objS m n i dv o) = objS m n (i + 1) dv o := by
  unfold objS
  by_cases h0 : o = 2 + i
  · have h1 : ¬ o = 0 := by omega
    have h2 : ¬ o = 1 := by omega
    have h3 : o < 130 := by omega
    have h4 : o < 2 + (i + 1) := by omega
    rw [if_pos h0, if_neg h1, if_neg h2, if_pos h3, if_pos h4]
  · have e : (o < 2 + i) ↔ (o < 2 + (i + 1)) := by omega
    rw [if_neg h0]
    simp only [e]
theorem obj_done (m : Mt) (n : Nat) (dv : Value) (o : Nat) (_h : o < 132 := by omega) : objS m n n dv o = objF m n (Lk.start n) dv o := by
  unfold objS objF
  by_cases h0 : o = 0
  · rw [if_pos h0, if_pos h0]
  · by_cases h1 : o = 1
    · rw [if_neg h0, if_pos h1, if_neg h0, if_pos h1]
    · rw [if_neg h0, if_neg h1, if_neg h0, if_neg h1]
      by_cases h2 : o < 130
      · rw [if_pos h2, if_pos h2]
        by_cases h3 : o < 2 + n
        · rw [if_pos h3, Lk.start, if_pos (by omega)]; rfl
        · rw [if_neg h3, Lk.start, if_neg (by omega)]; rfl
      · rw [if_neg h2, if_neg h2]
set_option maxRecDepth 100000 in
set_option maxHeartbeats 2000000 in
theorem lkstart_single {w : World} {a : Option Addr} {D : List Int} (h : IntsK .i64 w a D) (cap : Nat) (n : Nat) (hok : checkS n D = 0) (hn : n ≤ 128) (hl : D.length = n * n) :
    Calls Try.prog 20 #[.int .i64 n, .slice a D.length cap, .int .i64 1] w (Started w .single n D) := by
  obtain ⟨i0, hi, hz0, hz1, hz2⟩ := info_parts i64_info
  have HL := Lib.hid hl
  have hb : D.length ≤ 128 * 128 := by rw [hl]; exact Nat.mul_le_mul hn hn
  clear hl
  go_enter Try.func20, Try.ntmps20
  go_wp2_with fail
  refine calls_world (fun w1 => Upd (fun _ => False) w w1 ∧ CB w1 w.heap.size 66 132 (obj0 .single n)) ⟨(Upd.refl _ _).alloc _, CB.new _ _ _ _ rfl⟩ ?_
  rintro w1 ⟨hu1, hb1⟩
  obtain ⟨p, hp⟩ : ∃ p, w.heap.size = p := ⟨_, rfl⟩
  have HP := Lib.hid hp
  rw [hp] at hb1 ⊢
  clear hp
  have h1 := h.upd hu1
  refine (lkcheck_any h1 cap n).mono ?_
  unfold Checks
  rw [hok]
  rintro e w2 ⟨rfl, k, rfl⟩
  have hb2 := hb1.drewN k
  have hu2 := hu1.drewN k
  have h2 := h1.drewN k
  obtain ⟨w2, hw2⟩ : ∃ w2, w1.drewN k = w2 := ⟨_, rfl⟩
  rw [hw2] at hb2 hu2 h2 ⊢
  have HW2 := Lib.hid hw2
  clear hw2 hok h1 hu1 hb1
  have cd : w2.cell? ⟨p, 130, none⟩ = some (.slice none 0 0) := hb2.cell (o := 130) (by omega)
  have hf := hb2.free
  have hA : a = none → D.length = 0 := fun e => by
    rcases Nat.eq_zero_or_pos D.length with h0 | h0
    · exact h0
    · obtain ⟨x, hx, _⟩ := h2.cell 0 h0
      rw [e] at hx; cases hx
  have hml : (maxLen : Nat) = 9223372036854775807 := by decide
  go_wp2_with (at_builtin; refine wpList_app_src _ rfl _ _ 22 rfl w2.heap.size 2 i0 _ 1 8 Try.underlying22 hi hz0 hz1 hz2 rfl (by decide) _ _ _ rfl (World.ownsRow_nil _ _ _ _) a D.length cap (D.map (Value.int .i64)) rfl h2.src (ints_one _) hA (by omega) (by omega) (Nat.le_refl _) ?_; intro v' w3 hown hgrow _; obtain ⟨A', c', rfl, hrow⟩ := own_slice hown; have hu3 : Upd (fun _ => False) w2 w3 := (Upd.refl _ _).grown hgrow (fun g e => (by cases e)); have hb3 := hb2.upd hu3 (fun h => h); clear cd hf; have hf := hb3.free; have cd : w3.cell? ⟨p, 130, none⟩ = some (.slice none 0 0) := hb3.cell (o := 130) (by omega))
  have hS0 : CB (w3.setCell ⟨p, 130, none⟩ (.slice A' (0 + D.length) c')) p 66 132 (objS .single n 0 (.slice A' (0 + D.length) c')) := (hb3.set 130 _).congr fun o ho => obj_start _ _ _ _
  have hu3' : Upd (fun b => b = p) w3 (w3.setCell ⟨p, 130, none⟩ (.slice A' (0 + D.length) c')) := (Upd.refl _ _).setB _ _
  simp only [Nat.zero_add] at hS0 hu3' hrow ⊢
  obtain ⟨dv, hdv⟩ : ∃ dv, Value.slice A' D.length c' = dv := ⟨_, rfl⟩
  rw [hdv] at hS0 hu3' ⊢
  have HD := Lib.hid hdv
  have HR := Lib.hid hrow
  have HU := Lib.hid (And.intro hu2 hu3)
  have HP2 := Lib.hid hb2.lt
  clear hdv hrow hown hgrow cd hf hb3 hb2 hA h2 h hu2 hu3 hi hz0 hz1 hz2 hml hb
  go_loopg [47] n (fun u v wr => ∃ i : Nat, v = .int .i64 i ∧ i ≤ n ∧ u = n - i ∧ CB wr p 66 132 (objS .single n i dv) ∧ Upd (fun b => b = p) w3 wr)
  case atStart => exact ⟨0, rfl, Nat.zero_le _, by omega, hS0, hu3'⟩
  case round =>
    obtain ⟨i, rfl, hile, hk, hS, hu⟩ := hrel
    clear hS0 hu3'
    by_cases hlt : i < n
    · have b1 : (i : Int) < 128 := by omega
      have hf := hS.free
      have ci : wr.cell? ⟨p, 2 + i, none⟩ = some _ := hS.cell (o := 2 + i) (by omega)
      have hS' : CB (wr.setCell ⟨p, 2 + i, none⟩ (.int .i64 1)) p 66 132 (objS .single n (i + 1) dv) := (hS.set (2 + i) _).congr fun o ho => obj_next _ _ _ _ _
      have HS := Lib.hid hS'
      have HV := Lib.hid hu
      clear hS hS' hu
      go_wp2_with fail
      go_roundg (n - (i + 1))
      case measure => omega
      case rel => exact ⟨i + 1, by simp, by omega, rfl, HS.out, HV.out.setB _ _⟩
    · obtain rfl : i = n := by omega
      have hobj : CB wr p 66 132 (objF .single i (Lk.start i) dv) := hS.congr fun o ho => obj_done _ _ _ _
      have HO := Lib.hid hobj
      have HV := Lib.hid hu
      clear hS hobj hu
      go_wp2_with fail
      go_ret2
      have hp := HP.out
      refine ⟨p, rfl, HU.out.1.trans HU.out.2 |>.then HV.out (fun j hj e => by omega), by omega, fun h0 => ?_⟩
      have hl := HL.out
      have h0' : 0 < D.length := by rw [hl]; exact Nat.mul_pos h0 h0
      obtain ⟨g, rfl, hg, hrow⟩ := HR.out h0'
      have hsz := HU.out.1.size
      have hgp : g ≠ p := by have := HP2.out; omega
      refine ⟨g, c', by omega, ⟨?_, ?_, hl, hgp, by omega⟩⟩
      · rw [← hl]; rw [← HD.out] at HO; exact HO.out
      · have := hrow.upd HV.out hgp
        simpa using this
set_option maxRecDepth 100000 in
set_option maxHeartbeats 2000000 in
theorem lkstart_complete {w : World} {a : Option Addr} {D : List Int} (h : IntsK .i64 w a D) (cap : Nat) (n : Nat) (hok : checkS n D = 0) (hn : n ≤ 128) (hl : D.length = n * n) :
    Calls Try.prog 20 #[.int .i64 n, .slice a D.length cap, .int .i64 2] w (Started w .complete n D) := by
  obtain ⟨i0, hi, hz0, hz1, hz2⟩ := info_parts i64_info
  have HL := Lib.hid hl
  have hb : D.length ≤ 128 * 128 := by rw [hl]; exact Nat.mul_le_mul hn hn
  clear hl
  go_enter Try.func20, Try.ntmps20
  go_wp2_with fail
  refine calls_world (fun w1 => Upd (fun _ => False) w w1 ∧ CB w1 w.heap.size 66 132 (obj0 .complete n)) ⟨(Upd.refl _ _).alloc _, CB.new _ _ _ _ rfl⟩ ?_
  rintro w1 ⟨hu1, hb1⟩
  obtain ⟨p, hp⟩ : ∃ p, w.heap.size = p := ⟨_, rfl⟩
  have HP := Lib.hid hp
  rw [hp] at hb1 ⊢
  clear hp
  have h1 := h.upd hu1
  refine (lkcheck_any h1 cap n).mono ?_
  unfold Checks
  rw [hok]
  rintro e w2 ⟨rfl, k, rfl⟩
  have hb2 := hb1.drewN k
  have hu2 := hu1.drewN k
  have h2 := h1.drewN k
  obtain ⟨w2, hw2⟩ : ∃ w2, w1.drewN k = w2 := ⟨_, rfl⟩
  rw [hw2] at hb2 hu2 h2 ⊢
  have HW2 := Lib.hid hw2
  clear hw2 hok h1 hu1 hb1
  have cd : w2.cell? ⟨p, 130, none⟩ = some (.slice none 0 0) := hb2.cell (o := 130) (by omega)
  have hf := hb2.free
  have hA : a = none → D.length = 0 := fun e => by
    rcases Nat.eq_zero_or_pos D.length with h0 | h0
    · exact h0
    · obtain ⟨x, hx, _⟩ := h2.cell 0 h0
      rw [e] at hx; cases hx
  have hml : (maxLen : Nat) = 9223372036854775807 := by decide
  go_wp2_with (at_builtin; refine wpList_app_src _ rfl _ _ 22 rfl w2.heap.size 2 i0 _ 1 8 Try.underlying22 hi hz0 hz1 hz2 rfl (by decide) _ _ _ rfl (World.ownsRow_nil _ _ _ _) a D.length cap (D.map (Value.int .i64)) rfl h2.src (ints_one _) hA (by omega) (by omega) (Nat.le_refl _) ?_; intro v' w3 hown hgrow _; obtain ⟨A', c', rfl, hrow⟩ := own_slice hown; have hu3 : Upd (fun _ => False) w2 w3 := (Upd.refl _ _).grown hgrow (fun g e => (by cases e)); have hb3 := hb2.upd hu3 (fun h => h); clear cd hf; have hf := hb3.free; have cd : w3.cell? ⟨p, 130, none⟩ = some (.slice none 0 0) := hb3.cell (o := 130) (by omega))
  have hS0 : CB (w3.setCell ⟨p, 130, none⟩ (.slice A' (0 + D.length) c')) p 66 132 (objS .complete n 0 (.slice A' (0 + D.length) c')) := (hb3.set 130 _).congr fun o ho => obj_start _ _ _ _
  have hu3' : Upd (fun b => b = p) w3 (w3.setCell ⟨p, 130, none⟩ (.slice A' (0 + D.length) c')) := (Upd.refl _ _).setB _ _
  simp only [Nat.zero_add] at hS0 hu3' hrow ⊢
  obtain ⟨dv, hdv⟩ : ∃ dv, Value.slice A' D.length c' = dv := ⟨_, rfl⟩
  rw [hdv] at hS0 hu3' ⊢
  have HD := Lib.hid hdv
  have HR := Lib.hid hrow
  have HU := Lib.hid (And.intro hu2 hu3)
  have HP2 := Lib.hid hb2.lt
  clear hdv hrow hown hgrow cd hf hb3 hb2 hA h2 h hu2 hu3 hi hz0 hz1 hz2 hml hb
  go_loopg [47] n (fun u v wr => ∃ i : Nat, v = .int .i64 i ∧ i ≤ n ∧ u = n - i ∧ CB wr p 66 132 (objS .complete n i dv) ∧ Upd (fun b => b = p) w3 wr)
  case atStart => exact ⟨0, rfl, Nat.zero_le _, by omega, hS0, hu3'⟩
  case round =>
    obtain ⟨i, rfl, hile, hk, hS, hu⟩ := hrel
    clear hS0 hu3'
    by_cases hlt : i < n
    · have b1 : (i : Int) < 128 := by omega
      have hf := hS.free
      have ci : wr.cell? ⟨p, 2 + i, none⟩ = some _ := hS.cell (o := 2 + i) (by omega)
      have hS' : CB (wr.setCell ⟨p, 2 + i, none⟩ (.int .i64 1)) p 66 132 (objS .complete n (i + 1) dv) := (hS.set (2 + i) _).congr fun o ho => obj_next _ _ _ _ _
      have HS := Lib.hid hS'
      have HV := Lib.hid hu
      clear hS hS' hu
      go_wp2_with fail
      go_roundg (n - (i + 1))
      case measure => omega
      case rel => exact ⟨i + 1, by simp, by omega, rfl, HS.out, HV.out.setB _ _⟩
    · obtain rfl : i = n := by omega
      have hobj : CB wr p 66 132 (objF .complete i (Lk.start i) dv) := hS.congr fun o ho => obj_done _ _ _ _
      have HO := Lib.hid hobj
      have HV := Lib.hid hu
      clear hS hobj hu
      go_wp2_with fail
      go_ret2
      have hp := HP.out
      refine ⟨p, rfl, HU.out.1.trans HU.out.2 |>.then HV.out (fun j hj e => by omega), by omega, fun h0 => ?_⟩
      have hl := HL.out
      have h0' : 0 < D.length := by rw [hl]; exact Nat.mul_pos h0 h0
      obtain ⟨g, rfl, hg, hrow⟩ := HR.out h0'
      have hsz := HU.out.1.size
      have hgp : g ≠ p := by have := HP2.out; omega
      refine ⟨g, c', by omega, ⟨?_, ?_, hl, hgp, by omega⟩⟩
      · rw [← hl]; rw [← HD.out] at HO; exact HO.out
      · have := hrow.upd HV.out hgp
        simpa using this
set_option maxRecDepth 100000 in
set_option maxHeartbeats 2000000 in
theorem lkstart_average {w : World} {a : Option Addr} {D : List Int} (h : IntsK .i64 w a D) (cap : Nat) (n : Nat) (hok : checkS n D = 0) (hn : n ≤ 128) (hl : D.length = n * n) :
    Calls Try.prog 20 #[.int .i64 n, .slice a D.length cap, .int .i64 3] w (Started w .average n D) := by
  obtain ⟨i0, hi, hz0, hz1, hz2⟩ := info_parts i64_info
  have HL := Lib.hid hl
  have hb : D.length ≤ 128 * 128 := by rw [hl]; exact Nat.mul_le_mul hn hn
  clear hl
  go_enter Try.func20, Try.ntmps20
  go_wp2_with fail
  refine calls_world (fun w1 => Upd (fun _ => False) w w1 ∧ CB w1 w.heap.size 66 132 (obj0 .average n)) ⟨(Upd.refl _ _).alloc _, CB.new _ _ _ _ rfl⟩ ?_
  rintro w1 ⟨hu1, hb1⟩
  obtain ⟨p, hp⟩ : ∃ p, w.heap.size = p := ⟨_, rfl⟩
  have HP := Lib.hid hp
  rw [hp] at hb1 ⊢
  clear hp
  have h1 := h.upd hu1
  refine (lkcheck_any h1 cap n).mono ?_
  unfold Checks
  rw [hok]
  rintro e w2 ⟨rfl, k, rfl⟩
  have hb2 := hb1.drewN k
  have hu2 := hu1.drewN k
  have h2 := h1.drewN k
  obtain ⟨w2, hw2⟩ : ∃ w2, w1.drewN k = w2 := ⟨_, rfl⟩
  rw [hw2] at hb2 hu2 h2 ⊢
  have HW2 := Lib.hid hw2
  clear hw2 hok h1 hu1 hb1
  have cd : w2.cell? ⟨p, 130, none⟩ = some (.slice none 0 0) := hb2.cell (o := 130) (by omega)
  have hf := hb2.free
  have hA : a = none → D.length = 0 := fun e => by
    rcases Nat.eq_zero_or_pos D.length with h0 | h0
    · exact h0
    · obtain ⟨x, hx, _⟩ := h2.cell 0 h0
      rw [e] at hx; cases hx
  have hml : (maxLen : Nat) = 9223372036854775807 := by decide
  go_wp2_with (at_builtin; refine wpList_app_src _ rfl _ _ 22 rfl w2.heap.size 2 i0 _ 1 8 Try.underlying22 hi hz0 hz1 hz2 rfl (by decide) _ _ _ rfl (World.ownsRow_nil _ _ _ _) a D.length cap (D.map (Value.int .i64)) rfl h2.src (ints_one _) hA (by omega) (by omega) (Nat.le_refl _) ?_; intro v' w3 hown hgrow _; obtain ⟨A', c', rfl, hrow⟩ := own_slice hown; have hu3 : Upd (fun _ => False) w2 w3 := (Upd.refl _ _).grown hgrow (fun g e => (by cases e)); have hb3 := hb2.upd hu3 (fun h => h); clear cd hf; have hf := hb3.free; have cd : w3.cell? ⟨p, 130, none⟩ = some (.slice none 0 0) := hb3.cell (o := 130) (by omega))
  have hS0 : CB (w3.setCell ⟨p, 130, none⟩ (.slice A' (0 + D.length) c')) p 66 132 (objS .average n 0 (.slice A' (0 + D.length) c')) := (hb3.set 130 _).congr fun o ho => obj_start _ _ _ _
  have hu3' : Upd (fun b => b = p) w3 (w3.setCell ⟨p, 130, none⟩ (.slice A' (0 + D.length) c')) := (Upd.refl _ _).setB _ _
  simp only [Nat.zero_add] at hS0 hu3' hrow ⊢
  obtain ⟨dv, hdv⟩ : ∃ dv, Value.slice A' D.length c' = dv := ⟨_, rfl⟩
  rw [hdv] at hS0 hu3' ⊢
  have HD := Lib.hid hdv
  have HR := Lib.hid hrow
  have HU := Lib.hid (And.intro hu2 hu3)
  have HP2 := Lib.hid hb2.lt
  clear hdv hrow hown hgrow cd hf hb3 hb2 hA h2 h hu2 hu3 hi hz0 hz1 hz2 hml hb
  go_loopg [47] n (fun u v wr => ∃ i : Nat, v = .int .i64 i ∧ i ≤ n ∧ u = n - i ∧ CB wr p 66 132 (objS .average n i dv) ∧ Upd (fun b => b = p) w3 wr)
  case atStart => exact ⟨0, rfl, Nat.zero_le _, by omega, hS0, hu3'⟩
  case round =>
    obtain ⟨i, rfl, hile, hk, hS, hu⟩ := hrel
    clear hS0 hu3'
    by_cases hlt : i < n
    · have b1 : (i : Int) < 128 := by omega
      have hf := hS.free
      have ci : wr.cell? ⟨p, 2 + i, none⟩ = some _ := hS.cell (o := 2 + i) (by omega)
      have hS' : CB (wr.setCell ⟨p, 2 + i, none⟩ (.int .i64 1)) p 66 132 (objS .average n (i + 1) dv) := (hS.set (2 + i) _).congr fun o ho => obj_next _ _ _ _ _
      have HS := Lib.hid hS'
      have HV := Lib.hid hu
      clear hS hS' hu
      go_wp2_with fail
      go_roundg (n - (i + 1))
      case measure => omega
      case rel => exact ⟨i + 1, by simp, by omega, rfl, HS.out, HV.out.setB _ _⟩
    · obtain rfl : i = n := by omega
      have hobj : CB wr p 66 132 (objF .average i (Lk.start i) dv) := hS.congr fun o ho => obj_done _ _ _ _
      have HO := Lib.hid hobj
      have HV := Lib.hid hu
      clear hS hobj hu
      go_wp2_with fail
      go_ret2
      have hp := HP.out
      refine ⟨p, rfl, HU.out.1.trans HU.out.2 |>.then HV.out (fun j hj e => by omega), by omega, fun h0 => ?_⟩
      have hl := HL.out
      have h0' : 0 < D.length := by rw [hl]; exact Nat.mul_pos h0 h0
      obtain ⟨g, rfl, hg, hrow⟩ := HR.out h0'
      have hsz := HU.out.1.size
      have hgp : g ≠ p := by have := HP2.out; omega
      refine ⟨g, c', by omega, ⟨?_, ?_, hl, hgp, by omega⟩⟩
      · rw [← hl]; rw [← HD.out] at HO; exact HO.out
      · have := hrow.upd HV.out hgp
        simpa using this
theorem lkstart_ok (m : Mt) {w : World} {a : Option Addr} {D : List Int} (h : IntsK .i64 w a D) (cap : Nat) (n : Nat) (hok : checkS n D = 0) (hn : n ≤ 128) (hl : D.length = n * n) :
    Calls Try.prog 20 #[.int .i64 n, .slice a D.length cap, .int .i64 m.num] w (Started w m n D) := by
  cases m
  · exact lkstart_single h cap n hok hn hl
  · exact lkstart_complete h cap n hok hn hl
  · exact lkstart_average h cap n hok hn hl
theorem lkstart_refused (m : Mt) {w : World} {a : Option Addr} {D : List Int} (h : IntsK .i64 w a D) (cap : Nat) (n : Int) (hn : checkS n D ≠ 0) :
    Calls Try.prog 20 #[.int .i64 n, .slice a D.length cap, .int .i64 m.num] w (Refused w (checkS n D)) := by
  cases m
  · exact lkstart_refused_single h cap n hn
  · exact lkstart_refused_complete h cap n hn
  · exact lkstart_refused_average h cap n hn
theorem checkS_zero {n : Int} {D : List Int} (h : checkS n D = 0) : ∃ k : Nat, n = k ∧ k ≤ 128 ∧ D.length = k * k ∧ Sym k D ∧ InR D := by
  unfold checkS at h
  split at h
  · omega
  · rename_i h1
    obtain ⟨k, rfl⟩ := Int.eq_ofNat_of_zero_le (show 0 ≤ n by omega)
    have hl : (D.length : Int) = k * k := by omega
    split at h
    · omega
    · rename_i h2
      split at h
      · omega
      · rename_i h3
        refine ⟨k, rfl, by omega, by exact_mod_cast hl, ?_, ?_⟩
        · exact Classical.not_not.1 (by simpa using h2)
        · exact Classical.not_not.1 (by simpa using h3)
theorem dist_of {n : Nat} {D : List Int} (hn : n ≤ 128) (hl : D.length = n * n) (hs : Sym n D) (hr : InR D) : Dist n (mat n D) := by
  refine ⟨hn, fun x y hx hy => (hs x hx y hy).1, fun x y hx hy => ?_⟩
  have h1 := idx_lt hx hy
  have e : mat n D x y = D[x * n + y]'(by omega) := by simp [mat, List.getD_eq_getElem?_getD, List.getElem?_eq_getElem (show x * n + y < D.length by omega)]
  rw [e]
  exact hr _ (List.getElem_mem _)
end Go.Proofs.Ytmkggcmebeagaaa
