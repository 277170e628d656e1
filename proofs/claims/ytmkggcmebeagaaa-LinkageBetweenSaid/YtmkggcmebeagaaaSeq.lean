/- A statement whose order of evaluation is open, walked once, in the order of its text: where each two operations that may come in either order can't disturb each other. -/
import Derived.Test.YtmkggcmebeagaaaBase
import Derived.OrdersIn
namespace Go.Proofs.Ytmkggcmebeagaaa
set_option linter.unusedVariables false
set_option linter.unusedSimpArgs false
open Go.RowKit

/-- operations that, on the values that they are handed, answer the same in every world (that they do is asked where they are walked) -/
def pureOp : Op → Bool
  | .move _ | .assign _ | .pick .. | .nilCheck _ | .binOp .. | .unOp .. | .convert .. | .makeInterface .. | .makeFunc .. | .fieldAddr .. | .field .. | .indexAddr .. | .index .. | .extract .. | .build .. | .slice .. => true
  | .call { callee := .builtin b, .. } => match b with | .len | .cap | .max | .min => true | _ => false
  | _ => false
def selOp : Op → Bool
  | .select .. => true
  | _ => false
def loadOp : Op → Bool
  | .load .. => true
  | _ => false

section
variable (rd : Prop) (P : Program) (ops : Array Oper) (qs : List Nat)

/-- what a quiet operation's run answers, in whatever world that differs from w by draws alone -/
def quietEv (o : Oper) (v : Value) (a : Act) (w : World) : Prop :=
  ∀ n, match (execOp a.eval o).run P (w.drewN n) with
    | .ok (.value u) w' => u = v ∧ w' = w.drewN n
    | .ok (.enter f args) w' => w' = w.drewN n ∧ Calls P f args (w.drewN n) fun e w'' => e = .returned v ∧ ∃ m, (w.drewN n).drewN m = w''
    | _ => False
/-- what a loud operation's run leads to -/
def loud (o : Oper) (a : Act) (K : Act → World → Prop) : Result Next → Prop
  | .ok (.value v) w' => K (a.put o.dst v) w'
  | .ok .skip w' => K (a.put o.dst undef) w'
  | .ok (.enter f args) w' => Calls P f args w' fun e w'' => ∃ v, e = .returned v ∧ K (a.put o.dst v) w''
  | .ok (.round l f tmps assign body) w' => rd ∧ RoundIn Fence.wide 0 P l f tmps assign body w' fun e w'' => ∃ v, e = .returned v ∧ K (a.put o.dst v) w''
  | _ => False
/-- one operation -/
def sqOp (i : Nat) (o : Oper) (K : Act → World → Prop) (a : Act) (w : World) : Prop :=
  if Region.wanted o (yielded ops a.tmps) = true then
    if pureOp o.op = true then ∃ v, (∀ w', (execOp a.eval o).run P w' = .ok (.value v) w') ∧ K (a.put o.dst v) w
    else if i ∈ qs then ∃ v, quietEv P o v a w ∧ ∀ m, K (a.put o.dst v) (w.drewN m)
    else if loadOp o.op = true then ∃ v, (∀ n, (execOp a.eval o).run P (w.drewN n) = .ok (.value v) (w.drewN n)) ∧ K (a.put o.dst v) w
    else loud rd P o a K ((execOp a.eval o).run P w)
  else if i ∈ qs ∧ pureOp o.op = false then ∀ m, K (a.put o.dst undef) (w.drewN m) else K (a.put o.dst undef) w
def sqAt (i : Nat) (K : Act → World → Prop) (a : Act) (w : World) : Prop :=
  match ops[i]? with
  | none => K a w
  | some o => sqOp rd P ops qs i o K a w
/-- the operations of a list, one behind the other -/
def sqAll (Q : Act → World → Prop) : List Nat → Act → World → Prop
  | [], a, w => Q a w
  | i :: rest, a, w => sqAt rd P ops qs i (sqAll Q rest) a w
end

section
variable {rd : Prop} {P : Program} {ops : Array Oper} {qs : List Nat}

theorem loud_mono {o : Oper} {a : Act} {K K' : Act → World → Prop} (h : ∀ a w, K a w → K' a w) {r : Result Next} (hh : loud rd P o a K r) : loud rd P o a K' r := by
  cases r with
  | ok n w' =>
    cases n <;> simp only [loud] at hh ⊢
    case value => exact h _ _ hh
    case skip => exact h _ _ hh
    case enter f args => exact hh.mono fun e w'' ⟨v, he, hk⟩ => ⟨v, he, h _ _ hk⟩
    case round l f tmps assign body => exact ⟨hh.1, hh.2.mono fun e w'' ⟨v, he, hk⟩ => ⟨v, he, h _ _ hk⟩⟩
  | halt => simp only [loud] at hh
theorem sqOp_mono {i : Nat} {o : Oper} {K K' : Act → World → Prop} (h : ∀ a w, K a w → K' a w) {a : Act} {w : World} (hh : sqOp rd P ops qs i o K a w) : sqOp rd P ops qs i o K' a w := by
  unfold sqOp at *
  split
  · rename_i h1; rw [if_pos h1] at hh
    split
    · rename_i h2; rw [if_pos h2] at hh; obtain ⟨v, hv, hk⟩ := hh; exact ⟨v, hv, h _ _ hk⟩
    · rename_i h2; rw [if_neg h2] at hh
      split
      · rename_i h3; rw [if_pos h3] at hh; obtain ⟨v, hv, hk⟩ := hh; exact ⟨v, hv, fun m => h _ _ (hk m)⟩
      · rename_i h3; rw [if_neg h3] at hh
        split
        · rename_i h4; rw [if_pos h4] at hh; obtain ⟨v, hv, hk⟩ := hh; exact ⟨v, hv, h _ _ hk⟩
        · rename_i h4; rw [if_neg h4] at hh; exact loud_mono h hh
  · rename_i h1; rw [if_neg h1] at hh
    split
    · rename_i h2; rw [if_pos h2] at hh; exact fun m => h _ _ (hh m)
    · rename_i h2; rw [if_neg h2] at hh; exact h _ _ hh
theorem sqAt_mono {i : Nat} {K K' : Act → World → Prop} (h : ∀ a w, K a w → K' a w) {a : Act} {w : World} (hh : sqAt rd P ops qs i K a w) : sqAt rd P ops qs i K' a w := by
  unfold sqAt at *
  split
  · rename_i ho; rw [ho] at hh; exact h _ _ hh
  · rename_i o ho; rw [ho] at hh; exact sqOp_mono h hh

/-- the kinds: pure, quiet (a load, or a call that is said to be one), loud -/
def quietB (qs : List Nat) (i : Nat) (o : Oper) : Bool := loadOp o.op || decide (i ∈ qs)
def commB (ops : Array Oper) (qs : List Nat) (i j : Nat) : Bool :=
  match ops[i]?, ops[j]? with
  | some x, some y => x.apart ops y && !selOp x.op && !selOp y.op && (pureOp x.op || pureOp y.op || (quietB qs i x && quietB qs j y && !(decide (i ∈ qs) && decide (j ∈ qs))))
  | _, _ => true

theorem selOp_ne {o : Oper} (h : selOp o.op = false) (cs : Array SelectCase) (b : Bool) : o.op ≠ .select cs b := fun e => by rw [e] at h; cases h

/-- a pure operation's answer -/
def PureEv (P : Program) (ops : Array Oper) (o : Oper) (v : Value) (a : Act) : Prop :=
  (Region.wanted o (yielded ops a.tmps) = true ∧ ∀ w, (execOp a.eval o).run P w = .ok (.value v) w) ∨ (¬ Region.wanted o (yielded ops a.tmps) = true ∧ v = undef)
theorem PureEv.of_same {o : Oper} {v : Value} {a a' : Act} (hy : PureEv P ops o v a) (he : execOp a'.eval o = execOp a.eval o)
    (hw : Region.wanted o (yielded ops a'.tmps) = Region.wanted o (yielded ops a.tmps)) : PureEv P ops o v a' := by
  unfold PureEv at *; rw [he, hw]; exact hy
theorem pure_iff {i : Nat} {o : Oper} (hp : pureOp o.op = true) {K : Act → World → Prop} {a : Act} {w : World} : sqOp rd P ops qs i o K a w ↔ ∃ v, PureEv P ops o v a ∧ K (a.put o.dst v) w := by
  unfold sqOp PureEv
  by_cases h : Region.wanted o (yielded ops a.tmps) = true
  · rw [if_pos h, if_pos hp]
    constructor
    · rintro ⟨v, hv, hk⟩; exact ⟨v, .inl ⟨h, hv⟩, hk⟩
    · rintro ⟨v, ⟨_, hv⟩ | ⟨h', _⟩, hk⟩
      · exact ⟨v, hv, hk⟩
      · exact absurd h h'
  · rw [if_neg h, if_neg (by rw [hp]; simp)]
    constructor
    · intro hk; exact ⟨undef, .inr ⟨h, rfl⟩, hk⟩
    · rintro ⟨v, ⟨h', _⟩ | ⟨_, rfl⟩, hk⟩
      · exact absurd h' h
      · exact hk

theorem drewN_zero (w : World) : w.drewN 0 = w := rfl

/-- a quiet operation's answer, a load's or a call's -/
def QuietEv (P : Program) (ops : Array Oper) (o : Oper) (v : Value) (a : Act) (w : World) : Prop :=
  (Region.wanted o (yielded ops a.tmps) = true ∧ quietEv P o v a w) ∨ (¬ Region.wanted o (yielded ops a.tmps) = true ∧ v = undef)
theorem QuietEv.of_same {o : Oper} {v : Value} {a a' : Act} {w : World} (hy : QuietEv P ops o v a w) (he : execOp a'.eval o = execOp a.eval o)
    (hw : Region.wanted o (yielded ops a'.tmps) = Region.wanted o (yielded ops a.tmps)) : QuietEv P ops o v a' w := by
  unfold QuietEv quietEv at *; rw [he, hw]; exact hy
theorem calls_exists {f : FuncId} {args : Array Value} {w : World} {R : Ending → World → Prop} (h : Calls P f args w R) : ∃ e w', R e w' := by
  obtain ⟨e, w', fr, hr, _⟩ := h []
  exact ⟨e, w', hr⟩

theorem load_value {o : Oper} (hl : loadOp o.op = true) {a : Act} {w w' : World} {x : Next} (h : (execOp a.eval o).run P w = .ok x w') : ∃ v, x = .value v := by
  obtain ⟨dst, op, type, pos, after, guard⟩ := o
  cases op <;> first | (cases hl; done) | skip
  simp only [execOp] at h
  simp only [Sem.run_bind] at h
  generalize Sem.run P _ w = r at h
  cases r with
  | ok v w1 =>
    simp only [Result.andThen] at h
    change Result.ok (Next.value v) w1 = _ at h
    injection h with h1 h2
    exact ⟨v, h1.symm⟩
  | halt x w1 => simp only [Result.andThen] at h; cases h

theorem load_not_pure {o : Oper} (hl : loadOp o.op = true) : pureOp o.op = false := by
  obtain ⟨dst, op, type, pos, after, guard⟩ := o
  cases op <;> first | (cases hl; done) | rfl

theorem quiet_iff {i : Nat} {o : Oper} (hp : pureOp o.op = false) (hq : quietB qs i o = true) {K : Act → World → Prop} {a : Act} {w : World} :
    sqOp rd P ops qs i o K a w ↔ ∃ v, QuietEv P ops o v a w ∧ ∀ m, (i ∈ qs ∨ m = 0) → K (a.put o.dst v) (w.drewN m) := by
  unfold sqOp QuietEv
  by_cases h : Region.wanted o (yielded ops a.tmps) = true
  · rw [if_pos h, if_neg (by rw [hp]; simp)]
    by_cases hi : i ∈ qs
    · rw [if_pos hi]
      constructor
      · rintro ⟨v, hv, hk⟩; exact ⟨v, .inl ⟨h, hv⟩, fun m _ => hk m⟩
      · rintro ⟨v, ⟨_, hv⟩ | ⟨h', _⟩, hk⟩
        · exact ⟨v, hv, fun m => hk m (.inl hi)⟩
        · exact absurd h h'
    · rw [if_neg hi]
      have hl : loadOp o.op = true := by simpa [quietB, hi] using hq
      rw [if_pos hl]
      constructor
      · rintro ⟨v, hv, hk⟩
        refine ⟨v, .inl ⟨h, fun n => ?_⟩, fun m hm => ?_⟩
        · rw [hv n]; exact ⟨rfl, rfl⟩
        · rcases hm with hm | rfl
          · exact absurd hm hi
          · exact hk
      · rintro ⟨v, ⟨_, hv⟩ | ⟨h', _⟩, hk⟩
        · refine ⟨v, fun n => ?_, hk 0 (.inr rfl)⟩
          have := hv n
          cases hr : (execOp a.eval o).run P (w.drewN n) with
          | ok x w' =>
            obtain ⟨u, rfl⟩ := load_value hl hr
            rw [hr] at this
            obtain ⟨rfl, rfl⟩ := this
            rfl
          | halt x w' => rw [hr] at this; exact this.elim
        · exact absurd h h'
  · rw [if_neg h]
    by_cases hi : i ∈ qs
    · rw [if_pos ⟨hi, hp⟩]
      constructor
      · intro hk; exact ⟨undef, .inr ⟨h, rfl⟩, fun m _ => hk m⟩
      · rintro ⟨v, ⟨h', _⟩ | ⟨_, rfl⟩, hk⟩
        · exact absurd h' h
        · exact fun m => hk m (.inl hi)
    · rw [if_neg (fun h => hi h.1)]
      constructor
      · intro hk; exact ⟨undef, .inr ⟨h, rfl⟩, fun m hm => by rcases hm with hm | rfl; exact absurd hm hi; exact hk⟩
      · rintro ⟨v, ⟨h', _⟩ | ⟨_, rfl⟩, hk⟩
        · exact absurd h' h
        · exact hk 0 (.inr rfl)

/-- what an operation leaves of the frame -/
theorem sq_frame {i : Nat} {o : Oper} {K : Act → World → Prop} {a : Act} {w : World} (h : sqOp rd P ops qs i o K a w) : sqOp rd P ops qs i o (fun a' w' => (∃ u, a' = a.put o.dst u) ∧ K a' w') a w := by
  unfold sqOp at *
  split
  · rename_i h1; rw [if_pos h1] at h
    split
    · rename_i h2; rw [if_pos h2] at h; obtain ⟨v, hv, hk⟩ := h; exact ⟨v, hv, ⟨v, rfl⟩, hk⟩
    · rename_i h2; rw [if_neg h2] at h
      split
      · rename_i h3; rw [if_pos h3] at h; obtain ⟨v, hv, hk⟩ := h; exact ⟨v, hv, fun m => ⟨⟨v, rfl⟩, hk m⟩⟩
      · rename_i h3; rw [if_neg h3] at h
        split
        · rename_i h4; rw [if_pos h4] at h; obtain ⟨v, hv, hk⟩ := h; exact ⟨v, hv, ⟨v, rfl⟩, hk⟩
        · rename_i h4; rw [if_neg h4] at h
          generalize (execOp a.eval o).run P w = r at h ⊢
          cases r with
          | ok n w' =>
            cases n <;> simp only [loud] at h ⊢
            case value v => exact ⟨⟨v, rfl⟩, h⟩
            case skip => exact ⟨⟨undef, rfl⟩, h⟩
            case enter f args => exact h.mono fun e w'' ⟨v, he, hk⟩ => ⟨v, he, ⟨v, rfl⟩, hk⟩
            case round l f tmps assign body => exact ⟨h.1, h.2.mono fun e w'' ⟨v, he, hk⟩ => ⟨v, he, ⟨v, rfl⟩, hk⟩⟩
          | halt => simp only [loud] at h
  · rename_i h1; rw [if_neg h1] at h
    split
    · rename_i h2; rw [if_pos h2] at h; exact fun m => ⟨⟨undef, rfl⟩, h m⟩
    · rename_i h2; rw [if_neg h2] at h; exact ⟨⟨undef, rfl⟩, h⟩
/-- an operation comes to an end -/
theorem sq_exists {i : Nat} {o : Oper} {K : Act → World → Prop} {a : Act} {w : World} (h : sqOp rd P ops qs i o K a w) : ∃ u w', K (a.put o.dst u) w' := by
  unfold sqOp at h
  split at h
  · split at h
    · obtain ⟨v, hv, hk⟩ := h; exact ⟨v, w, hk⟩
    · split at h
      · obtain ⟨v, hv, hk⟩ := h; exact ⟨v, _, hk 0⟩
      · split at h
        · obtain ⟨v, hv, hk⟩ := h; exact ⟨v, w, hk⟩
        · generalize (execOp a.eval o).run P w = r at h
          cases r with
          | ok n w' =>
            cases n <;> simp only [loud] at h
            case value v => exact ⟨v, _, h⟩
            case skip => exact ⟨undef, _, h⟩
            case enter f args =>
              obtain ⟨e, w'', v, _, hk⟩ := calls_exists h
              exact ⟨v, w'', hk⟩
            case round l f tmps assign body =>
              obtain ⟨e, w'', ⟨v, _, hk⟩, _⟩ := h.2.2 default [] (room_wide _)
              exact ⟨v, w'', hk⟩
          | halt => simp only [loud] at h
  · split at h
    · exact ⟨undef, _, h 0⟩
    · exact ⟨undef, w, h⟩
/-- an operation and a slot that it does not look at -/
theorem sq_put {j : Nat} {x oj : Oper} (hap : x.apart ops oj = true) (hsj : selOp oj.op = false) {v : Value} {K : Act → World → Prop} {a : Act} {w : World} :
    sqOp rd P ops qs j oj K (a.put x.dst v) w ↔ sqOp rd P ops qs j oj (fun a' w' => K (a'.put x.dst v) w') a w := by
  obtain ⟨h1, h2, h3⟩ := Oper.apart_spec hap
  have e1 : execOp (a.put x.dst v).eval oj = execOp a.eval oj := execOp_put oj (selOp_ne hsj) a x.dst v h1
  have e2 : Region.wanted oj (yielded ops (a.put x.dst v).tmps) = Region.wanted oj (yielded ops a.tmps) := wanted_put oj a x.dst v h1
  have e3 : ∀ u, (a.put x.dst v).put oj.dst u = (a.put oj.dst u).put x.dst v := fun u => Act.put_comm a v u h2
  have e4 : ∀ r, loud rd P oj (a.put x.dst v) K r = loud rd P oj a (fun a' w' => K (a'.put x.dst v) w') r := fun r => by
    cases r with
    | ok n w' => cases n <;> simp only [loud, e3]
    | halt => rfl
  unfold sqOp quietEv
  simp only [e1, e2, e3, e4]

theorem PureEv.unique {o : Oper} {u v : Value} {a : Act} (h : PureEv P ops o u a) (k : PureEv P ops o v a) (w : World) : u = v := by
  rcases h with ⟨h1, h⟩ | ⟨h1, rfl⟩ <;> rcases k with ⟨k1, k⟩ | ⟨k1, rfl⟩
  · have := (h w).symm.trans (k w); injection this with e; injection e
  · exact absurd h1 k1
  · exact absurd k1 h1
  · rfl

/-- two operations that can't disturb each other: either may come first -/
theorem sq_swap {i j : Nat} {x y : Oper} (hx : ops[i]? = some x) (hy : ops[j]? = some y) (hc : commB ops qs i j = true) {K : Act → World → Prop} {a : Act} {w : World}
    (h : sqOp rd P ops qs i x (sqOp rd P ops qs j y K) a w) : sqOp rd P ops qs j y (sqOp rd P ops qs i x K) a w := by
  unfold commB at hc
  rw [hx, hy] at hc
  simp only [Bool.and_eq_true, Bool.not_eq_true', Bool.or_eq_true] at hc
  obtain ⟨⟨⟨hap, hsx⟩, hsy⟩, hk⟩ := hc
  obtain ⟨h1, h2, h3⟩ := Oper.apart_spec hap
  have hap' : y.apart ops x = true := by
    unfold Oper.apart at *
    cases hdx : x.dst with
    | none =>
      cases hdy : y.dst with
      | none => rfl
      | some d => simp; exact h3 d hdy
    | some e =>
      cases hdy : y.dst with
      | none => simp; exact h1 e hdx
      | some d => simp; exact ⟨⟨h3 d hdy, fun e' => h2 e hdx (by rw [hdy, e'])⟩, h1 e hdx⟩
  have ex : ∀ (a : Act) (u : Value), execOp (a.put y.dst u).eval x = execOp a.eval x := fun a u => execOp_put x (selOp_ne hsx) a y.dst u h3
  have wx : ∀ (a : Act) (u : Value), Region.wanted x (yielded ops (a.put y.dst u).tmps) = Region.wanted x (yielded ops a.tmps) := fun a u => wanted_put x a y.dst u h3
  have ey : ∀ (a : Act) (u : Value), execOp (a.put x.dst u).eval y = execOp a.eval y := fun a u => execOp_put y (selOp_ne hsy) a x.dst u h1
  have wy : ∀ (a : Act) (u : Value), Region.wanted y (yielded ops (a.put x.dst u).tmps) = Region.wanted y (yielded ops a.tmps) := fun a u => wanted_put y a x.dst u h1
  by_cases px : pureOp x.op = true
  · obtain ⟨v, hv, hk⟩ := (pure_iff px).1 h
    refine sqOp_mono ?_ (sq_frame ((sq_put hap hsy).1 hk))
    rintro a' w' ⟨⟨u, rfl⟩, hk'⟩
    exact (pure_iff px).2 ⟨v, hv.of_same (ex a u) (wx a u), hk'⟩
  by_cases py : pureOp y.op = true
  · obtain ⟨u, w', hk⟩ := sq_exists h
    obtain ⟨v, hv, _⟩ := (pure_iff py).1 hk
    have hva : PureEv P ops y v a := hv.of_same (ey a u).symm (wy a u).symm
    refine (pure_iff py).2 ⟨v, hva, (sq_put hap' hsx).2 (sqOp_mono ?_ (sq_frame h))⟩
    rintro a' w'' ⟨⟨u', rfl⟩, hk'⟩
    obtain ⟨v', hv', hk''⟩ := (pure_iff py).1 hk'
    rw [PureEv.unique (hva.of_same (ey a u') (wy a u')) hv' w'']
    exact hk''
  have px' : pureOp x.op = false := by simpa using px
  have py' : pureOp y.op = false := by simpa using py
  rw [px', py'] at hk
  simp only [Bool.false_eq_true, false_or, or_false] at hk
  obtain ⟨⟨qx, qy⟩, hnot⟩ := hk
  obtain ⟨v, hv, H⟩ := (quiet_iff px' qx).1 h
  obtain ⟨u, hu, H0⟩ := (quiet_iff py' qy).1 (H 0 (.inr rfl))
  have hua : QuietEv P ops y u a w := hu.of_same (ey a v).symm (wy a v).symm
  have shift : ∀ (o : Oper) (v : Value) (a : Act) (w : World) (m : Nat), QuietEv P ops o v a w → QuietEv P ops o v a (w.drewN m) := by
    intro o v a w m h
    rcases h with ⟨h1, h⟩ | h
    · refine .inl ⟨h1, fun n => ?_⟩
      have := h (m + n)
      rw [World.drewN_drewN]
      exact this
    · exact .inr h
  refine (quiet_iff py' qy).2 ⟨u, hua, fun m' hm' => (quiet_iff px' qx).2 ⟨v, (shift _ _ _ _ m' hv).of_same (ex a u) (wx a u), fun m hm => ?_⟩⟩
  have fin : ∀ (n : Nat), K ((a.put x.dst v).put y.dst u) ((w.drewN n).drewN m') → n = m → K ((a.put y.dst u).put x.dst v) ((w.drewN m').drewN m) := by
    rintro n hn rfl
    rw [World.drewN_drewN] at hn ⊢
    rw [Act.put_comm a u v (fun d hd e => h2 d e hd), Nat.add_comm m' n]
    exact hn
  by_cases hi : i ∈ qs
  · -- x is a quiet call; so y is a load
    have hj : j ∉ qs := fun hj => by simp [hi, hj] at hnot
    have hl : loadOp y.op = true := by simpa [quietB, hj] using qy
    obtain ⟨u', hu', H'⟩ := (quiet_iff py' qy).1 (H m hm)
    have eu : u' = u := by
      have hu'a : QuietEv P ops y u' a (w.drewN m) := hu'.of_same (ey a v).symm (wy a v).symm
      rcases hu'a with ⟨k1, k⟩ | ⟨k1, rfl⟩ <;> rcases hua with ⟨g1, g⟩ | ⟨g1, rfl⟩
      · have k0 := k 0
        have g0 := g m
        rw [drewN_zero] at k0
        cases hr : (execOp a.eval y).run P (w.drewN m) with
        | ok z w' =>
          obtain ⟨z', rfl⟩ := load_value hl hr
          rw [hr] at k0 g0
          exact k0.1.symm.trans g0.1
        | halt z w' => rw [hr] at k0; exact k0.elim
      · exact absurd k1 g1
      · exact absurd g1 k1
      · rfl
    subst eu
    exact fin m (H' m' hm') rfl
  · have hm0 : m = 0 := hm.resolve_left hi
    exact fin 0 (H0 m' hm') hm0.symm

theorem sqAt_some {i : Nat} {o : Oper} (h : ops[i]? = some o) {K : Act → World → Prop} {a : Act} {w : World} : sqAt rd P ops qs i K a w ↔ sqOp rd P ops qs i o K a w := by
  unfold sqAt; rw [h]
theorem sqAt_none {i : Nat} (h : ops[i]? = none) {K : Act → World → Prop} {a : Act} {w : World} : sqAt rd P ops qs i K a w ↔ K a w := by
  unfold sqAt; rw [h]
theorem sqAt_swap {i j : Nat} (hc : commB ops qs i j = true) {K : Act → World → Prop} {a : Act} {w : World} (h : sqAt rd P ops qs i (sqAt rd P ops qs j K) a w) : sqAt rd P ops qs j (sqAt rd P ops qs i K) a w := by
  cases hx : ops[i]? with
  | none =>
    have h' := (sqAt_none hx).1 h
    exact sqAt_mono (fun a w h => (sqAt_none hx).2 h) h'
  | some x =>
    cases hy : ops[j]? with
    | none =>
      refine (sqAt_none hy).2 ?_
      exact sqAt_mono (fun a w h => (sqAt_none hy).1 h) h
    | some y =>
      have h1 : sqOp rd P ops qs i x (sqOp rd P ops qs j y K) a w := sqOp_mono (fun a w h => (sqAt_some hy).1 h) ((sqAt_some hx).1 h)
      have h2 := sq_swap hx hy hc h1
      exact (sqAt_some hy).2 (sqOp_mono (fun a w h => (sqAt_some hx).2 h) h2)
/-- an operation that may come first is brought to the front -/
theorem sq_pull {Q : Act → World → Prop} {j : Nat} {B : List Nat} : ∀ (A : List Nat), (∀ i ∈ A, commB ops qs i j = true) → ∀ {a : Act} {w : World}, sqAll rd P ops qs Q (A ++ j :: B) a w → sqAt rd P ops qs j (sqAll rd P ops qs Q (A ++ B)) a w
  | [], _, _, _, h => h
  | i :: A, hc, _, _, h =>
    sqAt_swap (hc i (List.mem_cons_self ..)) (sqAt_mono (fun _ _ h' => sq_pull A (fun k hk => hc k (List.mem_cons_of_mem _ hk)) h') h)

/-- what stands behind what -/
inductive Dep (ops : Array Oper) : Nat → Nat → Prop
  | one {j : Nat} {o : Oper} {e : Edge} (ho : ops[j]? = some o) (he : e ∈ o.after) (hb : Region.binds .any e = true) : Dep ops j e.on
  | more {j i : Nat} {o : Oper} {e : Edge} (ho : ops[j]? = some o) (he : e ∈ o.after) (hb : Region.binds .any e = true) (h : Dep ops e.on i) : Dep ops j i
def Behind (ops : Array Oper) (listed : Array Bool) (j : Nat) : Prop := ∀ o, ops[j]? = some o → ∀ e ∈ o.after, Region.binds .any e = true → listed.getD e.on false = true
def ClosedL (ops : Array Oper) (listed : Array Bool) : Prop := ∀ j, listed.getD j false = true → Behind ops listed j
theorem dep_listed {listed : Array Bool} (hc : ClosedL ops listed) {j i : Nat} (h : Dep ops j i) : Behind ops listed j → listed.getD i false = true := by
  induction h with
  | one ho he hb => exact fun hj => hj _ ho _ he hb
  | more ho he hb _ ih => exact fun hj => ih (hc _ (hj _ ho _ he hb))

def bitsOf (o : Oper) (acc : List Nat) : Nat := o.after.toList.foldl (fun s e => if Region.binds .any e then s ||| 2 ^ e.on ||| acc.getD e.on 0 else s) 0
def befL : List Oper → List Nat → List Nat
  | [], acc => acc
  | o :: r, acc => befL r (acc ++ [bitsOf o acc])
theorem bits_fold (acc : List Nat) (i : Nat) : ∀ (l : List Edge) (s : Nat), (l.foldl (fun s e => if Region.binds .any e then s ||| 2 ^ e.on ||| acc.getD e.on 0 else s) s).testBit i = true →
    s.testBit i = true ∨ ∃ e ∈ l, Region.binds .any e = true ∧ (i = e.on ∨ (acc.getD e.on 0).testBit i = true) := by
  intro l
  induction l with
  | nil => intro s h; exact .inl h
  | cons e l ih =>
    intro s h
    rw [List.foldl_cons] at h
    rcases ih _ h with h | ⟨e', he', hb, hh⟩
    · by_cases hb : Region.binds .any e = true
      · rw [if_pos hb, Nat.testBit_or, Nat.testBit_or, Bool.or_eq_true, Bool.or_eq_true] at h
        rcases h with (h | h) | h
        · exact .inl h
        · exact .inr ⟨e, List.mem_cons_self .., hb, .inl (by rw [Nat.testBit_two_pow] at h; exact (of_decide_eq_true h).symm)⟩
        · exact .inr ⟨e, List.mem_cons_self .., hb, .inr h⟩
      · rw [if_neg hb] at h; exact .inl h
    · exact .inr ⟨e', List.mem_cons_of_mem _ he', hb, hh⟩
theorem getD_append_lt {acc : List Nat} {x j : Nat} (h : j < acc.length) : (acc ++ [x]).getD j 0 = acc.getD j 0 := by
  simp [List.getD_eq_getElem?_getD, List.getElem?_append_left h]
theorem befL_dep : ∀ (rest : List Oper) (acc : List Nat), (∀ k, rest[k]? = ops[acc.length + k]?) → (∀ j i, (acc.getD j 0).testBit i = true → Dep ops j i) → ∀ j i, ((befL rest acc).getD j 0).testBit i = true → Dep ops j i := by
  intro rest
  induction rest with
  | nil => intro acc _ h; exact h
  | cons o rest ih =>
    intro acc hr h
    have h0 : ops[acc.length]? = some o := by simpa using (hr 0).symm
    refine ih (acc ++ [bitsOf o acc]) (fun k => ?_) ?_
    · have := hr (k + 1)
      simp only [List.length_append, List.length_cons, List.length_nil]
      rw [show acc.length + (0 + 1) + k = acc.length + (k + 1) by omega, ← this]
      simp
    · intro j i hb
      by_cases hj : j < acc.length
      · rw [getD_append_lt hj] at hb; exact h j i hb
      · by_cases hj2 : j = acc.length
        · subst hj2
          have e : (acc ++ [bitsOf o acc]).getD acc.length 0 = bitsOf o acc := by simp [List.getD_eq_getElem?_getD]
          rw [e] at hb
          rcases bits_fold acc i _ _ hb with hb | ⟨e, he, hbe, hh⟩
          · simp at hb
          · have he' : e ∈ o.after := by simpa using he
            rcases hh with rfl | hh
            · exact .one h0 he' hbe
            · exact .more h0 he' hbe (h _ _ hh)
        · have e : (acc ++ [bitsOf o acc]).getD j 0 = 0 := by
            rw [List.getD_eq_getElem?_getD, List.getElem?_eq_none (by simp; omega)]; rfl
          rw [e] at hb; simp at hb

/-- the check: text order is an order that the edges allow; any two operations of which neither must come first can't disturb each other -/
def seqB (ops : Array Oper) (qs : List Nat) : Bool :=
  let b := befL ops.toList []
  (List.range ops.size).all fun j =>
    (match ops[j]? with | some o => o.after.toList.all fun e => !Region.binds .any e || decide (e.on < j) | none => true) &&
    (List.range j).all fun i => commB ops qs i j || (b.getD j 0).testBit i

theorem seqB_spec (h : seqB ops qs = true) : (∀ j o, ops[j]? = some o → ∀ e ∈ o.after, Region.binds .any e = true → e.on < j) ∧ (∀ i j, i < j → j < ops.size → commB ops qs i j = true ∨ Dep ops j i) := by
  unfold seqB at h
  simp only [List.all_eq_true, List.mem_range, Bool.and_eq_true] at h
  refine ⟨fun j o ho e he hb => ?_, fun i j hij hj => ?_⟩
  · have hj : j < ops.size := (Array.getElem?_eq_some_iff.1 ho).1
    have h1 := (h j hj).1
    rw [ho] at h1
    simp only [List.all_eq_true, Bool.or_eq_true, Bool.not_eq_true', decide_eq_true_eq] at h1
    exact (h1 e (by simpa using he)).resolve_left (by simp [hb])
  · have h2 := (h j hj).2 i hij
    rw [Bool.or_eq_true] at h2
    refine h2.imp id fun h3 => befL_dep ops.toList [] (fun k => by simp) (fun j i hb => ?_) j i h3
    simp at hb

def unl (ops : Array Oper) (listed : Array Bool) : List Nat := (List.range ops.size).filter fun i => !listed.getD i true
theorem mem_unl {listed : Array Bool} {i : Nat} : i ∈ unl ops listed ↔ i < ops.size ∧ listed.getD i true = false := by simp [unl]
theorem getD_tt {listed : Array Bool} {i : Nat} (h : listed.getD i true = false) : listed.getD i false = false := by
  rcases Nat.lt_or_ge i listed.size with h' | h'
  · simp [h'] at h ⊢; exact h
  · simp [Array.getElem?_eq_none h'] at h

theorem wpOp_of_sq {Q : Exit → Act → World → Prop} {j : Nat} {K : Act → World → Prop} {a : Act} {w : World} (h : sqAt False P ops qs j K a w) : wpOp P ops Q j K a w := by
  unfold wpOp
  cases ho : ops[j]? with
  | none => exact (sqAt_none ho).1 h
  | some o =>
    have h := (sqAt_some ho).1 h
    simp only
    unfold sqOp at h
    split
    · rename_i h1
      rw [if_pos h1] at h
      refine .inl ?_
      unfold Oper.wp
      split at h
      · obtain ⟨v, hv, hk⟩ := h
        rw [hv w]; exact hk
      · split at h
        · obtain ⟨v, hv, hk⟩ := h
          have h0 := hv 0
          rw [drewN_zero] at h0
          cases hr : (execOp a.eval o).run P w with
          | ok x w' =>
            rw [hr] at h0
            cases x <;> simp only at h0
            case value u => obtain ⟨rfl, rfl⟩ := h0; exact hk 0
            case enter f args =>
              obtain ⟨rfl, hc⟩ := h0
              exact hc.mono fun e w'' ⟨he, m, hm⟩ => by subst he; subst hm; exact hk m
          | halt x w' => rw [hr] at h0; exact h0.elim
        · split at h
          · obtain ⟨v, hv, hk⟩ := h
            have h0 := hv 0
            rw [drewN_zero] at h0
            rw [h0]; exact hk
          · generalize (execOp a.eval o).run P w = r at h ⊢
            cases r with
            | ok x w' =>
              cases x <;> simp only [loud] at h
              case value u => exact h
              case skip => exact h
              case enter f args => exact h.mono fun e w'' ⟨v, he, hk⟩ => by subst he; exact hk
              case round l f tmps assign body => exact h.1.elim
            | halt x w' => simp only [loud] at h
    · rename_i h1
      rw [if_neg h1] at h
      split at h
      · exact h 0
      · exact h

theorem filter_set {listed : Array Bool} {j : Nat} (hs : listed.size = ops.size) (hj : j < ops.size) : unl ops (listed.setIfInBounds j true) = (unl ops listed).filter fun i => i ≠ j := by
  unfold unl
  rw [List.filter_filter]
  refine List.filter_congr fun i _ => ?_
  by_cases e : i = j
  · subst e
    have : (listed.setIfInBounds i true).getD i true = true := by simp [hs, hj]
    rw [this]; simp
  · rw [getD_set_ne true (Ne.symm e)]; simp [e]

theorem wpAny_of_sq {Q : Exit → Act → World → Prop} (hB : seqB ops qs = true) : ∀ (fuel : Nat) (listed : Array Bool) (a : Act) (w : World), (unl ops listed).length = fuel → listed.size = ops.size → ClosedL ops listed →
    sqAll False P ops qs (Q .normal) (unl ops listed) a w → wpAny P .any ops Q fuel listed a w := by
  obtain ⟨hord, hcomm⟩ := seqB_spec hB
  have hsub : ∀ (listed : Array Bool) j, j ∈ Region.ready .any ops listed → j ∈ unl ops listed ∧ Behind ops listed j := fun listed j hj => by
    obtain ⟨h0, o, ho, hall⟩ := mem_ready.1 hj
    refine ⟨mem_unl.2 ⟨(Array.getElem?_eq_some_iff.1 ho).1, h0⟩, fun o' ho' e he hb => ?_⟩
    rw [ho] at ho'; cases ho'
    exact hall e he hb
  intro fuel
  induction fuel with
  | zero =>
    intro listed a w hl _ _ h
    have hn : unl ops listed = [] := List.length_eq_zero_iff.1 hl
    refine ⟨?_, ?_⟩
    · refine List.eq_nil_iff_forall_not_mem.2 fun j hj => ?_
      have := (hsub listed j hj).1
      rw [hn] at this; cases this
    · rw [hn] at h; exact h
  | succ fuel ih =>
    intro listed a w hl hs hc h
    refine ⟨fun hr => ?_, fun j hj => ?_⟩
    · exfalso
      obtain ⟨x, l, hxl⟩ := List.exists_cons_of_length_eq_add_one hl
      obtain ⟨j, hj, hmin⟩ := exists_least (p := fun j => j ∈ unl ops listed) ⟨x, by rw [hxl]; exact List.mem_cons_self ..⟩
      obtain ⟨hjs, hju⟩ := mem_unl.1 hj
      have : j ∈ Region.ready .any ops listed := mem_ready.2 ⟨hju, ops[j], Array.getElem?_eq_getElem hjs, fun e he hb => by
        have hlt := hord j _ (Array.getElem?_eq_getElem hjs) e he hb
        cases hh : listed.getD e.on false with
        | true => rfl
        | false =>
          have h2 : listed.getD e.on true = false := by
            have : e.on < listed.size := by omega
            simp [this] at hh ⊢; exact hh
          have := hmin e.on (mem_unl.2 ⟨by omega, h2⟩)
          omega⟩
      rw [hr] at this; cases this
    · obtain ⟨hju, hjb⟩ := hsub listed j hj
      obtain ⟨hjs, hjf⟩ := mem_unl.1 hju
      obtain ⟨A, B, hAB⟩ := List.append_of_mem hju
      have hpw : (unl ops listed).Pairwise (· < ·) := (List.pairwise_lt_range (n := ops.size)).filter _
      rw [hAB] at hpw
      have hp := List.pairwise_append.1 hpw
      have hAj : ∀ i ∈ A, i < j := fun i hi => hp.2.2 i hi j (List.mem_cons_self ..)
      have hjB : ∀ i ∈ B, j < i := fun i hi => (List.pairwise_cons.1 hp.2.1).1 i hi
      rw [hAB] at h
      have hset : unl ops (listed.setIfInBounds j true) = A ++ B := by
        rw [filter_set hs hjs, hAB, List.filter_append, List.filter_cons]
        have e1 : A.filter (fun i => i ≠ j) = A := List.filter_eq_self.2 fun i hi => by have := hAj i hi; simp; omega
        have e2 : B.filter (fun i => i ≠ j) = B := List.filter_eq_self.2 fun i hi => by have := hjB i hi; simp; omega
        rw [e1, e2]; simp
      have hpull := sq_pull A (fun i hi => by
        have hiu : i ∈ unl ops listed := by rw [hAB]; exact List.mem_append_left _ hi
        rcases hcomm i j (hAj i hi) hjs with h1 | h1
        · exact h1
        · have := dep_listed hc h1 hjb
          rw [getD_tt (mem_unl.1 hiu).2] at this
          cases this) h
      refine wpOp_of_sq (sqAt_mono (fun a' w' h' => ih (listed.setIfInBounds j true) a' w' ?_ (by simp [hs]) ?_ ?_) hpull)
      · rw [hset]
        have : (A ++ j :: B).length = fuel + 1 := by rw [← hAB]; exact hl
        simp at this ⊢; omega
      · intro k hk o ho e he hb
        by_cases e' : j = k
        · subst e'; exact getD_set_true (hjb o ho e he hb)
        · rw [getD_set_ne false e'] at hk
          exact getD_set_true (hc k hk o ho e he hb)
      · rw [hset]; exact h'

theorem unl_start (ops : Array Oper) : unl ops (Array.replicate ops.size false) = List.range ops.size := by
  unfold unl
  refine List.filter_eq_self.2 fun i hi => ?_
  have : i < ops.size := List.mem_range.1 hi
  simp [this]

/-- the operations, written out -/
def sqLs (rd : Prop) (P : Program) (ops : Array Oper) (qs : List Nat) (Q : Act → World → Prop) : Nat → List Oper → Act → World → Prop
  | _, [], a, w => Q a w
  | k, o :: rest, a, w => sqOp rd P ops qs k o (sqLs rd P ops qs Q (k + 1) rest) a w
theorem sqAll_of_ls {Q : Act → World → Prop} : ∀ (l : List Oper) (k : Nat), (∀ j, l[j]? = ops[k + j]?) → ∀ {a : Act} {w : World}, sqLs rd P ops qs Q k l a w → sqAll rd P ops qs Q (List.range' k l.length) a w
  | [], _, _, _, _, h => h
  | o :: l, k, hl, _, _, h => by
    have h0 : ops[k]? = some o := by simpa using (hl 0).symm
    rw [List.length_cons, List.range'_succ]
    exact (sqAt_some h0).2 (sqOp_mono (fun a w h' => sqAll_of_ls l (k + 1) (fun j => by have := hl (j + 1); simpa [Nat.add_assoc, Nat.add_comm 1 j] using this) h') h)
theorem sqLs_step {Q : Act → World → Prop} {k : Nat} {o : Oper} {rest : List Oper} {a : Act} {w : World}
    (h : ∀ K : Act → World → Prop, (∀ a w, sqLs rd P ops qs Q (k + 1) rest a w → K a w) → sqOp rd P ops qs k o K a w) : sqLs rd P ops qs Q k (o :: rest) a w := h _ fun _ _ h => h
theorem sqLs_nil {Q : Act → World → Prop} {k : Nat} {a : Act} {w : World} (h : Q a w) : sqLs rd P ops qs Q k [] a w := h

/-! ### the guards, read from the slots: an operation that a guard names lies in slot base + its number -/
def wantB (base : Nat) (o : Oper) (tmps : Array Value) : Bool :=
  match o.guard with
  | none => true
  | some (j, want) => (match tmps[base + j]? with | some (.bool b) => some b | _ => none) == some want
def baseB (ops : Array Oper) (base : Nat) : Bool := ops.toList.all fun o => match o.guard with | none => true | some (j, _) => decide ((ops[j]?).bind (·.dst) = some (base + j))
theorem wantB_eq {base : Nat} (hb : baseB ops base = true) {o : Oper} (ho : o ∈ ops.toList) (a : Act) : Region.wanted o (yielded ops a.tmps) = wantB base o a.tmps := by
  have h := List.all_eq_true.1 hb o ho
  unfold Region.wanted wantB yielded
  cases hg : o.guard with
  | none => rfl
  | some g =>
    obtain ⟨j, want⟩ := g
    rw [hg] at h
    simp only [decide_eq_true_eq] at h
    simp only [h, Option.bind_some]
    cases a.tmps[base + j]? with
    | none => rfl
    | some v => cases v <;> rfl
/-- one operation, its guard read from the slots -/
def sqOpB (rd : Prop) (P : Program) (base : Nat) (qs : List Nat) (i : Nat) (o : Oper) (K : Act → World → Prop) (a : Act) (w : World) : Prop :=
  if wantB base o a.tmps = true then
    if pureOp o.op = true then ∃ v, (∀ w', (execOp a.eval o).run P w' = .ok (.value v) w') ∧ K (a.put o.dst v) w
    else if i ∈ qs then ∃ v, quietEv P o v a w ∧ ∀ m, K (a.put o.dst v) (w.drewN m)
    else if loadOp o.op = true then ∃ v, (∀ n, (execOp a.eval o).run P (w.drewN n) = .ok (.value v) (w.drewN n)) ∧ K (a.put o.dst v) w
    else loud rd P o a K ((execOp a.eval o).run P w)
  else if i ∈ qs ∧ pureOp o.op = false then ∀ m, K (a.put o.dst undef) (w.drewN m) else K (a.put o.dst undef) w
def sqLsB (rd : Prop) (P : Program) (base : Nat) (qs : List Nat) (Q : Act → World → Prop) : Nat → List Oper → Act → World → Prop
  | _, [], a, w => Q a w
  | k, o :: rest, a, w => sqOpB rd P base qs k o (sqLsB rd P base qs Q (k + 1) rest) a w
theorem sqLs_of_B {base : Nat} (hb : baseB ops base = true) {Q : Act → World → Prop} : ∀ (l : List Oper) (k : Nat), (∀ o ∈ l, o ∈ ops.toList) → ∀ {a : Act} {w : World}, sqLsB rd P base qs Q k l a w → sqLs rd P ops qs Q k l a w
  | [], _, _, _, _, h => h
  | o :: l, k, hl, a, w, h => by
    have h1 : sqOp rd P ops qs k o (sqLsB rd P base qs Q (k + 1) l) a w := by
      unfold sqOp; rw [wantB_eq hb (hl o (List.mem_cons_self ..)) a]; exact h
    exact sqOp_mono (fun a w h' => sqLs_of_B hb l (k + 1) (fun o ho => hl o (List.mem_cons_of_mem _ ho)) h') h1
theorem sqB_step {base : Nat} {Q : Act → World → Prop} {k : Nat} {o : Oper} {rest : List Oper} {a : Act} {w : World}
    (h : ∀ K : Act → World → Prop, (∀ a w, sqLsB rd P base qs Q (k + 1) rest a w → K a w) → sqOpB rd P base qs k o K a w) : sqLsB rd P base qs Q k (o :: rest) a w := h _ fun _ _ h => h
theorem sqB_nil {base : Nat} {Q : Act → World → Prop} {k : Nat} {a : Act} {w : World} (h : Q a w) : sqLsB rd P base qs Q k [] a w := h

/-- A STATEMENT WHOSE ORDER IS OPEN, walked in the order of its text -/
theorem wp_region_seq {id : Nat} {Q : Exit → Act → World → Prop} {a : Act} {w : World} {l : List Oper} (qs : List Nat) (base : Nat) (hm : P.follows .mixedOrders = true) (hB : seqB l.toArray qs = true) (hb : baseB l.toArray base = true)
    (h : sqLsB False P base qs (Q .normal) 0 l a w.drew) : (Code.region id l.toArray true).wp P Q a w := by
  refine wp_region_any hm (wpAny_of_sq hB _ _ a _ ?_ (by simp) ?_ ?_)
  · rw [unl_start]; simp
  · intro j hj
    exfalso
    rw [show (Array.replicate l.toArray.size false).getD j false = false from by
      rcases Nat.lt_or_ge j l.toArray.size with h | h
      · simp at h; simp [h]
      · simp at h; simp [h]] at hj
    cases hj
  · rw [unl_start, List.range_eq_range']; exact sqAll_of_ls l 0 (fun j => by simp) (sqLs_of_B hb l 0 (fun o ho => by simpa using ho) h)

/-! ### the same in a fence that lets all in, and in a round -/

def Wd (F : Fence) : Prop := F = Fence.wide ∨ ∃ l, F = Fence.wide.inRound l
theorem Wd.wide : Wd Fence.wide := .inl rfl
theorem Wd.inRound (l : Nat) : Wd (Fence.wide.inRound l) := .inr ⟨l, rfl⟩
theorem Wd.fn {F : Fence} (h : Wd F) (f : FuncId) : F.fn f := by rcases h with rfl | ⟨l, rfl⟩ <;> exact trivial
theorem Wd.depth {F : Fence} (h : Wd F) : F.depth = none := by rcases h with rfl | ⟨l, rfl⟩ <;> rfl
theorem Wd.callsIn {F : Fence} (h : Wd F) {n : Nat} {f : FuncId} {args : Array Value} {w : World} {R : Ending → World → Prop} (hc : Calls P f args w R) : CallsIn F n P f args w R := by
  rcases h with rfl | ⟨l, rfl⟩
  · exact callsIn_wide.2 hc
  · exact (show CallsIn Fence.wide n P f args w R from callsIn_wide.2 hc)
theorem Wd.roundIn {F : Fence} (h : Wd F) {m n : Nat} {l : Nat} {f : FuncId} {tmps : Array Value} {assign body : Code} {w : World} {R : Ending → World → Prop} (hc : RoundIn Fence.wide m P l f tmps assign body w R) : RoundIn F n P l f tmps assign body w R := by
  rcases h with rfl | ⟨l', rfl⟩
  · exact ⟨trivial, fun c cs _ => hc.2 c cs (room_wide _)⟩
  · exact (show RoundIn Fence.wide n P l f tmps assign body w R from ⟨trivial, fun c cs _ => hc.2 c cs (room_wide _)⟩)

def defOp : Op → Bool
  | .defer _ => true
  | _ => false
def noDefer (ops : Array Oper) : Bool := ops.toList.all fun o => !defOp o.op

theorem wpOpIn_of_sq {F : Fence} (hF : Wd F) {n : Nat} {Q : Exit → Act → World → Prop} (hnd : noDefer ops = true) {j : Nat} {K : Act → World → Prop} {a : Act} {w : World} (h : sqAt True P ops qs j K a w) : wpOpIn F n P ops Q j K a w := by
  unfold wpOpIn
  have hd : ∀ m : Nat, (F.depth.isSome = true → 1 ≤ m) := fun m h => by rw [hF.depth] at h; cases h
  cases ho : ops[j]? with
  | none => exact (sqAt_none ho).1 h
  | some o =>
    have h := (sqAt_some ho).1 h
    have hod : defOp o.op = false := by
      have := List.all_eq_true.1 hnd o (by have := Array.mem_of_getElem? ho; simpa using this)
      simpa using this
    have hsem : o.semAt F.round a.eval = execOp a.eval o := Oper.semAt_eq _ _ _ (fun c hc => by rw [hc] at hod; cases hod)
    simp only
    unfold sqOp at h
    split
    · rename_i h1
      rw [if_pos h1] at h
      refine ⟨fun f _ => hF.fn f, ?_⟩
      rw [hsem]
      split at h
      · obtain ⟨v, hv, hk⟩ := h
        rw [hv w]; exact hk
      · split at h
        · obtain ⟨v, hv, hk⟩ := h
          have h0 := hv 0
          rw [drewN_zero] at h0
          cases hr : (execOp a.eval o).run P w with
          | ok x w' =>
            rw [hr] at h0
            cases x <;> simp only at h0
            case value u => obtain ⟨rfl, rfl⟩ := h0; exact hk 0
            case enter f args =>
              obtain ⟨rfl, hc⟩ := h0
              exact ⟨hd _, hF.callsIn (hc.mono fun e w'' ⟨he, m, hm⟩ => by subst he; subst hm; exact hk m)⟩
          | halt x w' => rw [hr] at h0; exact h0.elim
        · split at h
          · obtain ⟨v, hv, hk⟩ := h
            have h0 := hv 0
            rw [drewN_zero] at h0
            rw [h0]; exact hk
          · generalize (execOp a.eval o).run P w = r at h ⊢
            cases r with
            | ok x w' =>
              cases x <;> simp only [loud] at h
              case value u => exact h
              case skip => exact h
              case enter f args => exact ⟨hd _, hF.callsIn (h.mono fun e w'' ⟨v, he, hk⟩ => by subst he; exact hk)⟩
              case round l f tmps assign body => exact ⟨hd _, hF.roundIn (h.2.mono fun e w'' ⟨v, he, hk⟩ => by subst he; exact hk)⟩
            | halt x w' => simp only [loud] at h
    · rename_i h1
      rw [if_neg h1] at h
      refine ⟨fun f _ => hF.fn f, ?_⟩
      split at h
      · exact h 0
      · exact h

theorem wpAnyIn_of_sq {F : Fence} (hF : Wd F) {n : Nat} {Q : Exit → Act → World → Prop} (hnd : noDefer ops = true) (hB : seqB ops qs = true) : ∀ (fuel : Nat) (listed : Array Bool) (a : Act) (w : World), (unl ops listed).length = fuel → listed.size = ops.size → ClosedL ops listed →
    sqAll True P ops qs (Q .normal) (unl ops listed) a w → wpAnyIn F n P .any ops Q fuel listed a w := by
  obtain ⟨hord, hcomm⟩ := seqB_spec hB
  have hsub : ∀ (listed : Array Bool) j, j ∈ Region.ready .any ops listed → j ∈ unl ops listed ∧ Behind ops listed j := fun listed j hj => by
    obtain ⟨h0, o, ho, hall⟩ := mem_ready.1 hj
    refine ⟨mem_unl.2 ⟨(Array.getElem?_eq_some_iff.1 ho).1, h0⟩, fun o' ho' e he hb => ?_⟩
    rw [ho] at ho'; cases ho'
    exact hall e he hb
  intro fuel
  induction fuel with
  | zero =>
    intro listed a w hl _ _ h
    have hn : unl ops listed = [] := List.length_eq_zero_iff.1 hl
    refine ⟨?_, ?_⟩
    · refine List.eq_nil_iff_forall_not_mem.2 fun j hj => ?_
      have := (hsub listed j hj).1
      rw [hn] at this; cases this
    · rw [hn] at h; exact h
  | succ fuel ih =>
    intro listed a w hl hs hc h
    refine ⟨fun hr => ?_, fun j hj => ?_⟩
    · exfalso
      obtain ⟨x, l, hxl⟩ := List.exists_cons_of_length_eq_add_one hl
      obtain ⟨j, hj, hmin⟩ := exists_least (p := fun j => j ∈ unl ops listed) ⟨x, by rw [hxl]; exact List.mem_cons_self ..⟩
      obtain ⟨hjs, hju⟩ := mem_unl.1 hj
      have : j ∈ Region.ready .any ops listed := mem_ready.2 ⟨hju, ops[j], Array.getElem?_eq_getElem hjs, fun e he hb => by
        have hlt := hord j _ (Array.getElem?_eq_getElem hjs) e he hb
        cases hh : listed.getD e.on false with
        | true => rfl
        | false =>
          have h2 : listed.getD e.on true = false := by
            have : e.on < listed.size := by omega
            simp [this] at hh ⊢; exact hh
          have := hmin e.on (mem_unl.2 ⟨by omega, h2⟩)
          omega⟩
      rw [hr] at this; cases this
    · obtain ⟨hju, hjb⟩ := hsub listed j hj
      obtain ⟨hjs, hjf⟩ := mem_unl.1 hju
      obtain ⟨A, B, hAB⟩ := List.append_of_mem hju
      have hpw : (unl ops listed).Pairwise (· < ·) := (List.pairwise_lt_range (n := ops.size)).filter _
      rw [hAB] at hpw
      have hp := List.pairwise_append.1 hpw
      have hAj : ∀ i ∈ A, i < j := fun i hi => hp.2.2 i hi j (List.mem_cons_self ..)
      have hjB : ∀ i ∈ B, j < i := fun i hi => (List.pairwise_cons.1 hp.2.1).1 i hi
      rw [hAB] at h
      have hset : unl ops (listed.setIfInBounds j true) = A ++ B := by
        rw [filter_set hs hjs, hAB, List.filter_append, List.filter_cons]
        have e1 : A.filter (fun i => i ≠ j) = A := List.filter_eq_self.2 fun i hi => by have := hAj i hi; simp; omega
        have e2 : B.filter (fun i => i ≠ j) = B := List.filter_eq_self.2 fun i hi => by have := hjB i hi; simp; omega
        rw [e1, e2]; simp
      have hpull := sq_pull A (fun i hi => by
        have hiu : i ∈ unl ops listed := by rw [hAB]; exact List.mem_append_left _ hi
        rcases hcomm i j (hAj i hi) hjs with h1 | h1
        · exact h1
        · have := dep_listed hc h1 hjb
          rw [getD_tt (mem_unl.1 hiu).2] at this
          cases this) h
      refine wpOpIn_of_sq hF hnd (sqAt_mono (fun a' w' h' => ih (listed.setIfInBounds j true) a' w' ?_ (by simp [hs]) ?_ ?_) hpull)
      · rw [hset]
        have : (A ++ j :: B).length = fuel + 1 := by rw [← hAB]; exact hl
        simp at this ⊢; omega
      · intro k hk o ho e he hb
        by_cases e' : j = k
        · subst e'; exact getD_set_true (hjb o ho e he hb)
        · rw [getD_set_ne false e'] at hk
          exact getD_set_true (hc k hk o ho e he hb)
      · rw [hset]; exact h'


/-- A STATEMENT WHOSE ORDER IS OPEN, walked in the order of its text, in a fence -/
theorem wpIn_region_seq {F : Fence} (hF : Wd F) {n : Nat} {id : Nat} {Q : Exit → Act → World → Prop} {a : Act} {w : World} {l : List Oper} (qs : List Nat) (base : Nat) (hm : P.follows .mixedOrders = true) (hnd : noDefer l.toArray = true) (hB : seqB l.toArray qs = true) (hb : baseB l.toArray base = true)
    (h : sqLsB True P base qs (Q .normal) 0 l a w.drew) : (Code.region id l.toArray true).wpIn F n P Q a w := by
  refine wpIn_region_any hm (wpAnyIn_of_sq hF hnd hB _ _ a _ ?_ (by simp) ?_ ?_)
  · rw [unl_start]; simp
  · intro j hj
    exfalso
    rw [show (Array.replicate l.toArray.size false).getD j false = false from by
      rcases Nat.lt_or_ge j l.toArray.size with h | h
      · simp at h; simp [h]
      · simp at h; simp [h]] at hj
    cases hj
  · rw [unl_start, List.range_eq_range']; exact sqAll_of_ls l 0 (fun j => by simp) (sqLs_of_B hb l 0 (fun o ho => by simpa using ho) h)
attribute [irreducible] sqLsB
attribute [go_sem] sqOpB wantB loud quietEv pureOp loadOp
end
end Go.Proofs.Ytmkggcmebeagaaa
