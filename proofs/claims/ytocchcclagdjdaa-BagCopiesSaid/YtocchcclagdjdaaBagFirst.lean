/- first, of the bag's tree. -/
import Derived.Test.YtocchcclagdjdaaBagBal
namespace Go.Proofs.Ytocchcclagdjdaa
open Go.RowKit Pl

def AT.sz : AT → Nat
  | .nil => 0
  | .node _ _ _ l r _ _ _ => 1 + l.sz + r.sz

/-- the first node of a tree -/
def IsFirst (w : World) (t : AT) (e : Ending) : Prop := ∃ fb fx fk fr ft fs fn rest, e = .returned (.pointer (some ⟨fb, 0, none⟩)) ∧ Nd w fb fx fk none fr ft fs fn ∧ fb ∈ t.blocks ∧ t.items = (fx, fk) :: rest
/-- where the loop stands: at a node of t, whose items come first -/
def AtNode (w : World) (t : AT) (k : Nat) (v : Value) : Prop := ∃ b x m l r tt s n rest, v = .pointer (some ⟨b, 0, none⟩) ∧ (AT.node b x m l r tt s n).Lies w ∧ l.sz < k ∧ t.items = (AT.node b x m l r tt s n).items ++ rest ∧ ∀ i ∈ (AT.node b x m l r tt s n).blocks, i ∈ t.blocks

set_option maxHeartbeats 400000 in
theorem first_any (w : World) (t : AT) (b : Nat) (hb : t.adr = some ⟨b, 0, none⟩) (ht : t.Lies w) :
    Calls Try.prog 40 #[.pointer (some ⟨b, 0, none⟩)] w fun e w' => IsFirst w t e ∧ w = w' := by
  have h0 : AtNode w t (t.sz + 1) (.pointer (some ⟨b, 0, none⟩)) := by
    obtain ⟨b', x, m, l, r, tt, s, n, rfl, e⟩ := AT.node_of hb
    injection e with e
    subst e
    exact ⟨b, x, m, l, r, tt, s, n, [], rfl, ht, by simp only [AT.sz]; omega, by simp, fun i h => h⟩
  go_enter Try.func40, Try.ntmps40
  go_wp2
  go_loopg [0] (t.sz + 1) (fun k v wr => AtNode w t k v ∧ wr = w)
  case atStart => exact ⟨h0, rfl⟩
  case round =>
    obtain ⟨⟨b, x, m, l, r, tt, s, n, rest, rfl, ⟨hN, hl, hr⟩, hlt, hi, hbl⟩, rfl⟩ := hrel
    have HI := Lib.hid hi
    have HB := Lib.hid hbl
    clear hi hbl
    obtain ⟨c0, c1, c2, c3, c4, c5, c6, cf⟩ := hN.cells
    cases l with
    | nil =>
      have c2' : wr.cell? ⟨b, 2, none⟩ = some (.pointer none) := c2
      clear c2
      go_wp2
      go_ret
      exact ⟨⟨b, x, m, r.adr, tt, s, n, r.items ++ rest, rfl, hN, HB.out _ (List.mem_cons_self ..), by rw [HI.out]; rfl⟩, rfl⟩
    | node lb lx lm ll lr lt ls ln =>
      have c2' : wr.cell? ⟨b, 2, none⟩ = some (.pointer (some ⟨lb, 0, none⟩)) := c2
      clear c2
      go_wp2
      go_roundg (AT.node lb lx lm ll lr lt ls ln).sz
      case measure => exact hlt
      case rel => exact ⟨⟨lb, lx, lm, ll, lr, lt, ls, ln, (x, m) :: (r.items ++ rest), rfl, hl, by simp only [AT.sz]; omega, by rw [HI.out]; simp [AT.items], fun i hi => HB.out i (List.mem_cons_of_mem _ (List.mem_append_left _ hi))⟩, rfl⟩
end Go.Proofs.Ytocchcclagdjdaa
