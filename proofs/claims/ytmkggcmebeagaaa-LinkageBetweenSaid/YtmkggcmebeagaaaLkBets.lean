/- Between, of anything. -/
import Derived.Test.YtmkggcmebeagaaaLkBet3
import Derived.Test.YtmkggcmebeagaaaLkRuns
namespace Go.Proofs.Ytmkggcmebeagaaa
set_option linter.unusedVariables false
set_option linter.unusedSimpArgs false
open Go.RowKit Lk

/-- what Between answers -/
def BetIs (w : World) (n : Int) (D : List Int) (mm : Int) (A B : List Int) (e : Ending) (w' : World) : Prop :=
  (btE n D mm A B ≠ 0 ∧ NoBet w (btE n D mm A B) e w') ∨
  (∃ (m : Mt) (k : Nat), mm = m.num ∧ n = k ∧ k ≤ 128 ∧ D.length = k * k ∧ checkS n D = 0 ∧ Dist k (mat k D) ∧ inN n (A ++ B) ∧ A ≠ [] ∧ B ≠ [] ∧ (A ++ B).Nodup ∧ btE n D mm A B = 0 ∧
    e = .returned (.tuple #[.agg #[.int .i64 (btF k D m A B).1, .int .i64 (btF k D m A B).2], .int .i64 0]) ∧ Upd (fun _ => False) w w')
theorem Lk.Mt.num_ok (m : Mt) : ¬ (m.num ≠ 1 ∧ m.num ≠ 2 ∧ m.num ≠ 3) := by cases m <;> simp [Mt.num]
theorem lkbet_any {w : World} {a aA aB : Option Addr} {D A B : List Int} (h : IntsK .i64 w a D) (hA : IntsK .i64 w aA A) (hB : IntsK .i64 w aB B) (cap cA cB : Nat) (hcA : A.length ≤ cA) (hcB : B.length ≤ cB) (n mm : Int) :
    Calls Try.prog 15 #[.int .i64 n, .slice a D.length cap, .int .i64 mm, .slice aA A.length cA, .slice aB B.length cB] w (BetIs w n D mm A B) := by
  rcases method_cases mm with hm | ⟨m, rfl⟩
  · have e2 : btE n D mm A B = 2 := by unfold btE; rw [if_pos hm]
    exact (lkbet_method cap cA cB n mm hm).mono fun e w' h => .inl ⟨by omega, by rw [e2]; exact h⟩
  · by_cases hc : checkS n D = 0
    · obtain ⟨k, rfl, hk, hl, hs, hr⟩ := checkS_zero hc
      have hd := dist_of hk hl hs hr
      refine (lkbet_main m h hA hB cap cA cB k hcA hcB hk hl hc hd).mono fun e w' hh => ?_
      rcases hh with ⟨h1, h2⟩ | ⟨h1, h3, h2⟩ | ⟨h1, h3, h4, h5, h6, h7⟩
      · have e2 : btE k D m.num A B = 3 := by unfold btE; rw [if_neg m.num_ok, if_neg (fun x => x hc), if_pos h1]
        exact .inl ⟨by omega, by rw [e2]; exact h2⟩
      · have e2 : btE k D m.num A B = 2 := by unfold btE; rw [if_neg m.num_ok, if_neg (fun x => x hc), if_neg (fun x => x h1), if_pos h3]
        exact .inl ⟨by omega, by rw [e2]; exact h2⟩
      · have e2 : btE k D m.num A B = 0 := by unfold btE; rw [if_neg m.num_ok, if_neg (fun x => x hc), if_neg (fun x => x h1), if_neg (by simp [h3, h4, h5])]
        exact .inr ⟨m, k, rfl, rfl, hk, hl, hc, hd, h1, h3, h4, h5, e2, h6, h7⟩
    · have e2 : btE n D m.num A B = checkS n D := by unfold btE; rw [if_neg m.num_ok, if_pos hc]
      exact (lkbet_refused m h cap cA cB n hc).mono fun e w' h => .inl ⟨by rw [e2]; exact hc, by rw [e2]; exact h⟩
end Go.Proofs.Ytmkggcmebeagaaa
