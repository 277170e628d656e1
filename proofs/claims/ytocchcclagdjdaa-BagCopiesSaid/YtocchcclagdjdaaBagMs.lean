/- The bag of a list: what a bag holds to which a list's numbers are added, one by one. No program in sight. -/
import Derived.Test.YtocchcclagdjdaaBagPlain
namespace Go.Proofs.Ytocchcclagdjdaa
namespace Pl

def eqs (l : List Int) (x : Int) : Nat := l.countP (fun y => decide (y = x))
def less (l : List Int) (x : Int) : Nat := l.countP (fun y => decide (y < x))
/-- one more of a number -/
def more (L : Items) (x : Int) : Items := put L x (cnt L x + 1)
def ms (l : List Int) : Items := l.foldl more []
theorem ms_snoc (l : List Int) (x : Int) : ms (l ++ [x]) = more (ms l) x := by simp [ms]

theorem eqs_snoc (l : List Int) (y x : Int) : eqs (l ++ [y]) x = eqs l x + (if y = x then 1 else 0) := by
  rw [eqs, List.countP_append, eqs, List.countP_singleton]; simp
theorem less_snoc (l : List Int) (y x : Int) : less (l ++ [y]) x = less l x + (if y < x then 1 else 0) := by
  rw [less, List.countP_append, less, List.countP_singleton]; simp
theorem eqs_reverse (l : List Int) (x : Int) : eqs l.reverse x = eqs l x := List.countP_reverse ..
theorem less_reverse (l : List Int) (x : Int) : less l.reverse x = less l x := List.countP_reverse ..
theorem eqs_le (l : List Int) (x : Int) : eqs l x ≤ l.length := List.countP_le_length
theorem less_le (l : List Int) (x : Int) : less l x ≤ l.length := List.countP_le_length
theorem eqs_pos {l : List Int} {x : Int} (h : 0 < eqs l x) : x ∈ l := by
  obtain ⟨y, hy, e⟩ := List.countP_pos_iff.1 h
  simp at e; exact e ▸ hy
theorem mem_eqs {l : List Int} {x : Int} (h : x ∈ l) : 0 < eqs l x := List.countP_pos_iff.2 ⟨x, h, by simp⟩
theorem less_eqs_le (l : List Int) (x : Int) : less l x + eqs l x ≤ l.length := by
  induction l with
  | nil => simp [less, eqs]
  | cons y l ih =>
    have e1 : less (y :: l) x = less l x + (if y < x then 1 else 0) := by rw [less, List.countP_cons]; simp [less]
    have e2 : eqs (y :: l) x = eqs l x + (if y = x then 1 else 0) := by rw [eqs, List.countP_cons]; simp [eqs]
    rw [e1, e2, List.length_cons]
    split <;> split <;> omega

theorem rnk_put {l : Items} (h : Srt l) (x n z : Int) (hn : 0 ≤ n) : rnk (put l x n) z = rnk l z + (if x < z then n - cnt l x else 0) := by
  induction l with
  | nil => simp only [put, cnt]; split <;> simp only [rnk] <;> split <;> omega
  | cons q l ih =>
    obtain ⟨h1, h2⟩ := h
    simp only [put]
    split
    · rename_i hx
      have h0 : cnt (q :: l) x = 0 := cnt_absent fun r hr => by
        rcases List.mem_cons.1 hr with rfl | hr
        · omega
        · have := h1 r hr; omega
      rw [h0]
      split
      · show (if x < z then n + rnk (q :: l) z else rnk (q :: l) z) = _
        split <;> omega
      · split <;> omega
    · split
      · rename_i e
        simp only [cnt, if_pos e]
        split
        · show (if x < z then n + rnk l z else rnk l z) = (if q.1 < z then q.2 + rnk l z else rnk l z) + _
          rw [e]; split <;> omega
        · show rnk l z = (if q.1 < z then q.2 + rnk l z else rnk l z) + _
          rw [e]; split <;> omega
      · rename_i e
        simp only [cnt, if_neg e]
        show (if q.1 < z then q.2 + rnk (put l x n) z else rnk (put l x n) z) = (if q.1 < z then q.2 + rnk l z else rnk l z) + _
        rw [ih h2]
        split <;> omega

theorem ext_cnt : ∀ {a b : Items}, Srt a → Srt b → Pos a → Pos b → (∀ x, cnt a x = cnt b x) → a = b
  | [], [], _, _, _, _, _ => rfl
  | [], q :: b, _, _, _, hb, h => by
    have h1 := h q.1
    have h2 := (pos_cons.1 hb).1
    simp only [cnt, if_true] at h1; omega
  | p :: a, [], _, _, ha, _, h => by
    have h1 := h p.1
    have h2 := (pos_cons.1 ha).1
    simp only [cnt, if_true] at h1; omega
  | p :: a, q :: b, sa, sb, ha, hb, h => by
    obtain ⟨ha1, ha2⟩ := pos_cons.1 ha
    obtain ⟨hb1, hb2⟩ := pos_cons.1 hb
    have hp := h p.1
    have hq := h q.1
    have lt1 : ¬ p.1 < q.1 := fun hlt => by
      have : cnt (q :: b) p.1 = 0 := cnt_absent fun r hr => by
        rcases List.mem_cons.1 hr with rfl | hr
        · omega
        · have := sb.1 r hr; omega
      rw [this] at hp; simp only [cnt, if_true] at hp; omega
    have lt2 : ¬ q.1 < p.1 := fun hlt => by
      have : cnt (p :: a) q.1 = 0 := cnt_absent fun r hr => by
        rcases List.mem_cons.1 hr with rfl | hr
        · omega
        · have := sa.1 r hr; omega
      rw [this] at hq; simp only [cnt, if_true] at hq; omega
    have e : p.1 = q.1 := by omega
    have e2 : p.2 = q.2 := by
      rw [e] at hp; simp only [cnt, if_true, if_pos e] at hp; exact hp
    have epq : p = q := Prod.ext e e2
    subst epq
    congr 1
    refine ext_cnt sa.2 sb.2 ha2 hb2 fun x => ?_
    by_cases ex : p.1 = x
    · rw [cnt_absent fun r hr => by have := sa.1 r hr; omega, cnt_absent fun r hr => by have := sb.1 r hr; omega]
    · have := h x
      simp only [cnt, if_neg ex] at this
      exact this

/-- what a bag's items say of a list -/
structure MsOk (L : Items) (l : List Int) : Prop where
  srt : Srt L
  pos : Pos L
  tot : tot L = l.length
  cnt : ∀ x, cnt L x = eqs l x
  rnk : ∀ x, rnk L x = less l x
theorem MsOk.nil : MsOk [] [] := ⟨trivial, fun _ h => (by cases h), rfl, fun _ => rfl, fun _ => rfl⟩
theorem MsOk.snoc {L : Items} {l : List Int} (h : MsOk L l) (x : Int) : MsOk (more L x) (l ++ [x]) := by
  have h0 := cnt_nonneg h.pos x
  refine ⟨put_srt h.srt _ _, put_pos h.pos _ _, ?_, fun z => ?_, fun z => ?_⟩
  · rw [more, tot_put h.srt _ _ (by omega), h.tot, List.length_append, List.length_singleton]; omega
  · rw [more, cnt_put h.srt _ _ _ (by omega), eqs_snoc]
    by_cases e : z = x
    · subst e; rw [if_pos rfl, if_pos rfl, h.cnt]; omega
    · rw [if_neg e, if_neg (fun h => e h.symm), h.cnt]; omega
  · rw [more, rnk_put h.srt _ _ _ (by omega), less_snoc, h.rnk]
    split <;> omega
theorem MsOk.all : ∀ (l' : List Int) {L : Items} {l : List Int}, MsOk L l → MsOk (l'.foldl more L) (l ++ l')
  | [], _, _, h => by simpa using h
  | x :: l', L, l, h => by
    have := MsOk.all l' (h.snoc x)
    rwa [List.append_assoc] at this
theorem ms_ok (l : List Int) : MsOk (ms l) l := by simpa [ms] using MsOk.all l MsOk.nil
theorem MsOk.of_eqs {L : Items} {l l' : List Int} (h : MsOk L l) (he : ∀ x, eqs l x = eqs l' x) : L = ms l' :=
  ext_cnt h.srt (ms_ok l').srt h.pos (ms_ok l').pos fun x => by rw [h.cnt, (ms_ok l').cnt, he]
theorem ms_reverse (l : List Int) : ms l.reverse = ms l := (ms_ok l.reverse).of_eqs fun x => eqs_reverse l x
theorem ms_mem {l : List Int} {q : Int × Int} (h : q ∈ ms l) : q.1 ∈ l := by
  have h1 : Pos (ms l) := (ms_ok l).pos
  have h2 := (ms_ok l).cnt q.1
  have h3 : cnt (ms l) q.1 = q.2 := by
    obtain ⟨a, b, e⟩ := List.append_of_mem h
    have hs := (ms_ok l).srt
    rw [e] at hs ⊢
    exact cnt_mid hs
  have := h1 q h
  exact eqs_pos (by omega)
end Pl
end Go.Proofs.Ytocchcclagdjdaa
