/- Plain facts on lists of numbers with counts, kept in increasing order: what a bag holds. No program in sight. -/
import Derived.Below
namespace Go.Proofs.Ytocchcclagdjdaa
namespace Pl

/-- numbers with their counts -/
abbrev Items := List (Int × Int)

def Srt : Items → Prop
  | [] => True
  | p :: l => (∀ q ∈ l, p.1 < q.1) ∧ Srt l

def Pos (l : Items) : Prop := ∀ p ∈ l, 1 ≤ p.2

def tot : Items → Int
  | [] => 0
  | p :: l => p.2 + tot l

def cnt : Items → Int → Int
  | [], _ => 0
  | p :: l, x => if p.1 = x then p.2 else cnt l x

/-- the list in which x is there n times -/
def put : Items → Int → Int → Items
  | [], x, n => if 0 < n then [(x, n)] else []
  | p :: l, x, n => if x < p.1 then (if 0 < n then (x, n) :: p :: l else p :: l) else if p.1 = x then (if 0 < n then (x, n) :: l else l) else p :: put l x n

/-- how many are smaller than x -/
def rnk : Items → Int → Int
  | [], _ => 0
  | p :: l, x => if p.1 < x then p.2 + rnk l x else rnk l x

def kth : Items → Int → Option Int
  | [], _ => none
  | p :: l, k => if k < p.2 then some p.1 else kth l (k - p.2)

theorem tot_append (a b : Items) : tot (a ++ b) = tot a + tot b := by
  induction a with
  | nil => simp [tot]
  | cons p a ih => simp only [List.cons_append, tot, ih]; omega

theorem srt_append {a b : Items} : Srt (a ++ b) ↔ Srt a ∧ Srt b ∧ ∀ p ∈ a, ∀ q ∈ b, p.1 < q.1 := by
  induction a with
  | nil => simp [Srt]
  | cons p a ih =>
    simp only [List.cons_append, Srt, ih, List.mem_append, List.mem_cons]
    constructor
    · rintro ⟨h, h1, h2, h3⟩
      refine ⟨⟨fun q hq => h q (.inl hq), h1⟩, h2, ?_⟩
      rintro r (rfl | hr) q hq
      · exact h q (.inr hq)
      · exact h3 r hr q hq
    · rintro ⟨⟨h, h1⟩, h2, h3⟩
      refine ⟨?_, h1, h2, fun r hr q hq => h3 r (.inr hr) q hq⟩
      rintro q (hq | hq)
      · exact h q hq
      · exact h3 p (.inl rfl) q hq

theorem pos_append {a b : Items} : Pos (a ++ b) ↔ Pos a ∧ Pos b := by
  simp only [Pos, List.mem_append]
  exact ⟨fun h => ⟨fun p hp => h p (.inl hp), fun p hp => h p (.inr hp)⟩, fun h p hp => hp.elim (h.1 p) (h.2 p)⟩

theorem pos_cons {p : Int × Int} {a : Items} : Pos (p :: a) ↔ 1 ≤ p.2 ∧ Pos a := by simp [Pos]

theorem tot_nonneg {l : Items} (h : Pos l) : 0 ≤ tot l := by
  induction l with
  | nil => simp [tot]
  | cons p l ih => have := (pos_cons.1 h).1; have := ih (pos_cons.1 h).2; simp only [tot]; omega

theorem len_le_tot {l : Items} (h : Pos l) : (l.length : Int) ≤ tot l := by
  induction l with
  | nil => simp [tot]
  | cons p l ih => have := (pos_cons.1 h).1; have := ih (pos_cons.1 h).2; simp only [tot, List.length_cons]; omega

theorem cnt_nonneg {l : Items} (h : Pos l) (x : Int) : 0 ≤ cnt l x := by
  induction l with
  | nil => simp [cnt]
  | cons p l ih => have := (pos_cons.1 h).1; have := ih (pos_cons.1 h).2; simp only [cnt]; split <;> omega

theorem cnt_le_tot {l : Items} (h : Pos l) (x : Int) : cnt l x ≤ tot l := by
  induction l with
  | nil => simp [cnt, tot]
  | cons p l ih => have h1 := (pos_cons.1 h).1; have := ih (pos_cons.1 h).2; have := tot_nonneg (pos_cons.1 h).2; simp only [cnt, tot]; split <;> omega

theorem cnt_absent {l : Items} {x : Int} (h : ∀ q ∈ l, q.1 ≠ x) : cnt l x = 0 := by
  induction l with
  | nil => rfl
  | cons p l ih => rw [cnt, if_neg (h p (List.mem_cons_self ..)), ih fun q hq => h q (List.mem_cons_of_mem _ hq)]

theorem cnt_append (a b : Items) (x : Int) (h : ∀ q ∈ a, q.1 ≠ x) : cnt (a ++ b) x = cnt b x := by
  induction a with
  | nil => rfl
  | cons p l ih => rw [List.cons_append, cnt, if_neg (h p (List.mem_cons_self ..)), ih fun q hq => h q (List.mem_cons_of_mem _ hq)]

theorem cnt_append_left (a b : Items) (x : Int) (h : ∀ q ∈ b, q.1 ≠ x) : cnt (a ++ b) x = cnt a x := by
  induction a with
  | nil => exact cnt_absent h
  | cons p l ih => rw [List.cons_append, cnt, cnt, ih]

theorem mem_put {l : Items} {x n : Int} {p : Int × Int} (h : p ∈ put l x n) : p = (x, n) ∧ 0 < n ∨ p ∈ l := by
  induction l with
  | nil =>
    simp only [put] at h
    split at h
    · simp at h; exact .inl ⟨h, by assumption⟩
    · cases h
  | cons q l ih =>
    simp only [put] at h
    split at h
    · split at h
      · rcases List.mem_cons.1 h with h | h
        · exact .inl ⟨h, by assumption⟩
        · exact .inr h
      · exact .inr h
    · split at h
      · split at h
        · rcases List.mem_cons.1 h with h | h
          · exact .inl ⟨h, by assumption⟩
          · exact .inr (List.mem_cons_of_mem _ h)
        · exact .inr (List.mem_cons_of_mem _ h)
      · rcases List.mem_cons.1 h with h | h
        · exact .inr (h ▸ List.mem_cons_self ..)
        · exact (ih h).imp id (List.mem_cons_of_mem _)

theorem put_srt {l : Items} (h : Srt l) (x n : Int) : Srt (put l x n) := by
  induction l with
  | nil => simp only [put]; split <;> simp [Srt]
  | cons q l ih =>
    obtain ⟨h1, h2⟩ := h
    simp only [put]
    split
    · split
      · refine ⟨?_, h1, h2⟩
        intro r hr
        rcases List.mem_cons.1 hr with rfl | hr
        · assumption
        · have := h1 r hr; show x < r.1; omega
      · exact ⟨h1, h2⟩
    · split
      · rename_i e
        split
        · exact ⟨fun r hr => e ▸ h1 r hr, h2⟩
        · exact h2
      · refine ⟨?_, ih h2⟩
        intro r hr
        rcases mem_put hr with ⟨rfl, _⟩ | hr
        · show q.1 < x; omega
        · exact h1 r hr

theorem put_pos {l : Items} (h : Pos l) (x n : Int) : Pos (put l x n) := by
  intro p hp
  rcases mem_put hp with ⟨rfl, hn⟩ | hp
  · show 1 ≤ n; omega
  · exact h p hp

theorem tot_put {l : Items} (h : Srt l) (x n : Int) (hn : 0 ≤ n) : tot (put l x n) = tot l - cnt l x + n := by
  induction l with
  | nil => simp only [put, tot, cnt]; split <;> simp only [tot] <;> omega
  | cons q l ih =>
    obtain ⟨h1, h2⟩ := h
    simp only [put]
    split
    · rename_i hx
      have h0 : cnt (q :: l) x = 0 := cnt_absent fun r hr => by
        rcases List.mem_cons.1 hr with rfl | hr
        · omega
        · have := h1 r hr; omega
      rw [h0]
      split <;> simp only [tot] <;> omega
    · split
      · rename_i e
        simp only [cnt, if_pos e]
        split <;> simp only [tot] <;> omega
      · rename_i e
        simp only [cnt, if_neg e, tot, ih h2]; omega

theorem cnt_put {l : Items} (h : Srt l) (x n z : Int) (hn : 0 ≤ n) : cnt (put l x n) z = if z = x then n else cnt l z := by
  induction l with
  | nil =>
    simp only [put]
    split
    · simp only [cnt]
      by_cases e : z = x
      · rw [if_pos e.symm, if_pos e]
      · rw [if_neg (fun h => e h.symm), if_neg e]
    · simp only [cnt]; split <;> omega
  | cons q l ih =>
    obtain ⟨h1, h2⟩ := h
    simp only [put]
    split
    · rename_i hx
      have h0 : cnt (q :: l) x = 0 := cnt_absent fun r hr => by
        rcases List.mem_cons.1 hr with rfl | hr
        · omega
        · have := h1 r hr; omega
      split
      · by_cases e : z = x
        · rw [if_pos e]; simp only [cnt]; rw [if_pos e.symm]
        · rw [if_neg e]; rw [cnt]; rw [if_neg (fun h => e h.symm)]
      · by_cases e : z = x
        · rw [if_pos e, e, h0]; omega
        · rw [if_neg e]
    · split
      · rename_i e
        have h0 : ∀ r ∈ l, r.1 ≠ x := fun r hr => by have := h1 r hr; omega
        by_cases ez : z = x
        · rw [if_pos ez, ez]
          split
          · show cnt ((x, n) :: l) x = n
            rw [cnt, if_pos rfl]
          · rw [cnt_absent h0]; omega
        · rw [if_neg ez]
          split
          · simp only [cnt]; rw [if_neg (fun h => ez h.symm), if_neg (fun h => ez (by omega))]
          · simp only [cnt]; rw [if_neg (fun h => ez (by omega))]
      · rename_i e
        simp only [cnt]
        by_cases eq : q.1 = z
        · rw [if_pos eq, if_neg (by omega), if_pos eq]
        · rw [if_neg eq, if_neg eq, ih h2]

theorem put_lt {a b : Items} {y m : Int} (h : Srt (a ++ (y, m) :: b)) {x : Int} (n : Int) (hx : x < y) : put (a ++ (y, m) :: b) x n = put a x n ++ (y, m) :: b := by
  induction a with
  | nil => simp only [List.nil_append, put, if_pos hx]; split <;> simp
  | cons q a ih =>
    simp only [List.cons_append, put, ih h.2]
    split
    · split <;> simp
    · split
      · split <;> simp
      · simp

theorem put_gt {a b : Items} {y m : Int} (h : Srt (a ++ (y, m) :: b)) {x : Int} (n : Int) (hx : y < x) : put (a ++ (y, m) :: b) x n = a ++ (y, m) :: put b x n := by
  induction a with
  | nil => simp only [List.nil_append, put]; rw [if_neg (by omega), if_neg (by omega)]
  | cons q a ih =>
    have h1 : q.1 < y := h.1 (y, m) (by simp)
    simp only [List.cons_append, put, ih h.2]
    rw [if_neg (by omega), if_neg (by omega)]

theorem put_eq {a b : Items} {y m : Int} (h : Srt (a ++ (y, m) :: b)) (n : Int) : put (a ++ (y, m) :: b) y n = if 0 < n then a ++ (y, n) :: b else a ++ b := by
  induction a with
  | nil => simp only [List.nil_append, put]; rw [if_neg (by omega)]; simp
  | cons q a ih =>
    have h1 : q.1 < y := h.1 (y, m) (by simp)
    simp only [List.cons_append, put, ih h.2]
    rw [if_neg (by omega), if_neg (by omega)]
    split <;> rfl

theorem cnt_lt {a b : Items} {y m : Int} (h : Srt (a ++ (y, m) :: b)) {x : Int} (hx : x < y) : cnt (a ++ (y, m) :: b) x = cnt a x :=
  cnt_append_left _ _ _ fun q hq => by
    rcases List.mem_cons.1 hq with rfl | hq
    · show y ≠ x; omega
    · have := ((srt_append.1 h).2.1).1 q hq; have : y < q.1 := this; omega

theorem cnt_gt {a b : Items} {y m : Int} (h : Srt (a ++ (y, m) :: b)) {x : Int} (hx : y < x) : cnt (a ++ (y, m) :: b) x = cnt b x := by
  rw [cnt_append _ _ _ fun q hq => by have : q.1 < y := (srt_append.1 h).2.2 q hq (y, m) (by simp); omega, cnt, if_neg (by show y ≠ x; omega)]

theorem cnt_mid {a b : Items} {y m : Int} (h : Srt (a ++ (y, m) :: b)) : cnt (a ++ (y, m) :: b) y = m := by
  rw [cnt_append _ _ _ fun q hq => by have : q.1 < y := (srt_append.1 h).2.2 q hq (y, m) (by simp); omega, cnt, if_pos rfl]

theorem rnk_append (a b : Items) (x : Int) : rnk (a ++ b) x = rnk a x + rnk b x := by
  induction a with
  | nil => simp [rnk]
  | cons p a ih => simp only [List.cons_append, rnk, ih]; split <;> omega

theorem rnk_all {a : Items} {x : Int} (h : ∀ q ∈ a, q.1 < x) : rnk a x = tot a := by
  induction a with
  | nil => rfl
  | cons p a ih => rw [rnk, if_pos (h p (List.mem_cons_self ..)), tot, ih fun q hq => h q (List.mem_cons_of_mem _ hq)]

theorem rnk_none {a : Items} {x : Int} (h : ∀ q ∈ a, x ≤ q.1) : rnk a x = 0 := by
  induction a with
  | nil => rfl
  | cons p a ih => have := h p (List.mem_cons_self ..); rw [rnk, if_neg (by omega), ih fun q hq => h q (List.mem_cons_of_mem _ hq)]

theorem kth_append {a b : Items} (h : Pos a) {k : Int} (h0 : 0 ≤ k) : kth (a ++ b) k = if k < tot a then kth a k else kth b (k - tot a) := by
  induction a generalizing k with
  | nil =>
    have e : ¬ k < tot [] := by simp only [tot]; omega
    rw [if_neg e]
    show kth b k = kth b (k - 0)
    rw [Int.sub_zero]
  | cons p a ih =>
    have h1 := (pos_cons.1 h).1
    have h2 := tot_nonneg (pos_cons.1 h).2
    have et : tot (p :: a) = p.2 + tot a := rfl
    show (if k < p.2 then some p.1 else kth (a ++ b) (k - p.2)) = _
    by_cases hk : k < p.2
    · have e : k < tot (p :: a) := by omega
      rw [if_pos hk, if_pos e, kth, if_pos hk]
    · rw [if_neg hk, ih (pos_cons.1 h).2 (by omega)]
      by_cases hk2 : k < tot (p :: a)
      · have e : k - p.2 < tot a := by omega
        rw [if_pos hk2, if_pos e, kth, if_neg hk]
      · have e : ¬ k - p.2 < tot a := by omega
        rw [if_neg hk2, if_neg e, et]; congr 1; omega

end Pl
end Go.Proofs.Ytocchcclagdjdaa
