/- The order of records: a strict weak order; there is one sorted list. -/
import Derived.Test.YtcbpaikklkmnbaaTierK
import Derived.Sort.Walk0
namespace Go.Proofs.Ytcbpaikklkmnbaa
open Go.RowKit Go.Proofs

theorem cmpI_neg (a b : Int) : cmpI a b < 0 ↔ a < b := by
  unfold cmpI
  split
  · simp; omega
  · split
    · simp; omega
    · simp; omega

theorem cmpS_neg (a b : ByteArray) : cmpS a b < 0 ↔ a.toList < b.toList := by
  unfold cmpS
  rw [bytesLess_eq]
  by_cases h : a.toList < b.toList
  · simp [h]
  · simp only [h, decide_false, Bool.false_eq_true, if_false]
    split <;> simp

theorem cmpS_zero (a b : ByteArray) : cmpS a b = 0 ↔ a.toList = b.toList := by
  unfold cmpS
  rw [bytesLess_eq]
  by_cases h : a.toList < b.toList
  · simp only [h, decide_true, if_true]
    constructor
    · intro h1; omega
    · intro h1; rw [h1] at h; exact absurd h (List.lt_irrefl _)
  · simp only [h, decide_false, Bool.false_eq_true, if_false]
    by_cases he : a.toList = b.toList
    · simp [he]
    · simp [he]

/-- one record stands ahead of another one -/
def RLt (x y : Rc) : Prop := x.s.toList < y.s.toList ∨ (x.s.toList = y.s.toList ∧ x.t < y.t)

theorem cmpR_neg (x y : Rc) : cmpR x y < 0 ↔ RLt x y := by
  unfold cmpR RLt
  by_cases h : cmpS x.s y.s = 0
  · have h1 := (cmpS_zero _ _).1 h
    have h2 : ¬ x.s.toList < y.s.toList := by rw [h1]; exact List.lt_irrefl _
    simp only [h, ne_eq, not_true_eq_false, if_false, cmpI_neg, h1, true_and]
    simp [List.lt_irrefl]
  · have h1 : ¬ x.s.toList = y.s.toList := fun e => h ((cmpS_zero _ _).2 e)
    simp only [h, ne_eq, not_false_eq_true, if_true, cmpS_neg, h1, false_and, or_false]

theorem tri (a b : List UInt8) : a < b ∨ a = b ∨ b < a := by
  by_cases h1 : a < b
  · exact Or.inl h1
  · by_cases h2 : b < a
    · exact Or.inr (Or.inr h2)
    · exact Or.inr (Or.inl (List.le_antisymm (List.not_lt.1 h2) (List.not_lt.1 h1)))

theorem RLt.irrefl (x : Rc) : ¬ RLt x x := by
  rintro (h | ⟨_, h⟩)
  · exact List.lt_irrefl _ h
  · omega

theorem RLt.trans {x y z : Rc} (h : RLt x y) (k : RLt y z) : RLt x z := by
  rcases h with h | ⟨h1, h2⟩ <;> rcases k with k | ⟨k1, k2⟩
  · exact Or.inl (List.lt_trans h k)
  · exact Or.inl (k1 ▸ h)
  · exact Or.inl (h1 ▸ k)
  · exact Or.inr ⟨h1.trans k1, by omega⟩

theorem RLt.tri (x y : Rc) : RLt x y ∨ (x.s.toList = y.s.toList ∧ x.t = y.t) ∨ RLt y x := by
  rcases Go.Proofs.Ytcbpaikklkmnbaa.tri x.s.toList y.s.toList with h | h | h
  · exact Or.inl (Or.inl h)
  · rcases (show x.t < y.t ∨ x.t = y.t ∨ y.t < x.t by omega) with k | k | k
    · exact Or.inl (Or.inr ⟨h, k⟩)
    · exact Or.inr (Or.inl ⟨h, k⟩)
    · exact Or.inr (Or.inr (Or.inr ⟨h.symm, k⟩))
  · exact Or.inr (Or.inr (Or.inl h))

theorem RLt.ntrans {x y z : Rc} (h : ¬ RLt x y) (k : ¬ RLt y z) : ¬ RLt x z := by
  intro hz
  rcases RLt.tri y x with h1 | ⟨h1, h2⟩ | h1
  · exact k (RLt.trans h1 hz)
  · rcases hz with hz | ⟨hz1, hz2⟩
    · exact k (Or.inl (h1 ▸ hz))
    · exact k (Or.inr ⟨h1.trans hz1, by omega⟩)
  · exact h h1

/-- there is one sorted list of the same records, where no two are of one place -/
theorem sorted_one {L M : List Rc} (h : L.Perm M) (hL : L.Pairwise RLt) (hM : M.Pairwise RLt) : L = M :=
  h.eq_of_pairwise (le := RLt) (fun x _ _ _ h1 h2 => absurd (RLt.trans h1 h2) (RLt.irrefl x)) hL hM

/-- what a query asks for -/
def inQ (s : ByteArray) (f u : Int) (r : Rc) : Bool := decide (r.s = s) && decide (f ≤ r.t) && decide (r.t < u)

/-- the records of one name between two times are those up to a time between, and those from it on -/
theorem cut_two {s : ByteArray} {f m u : Int} (hfm : f ≤ m) (hmu : m ≤ u) : ∀ {L : List Rc}, L.Pairwise RLt → L.filter (inQ s f m) ++ L.filter (inQ s m u) = L.filter (inQ s f u) := by
  intro L
  induction L with
  | nil => intro _; rfl
  | cons r L ih =>
    intro h
    have hr : ∀ {x}, x ∈ L → RLt r x := fun {x} hx => List.rel_of_pairwise_cons h hx
    have ih' := ih (List.Pairwise.of_cons h)
    by_cases hs : r.s = s
    · by_cases h1 : f ≤ r.t ∧ r.t < m
      · have a1 : inQ s f m r = true := by simp [inQ, hs, h1]
        have a2 : inQ s m u r = false := by simp [inQ, hs]; omega
        have a3 : inQ s f u r = true := by simp [inQ, hs]; omega
        simp [a1, a2, a3, ih']
      · by_cases h2 : m ≤ r.t ∧ r.t < u
        · have a1 : inQ s f m r = false := by simp [inQ, hs]; omega
          have a2 : inQ s m u r = true := by simp [inQ, hs, h2]
          have a3 : inQ s f u r = true := by simp [inQ, hs]; omega
          have hn : L.filter (inQ s f m) = [] := by
            rw [List.filter_eq_nil_iff]
            intro x hx hq
            simp [inQ] at hq
            rcases hr hx with h3 | ⟨_, h3⟩
            · rw [hs, hq.1.1] at h3
              exact List.lt_irrefl _ h3
            · omega
          rw [hn, List.nil_append] at ih'
          simp [a1, a2, a3, ih', hn]
        · have a1 : inQ s f m r = false := by simp [inQ, hs]; omega
          have a2 : inQ s m u r = false := by simp [inQ, hs]; omega
          have a3 : inQ s f u r = false := by simp [inQ, hs]; omega
          simp [a1, a2, a3, ih']
    · have a : ∀ p q, inQ s p q r = false := fun p q => by simp [inQ, hs]
      simp [a, ih']

end Go.Proofs.Ytcbpaikklkmnbaa
