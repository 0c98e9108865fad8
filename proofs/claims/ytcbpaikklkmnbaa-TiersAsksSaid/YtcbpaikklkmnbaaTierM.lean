/- A query: the calls of Range's closure, and slices.IndexFunc over records. -/
import Derived.Test.YtcbpaikklkmnbaaTierL
namespace Go.Proofs.Ytcbpaikklkmnbaa
open Go.RowKit Go.Proofs
set_option maxRecDepth 20000
set_option maxHeartbeats 1600000

theorem toList_inj {a b : ByteArray} (h : a.toList = b.toList) : a = b := by
  have h1 : a.data.toList = b.data.toList := by simpa [ByteArray.toList_eq] using h
  exact ByteArray.ext (Array.toList_inj.1 h1)

theorem range_one (r : Rc) (bs bf bu : Nat) (s : ByteArray) (f u : Int) (w : World) (h1 : w.cell? ⟨bs, 0, none⟩ = some (.string s)) (h2 : w.cell? ⟨bf, 0, none⟩ = some (.int .i64 f)) (h3 : w.cell? ⟨bu, 0, none⟩ = some (.int .i64 u)) :
    Calls Try.prog 77 #[rcVal r, .pointer (some ⟨bs, 0, none⟩), .pointer (some ⟨bf, 0, none⟩), .pointer (some ⟨bu, 0, none⟩)] w fun e w' => e = .returned (.bool (!inQ s f u r)) ∧ Below w.heap.size w w' := by
  have HR : Hid ((!inQ s f u r) = !(decide (r.s = s) && decide (f ≤ r.t) && decide (r.t < u))) := rfl
  have l1 := cell_lt h1
  have l2 := cell_lt h2
  have l3 := cell_lt h3
  go_enter Try.func77, Try.ntmps77
  go_wp2
  all_goals go_ret
  all_goals rw [HR.out]
  all_goals refine ⟨congrArg (fun b => Ending.returned (Value.bool b)) ?_, below_al (Below.refl _ _) _⟩
  all_goals
    by_cases hs : r.s = s
    · first
      | (rw [decide_eq_true hs, show decide (f ≤ r.t) = !decide (r.t < f) by simp, show decide (r.t < u) = !decide (u ≤ r.t) by simp]; cases decide (r.t < f) <;> cases decide (u ≤ r.t) <;> rfl)
      | (subst hs; simp_all; done)
      | (subst hs; simp_all; omega)
      | (by_cases a : r.t < f <;> by_cases b : u ≤ r.t <;> simp [hs, a, b] <;> omega)
    · first
      | (simp [hs]; done)
      | exact absurd (toList_inj (by assumption)) hs
end Go.Proofs.Ytcbpaikklkmnbaa
