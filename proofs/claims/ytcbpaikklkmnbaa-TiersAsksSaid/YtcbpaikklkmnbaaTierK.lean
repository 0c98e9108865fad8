/- Comparing records: the calls of package cmp, and name.Compare. -/
import Derived.Test.YtcbpaikklkmnbaaTierJ
import Derived.Sort.Grow
namespace Go.Proofs.Ytcbpaikklkmnbaa
open Go.RowKit Go.Proofs
set_option maxRecDepth 20000
set_option maxHeartbeats 1600000

theorem nan_string (s : ByteArray) (w : World) : Calls Try.prog 134 #[.string s] w fun e w' => e = .returned (.bool false) ∧ w = w' := by
  go_enter Try.func134, Try.ntmps134
  go_wp2
  go_ret
  exact ⟨by first | trivial | rfl | simp, by first | trivial | rfl⟩

theorem nan_int (t : Int) (w : World) : Calls Try.prog 135 #[.int .i64 t] w fun e w' => e = .returned (.bool false) ∧ w = w' := by
  go_enter Try.func135, Try.ntmps135
  go_wp2
  go_ret
  exact ⟨by first | trivial | rfl | simp, by first | trivial | rfl⟩

def cmpI (a b : Int) : Int := if a < b then -1 else if b < a then 1 else 0

theorem cmp_int (a b : Int) (w : World) : Calls Try.prog 118 #[.int .i64 a, .int .i64 b] w fun e w' => e = .returned (.int .i64 (cmpI a b)) ∧ w = w' := by
  unfold cmpI
  go_enter Try.func118, Try.ntmps118
  go_wp2_with (first
    | (go_at_call 135; refine (nan_int _ w).mono ?_; rintro e w1 ⟨rfl, rfl⟩))
  all_goals (go_ret; refine ⟨congrArg (fun n => Ending.returned (Value.int .i64 n)) ?_, by first | trivial | rfl⟩)
  all_goals (first | rfl | (split <;> omega) | omega)

def cmpS (a b : ByteArray) : Int := if Op.bytesLess a.toList b.toList then -1 else if (!a.toList == b.toList) then 1 else 0

theorem cmp_string (a b : ByteArray) (w : World) : Calls Try.prog 117 #[.string a, .string b] w fun e w' => e = .returned (.int .i64 (cmpS a b)) ∧ w = w' := by
  have HR : Hid (cmpS a b = if Op.bytesLess a.toList b.toList then -1 else if (!a.toList == b.toList) then 1 else 0) := rfl
  go_enter Try.func117, Try.ntmps117
  go_wp2_with (first
    | (go_at_call 134; refine (nan_string _ w).mono ?_; rintro e w1 ⟨rfl, rfl⟩))
  all_goals (go_ret; rw [HR.out]; simp_all)

/-- how two records stand to each other -/
def cmpR (x y : Rc) : Int := if cmpS x.s y.s ≠ 0 then cmpS x.s y.s else cmpI x.t y.t

theorem cmp_or (b c : Nat) (x y : Int) (w : World) (h0 : w.cell? ⟨b, 0, none⟩ = some (.int .i64 x)) (h1 : w.cell? ⟨b, 1, none⟩ = some (.int .i64 y)) :
    Calls Try.prog 116 #[.slice (some ⟨b, 0, none⟩) 2 c] w fun e w' => e = .returned (.int .i64 (if x ≠ 0 then x else y)) ∧ w = w' := by
  have hl := cell_lt h0
  obtain ⟨R, hR⟩ : ∃ R, R = if x ≠ 0 then x else y := ⟨_, rfl⟩
  rw [← hR]
  have HR := hid hR
  clear hR
  go_enter Try.func116, Try.ntmps116
  go_wp2_with fail
  go_loopw [8] (fun i wr => ∃ k : Nat, k ≤ 2 ∧ i = .int .i64 k ∧ w = wr ∧ Hid (1 ≤ k → x = 0) ∧ Hid (2 ≤ k → y = 0)) (fun i _ => 2 - (intOf i).toNat)
  case atStart => exact ⟨0, by omega, by first | trivial | rfl, by first | trivial | rfl, fun h => by omega, fun h => by omega⟩
  case round =>
    obtain ⟨k, hk, rfl, rfl, hx, hy⟩ := hrel
    rcases (show k = 0 ∨ k = 1 ∨ k = 2 by omega) with rfl | rfl | rfl
    · by_cases hx0 : x = 0
      · subst hx0
        go_wp2
        go_roundw
        case rel => exact ⟨1, by omega, by go_num, by first | trivial | rfl, fun _ => by first | trivial | rfl, fun h => by omega⟩
        case measure => simp [intOf]
      · have hd : (x != 0) = true := by simpa using hx0
        go_wp2
        go_ret
        rw [HR.out, if_pos hx0]
        exact ⟨by first | trivial | rfl, by first | trivial | rfl⟩
    · have hx0 : x = 0 := hx.out (by omega)
      by_cases hy0 : y = 0
      · subst hy0
        go_wp2
        go_roundw
        case rel => exact ⟨2, by omega, by go_num, by first | trivial | rfl, fun _ => by first | trivial | exact hx0, fun _ => by first | trivial | rfl⟩
        case measure => simp [intOf]
      · have hd : (y != 0) = true := by simpa using hy0
        have hRy : R = y := by rw [HR.out, if_neg (by simpa using hx0)]
        clear hx0
        go_wp2
        go_ret
        rw [hRy]
        exact ⟨by first | trivial | rfl, by first | trivial | rfl⟩
    · have hx0 : x = 0 := hx.out (by omega)
      have hy0 : y = 0 := hy.out (by omega)
      have hRy : R = 0 := by rw [HR.out, if_neg (by simpa using hx0), hy0]
      clear hx0 hy0
      go_wp2
      go_ret
      rw [hRy]
      exact ⟨by first | trivial | rfl, by first | trivial | rfl⟩

theorem or_new (B : Nat) (x y R : Int) (w0 : World) (T : TypeId) (hB : B = w0.heap.size) (hR : R = if x ≠ 0 then x else y) :
    Calls Try.prog 116 #[.slice (some ⟨B, 0, none⟩) 2 2] (w0.alloc (.cells #[.int .i64 x, .int .i64 y] T)) fun e w' => e = .returned (.int .i64 R) ∧ w0.alloc (.cells #[.int .i64 x, .int .i64 y] T) = w' := by
  rw [hR]
  exact cmp_or B 2 x y _ (cell_alloc_at w0 _ T B 0 hB) (cell_alloc_at w0 _ T B 1 hB)

theorem or_drew (B : Nat) (x y R : Int) (w0 : World) (T : TypeId) (hB : B = w0.heap.size) (hR : R = if x ≠ 0 then x else y) :
    Calls Try.prog 116 #[.slice (some ⟨B, 0, none⟩) 2 2] (w0.alloc (.cells #[.int .i64 x, .int .i64 y] T)).drew fun e w' => e = .returned (.int .i64 R) ∧ (w0.alloc (.cells #[.int .i64 x, .int .i64 y] T)).drew = w' := by
  rw [hR]
  exact cmp_or B 2 x y _ (cell_alloc_at w0 _ T B 0 hB) (cell_alloc_at w0 _ T B 1 hB)

theorem grown3 (w : World) (A B C : Obj) : (((w.alloc A).alloc B).alloc C).drew = Go.Sort.grow (w.drewN 1) ((#[A] ++ #[B]) ++ #[C]) := by
  rw [Go.Sort.alloc_eq_grow, Go.Sort.alloc_eq_grow, Go.Sort.alloc_eq_grow, Go.Sort.grow_grow, Go.Sort.grow_grow]
  rfl

set_option maxHeartbeats 4000000 in
theorem name_compare (x y : Rc) (w : World) : Calls Try.prog 102 #[rcVal x, rcVal y] w fun e w' => e = .returned (.int .i64 (cmpR x y)) ∧ ∃ q os, w' = Go.Sort.grow (w.drewN q) os := by
  have HR : Hid (cmpR x y = if cmpS x.s y.s ≠ 0 then cmpS x.s y.s else cmpI x.t y.t) := rfl
  go_enter Try.func102, Try.ntmps102
  go_wp2_with fail
  first
  | go_region_held3 (fun w' => w'.cell? ⟨w.heap.size, 0, none⟩ = some (.string x.s) ∧ w'.cell? ⟨w.heap.size, 1, none⟩ = some (.int .i64 x.t) ∧ w'.cell? ⟨w.heap.size + 1, 0, none⟩ = some (.string y.s) ∧ w'.cell? ⟨w.heap.size + 1, 1, none⟩ = some (.int .i64 y.t)) (first | go_keep) (first
      | (go_at_call 117; refine (cmp_string x.s y.s _).mono ?_; rintro e w1 ⟨rfl, rfl⟩)
      | (go_at_call 118; refine (cmp_int x.t y.t _).mono ?_; rintro e w1 ⟨rfl, rfl⟩)
      | (go_at_call 116; refine (or_drew _ (cmpS x.s y.s) (cmpI x.t y.t) (cmpR x y) _ _ (by simp) HR.out).mono ?_; rintro e w1 ⟨rfl, rfl⟩))
  | fail
  all_goals
    go_wp2
    go_ret
    exact ⟨by first | trivial | rfl, 1, _, grown3 w _ _ _⟩

end Go.Proofs.Ytcbpaikklkmnbaa
