/- What is known of values: the calls of package agg. -/
import Derived.Test.YtcbpaikklkmnbaaTierA
import Derived.Laws.Externs
namespace Go.Proofs.Ytcbpaikklkmnbaa
open Go.RowKit Go.Proofs

/-- what is known of some values -/
structure Ag where
  c : Int
  h : Int
  l : Int
  a : Int
  b : Int
deriving DecidableEq

/-- as a value -/
abbrev agV (x : Ag) : Value := .agg #[.int .i64 x.c, .int .i64 x.h, .int .u64 x.l, .int .i64 x.a, .int .i64 x.b]

def agZ : Ag := ⟨0, 0, 0, 0, 0⟩

theorem below_al {w w' : World} (h : Below w.heap.size w w') (o : Obj) : Below w.heap.size w (w'.alloc o) := h.alloc h.size o

def agOk (x : Ag) : Bool := decide (1 ≤ x.c) && decide (x.c ≤ 4611686018427387904) && decide (x.a ≤ x.b)

theorem run_add (x y c : Int) (hx : 0 ≤ x) (hy : 0 ≤ y) (hc0 : 0 ≤ c) (hc : c ≤ 1) (w : World) :
    (callFunc 92 #[.int .u64 x, .int .u64 y, .int .u64 c]).run Try.prog w = .ok (.value (.tuple #[.int .u64 ((x + y + c) % 18446744073709551616), .int .u64 ((x + y + c) / 18446744073709551616)])) w := by
  rw [run_callFunc_extern Try.func92 (by kernel_rfl) (by kernel_rfl) (by kernel_rfl) (e := add64Entry) (by kernel_rfl), run_add64 x y c hx hy hc0 hc]
  rfl

theorem run_add0 (x y : Int) (hx : 0 ≤ x) (hy : 0 ≤ y) (w : World) :
    (callFunc 92 #[.int .u64 x, .int .u64 y, .int .u64 0]).run Try.prog w = .ok (.value (.tuple #[.int .u64 ((x + y) % 18446744073709551616), .int .u64 ((x + y) / 18446744073709551616)])) w := by
  simpa using run_add x y 0 hx hy (Int.le_refl 0) (by decide) w

theorem ag_valid (x : Ag) (w : World) : Calls Try.prog 97 #[agV x] w fun e w' => e = .returned (.bool (agOk x)) ∧ Below w.heap.size w w' := by
  obtain ⟨c, h, l, a, b⟩ := x
  unfold agOk
  go_enter Try.func97, Try.ntmps97
  go_wp2
  all_goals (go_ret; refine ⟨congrArg (fun b => Ending.returned (Value.bool b)) ?_, (Below.refl _ _).alloc (Nat.le_refl _) _⟩)
  all_goals (first | rfl | (rw [Bool.eq_iff_iff]; simp; done) | (rw [Bool.eq_iff_iff]; simp; omega))

theorem u64w (v : Int) : IntKind.u64.wrap v = v % 18446744073709551616 := rfl
theorem u64n (v : Int) : 0 ≤ IntKind.u64.wrap v := by rw [u64w]; omega

theorem u64l (v : Int) : IntKind.u64.wrap v < 18446744073709551616 := by rw [u64w]; omega

def agOne (v : Int) : Ag := ⟨1, v / 9223372036854775808, IntKind.u64.wrap v, v, v⟩

theorem ag_one (v : Int) (w : World) : Calls Try.prog 60 #[.int .i64 v] w fun e w' => e = .returned (agV (agOne v)) ∧ Below w.heap.size w w' := by
  unfold agOne
  go_enter Try.func60, Try.ntmps60
  go_wp2
  simp [bodyPost, results, Try.results60, go_sem]
  exact below_al (Below.refl _ _) _

/-- two, of which one may be none, joined -/
def agBoth (x y : Ag) : Ag := if x.c = 0 then y else
  ⟨if x.c < wrap64 (4611686018427387904 - y.c) then wrap64 (x.c + y.c) else 4611686018427387904,
   wrap64 ((IntKind.u64.wrap x.h + IntKind.u64.wrap y.h + (x.l + y.l) / 18446744073709551616) % 18446744073709551616), (x.l + y.l) % 18446744073709551616, min x.a y.a, max x.b y.b⟩

set_option maxRecDepth 20000 in
set_option maxHeartbeats 1600000 in
theorem ag_both (x y : Ag) (w : World) (hx : 0 ≤ x.l) (hx2 : x.l < 18446744073709551616) (hy : 0 ≤ y.l) (hy2 : y.l < 18446744073709551616) : Calls Try.prog 59 #[agV x, agV y] w fun e w' => e = .returned (agV (agBoth x y)) ∧ Below w.heap.size w w' := by
  obtain ⟨xc, xh, xl, xa, xb⟩ := x
  obtain ⟨yc, yh, yl, ya, yb⟩ := y
  simp only at hx hy hx2 hy2
  unfold agBoth
  by_cases h0 : xc = 0
  · subst h0
    go_enter Try.func59, Try.ntmps59
    go_wp2
    simp [bodyPost, results, Try.results59, go_sem]
    exact below_al (below_al (below_al (Below.refl _ _) _) _) _
  · have hn : (xc == 0) = false := by simp [h0]
    have k0 : 0 ≤ (xl + yl) / 18446744073709551616 := by omega
    have k1 : (xl + yl) / 18446744073709551616 ≤ 1 := by omega
    simp only [h0, if_false]
    go_enter Try.func59, Try.ntmps59
    go_wp2_with (first | simp only [run_add0 xl yl hx hy] | simp only [run_add (IntKind.u64.wrap xh) (IntKind.u64.wrap yh) _ (u64n _) (u64n _) k0 k1])
    all_goals (simp [bodyPost, results, Try.results59, go_sem])
    all_goals (refine ⟨⟨by omega, by omega⟩, below_al (below_al (below_al (Below.refl _ _) _) _) _⟩)

end Go.Proofs.Ytcbpaikklkmnbaa
