/- All records of a table, in order. -/
import Derived.Test.YtcbpaikklkmnbaaTierN
namespace Go.Proofs.Ytcbpaikklkmnbaa
open Go.RowKit Go.Proofs Go.Maps Go.MapKept Go.Sort
set_option maxRecDepth 20000
set_option maxHeartbeats 1600000

theorem slt_rec : SlT Try.prog 49 61 (.agg #[.string ⟨#[]⟩, .int .i64 0, .int .i64 0, .int .i64 0, .int .u64 0, .int .i64 0, .int .i64 0]) 7 64 := ⟨Try.underlying49, info_parts (by kernel_rfl), rfl, by decide⟩

/-- no record: nothing is sorted -/
theorem sort_none (c : Nat) (fv : Value) (w : World) : Calls Try.prog 101 #[.slice none 0 c, fv] w fun e w' => e = .returned (.tuple #[]) ∧ w' = w :=
  AnyF.slices_SortFunc_none Try.sortL none c fv w

end Go.Proofs.Ytcbpaikklkmnbaa
