/- The standard library's calls that package dev makes. -/
import Derived.Test.YtjnipfangjnpcaaBase
import Derived.Test.YtjnipfangjnpcaaShelf
import Derived.StillTailTactics
namespace Go.Proofs.Ytjnipfangjnpcaa
open Go.RowKit Go.Proofs

/-- strings.Clone -/
theorem str_clone (s : ByteArray) (w : World) (h : s.size ≤ Big) :
    Calls Try.prog 79 #[.string s] w fun r w' => r = .returned (.string s) ∧ Below w.heap.size w w' := by
  have h2 : s.size ≤ 281474976710656 := Nat.le_trans h (by decide)
  go_enter Try.func79, Try.ntmps79
  go_wp2_with fail
  refine (Try.stringslite_Clone s w h2).mono ?_
  rintro e w1 ⟨rfl, hb⟩
  go_wp2
  go_ret
  exact ⟨rfl, hb⟩

/-- strings.Repeat of one byte -/
theorem str_repeat0 (w : World) : Calls Try.prog 55 #[.string ⟨#[0]⟩, .int .i64 256] w fun r w' => ∃ s : ByteArray, s.data.toList = List.replicate 256 0 ∧ r = .returned (.string s) ∧ Below w.heap.size w w' := by
  refine (Try.strings_Repeat ⟨#[0]⟩ 256 w (by decide) (by decide)).mono ?_
  rintro e w1 ⟨rfl, hb⟩
  exact ⟨_, by decide +kernel, rfl, hb⟩

end Go.Proofs.Ytjnipfangjnpcaa
