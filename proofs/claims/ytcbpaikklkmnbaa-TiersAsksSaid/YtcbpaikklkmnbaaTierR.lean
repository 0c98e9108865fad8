/- A table is asked: Range. -/
import Derived.Test.YtcbpaikklkmnbaaTierP
namespace Go.Proofs.Ytcbpaikklkmnbaa
open Go.RowKit Go.Proofs
set_option maxRecDepth 20000
set_option maxHeartbeats 1600000

theorem table_range {w : World} {g m : Nat} {e : Int} {L : List Rc} (h : TbAt w g m e L) (hlen : L.length ≤ 100000) (s : ByteArray) (f u : Int) :
    Calls Try.prog 49 #[.pointer (some ⟨g, 0, none⟩), .string s, .int .i64 f, .int .i64 u] w fun x w' =>
      ∃ (a : Option Addr) (c r : Nat) (S : List Rc), x = .returned (.slice a (S.filter (inQ s f u)).length c) ∧ S.Perm L ∧ S.Pairwise RLt ∧ RecsAt w' w.heap.size a r (S.filter (inQ s f u)) ∧ Below w.heap.size w w' := by
  have HT := hid h
  clear h
  have hB0 : Hid (Below w.heap.size w (((w.alloc (.cells #[.string s] 9)).alloc (.cells #[.int .i64 f] 3)).alloc (.cells #[.int .i64 u] 3))) := below_al (below_al (below_al (Below.refl _ _) _) _) _
  go_enter Try.func49, Try.ntmps49
  go_wp2_with fail
  refine (table_all (HT.out.below hB0.out) hlen).mono ?_
  rintro x w1 ⟨a, c, r, S, rfl, hc, hp, hs, hr, hb1⟩
  have k1 : w1.cell? ⟨w.heap.size, 0, none⟩ = some (.string s) := ((bcell hb1).1 _ 0 (by simp; omega)).trans (by go_simp)
  have k2 : w1.cell? ⟨w.heap.size + 1, 0, none⟩ = some (.int .i64 f) := ((bcell hb1).1 _ 0 (by simp)).trans (by go_simp)
  have k3 : w1.cell? ⟨w.heap.size + 1 + 1, 0, none⟩ = some (.int .i64 u) := ((bcell hb1).1 _ 0 (by simp)).trans (by go_simp)
  have hlo : w.heap.size + 3 ≤ r := by have := hr.lo; simpa using this
  have hb2 : Below w.heap.size w w1 := below_then hb1 hB0.out
  have HP := hid hp
  have HS := hid hs
  have HR := hid hr
  have HB := hid hb2
  have hSl : S.length ≤ 100000 := by rw [hp.length_eq]; exact hlen
  clear hp hs hr hb1 hb2
  have hcall := delete_recs a r c w.heap.size (w.heap.size + 1) (w.heap.size + 1 + 1) S s f u w1 HR.out.ad HR.out.row hSl hc k1 k2 k3 (fun _ => ⟨by omega, by omega, by omega⟩)
  have HC := hid hcall
  clear hcall k1 k2 k3
  go_wp2_with fail
  refine HC.out.mono ?_
  rintro x w2 ⟨rfl, hrow, hu⟩
  have HROW := hid hrow
  have HU := hid hu
  clear hrow hu
  go_wp2
  go_ret
  exact ⟨a, c, r, S, rfl, HP.out, HS.out, ⟨HROW.out, fun h => HR.out.ad (fun h0 => h (by rw [h0]; rfl)), by omega⟩, HB.out.trans (HU.out.below HB.out.size (fun k hk => by omega))⟩
end Go.Proofs.Ytcbpaikklkmnbaa
