/- TiersAsks, the row: whatever the input it answers true, and the input reads as it did; no condition. -/
import Derived.Test.YtcbpaikklkmnbaaRowT
import Derived.Test.YtcbpaikklkmnbaaRows
import Derived.Carry
namespace Go.Proofs.Ytcbpaikklkmnbaa
open Go.ChangeShapes Go.WideShapes Go.ChangeAt Go.RowKit

theorem tiers_own : ownKnob Try.prog.godebug = none := by kernel_rfl
theorem tiers_laid : laidOutB Try.prog = true := by kernel_rfl

set_option maxHeartbeats 4000000 in
set_option maxRecDepth 100000 in
theorem tiersAsks_lifted (os : Os) (started : os.Started) (H : Type) (enc : TypeId × Value → H) :
    ReturnsInHanded {} Try.checked os 4 .any (Rows.tiersAsksSpec.pre6 enc Try.prog Try.f4 Rows.tiersAsksRow.domain false) (Rows.tiersAsksSpec.post enc Try.prog Try.f4 false true false false) := by
  refine returnsInHanded_of_change (C := Try.checked) tiers_own started (by kernel_rfl) Try.func4
    (ChangeSpec.witness6 (enc := enc) (C := Try.checked) false ⟨#[], #[.agg #[.string ⟨#[]⟩, .slice none 0 0], .int .i64 0, .slice none 0 0, .string ⟨#[]⟩, .int .i64 0, .int .i64 0, .int .i64 0], []⟩ 8 (by kernel_rfl) (by kernel_rfl) (by kernel_rfl) (by kernel_rfl)) ?_
  intro W base args ds gs before hval0 hW hcnd _
  have hval : ∀ (j : Nat) t v, Try.f4.params[j]? = some t → args[j]? = some v → Value.okWide Try.prog W .any base t v := hval0
  have hW' := hW
  obtain ⟨p, q, hA0, hV, rfl, _, _⟩ := hW
  have hA : DataW.TrodAll enc Try.prog W 0 (fun _ => true) true Try.f4.params.toList args.toList ds p := hA0
  rw [Try.params4] at hA hval
  obtain ⟨v0, vs0, d0, ds0, p0, q0, hargs, rfl, rfl, h0, hA1⟩ := trodAll_cons hA
  obtain ⟨v1, vs1, d1, ds1, p1, q1, rfl, rfl, rfl, h1, hA2⟩ := trodAll_cons hA1
  obtain ⟨v2, vs2, d2, ds2, p2, q2, rfl, rfl, rfl, h2, hA3⟩ := trodAll_cons hA2
  obtain ⟨v3, vs3, d3, ds3, p3, q3, rfl, rfl, rfl, h3, hA4⟩ := trodAll_cons hA3
  obtain ⟨v4, vs4, d4, ds4, p4, q4, rfl, rfl, rfl, h4, hA5⟩ := trodAll_cons hA4
  obtain ⟨v5, vs5, d5, ds5, p5, q5, rfl, rfl, rfl, h5, hA6⟩ := trodAll_cons hA5
  obtain ⟨v6, vs6, d6, ds6, p6, q6, rfl, rfl, rfl, h6, hA7⟩ := trodAll_cons hA6
  obtain ⟨rfl, rfl, rfl⟩ := trodAll_nil hA7
  obtain rfl : args = #[v0, v1, v2, v3, v4, v5, v6] := by cases args; simp_all
  obtain ⟨rfl, rfl⟩ := trodVars_none hV
  obtain ⟨pn, a, b, o, c, P, rfl, hc, ha, hT⟩ := policy_open (hval 0 41 v0 rfl rfl) h0
  obtain ⟨now, rfl, rfl, rfl, wnow⟩ := open_int Try.underlying3 (hval 1 3 v1 rfl rfl) h1
  obtain ⟨oa0, on, oc0, rfl⟩ := okWide_slice Try.underlying42 (hval 2 42 v2 rfl rfl)
  obtain ⟨s, rfl, rfl, rfl, ws⟩ := Go.ChangeMaps.open_string Try.underlying9 (hval 3 9 v3 rfl rfl) h3
  obtain ⟨f, rfl, rfl, rfl, wf⟩ := open_int Try.underlying3 (hval 4 3 v4 rfl rfl) h4
  obtain ⟨m, rfl, rfl, rfl, wm⟩ := open_int Try.underlying3 (hval 5 3 v5 rfl rfl) h5
  obtain ⟨u, rfl, rfl, rfl, wu⟩ := open_int Try.underlying3 (hval 6 3 v6 rfl rfl) h6
  have h2' := h2
  obtain ⟨fuel2, h2f⟩ := h2'
  obtain ⟨oa, ob, oo, oc, L, e2, hoa, hO⟩ := ops_open h2f
  simp only [Value.cells, List.cons.injEq, and_true] at e2
  obtain ⟨rfl, rfl, rfl⟩ := Value.slice.inj e2
  clear hA0 hval0 hA hA1 hA2 hA3 hA4 hA5 hA6 hA7 hargs e2 h2f
  have hlt : ∀ x ∈ p0 ++ (p2 ++ []), x.block < W.heap.size := fun x hx => hW'.lt x (by simp only [List.nil_append, List.append_nil, List.mem_append] at hx ⊢; first | exact hx | (rcases hx with hx | hx <;> simp [hx]))
  have hlt0 : ∀ x ∈ p0, x.block < W.heap.size := fun x hx => hlt x (List.mem_append_left _ hx)
  have hlt2 : ∀ x ∈ p2, x.block < W.heap.size := fun x hx => hlt x (by simp [hx])
  refine (asks_walk pn a b o c P now _ ob oo _ L s f m u W (fun h => ⟨ha h, ?_⟩) hT hc hoa hO).mono fun e W' ⟨he, hnx⟩ => ?_
  · have hP : 0 < P.length := List.length_pos_iff.2 h
    exact cell_lt (hT.n 0 hP)
  subst he
  refine ⟨_, rfl, _, _, _, [], p0 ++ ([] ++ (p2 ++ ([] ++ ([] ++ ([] ++ ([] ++ [])))))), [], hW', ?_, ?_, rfl, hnx.frame _, fun h => by cases h⟩
  · exact trodAll_mk1 (shut_bool Try.underlying4 true)
  · have r0 := Below.trod tiers_laid (by kernel_rfl) (of_decide_eq_true (by kernel_rfl)) h0 hnx hlt0
    have r2 := Below.trod tiers_laid (by kernel_rfl) (of_decide_eq_true (by kernel_rfl)) h2 hnx hlt2
    exact ⟨_, _, r0, ⟨_, _, shut_int Try.underlying3 wnow, ⟨_, _, r2, ⟨_, _, Go.ChangeMaps.shut_string Try.underlying9 ws, ⟨_, _, shut_int Try.underlying3 wf, ⟨_, _, shut_int Try.underlying3 wm, ⟨_, _, shut_int Try.underlying3 wu, rfl, rfl⟩, rfl⟩, rfl⟩, rfl⟩, rfl⟩, rfl⟩, rfl⟩

theorem tiersAsks_holds : Rows.TiersAsksSaid :=
  OpenClaim.holds_of_wide 4 Try.f4 rfl rfl rfl rfl rfl rfl rfl ⟨rfl, rfl, rfl, rfl, rfl⟩ rfl rfl rfl rfl rfl (by kernel_rfl) Try.func4 (by kernel_rfl)
    (of_decide_eq_true (by kernel_rfl)) (by unfold Func.isWrapper; rw [if_neg (of_decide_eq_false (by kernel_rfl))]; exact ⟨rfl, rfl⟩)
    (fun os started H enc _ => tiersAsks_lifted os started H enc)

#print axioms tiersAsks_holds

end Go.Proofs.Ytcbpaikklkmnbaa
