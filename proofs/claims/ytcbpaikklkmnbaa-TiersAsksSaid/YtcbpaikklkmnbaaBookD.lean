/- Two lists of records are put together. -/
import Derived.Test.YtcbpaikklkmnbaaBookC
namespace Go.Proofs.Ytcbpaikklkmnbaa
open Go.RowKit Go.Proofs Go.Sort
set_option maxRecDepth 20000
set_option maxHeartbeats 1600000

theorem row_cells {w : World} {g : Nat} {S : List Rc} (h : RowR w g S) : ∀ j u, (recCells S)[j]? = some u → w.cell? ((⟨g, 0, none⟩ : Addr).add j) = some u := by
  intro j u hu
  have hjl : j < (recCells S).length := (List.getElem?_eq_some_iff.1 hu).1
  rw [recCells_length] at hjl
  have hd : j / 7 < S.length := by omega
  have h1 := recCells_get S (j / 7) (j % 7) hd (by omega)
  have h2 := (h (j / 7) hd (j % 7) (by omega)).1
  rw [show j / 7 * 7 + j % 7 = j by omega] at h1 h2
  rw [addO, Nat.zero_add, h2, ← h1]
  exact hu

theorem append_none (w : World) {base : Nat} {n cap : Nat} {sa : Option Addr} {xs : List Value} (hown : w.ownsRow base 61 7 (.slice sa n cap) n xs) (c : Nat) (ty : TypeId) :
    (Builtin.append_ #[49, 49] ty #[.slice sa n cap, .slice none 0 c]).run Try.prog w = .ok (.slice sa n cap) w := by
  have hz := Try.sizeOf61
  have hle : n ≤ cap := by
    rcases hown.2 with ⟨hv, h0⟩ | ⟨g, cap', cur, hv, _, _, hc, _⟩
    · omega
    · obtain ⟨_, _, rfl⟩ := Value.slice.inj hv
      exact hc
  cases sa with
  | none => simp [Builtin.append_, run_underlying Try.underlying49, hz, Builtin.lenOf, Builtin.firstCells, hle, Result.andThen]
  | some ad => simp [Builtin.append_, run_underlying Try.underlying49, hz, Builtin.lenOf, Builtin.firstCells, hle, storeCells, Result.andThen]

/-- append of records that lie in memory, inside a region that has drawn its order -/
theorem step_appX (w : World) {ops : Array Oper} {o : Oper} {a : Act} {K : Act → World → Prop} {Q : Exit → Act → World → Prop} {E : Prop} (hw : Region.wanted o (yielded ops a.tmps) = true) (s x : Operand)
    (ho : o.op = .call { callee := .builtin .append, args := #[s, x], argTypes := #[49, 49] })
    (base : Nat) (sa : Option Addr) (n cap : Nat) (xs : List Value) (hs : a.eval s = .slice sa n cap) (hown : w.ownsRow base 61 7 (.slice sa n cap) n xs)
    (xa : Option Addr) (g c : Nat) (S : List Rc) (hx : a.eval x = .slice xa S.length c) (hr : RowR w g S) (hxa : S ≠ [] → xa = some ⟨g, 0, none⟩)
    (h63 : n + S.length ≤ 1000000) (hbase : base ≤ w.heap.size)
    (h : ∀ sa' cap' w', w'.ownsRow base 61 7 (.slice sa' (n + S.length) cap') (n + S.length) (xs ++ recCells S) → Upd (rowS sa) w (rowS sa') w' → K (a.put o.dst (.slice sa' (n + S.length) cap')) w') :
    if Region.wanted o (yielded ops a.tmps) = true then Oper.wp Try.prog o a w K Q else E := by
  rw [if_pos hw]
  obtain ⟨i, hi, hz, hz1, hz2⟩ := slt_rec.inf
  by_cases hS : S = []
  · subst hS
    cases xa with
    | none =>
      have hr := append_none w hown c o.type
      unfold Oper.wp execOp
      simp only [ho, resolve, invoke, builtin, Sem.run_bind, Sem.run_pure, Result.andThen_ok, List.map_toArray, List.map_cons, List.map_nil, hs, hx, List.length_nil, hr]
      refine h sa cap w ?_ (Upd.refl _ _)
      simp only [List.length_nil, Nat.add_zero, recCells, List.flatMap_nil, List.append_nil]
      exact hown
    | some ad =>
      obtain ⟨v', w', hr, h2, h3, _, h5⟩ := run_append_own_at (P := Try.prog) w base 49 o.type 61 i _ 7 64 slt_rec.und hi hz hz1 hz2 slt_rec.zs slt_rec.pos (.slice sa n cap) n xs hown ad 0 c [] (by simp) (fun j u hu => by simp at hu) (by simp) (by unfold maxLen; omega) (by omega) hbase
      unfold Oper.wp execOp
      simp only [ho, resolve, invoke, builtin, Sem.run_bind, Sem.run_pure, Result.andThen_ok, List.map_toArray, List.map_cons, List.map_nil, hs, hx, List.length_nil, hr]
      obtain ⟨a', c', rfl⟩ := slice_of_own h2
      exact h a' c' w' h2 (Upd.of_row h3 h5)
  · obtain rfl := hxa hS
    obtain ⟨v', w', hr, h2, h3, _, h5⟩ := run_append_own_at (P := Try.prog) w base 49 o.type 61 i _ 7 64 slt_rec.und hi hz hz1 hz2 slt_rec.zs slt_rec.pos (.slice sa n cap) n xs hown ⟨g, 0, none⟩ S.length c (recCells S) (recCells_length S) (row_cells hr) (recCells_one S) (by unfold maxLen; omega) (by omega) hbase
    unfold Oper.wp execOp
    simp only [ho, resolve, invoke, builtin, Sem.run_bind, Sem.run_pure, Result.andThen_ok, List.map_toArray, List.map_cons, List.map_nil, hs, hx, hr]
    obtain ⟨a', c', rfl⟩ := slice_of_own h2
    exact h a' c' w' h2 (Upd.of_row h3 h5)

theorem recCells_both (V W : List Rc) : recCells V ++ recCells W = recCells (V ++ W) := by simp [recCells]

/-- two lists that are put together, against one that is both -/
theorem same_both {w : World} {B : Nat} (sa : Option Addr) (n cap : Nat) (V W F : List Rc) (hn : n = V.length + W.length) (hF : V ++ W = F) (hown : w.ownsRow B 61 7 (.slice sa n cap) n (recCells V ++ recCells W)) (a2 : Option Addr) (g2 c2 : Nat) (h2 : F ≠ [] → a2 = some ⟨g2, 0, none⟩) (r2 : RowR w g2 F) (hl : F.length ≤ 1000000) :
    Calls Try.prog 22 #[.slice sa n cap, .slice a2 F.length c2] w fun e w' => e = .returned (.bool true) ∧ Below w.heap.size w w' := by
  have hnF : n = F.length := by rw [← hF, List.length_append]; exact hn
  subst hnF
  rw [recCells_both, hF] at hown
  by_cases hF0 : F = []
  · exact same_recs sa a2 0 g2 cap c2 F w (fun h => absurd hF0 h) h2 (fun j hj => by rw [hF0] at hj; simp at hj) r2 hl
  · obtain ⟨g1, c1, hv, _, _⟩ := hown.form (List.length_pos_iff.2 hF0)
    obtain ⟨rfl, _, rfl⟩ := Value.slice.inj hv
    have hrow : RowR w g1 F := by
      have h3 := row_of_holds (holds_of_own hown)
      simpa using h3
    exact same_recs (some ⟨g1, 0, none⟩) a2 g1 g2 cap c2 F w (fun _ => rfl) h2 hrow r2 hl

theorem cover_is {w : World} {H t : Nat} {now : Int} {pn : ByteArray} {b c : Nat} {P : List Ti} {B : Nat → Nat × Nat} {T : Nat → List Rc} {la : Option Addr} {cl : Nat} (h : TsAt w H t now pn b c P B T P.length la cl) (hG : GoodP P) (hn1 : 0 ≤ now) (hn2 : now ≤ 1099511627776) (f : Int) (q : Nat) (hq : coverI now P f = q) :
    Calls Try.prog 21 #[rcV now pn b 0 P.length c, .int .i64 f] w fun e w' => e = .returned (.int .i64 (q : Nat)) ∧ Below w.heap.size w w' := by
  rw [← hq]
  exact tiers_cover h hG hn1 hn2 f

end Go.Proofs.Ytcbpaikklkmnbaa
