/- A table lets records go: the calls of package table that drop. -/
import Derived.Test.YtcbpaikklkmnbaaTierH
import Derived.Maps.RangeWalk
namespace Go.Proofs.Ytcbpaikklkmnbaa
open Go.RowKit Go.Proofs Go.Maps Go.MapKept
open Go.ChangeMaps (setBlock heap_setBlock_same heap_setBlock_other)
set_option maxRecDepth 20000
set_option maxHeartbeats 1600000

/-- below a start? -/
theorem drop_below (s : ByteArray) (t : Int) (cb : Nat) (q : Int) (w : World) (hc : w.cell? ⟨cb, 0, none⟩ = some (.int .i64 q)) :
    Calls Try.prog 72 #[keyV s t, .pointer (some ⟨cb, 0, none⟩)] w fun e w' => e = .returned (.bool (decide (t < q))) ∧ Below w.heap.size w w' := by
  have hl := cell_lt hc
  go_enter Try.func72, Try.ntmps72
  go_wp2
  go_ret
  exact ⟨by first | trivial | rfl, below_al (Below.refl _ _) _⟩

theorem drop_one (s : ByteArray) (t : Int) (a : Ag) (cx cb : Nat) (q : Int) (w : World) (hx : w.cell? ⟨cx, 0, none⟩ = some (.func (.func 72) #[] #[.pointer (some ⟨cb, 0, none⟩)])) (hc : w.cell? ⟨cb, 0, none⟩ = some (.int .i64 q)) :
    Calls Try.prog 99 #[keyV s t, agV a, .pointer (some ⟨cx, 0, none⟩)] w fun e w' => e = .returned (.bool (decide (t < q))) ∧ Below w.heap.size w w' := by
  have hl := cell_lt hc
  have hlx := cell_lt hx
  have hw : Below w.heap.size w ((w.alloc (.cells #[.string s, .int .i64 t] 129)).alloc (.cells #[.int .i64 a.c, .int .i64 a.h, .int .u64 a.l, .int .i64 a.a, .int .i64 a.b] 59)) := below_al (below_al (Below.refl _ _) _) _
  go_enter Try.func99, Try.ntmps99
  go_wp2_with fail
  refine (drop_below s t cb q _ (by go_simp)).mono ?_
  rintro e w1 ⟨rfl, hb1⟩
  have HB1 := hid (below_then hb1 hw)
  clear hb1 hw
  go_wp2
  go_ret
  exact ⟨by first | trivial | rfl, HB1.out⟩

theorem erase_filter {l : List MapEntry} : ∀ {j : Nat} {e : MapEntry}, (l.map (·.born)).Nodup → l[j]? = some e → l.eraseIdx j = l.filter (fun x => x.born != e.born) := by
  induction l with
  | nil => intro j e _ h; simp at h
  | cons a l ih =>
    intro j e hn h
    simp only [List.map_cons, List.nodup_cons] at hn
    cases j with
    | zero =>
      simp only [List.getElem?_cons_zero, Option.some.injEq] at h
      subst h
      rw [List.eraseIdx_cons_zero, List.filter_cons_of_neg (by simp), List.filter_eq_self.2]
      intro x hx
      simp only [bne_iff_ne, ne_eq]
      intro hxe
      exact hn.1 (List.mem_map.2 ⟨x, hx, hxe⟩)
    | succ j =>
      simp only [List.getElem?_cons_succ] at h
      rw [List.eraseIdx_cons_succ, ih hn.2 h, List.filter_cons_of_pos]
      simp only [bne_iff_ne, ne_eq]
      intro hae
      exact hn.1 (List.mem_map.2 ⟨e, List.mem_of_getElem? h, hae.symm⟩)

/-- delete of an entry that is there -/
theorem run_delE {w : World} {b : Nat} {es : Array MapEntry} {clock : Nat} (hb : w.heap[b]? = some (.map es clock)) (hs : Stamped es clock) (hk : ∀ e ∈ es.toList, ∃ l, keyOf Try.prog 129 e.key = some l) {e : MapEntry} (he : e ∈ es.toList) (ty : TypeId) :
    ∃ es', (Builtin.delete_ #[122, 129] ty #[.map (some b), e.key]).run Try.prog w = .ok (.tuple #[]) (setBlock w b (.map es' clock)) ∧ Stamped es' clock ∧ es'.toList = es.toList.filter (fun x => x.born != e.born) := by
  obtain ⟨kl, hkey⟩ := hk e he
  rcases key_place.find w hkey es.toList hk with ⟨h1, h2⟩ | ⟨j, e0, h1, h2, h3⟩
  · exact absurd rfl (h2 e he)
  · have hjl : j < es.toList.length := (List.getElem?_eq_some_iff.1 h2).1
    have hjs : j < es.size := by simpa using hjl
    have hsub : (es.eraseIdxIfInBounds j).toList = es.toList.eraseIdx j := by
      unfold Array.eraseIdxIfInBounds
      rw [dif_pos hjs]
      simp
    have hee : e0 = e := by
      obtain ⟨i, hi⟩ := List.mem_iff_getElem?.1 he
      have hx : (es.toList.map (·.key))[i]? = some e.key := by rw [List.getElem?_map, hi]; rfl
      have hy : (es.toList.map (·.key))[j]? = some e.key := by rw [List.getElem?_map, h2, ← h3]; rfl
      have hil : i < (es.toList.map (·.key)).length := (List.getElem?_eq_some_iff.1 hx).1
      have : i = j := (List.getElem?_inj hil hs.2.2).1 (hx.trans hy.symm)
      subst this
      rw [h2] at hi
      exact Option.some.inj hi
    subst hee
    refine ⟨es.eraseIdxIfInBounds j, ?_, MapKept.stamped_erase hs j, by rw [hsub]; exact erase_filter hs.2.1 h2⟩
    simp [Builtin.delete_, run_underlying Try.underlying122, MapKept.run_getObj_map hb, key_place.check w _ hkey, h1, MapKept.run_setObj_map _ hb, Result.andThen, setBlock]

theorem set_block {w : World} {r : Nat} {o : Obj} (h : w.heap[r]? = some o) (o' : Obj) : (setBlock w r o').heap[r]? = some o' ∧ ∀ i, i ≠ r → (setBlock w r o').heap[i]? = w.heap[i]? := by
  have hl : r < w.heap.size := (Array.getElem?_eq_some_iff.1 h).1
  unfold setBlock
  constructor
  · simp [hl]
  · intro i hi
    simp [hi.symm]

/-- the step of a range over a map's entries -/
theorem wpList_nextE {P : Program} (w : World) {ops : Array Oper} {rest : List Oper} {o : Oper} {a : Act} {Q : Exit → Act → World → Prop} (hg : o.guard = none) (it : Operand) (hop : o.op = Op.next it false) (r b since c0 clock : Nat) (seen : Array Nat) (es : Array MapEntry)
    (hit : a.eval it = .pointer (some ⟨r, 0, none⟩)) (hr : w.heap[r]? = some (.mapIter (some b) since seen c0)) (hb : w.heap[b]? = some (.map es clock)) (hold : ∀ x ∈ es.toList, x.born < since) (hsc : since ≤ c0) (hs : Stamped es clock)
    (hDone : (leftOf es seen).size = 0 → wpList P ops Q rest (a.put o.dst (.tuple #[.bool false])) w)
    (hMore : ∀ (e : MapEntry) (w' : World), e ∈ (leftOf es seen).toList → w'.heap[r]? = some (.mapIter (some b) since (seen.push e.born) clock) → w'.heap[b]? = some (.map es clock) → w.grownBy w' (some r) → w'.heap.size = w.heap.size →
      (Instr.entry (.pointer (some ⟨r, 0, none⟩))).run P w' = .ok (.tuple #[e.key, e.val]) w' → wpList P ops Q rest (a.put o.dst (.tuple #[.bool true, e.key, e.val])) w') :
    wpList P ops Q (o :: rest) a w := by
  refine wpList_plain hg fun K' hK' => ?_
  unfold Oper.wp
  have hne : b ≠ r := by
    intro e
    rw [e, hr] at hb
    cases hb
  rcases run_next_at (P := P) w o.type r b since c0 seen es clock hr hb hold hsc with ⟨h0, hrun⟩ | ⟨e, he, w1, hal, hrun⟩
  · simp [execOp, hop, hit, hrun, Result.andThen]
    exact hK' _ _ (hDone h0)
  · simp [execOp, hop, hit, hrun, Result.andThen]
    have hr1 : w1.heap[r]? = some (.mapIter (some b) since seen c0) := by rcases hal with rfl | rfl <;> exact hr
    have hb1 : w1.heap[b]? = some (.map es clock) := by rcases hal with rfl | rfl <;> exact hb
    have hr2 := (set_block hr1 (.mapIter (some b) since (seen.push e.born) clock)).1
    have hb2 : (setBlock w1 r (.mapIter (some b) since (seen.push e.born) clock)).heap[b]? = some (.map es clock) := ((set_block hr1 _).2 b hne).trans hb1
    refine hK' _ _ (hMore e _ he hr2 hb2 ?_ ?_ (run_entry_at _ r b since seen es clock e hr2 hb2 (mem_left he).1 hs.2.1))
    · rcases hal with rfl | rfl <;> exact ⟨rfl, rfl, rfl, by simp [setBlock], fun i _ hi => (set_block hr1 _).2 i (fun e1 => hi (by rw [e1]))⟩
    · rcases hal with rfl | rfl <;> simp [setBlock]

end Go.Proofs.Ytcbpaikklkmnbaa
