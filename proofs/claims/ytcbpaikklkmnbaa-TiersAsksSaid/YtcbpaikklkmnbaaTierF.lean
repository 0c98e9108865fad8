/- A table's map in memory, as a list of records. -/
import Derived.Test.YtcbpaikklkmnbaaTierB
import Derived.Test.YtcbpaikklkmnbaaMaps
import Derived.DeepKeys4
namespace Go.Proofs.Ytcbpaikklkmnbaa
open Go.RowKit Go.Proofs Go.Maps Go.MapKept
open Go.ChangeMaps (setBlock modify_eq_set heap_setBlock_same heap_setBlock_other)

/-- a record -/
structure Rc where
  s : ByteArray
  t : Int
  a : Ag
deriving DecidableEq

abbrev keyV (s : ByteArray) (t : Int) : Value := .agg #[.string s, .int .i64 t]
abbrev rcKey (r : Rc) : Value := keyV r.s r.t

theorem place_laid : laidOutB Try.prog = true := by kernel_rfl
theorem place_row : (129 : TypeId) < Try.prog.types.size := of_decide_eq_true (by kernel_rfl)
theorem place_wide : (match Try.prog.underlying 129 with | some (.array _ _) | some (.struct _) => true | _ => false) = true := by rw [Try.underlying129]
set_option maxRecDepth 100000 in
theorem key_place : Keyed Try.prog 129 := Keyed.of_law (deep_law_laid place_laid (m := 2) (by decide) place_row (by kernel_rfl) place_wide)

theorem place_type : Try.prog.keyType 129 = true := by kernel_rfl
theorem place_cells : Try.prog.cellsOf 129 = 2 := by kernel_rfl
theorem string_cells : Try.prog.cellsOf 9 = 1 := by kernel_rfl
theorem int_cells : Try.prog.cellsOf 3 = 1 := by kernel_rfl
theorem types_size : ∃ m, Try.prog.types.size + 1 = m + 2 := ⟨Try.prog.types.size - 1, by have h : 0 < Try.prog.types.size := Nat.lt_of_le_of_lt (Nat.zero_le 129) place_row; omega⟩

theorem key_mk (s : ByteArray) (t : Int) (hs : s.size ≤ maxLen) (ht : (Lit.int .i64 t).wf = true) : ∃ l, keyOf Try.prog 129 (keyV s t) = some l := by
  unfold keyOf
  simp only [Try.underlying129]
  rw [if_pos (by rw [place_type]; simp [Value.formed, Try.underlying129, place_cells])]
  obtain ⟨m, hm⟩ := types_size
  rw [hm]
  refine ⟨.string (keyBytes [.string s.data.toList, .int .i64 t]), ?_⟩
  unfold Program.keyLits
  simp [Try.underlying129, Value.cells, place_cells, string_cells, int_cells, Program.keyLits, Try.underlying9, Try.underlying3, hs, ht]

/-- a key that may be -/
def KeyOk (r : Rc) : Prop := r.s.size ≤ maxLen ∧ (Lit.int .i64 r.t).wf = true

/-- block b is a map whose entries are the records L, in their order of birth -/
def MapL (w : World) (b : Nat) (L : List Rc) : Prop :=
  ∃ es clock, w.heap[b]? = some (.map es clock) ∧ Stamped es clock ∧ es.toList.map (fun e => (e.key, e.val)) = L.map (fun r => (rcKey r, agV r.a)) ∧ ∀ r ∈ L, KeyOk r

theorem MapL.lt {w : World} {b : Nat} {L : List Rc} (h : MapL w b L) : b < w.heap.size := by
  obtain ⟨es, c, h, _⟩ := h
  exact (Array.getElem?_eq_some_iff.1 h).1

theorem MapL.kept {w w' : World} {b : Nat} {L : List Rc} {S S' : Nat → Prop} (h : MapL w b L) (u : Upd S w S' w') (hn : ¬ S b) : MapL w' b L := by
  have hl := h.lt
  obtain ⟨es, c, h, r⟩ := h
  exact ⟨es, c, by rw [u.block b hl hn]; exact h, r⟩

theorem MapL.made (w : World) : MapL (w.alloc (.map #[] 0)) w.heap.size [] :=
  ⟨#[], 0, heap_alloc_new w _, ⟨by simp, by simp, by simp⟩, rfl, by simp⟩

theorem key_inj {r r' : Rc} (h : rcKey r = rcKey r') : r.s = r'.s ∧ r.t = r'.t := by
  simp [rcKey, keyV] at h
  exact h

/-- what is known at a place -/
def lookL (L : List Rc) (s : ByteArray) (t : Int) : Ag :=
  match L.find? (fun r => decide (r.s = s ∧ r.t = t)) with
  | some r => r.a
  | none => agZ

/-- a record in place of the one that has its key, or behind all -/
def setL (L : List Rc) (r : Rc) : List Rc :=
  match L.findIdx? (fun x => decide (x.s = r.s ∧ x.t = r.t)) with
  | some j => L.set j r
  | none => L ++ [r]

theorem entry_get {es : Array MapEntry} {L : List Rc} (h : es.toList.map (fun e => (e.key, e.val)) = L.map (fun r => (rcKey r, agV r.a))) {j : Nat} {e : MapEntry} (he : es.toList[j]? = some e) :
    ∃ r, L[j]? = some r ∧ e.key = rcKey r ∧ e.val = agV r.a := by
  have h1 : (es.toList.map (fun e => (e.key, e.val)))[j]? = some (e.key, e.val) := by rw [List.getElem?_map, he]; rfl
  rw [h, List.getElem?_map] at h1
  cases hl : L[j]? with
  | none => rw [hl] at h1; cases h1
  | some r =>
    rw [hl] at h1
    simp only [Option.map_some, Option.some.injEq, Prod.mk.injEq] at h1
    exact ⟨r, rfl, h1.1.symm, h1.2.symm⟩

theorem rec_get {es : Array MapEntry} {L : List Rc} (h : es.toList.map (fun e => (e.key, e.val)) = L.map (fun r => (rcKey r, agV r.a))) {j : Nat} {r : Rc} (hr : L[j]? = some r) :
    ∃ e, es.toList[j]? = some e ∧ e.key = rcKey r ∧ e.val = agV r.a := by
  have h1 : (L.map (fun r => (rcKey r, agV r.a)))[j]? = some (rcKey r, agV r.a) := by rw [List.getElem?_map, hr]; rfl
  rw [← h, List.getElem?_map] at h1
  cases hl : es.toList[j]? with
  | none => rw [hl] at h1; cases h1
  | some e =>
    rw [hl] at h1
    simp only [Option.map_some, Option.some.injEq, Prod.mk.injEq] at h1
    exact ⟨e, rfl, h1.1, h1.2⟩

theorem keys_ok {es : Array MapEntry} {L : List Rc} (h : es.toList.map (fun e => (e.key, e.val)) = L.map (fun r => (rcKey r, agV r.a))) (hk : ∀ r ∈ L, KeyOk r) : ∀ e ∈ es.toList, ∃ l, keyOf Try.prog 129 e.key = some l := by
  intro e he
  obtain ⟨j, hj⟩ := List.mem_iff_getElem?.1 he
  obtain ⟨r, hr, h1, _⟩ := entry_get h hj
  rw [h1]
  obtain ⟨k1, k2⟩ := hk r (List.mem_of_getElem? hr)
  exact key_mk r.s r.t k1 k2

/-- no two records of one place -/
theorem MapL.nodup {w : World} {b : Nat} {L : List Rc} (h : MapL w b L) : (L.map rcKey).Nodup := by
  obtain ⟨es, c, _, hs, he, _⟩ := h
  have h1 := congrArg (List.map Prod.fst) he
  rw [List.map_map, List.map_map] at h1
  have h2 : (es.toList.map (·.key)) = L.map rcKey := h1
  rw [← h2]
  exact hs.2.2

theorem run_lookL {w : World} {b : Nat} {L : List Rc} (h : MapL w b L) {s : ByteArray} {t : Int} (hs : s.size ≤ maxLen) (ht : (Lit.int .i64 t).wf = true) (hz : (zeroValue 59).run Try.prog w = .ok (agV agZ) w) :
    (Instr.lookup 122 (.map (some b)) (keyV s t) false).run Try.prog w = .ok (agV (lookL L s t)) w := by
  obtain ⟨es, clock, hb, hst, he, hk⟩ := h
  obtain ⟨kl, hkey⟩ := key_mk s t hs ht
  rcases key_place.find w hkey es.toList (keys_ok he hk) with ⟨h1, h2⟩ | ⟨j, e0, h1, h2, h3⟩
  · have hnone : L.find? (fun r => decide (r.s = s ∧ r.t = t)) = none := by
      rw [List.find?_eq_none]
      intro r hr hd
      simp at hd
      obtain ⟨j, hj⟩ := List.mem_iff_getElem?.1 hr
      obtain ⟨e, he1, he2, _⟩ := rec_get he hj
      exact h2 e (List.mem_of_getElem? he1) (by rw [he2]; simp [rcKey, hd.1, hd.2])
    unfold lookL
    rw [hnone]
    simp [Instr.lookup, run_underlying Try.underlying122, MapKept.run_getObj_map hb, key_place.check w _ hkey, h1, hz, Result.andThen]
  · obtain ⟨r, hr, hr1, hr2⟩ := entry_get he h2
    have hrk := key_inj (r' := ⟨s, t, agZ⟩) (hr1.symm.trans h3)
    have hnd : (L.map rcKey).Nodup := MapL.nodup ⟨es, clock, hb, hst, he, hk⟩
    have hf : L.find? (fun r => decide (r.s = s ∧ r.t = t)) = some r := by
      cases hq : L.find? (fun r => decide (r.s = s ∧ r.t = t)) with
      | none =>
        rw [List.find?_eq_none] at hq
        exact absurd (by simpa using hrk) (hq r (List.mem_of_getElem? hr))
      | some r2 =>
        have h4 := List.find?_some hq
        have h5 := List.mem_of_find?_eq_some hq
        simp at h4
        obtain ⟨i, hi⟩ := List.mem_iff_getElem?.1 h5
        have hx : (L.map rcKey)[i]? = some (rcKey r) := by rw [List.getElem?_map, hi]; simp [rcKey, h4.1, h4.2, hrk.1, hrk.2]
        have hy : (L.map rcKey)[j]? = some (rcKey r) := by rw [List.getElem?_map, hr]; rfl
        have hil : i < (L.map rcKey).length := (List.getElem?_eq_some_iff.1 hx).1
        have : i = j := (List.getElem?_inj hil hnd).1 (hx.trans hy.symm)
        subst this
        rw [hr] at hi
        rw [Option.some.inj hi]
    unfold lookL
    rw [hf]
    simp [Instr.lookup, run_underlying Try.underlying122, MapKept.run_getObj_map hb, key_place.check w _ hkey, h1, hr2, Result.andThen]

theorem run_updL {w : World} {b : Nat} {L : List Rc} (h : MapL w b L) (r : Rc) (hr : KeyOk r) :
    ∃ w', (Instr.mapUpdate 122 (.map (some b)) (rcKey r) (agV r.a)).run Try.prog w = .ok () w' ∧ MapL w' b (setL L r) ∧ Upd (fun j => j = b) w (fun j => j = b) w' := by
  have hnd := h.nodup
  obtain ⟨es, clock, hb, hs, he, hk⟩ := h
  obtain ⟨kl, hkey⟩ := key_mk r.s r.t hr.1 hr.2
  have upd : ∀ o, Upd (fun j => j = b) w (fun j => j = b) (setBlock w b o) := fun o => ⟨rfl, rfl, rfl, by simp [setBlock], fun i _ hi => heap_setBlock_other hb _ (fun e => hi e), fun _ h => Or.inl h⟩
  rcases key_place.find w hkey es.toList (keys_ok he hk) with ⟨h1, h2⟩ | ⟨j, e0, h1, h2, h3⟩
  · have hnone : L.findIdx? (fun x => decide (x.s = r.s ∧ x.t = r.t)) = none := by
      rw [List.findIdx?_eq_none_iff]
      intro x hx
      by_cases hd : x.s = r.s ∧ x.t = r.t
      · obtain ⟨j, hj⟩ := List.mem_iff_getElem?.1 hx
        obtain ⟨e, he1, he2, _⟩ := rec_get he hj
        exact absurd (by rw [he2]; simp [rcKey, hd.1, hd.2]) (h2 e (List.mem_of_getElem? he1))
      · simpa using hd
    have hL : setL L r = L ++ [r] := by unfold setL; rw [hnone]
    rw [hL]
    refine ⟨setBlock w b (.map (es.push ⟨rcKey r, agV r.a, clock⟩) (clock + 1)), ?_, ⟨_, _, heap_setBlock_same hb _, stamped_push hs h2, by simp [he], ?_⟩, upd _⟩
    · simp [Instr.mapUpdate, run_underlying Try.underlying122, MapKept.run_getObj_map hb, key_place.check w false hkey, h1, MapKept.run_setObj_map _ hb, Result.andThen, setBlock]
    · intro x hx
      rcases List.mem_append.1 hx with hx | hx
      · exact hk x hx
      · simp at hx
        rw [hx]
        exact hr
  · have hj : es[j]? = some e0 := by simpa using h2
    obtain ⟨r0, hr0, hr1, hr2⟩ := entry_get he h2
    have hrk := key_inj (hr1.symm.trans h3)
    have hidx : L.findIdx? (fun x => decide (x.s = r.s ∧ x.t = r.t)) = some j := by
      rw [List.findIdx?_eq_some_iff_getElem]
      obtain ⟨hjl, hjr⟩ := List.getElem?_eq_some_iff.1 hr0
      refine ⟨hjl, by rw [hjr]; simpa using hrk, fun i hi => ?_⟩
      simp only [decide_eq_true_eq]
      intro hd
      have hil : i < L.length := by omega
      have hx : (L.map rcKey)[i]? = some (rcKey r0) := by rw [List.getElem?_map, List.getElem?_eq_getElem hil]; simp [rcKey, hd.1, hd.2, hrk.1, hrk.2]
      have hy : (L.map rcKey)[j]? = some (rcKey r0) := by rw [List.getElem?_map, hr0]; rfl
      have := (List.getElem?_inj (by simpa using hil) hnd).1 (hx.trans hy.symm)
      omega
    have hL : setL L r = L.set j r := by unfold setL; rw [hidx]
    rw [hL]
    have hkeyf : ∀ e', es[j]? = some e' → ({ e' with key := rcKey r, val := agV r.a } : MapEntry).key = e'.key := fun e' he' => by rw [hj] at he'; cases he'; exact h3.symm
    have hlist : (es.modify j (fun e' => { e' with key := rcKey r, val := agV r.a })).toList = es.toList.set j { e0 with key := rcKey r, val := agV r.a } := by rw [Array.toList_modify, modify_eq_set _ _ _ _ h2]
    refine ⟨setBlock w b (.map (es.modify j (fun e' => { e' with key := rcKey r, val := agV r.a })) clock), ?_, ⟨_, _, heap_setBlock_same hb _, stamped_modify hs _ _ (fun _ _ => rfl) (fun e' _ he' => hkeyf e' he'), ?_, ?_⟩, upd _⟩
    · simp [Instr.mapUpdate, run_underlying Try.underlying122, MapKept.run_getObj_map hb, key_place.check w false hkey, h1, hj, h3, key_place.stays w hkey, MapKept.run_setObj_map _ hb, Result.andThen, setBlock]
    · rw [hlist, List.map_set, he, List.map_set]
    · intro x hx
      rcases List.mem_or_eq_of_mem_set hx with hx | rfl
      · exact hk x hx
      · exact hr

end Go.Proofs.Ytcbpaikklkmnbaa
