/- Maps in memory, as functions from keys to what stands there. -/
import Derived.Test.YtcbpaikklkmnbaaBase
import Derived.Maps.Own
import Derived.Maps.OwnOps
import Derived.Maps.OwnSet
namespace Go.Proofs.Ytcbpaikklkmnbaa
open Go.RowKit Go.Proofs Go.Maps Go.MapKept
open Go.ChangeMaps (setBlock modify_eq_set heap_setBlock_same heap_setBlock_other)

/-- block b is a map of at most n entries, that reads as f -/
def MapF (P : Program) (k : TypeId) (w : World) (b n : Nat) (f : Value → Option Value) : Prop :=
  ∃ es clock, w.heap[b]? = some (.map es clock) ∧ Stamped es clock ∧ (∀ x ∈ es.toList, ∃ l, keyOf P k x.key = some l) ∧
    (∀ key v, f key = some v ↔ ∃ x ∈ es.toList, x.key = key ∧ x.val = v) ∧ es.size ≤ n

open Classical in
/-- one key more, or another value there -/
noncomputable def fset (f : Value → Option Value) (k v : Value) : Value → Option Value := fun x => if x = k then some v else f x

theorem fset_same (f : Value → Option Value) (k v : Value) : fset f k v k = some v := by simp [fset]
theorem fset_other (f : Value → Option Value) (k v x : Value) (h : x ≠ k) : fset f k v x = f x := by simp [fset, h]

theorem MapF.lt {P : Program} {k : TypeId} {w : World} {b n : Nat} {f : Value → Option Value} (h : MapF P k w b n f) : b < w.heap.size := by
  obtain ⟨es, c, h, _⟩ := h
  exact (Array.getElem?_eq_some_iff.1 h).1

theorem MapF.kept {P : Program} {k : TypeId} {w w' : World} {b n : Nat} {f : Value → Option Value} {S S' : Nat → Prop} (h : MapF P k w b n f) (u : Upd S w S' w') (hn : ¬ S b) : MapF P k w' b n f := by
  have hl := h.lt
  obtain ⟨es, c, h, r⟩ := h
  exact ⟨es, c, by rw [u.block b hl hn]; exact h, r⟩

theorem MapF.made (P : Program) (k : TypeId) (w : World) : MapF P k (w.alloc (.map #[] 0)) w.heap.size 0 (fun _ => none) :=
  ⟨#[], 0, heap_alloc_new w _, ⟨by simp, by simp, by simp⟩, by simp, by simp, by simp⟩

theorem run_update {P : Program} {k t e : TypeId} (K : Keyed P k) (ht : P.underlying t = some (.map k e)) {w : World} {b n : Nat} {f : Value → Option Value} (h : MapF P k w b n f)
    {key val : Value} {kl : Lit} (hkey : keyOf P k key = some kl) :
    ∃ w', (Instr.mapUpdate t (.map (some b)) key val).run P w = .ok () w' ∧ MapF P k w' b (n + 1) (fset f key val) ∧ Upd (fun j => j = b) w (fun j => j = b) w' := by
  obtain ⟨es, clock, hb, hs, hk, hf, hz⟩ := h
  have upd : ∀ o, Upd (fun j => j = b) w (fun j => j = b) (setBlock w b o) := fun o => ⟨rfl, rfl, rfl, by simp [setBlock], fun i _ hi => heap_setBlock_other hb _ (fun e => hi e), fun _ h => Or.inl h⟩
  rcases K.find w hkey es.toList hk with ⟨h1, h2⟩ | ⟨j, e0, h1, h2, h3⟩
  · refine ⟨setBlock w b (.map (es.push ⟨key, val, clock⟩) (clock + 1)), ?_, ⟨_, _, heap_setBlock_same hb _, stamped_push hs h2, ?_, ?_, by simp; omega⟩, upd _⟩
    · simp [Instr.mapUpdate, run_underlying ht, MapKept.run_getObj_map hb, K.check w false hkey, h1, MapKept.run_setObj_map _ hb, Result.andThen, setBlock]
    · intro x hx
      simp only [Array.toList_push, List.mem_append, List.mem_singleton] at hx
      rcases hx with hx | rfl
      · exact hk x hx
      · exact ⟨_, hkey⟩
    · intro q v
      by_cases hq : q = key
      · subst hq
        rw [fset_same]
        constructor
        · intro hv
          cases hv
          exact ⟨⟨q, val, clock⟩, by simp, rfl, rfl⟩
        · rintro ⟨x, hx, hx1, hx2⟩
          simp only [Array.toList_push, List.mem_append, List.mem_singleton] at hx
          rcases hx with hx | rfl
          · exact absurd hx1 (h2 x hx)
          · rw [← hx2]
      · rw [fset_other _ _ _ _ hq, hf]
        constructor
        · rintro ⟨x, hx, hx1, hx2⟩
          exact ⟨x, by simp [hx], hx1, hx2⟩
        · rintro ⟨x, hx, hx1, hx2⟩
          simp only [Array.toList_push, List.mem_append, List.mem_singleton] at hx
          rcases hx with hx | rfl
          · exact ⟨x, hx, hx1, hx2⟩
          · exact absurd hx1.symm hq
  · have hj : es[j]? = some e0 := by simpa using h2
    have hjl : j < es.toList.length := (List.getElem?_eq_some_iff.1 h2).1
    have hkeyf : ∀ e', es[j]? = some e' → ({ e' with key := key, val := val } : MapEntry).key = e'.key := fun e' he' => by rw [hj] at he'; cases he'; exact h3.symm
    have hlist : (es.modify j (fun e' => { e' with key := key, val := val })).toList = es.toList.set j { e0 with key := key, val := val } := by rw [Array.toList_modify, modify_eq_set _ _ _ _ h2]
    have hnd : (es.toList.map (·.key)).Nodup := hs.2.2
    have other : ∀ i x, es.toList[i]? = some x → i ≠ j → x.key ≠ key := by
      intro i x hi hne he
      have hx : (es.toList.map (·.key))[i]? = some key := by rw [List.getElem?_map, hi, ← he]; rfl
      have hy : (es.toList.map (·.key))[j]? = some key := by rw [List.getElem?_map, h2, ← h3]; rfl
      have hil : i < (es.toList.map (·.key)).length := (List.getElem?_eq_some_iff.1 hx).1
      exact hne ((List.getElem?_inj hil hnd).1 (hx.trans hy.symm))
    refine ⟨setBlock w b (.map (es.modify j (fun e' => { e' with key := key, val := val })) clock), ?_, ⟨_, _, heap_setBlock_same hb _, stamped_modify hs _ _ (fun _ _ => rfl) (fun e' _ he' => hkeyf e' he'), ?_, ?_, by simp; omega⟩, upd _⟩
    · simp [Instr.mapUpdate, run_underlying ht, MapKept.run_getObj_map hb, K.check w false hkey, h1, hj, h3, K.stays w hkey, MapKept.run_setObj_map _ hb, Result.andThen, setBlock]
    · intro x hx
      rw [hlist] at hx
      rcases List.mem_or_eq_of_mem_set hx with hx | rfl
      · exact hk x hx
      · exact ⟨_, hkey⟩
    · intro q v
      rw [hlist]
      by_cases hq : q = key
      · subst hq
        rw [fset_same]
        constructor
        · intro hv
          cases hv
          exact ⟨_, List.mem_set (by simpa using hjl) _, rfl, rfl⟩
        · rintro ⟨x, hx, hx1, hx2⟩
          obtain ⟨i, hi⟩ := List.mem_iff_getElem?.1 hx
          rw [List.getElem?_set] at hi
          split at hi
          · cases hi
            rw [← hx2]
          · rename_i hne
            exact absurd hx1 (other i x hi (fun e => hne e.symm))
      · rw [fset_other _ _ _ _ hq, hf]
        constructor
        · rintro ⟨x, hx, hx1, hx2⟩
          obtain ⟨i, hi⟩ := List.mem_iff_getElem?.1 hx
          refine ⟨x, List.mem_iff_getElem?.2 ⟨i, ?_⟩, hx1, hx2⟩
          rw [List.getElem?_set, if_neg, hi]
          intro e
          rw [← e, h2] at hi
          cases hi
          exact hq (by rw [← hx1, h3])
        · rintro ⟨x, hx, hx1, hx2⟩
          rcases List.mem_or_eq_of_mem_set hx with hx | rfl
          · exact ⟨x, hx, hx1, hx2⟩
          · exact absurd hx1.symm hq

theorem run_look {P : Program} {k t e : TypeId} (K : Keyed P k) (ht : P.underlying t = some (.map k e)) {w : World} {b n : Nat} {f : Value → Option Value} (h : MapF P k w b n f) {z : Value} (hz : (zeroValue e).run P w = .ok z w)
    {key : Value} {kl : Lit} (hkey : keyOf P k key = some kl) :
    (Instr.lookup t (.map (some b)) key true).run P w = .ok (.tuple #[(f key).getD z, .bool (f key).isSome]) w ∧ (Instr.lookup t (.map (some b)) key false).run P w = .ok ((f key).getD z) w := by
  obtain ⟨es, clock, hb, hs, hk, hf, _⟩ := h
  rcases K.find w hkey es.toList hk with ⟨h1, h2⟩ | ⟨j, e0, h1, h2, h3⟩
  · have hnone : f key = none := by
      cases hv : f key with
      | none => rfl
      | some v =>
        obtain ⟨x, hx, hx1, _⟩ := (hf key v).1 hv
        exact absurd hx1 (h2 x hx)
    rw [hnone]
    constructor <;> simp [Instr.lookup, run_underlying ht, MapKept.run_getObj_map hb, K.check w _ hkey, h1, hz, Result.andThen]
  · have hsome : f key = some e0.val := (hf key e0.val).2 ⟨e0, List.mem_of_getElem? h2, h3, rfl⟩
    rw [hsome]
    constructor <;> simp [Instr.lookup, run_underlying ht, MapKept.run_getObj_map hb, K.check w _ hkey, h1, Result.andThen]

end Go.Proofs.Ytcbpaikklkmnbaa
