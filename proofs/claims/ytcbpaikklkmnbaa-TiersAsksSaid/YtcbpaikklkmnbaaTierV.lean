/- Tiers in memory; tiers.New. -/
import Derived.Test.YtcbpaikklkmnbaaTierU
namespace Go.Proofs.Ytcbpaikklkmnbaa
open Go.RowKit Go.Proofs
set_option maxRecDepth 20000
set_option maxHeartbeats 1600000

theorem take_getD {P : List Ti} {i j : Nat} (h : i < j) : (P.take j).getD i default = P.getD i default := by
  rw [List.getD_eq_getElem?_getD, List.getD_eq_getElem?_getD, List.getElem?_take, if_pos h]

theorem check_good {pn : ByteArray} {P : List Ti} (h : checkB pn P = true) : GoodP P := by
  unfold checkB at h
  simp only [Bool.and_eq_true, decide_eq_true_eq, List.all_eq_true, List.mem_range] at h
  obtain ⟨⟨_, h1, h2⟩, hf⟩ := h
  have hk : ∀ j, j < P.length → (1 ≤ (P.getD j default).k ∧ (P.getD j default).k ≤ 1000000) := by
    intro j hj
    have := hf j hj
    unfold fitsB at this
    simp only [Bool.and_eq_true, decide_eq_true_eq] at this
    exact this.1.1.2
  have he : ∀ j, j < P.length → (1 ≤ (P.getD j default).e ∧ (P.getD j default).e ≤ 1000000) := by
    intro j
    induction j with
    | zero =>
      intro hj
      have := hf 0 hj
      unfold fitsB at this
      simp only [List.take_zero, List.length_nil, if_true, Bool.and_eq_true, decide_eq_true_eq] at this
      omega
    | succ j ih =>
      intro hj
      have h3 := ih (by omega)
      have := hf (j + 1) hj
      unfold fitsB at this
      have hl : (P.take (j + 1)).length = j + 1 := by rw [List.length_take]; omega
      rw [hl, if_neg (by omega), show j + 1 - 1 = j by omega, take_getD (by omega)] at this
      simp only [Bool.and_eq_true, decide_eq_true_eq] at this
      obtain ⟨_, ⟨⟨⟨_, h4⟩, h5⟩, _⟩, _⟩ := this
      omega
  exact ⟨by omega, by omega, fun j hj => (he j hj).1, fun j hj => (he j hj).2, fun j hj => (hk j hj).1, fun j hj => (hk j hj).2⟩

/-- pointers to tables -/
def ptrs (B : Nat → Nat × Nat) (k : Nat) : List Value := (List.range k).map (fun j => .pointer (some ⟨(B j).1, 0, none⟩))

theorem ptrs_get (B : Nat → Nat × Nat) {k j : Nat} (h : j < k) : (ptrs B k)[j]? = some (.pointer (some ⟨(B j).1, 0, none⟩)) := by simp [ptrs, h]

/-- tiers in memory: k tables are there -/
structure TsAt (w : World) (H t : Nat) (now : Int) (pn : ByteArray) (b c : Nat) (P : List Ti) (B : Nat → Nat × Nat) (T : Nat → List Rc) (k : Nat) (la : Option Addr) (cl : Nat) : Prop where
  rc : RcAt w t now pn b 0 P.length c
  c4 : w.cell? ⟨t, 4, none⟩ = some (.slice la k cl)
  f4 : w.frozen? ⟨t, 4, none⟩ = false
  f0 : w.frozen? ⟨t, 0, none⟩ = false
  ti : TisAt w b 0 P
  bl : b < w.heap.size
  own : w.ownsRow 0 99 1 (.slice la k cl) k (ptrs B k)
  tb : ∀ j, j < k → TbAt w (B j).1 (B j).2 (P.getD j default).e (T j)
  nd : ∀ i j, i < k → j < k → i ≠ j → (B i).2 ≠ (B j).2
  row : ∀ q, rowS la q → t < q ∧ q ≠ b ∧ ∀ j, j < k → q ≠ (B j).1 ∧ q ≠ (B j).2
  lo : H ≤ b ∧ H ≤ t ∧ b < t
  lo2 : ∀ j, j < k → t < (B j).1 ∧ t < (B j).2

theorem TsAt.upd {w w' : World} {H t : Nat} {now : Int} {pn : ByteArray} {b c : Nat} {P : List Ti} {B : Nat → Nat × Nat} {T : Nat → List Rc} {k : Nat} {la : Option Addr} {cl : Nat} {S S' : Nat → Prop} (h : TsAt w H t now pn b c P B T k la cl) (u : Upd S w S' w')
    (h1 : ¬ S t) (h2 : ¬ S b) (h3 : ∀ q, rowS la q → ¬ S q) (h4 : ∀ j, j < k → ¬ S (B j).1 ∧ ¬ S (B j).2) : TsAt w' H t now pn b c P B T k la cl where
  rc := ⟨(u.cell (cell_lt h.c4) h1 _).trans h.rc.c0, (u.cell (cell_lt h.c4) h1 _).trans h.rc.c1, (u.cell (cell_lt h.c4) h1 _).trans h.rc.c2, (u.cell (cell_lt h.c4) h1 _).trans h.rc.c3⟩
  c4 := (u.cell (cell_lt h.c4) h1 _).trans h.c4
  f4 := (u.frozen (cell_lt h.c4) h1 _).trans h.f4
  f0 := (u.frozen (cell_lt h.c4) h1 _).trans h.f0
  ti := h.ti.upd u h.bl h2
  bl := Nat.lt_of_lt_of_le h.bl u.size
  own := by
    refine ⟨h.own.1, ?_⟩
    rcases h.own.2 with hn | ⟨g, cap, cur, hv, hb, hg, rest⟩
    · exact .inl hn
    · refine .inr ⟨g, cap, cur, hv, hb, ?_, rest⟩
      rw [u.block g (Array.getElem?_eq_some_iff.1 hg).1 (h3 g (by obtain ⟨rfl, _, _⟩ := Value.slice.inj hv; rfl))]
      exact hg
  tb := fun j hj => (h.tb j hj).kept u (h4 j hj).1 (h4 j hj).2
  nd := h.nd
  row := h.row
  lo := h.lo
  lo2 := h.lo2

theorem TsAt.below {w w' : World} {H t : Nat} {now : Int} {pn : ByteArray} {b c : Nat} {P : List Ti} {B : Nat → Nat × Nat} {T : Nat → List Rc} {k : Nat} {la : Option Addr} {cl : Nat} (h : TsAt w H t now pn b c P B T k la cl) (hb : Below w.heap.size w w') : TsAt w' H t now pn b c P B T k la cl :=
  h.upd (Upd.of_below (S := fun _ => False) hb) (fun h => h) (fun h => h) (fun _ _ h => h) (fun _ _ => ⟨fun h => h, fun h => h⟩)

theorem TsAt.drew {w : World} {H t : Nat} {now : Int} {pn : ByteArray} {b c : Nat} {P : List Ti} {B : Nat → Nat × Nat} {T : Nat → List Rc} {k : Nat} {la : Option Addr} {cl : Nat} (h : TsAt w H t now pn b c P B T k la cl) : TsAt w.drew H t now pn b c P B T k la cl :=
  h.below (below_drewN (Below.refl _ _) 1)

/-- one pointer more -/
theorem ptrs_succ (B : Nat → Nat × Nat) (k g m : Nat) : ptrs B k ++ [.pointer (some ⟨g, 0, none⟩)] = ptrs (fun j => if j = k then (g, m) else B j) (k + 1) := by
  unfold ptrs
  rw [List.range_succ, List.map_append]
  congr 1
  · refine List.map_congr_left fun j hj => ?_
    have : j ≠ k := by have := List.mem_range.1 hj; omega
    simp [this]
  · simp

theorem TsAt.more {w w2 : World} {H t : Nat} {now : Int} {pn : ByteArray} {b c : Nat} {P : List Ti} {B : Nat → Nat × Nat} {k : Nat} {la la2 : Option Addr} {cl cl2 g m : Nat} (h : TsAt w H t now pn b c P B (fun _ => []) k la cl)
    (hg : TbAt w g m (P.getD k default).e []) (hnew : ∀ j, j < k → (B j).2 ≠ m) (htg : t < g ∧ t < m) (hrg : ∀ q, rowS la q → q ≠ g ∧ q ≠ m) (hown : w2.ownsRow 0 99 1 (.slice la2 (k + 1) cl2) (k + 1) (ptrs B k ++ [.pointer (some ⟨g, 0, none⟩)])) (u : Upd (rowS la) w (rowS la2) w2) :
    TsAt (w2.setCell ⟨t, 4, none⟩ (.slice la2 (k + 1) cl2)) H t now pn b c P (fun j => if j = k then (g, m) else B j) (fun _ => []) (k + 1) la2 cl2 := by
  have htl := cell_lt h.c4
  have hrt : ¬ rowS la t := fun hq => by have := (h.row t hq).1; omega
  have hrb : ¬ rowS la b := fun hq => (h.row b hq).2.1 rfl
  have hrow2 : ∀ q, rowS la2 q → t < q ∧ q ≠ b ∧ (∀ j, j < k → q ≠ (B j).1 ∧ q ≠ (B j).2) ∧ q ≠ g ∧ q ≠ m := by
    intro q hq
    rcases u.own q hq with h1 | h1
    · exact ⟨(h.row q h1).1, (h.row q h1).2.1, (h.row q h1).2.2, hrg q h1⟩
    · have hbl := h.bl
      have hgl := cell_lt hg.c0
      have hml := hg.ml.lt
      refine ⟨by omega, by omega, fun j hj => ?_, by omega, by omega⟩
      have h2 := cell_lt (h.tb j hj).c0
      have h3 := (h.tb j hj).ml.lt
      omega
  have hu2 : Upd (fun q => rowS la q ∨ q = t) w (fun q => rowS la q ∨ q = t) (w2.setCell ⟨t, 4, none⟩ (.slice la2 (k + 1) cl2)) := by
    have h1 : Upd (fun q => rowS la q ∨ q = t) w (fun q => q = t ∨ (rowS la2 q)) w2 := ⟨u.os, u.tape, u.output, u.size, fun q hq hn => u.block q hq (fun e => hn (Or.inl e)), fun q hq => by
      rcases hq with hq | hq
      · exact Or.inl (Or.inr hq)
      · rcases u.own q hq with h2 | h2
        · exact Or.inl (Or.inl h2)
        · exact Or.inr h2⟩
    have h2 := h1.trans (Upd.setCell (S := fun q => q = t ∨ rowS la2 q) w2 (p := ⟨t, 4, none⟩) (Or.inl rfl) (.slice la2 (k + 1) cl2))
    exact ⟨h2.os, h2.tape, h2.output, h2.size, h2.block, fun q hq => Or.inl hq⟩
  have hc4 : w2.cell? ⟨t, 4, none⟩ = some (.slice la k cl) := (u.cell htl hrt 4).trans h.c4
  have hc0 : w2.cell? ⟨t, 0, none⟩ = some (.int .i64 now) := (u.cell htl hrt 0).trans h.rc.c0
  have hc1 : w2.cell? ⟨t, 1, none⟩ = some (.string pn) := (u.cell htl hrt 1).trans h.rc.c1
  have hc2 : w2.cell? ⟨t, 2, none⟩ = some (.slice (some ⟨b, 0, none⟩) P.length c) := (u.cell htl hrt 2).trans h.rc.c2
  have hc3 : w2.cell? ⟨t, 3, none⟩ = some (.slice none 0 0) := (u.cell htl hrt 3).trans h.rc.c3
  have hf4 : w2.frozen? ⟨t, 4, none⟩ = false := (u.frozen htl hrt 4).trans h.f4
  have hf0 : w2.frozen? ⟨t, 0, none⟩ = false := (u.frozen htl hrt 0).trans h.f0
  refine ⟨⟨by go_simp, by go_simp, by go_simp, by go_simp⟩, by go_simp, by go_simp, by go_simp, ?_, Nat.lt_of_lt_of_le h.bl hu2.size, ?_, ?_, ?_, ?_, h.lo, ?_⟩
  · exact h.ti.upd hu2 h.bl (by rintro (h1 | h1); exact hrb h1; have := h.lo; omega)
  · rw [← ptrs_succ]
    refine hown.kept (row := some t) ⟨rfl, rfl, rfl, by simp [World.setCell], fun q hq hn => Below.heap_setCell w2 _ _ q (fun e => hn (by rw [e]))⟩ (Or.inr ?_)
    rw [ownBlock_slice]
    intro he
    have := (hrow2 t he).1
    omega
  · intro j hj
    by_cases hjk : j = k
    · simp only [hjk, if_true]
      exact hg.kept hu2 (by rintro (h1 | h1); exact (hrg g h1).1 rfl; omega) (by rintro (h1 | h1); exact (hrg m h1).2 rfl; omega)
    · simp only [hjk, if_false]
      have hj2 : j < k := by omega
      have hl := h.lo2 j hj2
      exact (h.tb j hj2).kept hu2 (by rintro (h1 | h1); exact ((h.row _ h1).2.2 j hj2).1 rfl; omega) (by rintro (h1 | h1); exact ((h.row _ h1).2.2 j hj2).2 rfl; omega)
  · intro i j hi hj hij
    by_cases hik : i = k
    · have hjk : j ≠ k := by omega
      simp only [hik, hjk, if_true, if_false]
      exact fun e => hnew j (by omega) e.symm
    · by_cases hjk : j = k
      · simp only [hik, hjk, if_true, if_false]
        exact hnew i (by omega)
      · simp only [hik, hjk, if_false]
        exact h.nd i j (by omega) (by omega) hij
  · intro q hq
    obtain ⟨h1, h2, h3, h4, h5⟩ := hrow2 q hq
    refine ⟨h1, h2, fun j hj => ?_⟩
    by_cases hjk : j = k
    · simp only [hjk, if_true]
      exact ⟨h4, h5⟩
    · simp only [hjk, if_false]
      exact h3 j (by omega)
  · intro j hj
    by_cases hjk : j = k
    · simp only [hjk, if_true]
      exact htg
    · simp only [hjk, if_false]
      exact h.lo2 j (by omega)

theorem slt_ptr : SlT Try.prog 68 99 (.pointer none) 1 8 := ⟨Try.underlying68, info_parts (by kernel_rfl), rfl, by decide⟩

end Go.Proofs.Ytcbpaikklkmnbaa
