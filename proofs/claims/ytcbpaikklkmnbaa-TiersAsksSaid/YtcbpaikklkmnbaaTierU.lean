/- A policy is copied: slices.Clone, policy.Copy, reach.Of. -/
import Derived.Test.YtcbpaikklkmnbaaTierT
import Derived.Deep.AppendLies
import Derived.Lib.SliceRun
namespace Go.Proofs.Ytcbpaikklkmnbaa
open Go.RowKit Go.Proofs
set_option maxRecDepth 20000
set_option maxHeartbeats 1600000

/-- a tier's cells -/
def tiEnc (x : Ti) : List Value := [.string x.n, .int .i64 x.e, .int .i64 x.k, .int .i64 x.s]

def tiCells (l : List Ti) : List Value := l.flatMap tiEnc

theorem tiCells_one (l : List Ti) : ∀ u ∈ tiCells l, u.oneCell' = true := by
  intro u hu
  obtain ⟨r, _, hr⟩ := List.mem_flatMap.1 hu
  simp [tiEnc] at hr
  rcases hr with rfl | rfl | rfl | rfl <;> rfl

theorem tiCells_length : ∀ (V : List Ti), (tiCells V).length = V.length * 4
  | [] => rfl
  | r :: V => by
    have := tiCells_length V
    simp only [tiCells, List.flatMap_cons, List.length_append, List.length_cons] at this ⊢
    rw [this]
    simp [tiEnc]
    omega

theorem tiCells_get : ∀ (V : List Ti) (j c : Nat) (hj : j < V.length), c < 4 → (tiCells V)[j * 4 + c]? = (tiEnc V[j])[c]?
  | [], j, c, hj, _ => by simp at hj
  | r :: V, 0, c, _, hc => by
    simp only [tiCells, List.flatMap_cons]
    rw [List.getElem?_append_left (by simp [tiEnc]; omega)]
    simp
  | r :: V, j + 1, c, hj, hc => by
    have := tiCells_get V j c (by simpa using hj) hc
    simp only [tiCells, List.flatMap_cons] at this ⊢
    rw [List.getElem?_append_right (by simp [tiEnc]; omega)]
    rw [show (j + 1) * 4 + c - (tiEnc r).length = j * 4 + c by simp [tiEnc]; omega, this]
    simp

theorem getD_at {P : List Ti} {j : Nat} (hj : j < P.length) : P.getD j default = P[j] := by
  rw [List.getD_eq_getElem?_getD, List.getElem?_eq_getElem hj]
  rfl

theorem addO (b o j : Nat) : (⟨b, o, none⟩ : Addr).add j = ⟨b, o + j, none⟩ := by unfold Addr.add; split <;> simp_all

theorem tis_cells {w : World} {b o : Nat} {P : List Ti} (h : TisAt w b o P) : ∀ j u, (tiCells P)[j]? = some u → w.cell? ((⟨b, o, none⟩ : Addr).add j) = some u := by
  intro j u hu
  have hjl : j < (tiCells P).length := (List.getElem?_eq_some_iff.1 hu).1
  rw [tiCells_length] at hjl
  have hd : j / 4 < P.length := by omega
  have h1 := tiCells_get P (j / 4) (j % 4) hd (by omega)
  rw [show j / 4 * 4 + j % 4 = j by omega, hu] at h1
  rw [addO]
  have hn := h.n _ hd
  have he := h.e _ hd
  have hk := h.k _ hd
  have hs := h.s _ hd
  rw [getD_at hd] at hn he hk hs
  have hm : j % 4 = 0 ∨ j % 4 = 1 ∨ j % 4 = 2 ∨ j % 4 = 3 := by omega
  rcases hm with hm | hm | hm | hm
  · rw [hm] at h1
    rw [show o + j = o + j / 4 * 4 by omega, hn]
    exact h1.symm
  · rw [hm] at h1
    rw [show o + j = o + j / 4 * 4 + 1 by omega, he]
    exact h1.symm
  · rw [hm] at h1
    rw [show o + j = o + j / 4 * 4 + 2 by omega, hk]
    exact h1.symm
  · rw [hm] at h1
    rw [show o + j = o + j / 4 * 4 + 3 by omega, hs]
    exact h1.symm

theorem tis_of_cells {w : World} {b : Nat} {P : List Ti} (h : ∀ j u, (tiCells P)[j]? = some u → w.cell? ((⟨b, 0, none⟩ : Addr).add j) = some u) : TisAt w b 0 P := by
  have key : ∀ j c u, j < P.length → c < 4 → (tiEnc (P.getD j default))[c]? = some u → w.cell? ⟨b, 0 + j * 4 + c, none⟩ = some u := by
    intro j c u hj hc hu
    have := h (j * 4 + c) u (by rw [tiCells_get P j c hj hc, ← getD_at hj]; exact hu)
    rw [addO] at this
    rw [Nat.add_assoc]
    exact this
  exact ⟨fun j hj => key j 0 _ hj (by omega) rfl, fun j hj => key j 1 _ hj (by omega) rfl, fun j hj => key j 2 _ hj (by omega) rfl, fun j hj => key j 3 _ hj (by omega) rfl⟩

theorem TisAt.upd {w w' : World} {b o : Nat} {P : List Ti} {S S' : Nat → Prop} (h : TisAt w b o P) (u : Upd S w S' w') (hb : b < w.heap.size) (hn : ¬ S b) : TisAt w' b o P where
  n := fun j hj => (u.cell hb hn _).trans (h.n j hj)
  e := fun j hj => (u.cell hb hn _).trans (h.e j hj)
  k := fun j hj => (u.cell hb hn _).trans (h.k j hj)
  s := fun j hj => (u.cell hb hn _).trans (h.s j hj)

theorem slt_tier : SlT Try.prog 39 63 (.agg #[.string ⟨#[]⟩, .int .i64 0, .int .i64 0, .int .i64 0]) 4 40 := ⟨Try.underlying39, info_parts (by kernel_rfl), rfl, by decide⟩

theorem tier_clone (b o c : Nat) (P : List Ti) (w : World) (hT : TisAt w b o P) (hP : P.length ≤ 1000) (h1 : 1 ≤ P.length) :
    Calls Try.prog 96 #[.slice (some ⟨b, o, none⟩) P.length c] w fun e w' =>
      ∃ b' c', e = .returned (.slice (some ⟨b', 0, none⟩) P.length c') ∧ P.length ≤ c' ∧ TisAt w' b' 0 P ∧ w.heap.size ≤ b' ∧ b' < w'.heap.size ∧ Below w.heap.size w w' := by
  have HT := hid hT
  clear hT
  have hq := fun w => Lib.run_eql_slice_nil (P := Try.prog) w 39 63 (some ⟨b, o, none⟩) P.length c 0 0 Try.underlying39
  go_enter Try.func96, Try.ntmps96
  go_wp2_with (at_builtin; refine wpList_app slt_tier _ rfl _ _ rfl w.heap.size _ 0 0 [] rfl (World.ownsRow_made w #[] 0 (Nat.le_refl _) (Nat.zero_le _) rfl) ⟨b, o, none⟩ P.length c (tiCells P) rfl ?c1 ?c2 ?c3 ?c4 ?c5 ?c6 ?_)
  case c1 => exact tiCells_length P
  case c2 =>
    intro j u hu
    first
    | exact Lib.cell?_alloc_some _ (tis_cells HT.out j u hu)
    | (rw [← addO]; exact Lib.cell?_alloc_some _ (tis_cells HT.out j u hu))
  case c3 => exact tiCells_one P
  case c4 => unfold maxLen; omega
  case c5 => omega
  case c6 => simp
  intro sa' cap' w1 hown hu
  have hnil : ∀ k, rowS (some ⟨w.heap.size, 0, none⟩) k → w.heap.size ≤ k := fun k hk => by have : w.heap.size = k := by simpa [rowS] using hk
                                                                                            omega
  have hB : Below w.heap.size w w1 := (below_al (Below.refl _ _) _).trans (hu.below (by simp) hnil)
  obtain ⟨g, cap, hv, hg1, hg2⟩ := hown.form (by omega)
  obtain ⟨rfl, _, rfl⟩ := Value.slice.inj hv
  have hcap : P.length ≤ cap' := by
    rcases hown.2 with ⟨hx, _⟩ | ⟨g', cap, cur, hx, _, _, hcap, _⟩
    · cases hx
    · obtain ⟨_, _, rfl⟩ := Value.slice.inj hx
      exact hcap
  have hT1 := tis_of_cells (hown.cells (g := g) rfl)
  have HB := hid hB
  have HT1 := hid hT1
  clear hv hown hu hnil hB hT1 hq
  go_wp2
  go_ret
  exact ⟨g, cap', by first | trivial | rfl | simp, hcap, HT1.out, hg1, hg2, HB.out⟩

theorem ints_clone (w : World) : Calls Try.prog 65 #[.slice none 0 0] w fun e w' => e = .returned (.slice none 0 0) ∧ w = w' := by
  have hq := fun w => Lib.run_eql_slice_nil (P := Try.prog) w 65 3 none 0 0 0 0 Try.underlying65
  go_enter Try.func65, Try.ntmps65
  go_wp2
  go_ret
  exact ⟨by first | trivial | rfl, by first | trivial | rfl⟩

theorem policy_copy (pn : ByteArray) (b o c : Nat) (P : List Ti) (w : World) (hT : TisAt w b o P) (hP : P.length ≤ 1000) (h1 : 1 ≤ P.length) (hb : b < w.heap.size) :
    Calls Try.prog 64 #[poV pn (some ⟨b, o, none⟩) P.length c] w fun e w' =>
      ∃ b' c', e = .returned (poV pn (some ⟨b', 0, none⟩) P.length c') ∧ P.length ≤ c' ∧ TisAt w' b' 0 P ∧ w.heap.size ≤ b' ∧ b' < w'.heap.size ∧ Below w.heap.size w w' := by
  have HT := hid hT
  clear hT
  have hB0 : Below w.heap.size w ((w.alloc (.cells #[.string pn, .slice (some ⟨b, o, none⟩) P.length c] 41)).alloc (.cells #[.string ⟨#[]⟩, .slice none 0 0] 41)) := below_al (below_al (Below.refl _ _) _) _
  have HB0 := hid hB0
  clear hB0
  go_enter Try.func64, Try.ntmps64
  go_wp2_with fail
  refine (tier_clone b o c P _ (HT.out.kept HB0.out hb) hP h1).mono ?_
  rintro e w1 ⟨b', c', rfl, hc', hT1, hb1, hb2, hB1⟩
  have k0 : w1.cell? ⟨w.heap.size, 0, none⟩ = some (.string pn) := ((bcell hB1).1 _ 0 (by simp; omega)).trans (by go_simp)
  have k1 : w1.cell? ⟨w.heap.size, 1, none⟩ = some (.slice (some ⟨b, o, none⟩) P.length c) := ((bcell hB1).1 _ 1 (by simp; omega)).trans (by go_simp)
  have f1 : w1.frozen? ⟨w.heap.size, 1, none⟩ = false := ((bcell hB1).2 _ 1 (by simp; omega)).trans (by go_simp)
  have y0 : w1.cell? ⟨w.heap.size + 1, 0, none⟩ = some (.string ⟨#[]⟩) := ((bcell hB1).1 _ 0 (by simp)).trans (by go_simp)
  have y1 : w1.cell? ⟨w.heap.size + 1, 1, none⟩ = some (.slice none 0 0) := ((bcell hB1).1 _ 1 (by simp)).trans (by go_simp)
  have z0 : w1.frozen? ⟨w.heap.size + 1, 0, none⟩ = false := ((bcell hB1).2 _ 0 (by simp)).trans (by go_simp)
  have z1 : w1.frozen? ⟨w.heap.size + 1, 1, none⟩ = false := ((bcell hB1).2 _ 1 (by simp)).trans (by go_simp)
  have HB1 := hid (below_then hB1 HB0.out)
  have HT1 := hid hT1
  have hb1' : w.heap.size + 2 ≤ b' := by simpa using hb1
  clear hB1 hT1 hb1
  go_wp2
  have hW : Below w.heap.size w (((w1.setCell ⟨w.heap.size, 1, none⟩ (.slice (some ⟨b', 0, none⟩) P.length c')).setCell ⟨w.heap.size + 1, 0, none⟩ (.string pn)).setCell ⟨w.heap.size + 1, 1, none⟩ (.slice (some ⟨b', 0, none⟩) P.length c')) :=
    ((HB1.out.setCell (p := ⟨w.heap.size, 1, none⟩) (Nat.le_refl _) _).setCell (p := ⟨w.heap.size + 1, 0, none⟩) (Nat.le_succ _) _).setCell (p := ⟨w.heap.size + 1, 1, none⟩) (Nat.le_succ _) _
  have hU : Upd (fun j => j = w.heap.size ∨ j = w.heap.size + 1) w1 (fun j => j = w.heap.size ∨ j = w.heap.size + 1) (((w1.setCell ⟨w.heap.size, 1, none⟩ (.slice (some ⟨b', 0, none⟩) P.length c')).setCell ⟨w.heap.size + 1, 0, none⟩ (.string pn)).setCell ⟨w.heap.size + 1, 1, none⟩ (.slice (some ⟨b', 0, none⟩) P.length c')) :=
    ((Upd.setCell w1 (p := ⟨w.heap.size, 1, none⟩) (Or.inl rfl) _).trans (Upd.setCell _ (p := ⟨w.heap.size + 1, 0, none⟩) (Or.inr rfl) _)).trans (Upd.setCell _ (p := ⟨w.heap.size + 1, 1, none⟩) (Or.inr rfl) _)
  have s0 : (((w1.setCell ⟨w.heap.size, 1, none⟩ (.slice (some ⟨b', 0, none⟩) P.length c')).setCell ⟨w.heap.size + 1, 0, none⟩ (.string pn)).setCell ⟨w.heap.size + 1, 1, none⟩ (.slice (some ⟨b', 0, none⟩) P.length c')).cell? ⟨w.heap.size + 1, 0, none⟩ = some (.string pn) := by go_simp
  have s1 : (((w1.setCell ⟨w.heap.size, 1, none⟩ (.slice (some ⟨b', 0, none⟩) P.length c')).setCell ⟨w.heap.size + 1, 0, none⟩ (.string pn)).setCell ⟨w.heap.size + 1, 1, none⟩ (.slice (some ⟨b', 0, none⟩) P.length c')).cell? ⟨w.heap.size + 1, 1, none⟩ = some (.slice (some ⟨b', 0, none⟩) P.length c') := by go_simp
  generalize ((w1.setCell ⟨w.heap.size, 1, none⟩ (.slice (some ⟨b', 0, none⟩) P.length c')).setCell ⟨w.heap.size + 1, 0, none⟩ (.string pn)).setCell ⟨w.heap.size + 1, 1, none⟩ (.slice (some ⟨b', 0, none⟩) P.length c') = W at *
  have hTW : TisAt W b' 0 P := HT1.out.upd hU hb2 (by omega)
  have HTW := hid hTW
  have HW := hid hW
  have hsz := hU.size
  clear hTW hW hU
  simp [bodyPost, results, Try.results64, go_sem, s0, s1]
  exact ⟨b', c', by first | trivial | rfl | exact ⟨rfl, rfl⟩, hc', HTW.out, by omega, by omega, HW.out⟩

theorem reach_of (now : Int) (pn : ByteArray) (b o c : Nat) (P : List Ti) (w : World) (hT : TisAt w b o P) (hP : P.length ≤ 1000) (h1 : 1 ≤ P.length) (hb : b < w.heap.size) :
    Calls Try.prog 40 #[poV pn (some ⟨b, o, none⟩) P.length c, .int .i64 now, .slice none 0 0] w fun e w' =>
      ∃ b' c', e = .returned (rcV now pn b' 0 P.length c') ∧ P.length ≤ c' ∧ TisAt w' b' 0 P ∧ w.heap.size ≤ b' ∧ b' < w'.heap.size ∧ Below w.heap.size w w' := by
  have HT := hid hT
  clear hT
  have hB0 : Below w.heap.size w ((w.alloc (.cells #[.string pn, .slice (some ⟨b, o, none⟩) P.length c] 41)).alloc (.cells #[.int .i64 0, .string ⟨#[]⟩, .slice none 0 0, .slice none 0 0] 67)) := below_al (below_al (Below.refl _ _) _) _
  have HB0 := hid hB0
  clear hB0
  go_enter Try.func40, Try.ntmps40
  go_wp2_with fail
  refine (policy_copy pn b o c P _ (HT.out.kept HB0.out hb) hP h1 (by simp; omega)).mono ?_
  rintro e w1 ⟨b', c', rfl, hc', hT1, hb1, hb2, hB1⟩
  have y0 : w1.cell? ⟨w.heap.size + 1, 0, none⟩ = some (.int .i64 0) := ((bcell hB1).1 _ 0 (by simp)).trans (by go_simp)
  have y1 : w1.cell? ⟨w.heap.size + 1, 1, none⟩ = some (.string ⟨#[]⟩) := ((bcell hB1).1 _ 1 (by simp)).trans (by go_simp)
  have y2 : w1.cell? ⟨w.heap.size + 1, 2, none⟩ = some (.slice none 0 0) := ((bcell hB1).1 _ 2 (by simp)).trans (by go_simp)
  have y3 : w1.cell? ⟨w.heap.size + 1, 3, none⟩ = some (.slice none 0 0) := ((bcell hB1).1 _ 3 (by simp)).trans (by go_simp)
  have z0 : w1.frozen? ⟨w.heap.size + 1, 0, none⟩ = false := ((bcell hB1).2 _ 0 (by simp)).trans (by go_simp)
  have z1 : w1.frozen? ⟨w.heap.size + 1, 1, none⟩ = false := ((bcell hB1).2 _ 1 (by simp)).trans (by go_simp)
  have z2 : w1.frozen? ⟨w.heap.size + 1, 2, none⟩ = false := ((bcell hB1).2 _ 2 (by simp)).trans (by go_simp)
  have z3 : w1.frozen? ⟨w.heap.size + 1, 3, none⟩ = false := ((bcell hB1).2 _ 3 (by simp)).trans (by go_simp)
  have HB1 := hid (below_then hB1 HB0.out)
  have HT1 := hid hT1
  have hb1' : w.heap.size + 2 ≤ b' := by simpa using hb1
  clear hB1 hT1 hb1
  go_wp2_with fail
  refine (ints_clone w1).mono ?_
  rintro e w2 ⟨rfl, rfl⟩
  go_wp2
  have hW : Below w.heap.size w ((((w1.setCell ⟨w.heap.size + 1, 0, none⟩ (.int .i64 now)).setCell ⟨w.heap.size + 1, 1, none⟩ (.string pn)).setCell ⟨w.heap.size + 1, 2, none⟩ (.slice (some ⟨b', 0, none⟩) P.length c')).setCell ⟨w.heap.size + 1, 3, none⟩ (.slice none 0 0)) :=
    (((HB1.out.setCell (p := ⟨w.heap.size + 1, 0, none⟩) (Nat.le_succ _) _).setCell (p := ⟨w.heap.size + 1, 1, none⟩) (Nat.le_succ _) _).setCell (p := ⟨w.heap.size + 1, 2, none⟩) (Nat.le_succ _) _).setCell (p := ⟨w.heap.size + 1, 3, none⟩) (Nat.le_succ _) _
  have hU : Upd (fun j => j = w.heap.size + 1) w1 (fun j => j = w.heap.size + 1) ((((w1.setCell ⟨w.heap.size + 1, 0, none⟩ (.int .i64 now)).setCell ⟨w.heap.size + 1, 1, none⟩ (.string pn)).setCell ⟨w.heap.size + 1, 2, none⟩ (.slice (some ⟨b', 0, none⟩) P.length c')).setCell ⟨w.heap.size + 1, 3, none⟩ (.slice none 0 0)) :=
    (((Upd.setCell (S := fun j => j = w.heap.size + 1) w1 (p := ⟨w.heap.size + 1, 0, none⟩) rfl _).trans (Upd.setCell (S := fun j => j = w.heap.size + 1) _ (p := ⟨w.heap.size + 1, 1, none⟩) rfl _)).trans (Upd.setCell (S := fun j => j = w.heap.size + 1) _ (p := ⟨w.heap.size + 1, 2, none⟩) rfl _)).trans (Upd.setCell (S := fun j => j = w.heap.size + 1) _ (p := ⟨w.heap.size + 1, 3, none⟩) rfl _)
  have s0 : ((((w1.setCell ⟨w.heap.size + 1, 0, none⟩ (.int .i64 now)).setCell ⟨w.heap.size + 1, 1, none⟩ (.string pn)).setCell ⟨w.heap.size + 1, 2, none⟩ (.slice (some ⟨b', 0, none⟩) P.length c')).setCell ⟨w.heap.size + 1, 3, none⟩ (.slice none 0 0)).cell? ⟨w.heap.size + 1, 0, none⟩ = some (.int .i64 now) := by go_simp
  have s1 : ((((w1.setCell ⟨w.heap.size + 1, 0, none⟩ (.int .i64 now)).setCell ⟨w.heap.size + 1, 1, none⟩ (.string pn)).setCell ⟨w.heap.size + 1, 2, none⟩ (.slice (some ⟨b', 0, none⟩) P.length c')).setCell ⟨w.heap.size + 1, 3, none⟩ (.slice none 0 0)).cell? ⟨w.heap.size + 1, 1, none⟩ = some (.string pn) := by go_simp
  have s2 : ((((w1.setCell ⟨w.heap.size + 1, 0, none⟩ (.int .i64 now)).setCell ⟨w.heap.size + 1, 1, none⟩ (.string pn)).setCell ⟨w.heap.size + 1, 2, none⟩ (.slice (some ⟨b', 0, none⟩) P.length c')).setCell ⟨w.heap.size + 1, 3, none⟩ (.slice none 0 0)).cell? ⟨w.heap.size + 1, 2, none⟩ = some (.slice (some ⟨b', 0, none⟩) P.length c') := by go_simp
  have s3 : ((((w1.setCell ⟨w.heap.size + 1, 0, none⟩ (.int .i64 now)).setCell ⟨w.heap.size + 1, 1, none⟩ (.string pn)).setCell ⟨w.heap.size + 1, 2, none⟩ (.slice (some ⟨b', 0, none⟩) P.length c')).setCell ⟨w.heap.size + 1, 3, none⟩ (.slice none 0 0)).cell? ⟨w.heap.size + 1, 3, none⟩ = some (.slice none 0 0) := by go_simp
  generalize ((((w1.setCell ⟨w.heap.size + 1, 0, none⟩ (.int .i64 now)).setCell ⟨w.heap.size + 1, 1, none⟩ (.string pn)).setCell ⟨w.heap.size + 1, 2, none⟩ (.slice (some ⟨b', 0, none⟩) P.length c')).setCell ⟨w.heap.size + 1, 3, none⟩ (.slice none 0 0)) = W at *
  have hTW : TisAt W b' 0 P := HT1.out.upd hU hb2 (by omega)
  have HTW := hid hTW
  have HW := hid hW
  have hsz := hU.size
  clear hTW hW hU
  simp [bodyPost, results, Try.results40, go_sem, s0, s1, s2, s3]
  exact ⟨b', c', by first | trivial | rfl | exact ⟨rfl, rfl⟩, hc', HTW.out, by omega, by omega, HW.out⟩

end Go.Proofs.Ytcbpaikklkmnbaa
