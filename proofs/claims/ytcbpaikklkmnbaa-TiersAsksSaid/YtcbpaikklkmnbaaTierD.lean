/- How far back each tier reaches: the calls of package reach. -/
import Derived.Test.YtcbpaikklkmnbaaTierC
import Derived.Deep.RegionHeld3
namespace Go.Proofs.Ytcbpaikklkmnbaa
open Go.RowKit Go.Proofs

/-- a Reach as a value -/
abbrev rcV (now : Int) (pn : ByteArray) (b o n c : Nat) : Value := .agg #[.int .i64 now, .string pn, .slice (some ⟨b, o, none⟩) n c, .slice none 0 0]

structure GoodP (P : List Ti) : Prop where
  pos : 1 ≤ P.length
  len : P.length ≤ 5
  e1 : ∀ j, j < P.length → 1 ≤ (P.getD j default).e
  e2 : ∀ j, j < P.length → (P.getD j default).e ≤ 1000000
  k1 : ∀ j, j < P.length → 1 ≤ (P.getD j default).k
  k2 : ∀ j, j < P.length → (P.getD j default).k ≤ 1000000

theorem TisAt.kept {w w' : World} {b o B : Nat} {P : List Ti} (h : TisAt w b o P) (hb : Below B w w') (hB : b < B) : TisAt w' b o P where
  n := fun j hj => ((bcell hb).1 b _ hB).trans (h.n j hj)
  e := fun j hj => ((bcell hb).1 b _ hB).trans (h.e j hj)
  k := fun j hj => ((bcell hb).1 b _ hB).trans (h.k j hj)
  s := fun j hj => ((bcell hb).1 b _ hB).trans (h.s j hj)

/-- a Reach that lies in a block -/
structure RcAt (w : World) (g : Nat) (now : Int) (pn : ByteArray) (b o n c : Nat) : Prop where
  c0 : w.cell? ⟨g, 0, none⟩ = some (.int .i64 now)
  c1 : w.cell? ⟨g, 1, none⟩ = some (.string pn)
  c2 : w.cell? ⟨g, 2, none⟩ = some (.slice (some ⟨b, o, none⟩) n c)
  c3 : w.cell? ⟨g, 3, none⟩ = some (.slice none 0 0)

theorem RcAt.below {w w' : World} {g B : Nat} {now : Int} {pn : ByteArray} {b o n c : Nat} (h : RcAt w g now pn b o n c) (hb : Below B w w') (hB : g < B) : RcAt w' g now pn b o n c where
  c0 := ((bcell hb).1 g 0 hB).trans h.c0
  c1 := ((bcell hb).1 g 1 hB).trans h.c1
  c2 := ((bcell hb).1 g 2 hB).trans h.c2
  c3 := ((bcell hb).1 g 3 hB).trans h.c3

abbrev rcO (now : Int) (pn : ByteArray) (b o n c : Nat) : Obj := .cells #[.int .i64 now, .string pn, .slice (some ⟨b, o, none⟩) n c, .slice none 0 0] 67

theorem RcAt.box {w w1 : World} {now : Int} {pn : ByteArray} {b o n c : Nat} (hb1 : Below (w.alloc (rcO now pn b o n c)).heap.size (w.alloc (rcO now pn b o n c)) w1) :
    RcAt w1 w.heap.size now pn b o n c ∧ Below w.heap.size w w1 := by
  obtain ⟨h1, h2⟩ := blk_at (heap_alloc_new w (rcO now pn b o n c))
  have h0 : w.heap.size < (w.alloc (rcO now pn b o n c)).heap.size := by simp
  exact ⟨RcAt.below ⟨h1 0, h1 1, h1 2, h1 3⟩ hb1 h0, (below_al (Below.refl _ _) _).trans (hb1.mono (Nat.le_of_lt h0))⟩

theorem TisAt.kept' {w w' : World} {b o B : Nat} {P : List Ti} (hb : Below B w w') (h : TisAt w b o P) (hB : b < B) : TisAt w' b o P := h.kept hb hB

def fromI (now : Int) (P : List Ti) (i : Nat) : Int := max (floorI (now - (P.getD i default).k) (P.getD (min (i + 1) (P.length - 1)) default).e) 0

theorem reach_is (now : Int) (pn : ByteArray) (b o n c : Nat) (q : Int) (w : World) :
    Calls Try.prog 66 #[rcV now pn b o n c, .int .i64 q] w fun e w' => e = .returned (.bool (decide (0 ≤ q) && decide (q < n))) ∧ Below w.heap.size w w' := by
  go_enter Try.func66, Try.ntmps66
  go_wp2
  all_goals (go_ret; refine ⟨congrArg (fun b => Ending.returned (Value.bool b)) ?_, below_al (Below.refl _ _) _⟩)
  all_goals (first | rfl | (rw [Bool.eq_iff_iff]; simp; done) | (rw [Bool.eq_iff_iff]; simp; omega))

theorem reach_in (now : Int) (pn : ByteArray) (b o n c : Nat) (q : Int) (w : World) (h : 0 ≤ q) (h2 : q < n) :
    Calls Try.prog 66 #[rcV now pn b o n c, .int .i64 q] w fun e w' => e = .returned (.bool true) ∧ Below w.heap.size w w' := by
  refine (reach_is now pn b o n c q w).mono fun e w' ⟨he, hw⟩ => ⟨?_, hw⟩
  rw [he, decide_eq_true h, decide_eq_true h2]
  rfl

set_option maxRecDepth 20000 in
set_option maxHeartbeats 1600000 in
theorem reach_from (now : Int) (pn : ByteArray) (b o c : Nat) (P : List Ti) (i : Nat) (q : Int) (w : World) (hT : TisAt w b o P) (hb : b < w.heap.size) (hG : GoodP P) (h1 : 0 ≤ now) (h2 : now ≤ 1099511627776) (hi : i < P.length) (hq : q = (i : Nat)) :
    Calls Try.prog 47 #[rcV now pn b o P.length c, .int .i64 q] w fun e w' => e = .returned (.int .i64 (fromI now P i)) ∧ Below w.heap.size w w' := by
  subst hq
  have hlen := hG.len
  obtain ⟨K, hK⟩ : ∃ K, K = (P.getD i default).k := ⟨_, rfl⟩
  obtain ⟨m, hm⟩ : ∃ m, m = min (i + 1) (P.length - 1) := ⟨_, rfl⟩
  obtain ⟨E, hE⟩ : ∃ E, E = (P.getD m default).e := ⟨_, rfl⟩
  have hml : m < P.length := by omega
  have hR : Hid (fromI now P i = max (floorI (now - K) E) 0) := by show _ = _; rw [hK, hE, hm]; rfl
  have ck : w.cell? ⟨b, o + i * 4 + 2, none⟩ = some (.int .i64 K) := by rw [hK]; exact hT.k i hi
  have ce : w.cell? ⟨b, o + m * 4 + 1, none⟩ = some (.int .i64 E) := by rw [hE]; exact hT.e m hml
  have hK1 : 1 ≤ K := by rw [hK]; exact hG.k1 i hi
  have hK2 : K ≤ 1000000 := by rw [hK]; exact hG.k2 i hi
  have hE1 : 1 ≤ E := by rw [hE]; exact hG.e1 m hml
  have hE2 : E ≤ 1000000 := by rw [hE]; exact hG.e2 m hml
  have hmi : ∀ x : Int, x = ((P.length : Nat) : Int) - 1 → (if (i : Int) + 1 < x then (i : Int) + 1 else x) = (m : Nat) := by intro x hx; split <;> omega
  have HM := hid hmi
  have HG := hid hG
  have HT := hid hT
  clear hK hE hmi hG hT
  generalize P.length = n at *
  go_enter Try.func47, Try.ntmps47
  go_wp2_with fail
  refine (reach_is now pn b o n c i _).mono ?_
  rintro e w1 ⟨rfl, hb1⟩
  obtain ⟨⟨r0, r1, r2, r3⟩, hB1⟩ := RcAt.box hb1
  have k1 : w1.cell? ⟨b, o + i * 4 + 2, none⟩ = some (.int .i64 K) := ((bcell hB1).1 b _ hb).trans ck
  have e1 : w1.cell? ⟨b, o + m * 4 + 1, none⟩ = some (.int .i64 E) := ((bcell hB1).1 b _ hb).trans ce
  have HB1 := hid hB1
  clear hb1 hB1 ck ce
  rcases (show (i + 1 < n ∧ m = i + 1) ∨ (i + 1 = n ∧ m = i) by omega) with ⟨hc1, rfl⟩ | ⟨hc1, rfl⟩
  · clear hml hm HM
    go_wp2_with fail
    go_quiet (first | (go_at_call 73; exact quiet_eq ((back_any now K E _ hE1 (by omega) h1 h2 (by omega) (by omega)).mono (fun _ _ h => h))))
    go_wp2
    go_ret
    rw [hR.out]
    exact ⟨by first | trivial | rfl, below_drewN HB1.out _⟩
  · subst hc1
    have hlt1 : (m : Int) < (m : Int) + 1 := by omega
    clear hml hm HM
    go_wp2_with fail
    go_quiet (first | (go_at_call 73; exact quiet_eq ((back_any now K E _ hE1 (by omega) h1 h2 (by omega) (by omega)).mono (fun _ _ h => h))))
    go_wp2
    go_ret
    rw [hR.out]
    exact ⟨by first | trivial | rfl, below_drewN HB1.out _⟩

theorem floorI_nn (t e : Int) (ht : 0 ≤ t) : floorI t e = t - t.tmod e := by
  unfold floorI
  rw [if_neg (by have := Int.tmod_nonneg e ht; omega)]

/-- why a sample is not taken -/
def takesI (now : Int) (P : List Ti) (s : ByteArray) (t : Int) : Int :=
  if validB s = false ∨ t < 0 then 1 else if now < t then 25 else if t < fromI now P 0 then 24 else 0

set_option maxRecDepth 20000 in
set_option maxHeartbeats 1600000 in
theorem reach_takes (now : Int) (pn : ByteArray) (b o c : Nat) (P : List Ti) (s : ByteArray) (t v : Int) (w : World) (hT : TisAt w b o P) (hb : b < w.heap.size) (hG : GoodP P) (h1 : 0 ≤ now) (h2 : now ≤ 1099511627776) :
    Calls Try.prog 43 #[rcV now pn b o P.length c, .agg #[.string s, .int .i64 t, .int .i64 v]] w fun e w' => e = .returned (.int .i64 (takesI now P s t)) ∧ Below w.heap.size w w' := by
  have HG := hid hG
  have HT := hid hT
  have hlen := hG.pos
  have HR : Hid (takesI now P s t = if validB s = false ∨ t < 0 then 1 else if now < t then 25 else if t < fromI now P 0 then 24 else 0) := rfl
  clear hG hT
  go_enter Try.func43, Try.ntmps43
  go_wp2_with fail
  refine (valid_one _ 0 1 s _ (by go_simp)).mono ?_
  rintro e w1 ⟨rfl, rfl⟩
  cases hv : validB s with
  | false =>
    go_wp2
    go_ret
    rw [HR.out, if_pos (Or.inl hv)]
    exact ⟨by first | trivial | rfl, below_al (below_al (below_al (Below.refl _ _) _) _) _⟩
  | true =>
    by_cases ht : t < 0
    · have hd : decide (t < 0) = true := by simp; omega
      go_wp2
      go_ret
      rw [HR.out, if_pos (Or.inr ht)]
      exact ⟨by first | trivial | rfl, below_al (below_al (below_al (Below.refl _ _) _) _) _⟩
    · have hd : decide (t < 0) = false := by simp; omega
      have hno : ¬ (validB s = false ∨ t < 0) := by rw [hv]; simp; omega
      have HR1 : Hid (takesI now P s t = if now < t then 25 else if t < fromI now P 0 then 24 else 0) := by
        show _ = _
        rw [HR.out, if_neg hno]
      clear HR hno
      by_cases hf : now < t
      · have hd2 : decide (now < t) = true := by simp; omega
        go_wp2
        go_ret
        rw [HR1.out, if_pos hf]
        exact ⟨by first | trivial | rfl, below_al (below_al (below_al (Below.refl _ _) _) _) _⟩
      · have hd2 : decide (now < t) = false := by simp; omega
        go_wp2_with fail
        have hw1 : Below w.heap.size w (((w.alloc (rcO now pn b o P.length c)).alloc (.cells #[.string s, .int .i64 t, .int .i64 v] 93)).alloc (.cells #[.string s] 9)) := below_al (below_al (below_al (Below.refl _ _) _) _) _
        have q0 : RcAt (((w.alloc (rcO now pn b o P.length c)).alloc (.cells #[.string s, .int .i64 t, .int .i64 v] 93)).alloc (.cells #[.string s] 9)) w.heap.size now pn b o P.length c := ⟨by go_simp, by go_simp, by go_simp, by go_simp⟩
        have q1 : (((w.alloc (rcO now pn b o P.length c)).alloc (.cells #[.string s, .int .i64 t, .int .i64 v] 93)).alloc (.cells #[.string s] 9)).cell? ⟨w.heap.size + 1, 1, none⟩ = some (.int .i64 t) := by go_simp
        generalize (((w.alloc (rcO now pn b o P.length c)).alloc (.cells #[.string s, .int .i64 t, .int .i64 v] 93)).alloc (.cells #[.string s] 9)) = W at hw1 q0 q1 ⊢
        have HQ := hid q0
        have HW := hid hw1
        have hbW : b < W.heap.size := Nat.lt_of_lt_of_le hb hw1.size
        have HTW := hid (HT.out.kept hw1 hb)
        obtain ⟨z0, z1, z2, z3⟩ := q0
        have hgW := cell_lt z0
        have hsW := cell_lt q1
        clear hw1
        go_region_with (first
          | (go_at_call 66; refine (reach_in now pn b o P.length c 0 _ (by omega) (by omega)).mono ?_; rintro e w1 ⟨rfl, hb1⟩; have a0 : w1.cell? ⟨w.heap.size, 0, none⟩ = _ := ((bcell hb1).1 _ 0 hgW).trans z0; have a1 : w1.cell? ⟨w.heap.size, 1, none⟩ = _ := ((bcell hb1).1 _ 1 hgW).trans z1; have a2 : w1.cell? ⟨w.heap.size, 2, none⟩ = _ := ((bcell hb1).1 _ 2 hgW).trans z2; have a3 : w1.cell? ⟨w.heap.size, 3, none⟩ = _ := ((bcell hb1).1 _ 3 hgW).trans z3; have a4 : w1.cell? ⟨w.heap.size + 1, 1, none⟩ = _ := ((bcell hb1).1 _ 1 hsW).trans q1; have HT1 : Hid (TisAt w1 b o P) := TisAt.kept' hb1 ⟨HTW.out.n, HTW.out.e, HTW.out.k, HTW.out.s⟩ hbW; have hb1w : b < w1.heap.size := Nat.lt_of_lt_of_le hbW hb1.size; have HB1 : Hid (Below w.heap.size w w1) := (by first | exact HW.out.trans (hb1.mono HW.out.size) | exact (below_drewN HW.out _).trans (hb1.mono HW.out.size) | exact (show Below w.heap.size w W.drew from below_drewN HW.out 1).trans (hb1.mono HW.out.size)); clear hb1)
          | (go_at_call 47; refine (reach_from now pn b o c P 0 0 _ HT1.out hb1w HG.out h1 h2 hlen rfl).mono ?_; rintro e w2 ⟨rfl, hb2⟩; have d4 : w2.cell? ⟨w.heap.size + 1, 1, none⟩ = _ := ((bcell hb2).1 _ 1 (cell_lt a4)).trans a4; have HB2 : Hid (Below w.heap.size w w2) := (by first | exact HB1.out.trans (hb2.mono HB1.out.size) | exact (below_drewN HB1.out _).trans (hb2.mono HB1.out.size)); clear hb2))
        all_goals
          by_cases ho : t < fromI now P 0
          · have hd3 : decide (t < fromI now P 0) = true := by simp; omega
            go_wp2
            go_ret
            rw [HR1.out, if_neg (by omega : ¬ now < t), if_pos ho]
            exact ⟨by first | trivial | rfl, HB2.out⟩
          · have hd3 : decide (t < fromI now P 0) = false := by simp; omega
            go_wp2
            go_ret
            rw [HR1.out, if_neg (by omega : ¬ now < t), if_neg (by omega : ¬ t < fromI now P 0)]
            exact ⟨by first | trivial | rfl, HB2.out⟩
end Go.Proofs.Ytcbpaikklkmnbaa
