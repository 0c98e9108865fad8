/- May a policy be? policy.Check. -/
import Derived.Test.YtcbpaikklkmnbaaTierS
namespace Go.Proofs.Ytcbpaikklkmnbaa
open Go.RowKit Go.Proofs
set_option maxRecDepth 20000
set_option maxHeartbeats 1600000

/-- may a policy be? -/
def checkB (pn : ByteArray) (P : List Ti) : Bool :=
  validB pn && (decide (1 ≤ (P.length : Int)) && decide ((P.length : Int) ≤ 5)) && (List.range P.length).all (fun i => fitsB (P.getD i default) (P.take i))

theorem checkB_all {pn : ByteArray} {P : List Ti} (hv : validB pn = true) (h1 : 1 ≤ P.length) (h2 : P.length ≤ 5) (h : ∀ i, i < P.length → fitsB (P.getD i default) (P.take i) = true) : checkB pn P = true := by
  unfold checkB
  rw [hv, decide_eq_true (show 1 ≤ (P.length : Int) by omega), decide_eq_true (show (P.length : Int) ≤ 5 by omega)]
  simp only [Bool.true_and, List.all_eq_true, List.mem_range]
  exact h

theorem checkB_not {pn : ByteArray} {P : List Ti} {i : Nat} (hi : i < P.length) (h : fitsB (P.getD i default) (P.take i) = false) : checkB pn P = false := by
  unfold checkB
  have : (List.range P.length).all (fun i => fitsB (P.getD i default) (P.take i)) = false := by
    rw [List.all_eq_false]
    exact ⟨i, List.mem_range.2 hi, by rw [h]; simp⟩
  rw [this, Bool.and_false]

theorem TisAt.take {w : World} {b o : Nat} {P : List Ti} (h : TisAt w b o P) (n : Nat) : TisAt w b o (P.take n) := by
  have hg : ∀ j, j < (P.take n).length → (P.take n).getD j default = P.getD j default ∧ j < P.length := by
    intro j hj
    rw [List.length_take] at hj
    have hjl : j < P.length := by omega
    refine ⟨?_, hjl⟩
    rw [List.getD_eq_getElem?_getD, List.getD_eq_getElem?_getD, List.getElem?_take, if_pos (by omega)]
  exact ⟨fun j hj => by rw [(hg j hj).1]; exact h.n j (hg j hj).2, fun j hj => by rw [(hg j hj).1]; exact h.e j (hg j hj).2, fun j hj => by rw [(hg j hj).1]; exact h.k j (hg j hj).2, fun j hj => by rw [(hg j hj).1]; exact h.s j (hg j hj).2⟩

theorem fits_at (t : Ti) (b o c n : Nat) (P : List Ti) (v : Bool) (w : World) (hT : TisAt w b o P) (hP : P.length ≤ 1000) (hb : b < w.heap.size) (hn : n ≤ P.length) (hv : fitsB t (P.take n) = v) :
    Calls Try.prog 63 #[tiV t, .slice (some ⟨b, o, none⟩) n c] w fun e w' => e = .returned (.bool v) ∧ Below w.heap.size w w' := by
  have h := policy_fits t b o c (P.take n) w (hT.take n) (by rw [List.length_take]; omega) hb
  rw [List.length_take, Nat.min_eq_left hn, hv] at h
  exact h

abbrev poV (pn : ByteArray) (a : Option Addr) (n c : Nat) : Value := .agg #[.string pn, .slice a n c]

theorem policy_check (pn : ByteArray) (a : Option Addr) (b o c : Nat) (P : List Ti) (w : World) (ha : P ≠ [] → a = some ⟨b, o, none⟩ ∧ b < w.heap.size) (hT : TisAt w b o P) (hP : P.length ≤ 1000) (hc : P.length ≤ c) :
    Calls Try.prog 38 #[poV pn a P.length c] w fun e w' => ∃ n : Int, e = .returned (.tuple #[.int .i64 (if checkB pn P then 0 else 23), .int .i64 n]) ∧ Below w.heap.size w w' := by
  obtain ⟨R, hR⟩ : ∃ R, R = checkB pn P := ⟨_, rfl⟩
  rw [← hR]
  have HR := hid hR
  have HT := hid hT
  have HA := hid ha
  clear hR hT ha
  go_enter Try.func38, Try.ntmps38
  go_wp2_with fail
  refine (valid_one _ 0 1 pn _ (by go_simp)).mono ?_
  rintro x w1 ⟨rfl, rfl⟩
  cases hv : validB pn with
  | false =>
    have hRf : R = false := by rw [HR.out]; unfold checkB; rw [hv]; simp
    subst hRf
    go_wp2
    go_ret2
    exact ⟨⟨_, by first | trivial | rfl⟩, below_al (below_al (Below.refl _ _) _) _⟩
  | true =>
    have HV := hid hv
    clear hv
    go_wp2_with fail
    refine (within_any P.length 5 _).mono ?_
    rintro x w1 ⟨rfl, rfl⟩
    cases hk : (decide (1 ≤ (P.length : Int)) && decide ((P.length : Int) ≤ 5)) with
    | false =>
      have hRf : R = false := by rw [HR.out]; unfold checkB; rw [hk]; simp
      subst hRf
      clear hk
      go_wp2
      go_ret2
      exact ⟨⟨_, by first | trivial | rfl⟩, below_al (below_al (Below.refl _ _) _) _⟩
    | true =>
      have hpl : 1 ≤ P.length ∧ P.length ≤ 5 := by simp at hk; omega
      obtain ⟨rfl, hb⟩ := HA.out (by intro h; rw [h] at hpl; simp at hpl)
      clear hk
      go_wp2_with fail
      go_loopw [21] (fun i wr => ∃ k : Nat, k ≤ P.length ∧ i = .int .i64 k ∧ wr.cell? ⟨w.heap.size, 1, none⟩ = some (.slice (some ⟨b, o, none⟩) P.length c) ∧ Hid (∀ j, j < k → fitsB (P.getD j default) (P.take j) = true) ∧ Below w.heap.size w wr) (fun i _ => P.length - (intOf i).toNat)
      case atStart => exact ⟨0, by omega, by first | trivial | rfl, by go_simp, fun j h => by omega, below_al (below_al (Below.refl _ _) _) _⟩
      case round =>
        obtain ⟨k, hk, rfl, hcell, hf, hB⟩ := hrel
        have HB := hid hB
        have hbw : b < wr.heap.size := Nat.lt_of_lt_of_le hb hB.size
        clear hB
        by_cases hkn : k = P.length
        · have hd : decide ((k : Int) < P.length) = false := by simp; omega
          have hRt : R = true := by rw [HR.out]; exact checkB_all HV.out hpl.1 hpl.2 (fun i hi => hf.out i (by omega))
          subst hRt
          go_wp2
          go_ret2
          exact ⟨⟨_, by first | trivial | rfl⟩, HB.out⟩
        · have hk2 : k < P.length := by omega
          have hd : decide ((k : Int) < P.length) = true := by simp; omega
          obtain ⟨x, hx⟩ : ∃ x, x = P.getD k default := ⟨_, rfl⟩
          have hTr := HT.out.kept HB.out hb
          have c0 := hTr.n k hk2
          have c1 := hTr.e k hk2
          have c2 := hTr.k k hk2
          have c3 := hTr.s k hk2
          rw [← hx] at c0 c1 c2 c3
          have HX := hid hx
          have HTR := hid hTr
          have hwr := cell_lt hcell
          clear hx hTr
          obtain ⟨v, hv⟩ : ∃ v, fitsB x (P.take k) = v := ⟨_, rfl⟩
          have HFV := hid hv
          clear hv
          go_wp2_with fail
          have hW : Below wr.heap.size wr (wr.alloc (.cells #[.string x.n, .int .i64 x.e, .int .i64 x.k, .int .i64 x.s] 63)) := below_al (Below.refl _ _) _
          have p0 := (blk_at (heap_alloc_new wr (.cells #[.string x.n, .int .i64 x.e, .int .i64 x.k, .int .i64 x.s] 63))).1
          have d0 := p0 0
          have d1 := p0 1
          have d2 := p0 2
          have d3 := p0 3
          have hcW := ((bcell hW).1 _ 1 hwr).trans hcell
          clear p0
          generalize wr.alloc (.cells #[.string x.n, .int .i64 x.e, .int .i64 x.k, .int .i64 x.s] 63) = W at *
          have HTW := hid (HTR.out.kept hW hbw)
          have HBW : Hid (Below w.heap.size w W) := HB.out.trans (hW.mono HB.out.size)
          have hbW : b < W.heap.size := Nat.lt_of_lt_of_le hbw hW.size
          have hwW := cell_lt hcW
          clear hW c0 c1 c2 c3
          first
          | (go_region_with (first
              | (go_at_call 63; refine (fits_at x b o c k P v _ (by exact ⟨HTW.out.n, HTW.out.e, HTW.out.k, HTW.out.s⟩) hP (by exact hbW) (by omega) HFV.out).mono ?_; rintro y w1 ⟨rfl, hb1⟩; have e1 : w1.cell? ⟨w.heap.size, 1, none⟩ = _ := ((bcell hb1).1 _ 1 hwW).trans hcW; have HB1 : Hid (Below w.heap.size w w1) := (by first | exact HBW.out.trans (hb1.mono HBW.out.size) | exact (below_drewN HBW.out _).trans (hb1.mono HBW.out.size) | exact (show Below w.heap.size w W.drew from below_drewN HBW.out 1).trans (hb1.mono HBW.out.size)); clear hb1)))
          | fail
          all_goals
            cases v with
            | false =>
              have hRf : R = false := by rw [HR.out]; exact checkB_not hk2 (by rw [← HX.out]; exact HFV.out)
              subst hRf
              go_wp2
              go_ret2
              exact ⟨⟨_, by first | trivial | rfl⟩, HB1.out⟩
            | true =>
              go_wp2
              go_roundw
              case rel =>
                refine ⟨k + 1, by omega, by go_num, e1, fun j hj => ?_, HB1.out⟩
                by_cases hjk : j = k
                · rw [hjk, ← HX.out]
                  exact HFV.out
                · exact hf.out j (by omega)
              case measure => simp [intOf]; omega
end Go.Proofs.Ytcbpaikklkmnbaa
