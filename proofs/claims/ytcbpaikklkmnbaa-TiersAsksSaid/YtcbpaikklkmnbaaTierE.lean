/- Which bucket and which tier: reach.Start, reach.Cover. -/
import Derived.Test.YtcbpaikklkmnbaaTierD
namespace Go.Proofs.Ytcbpaikklkmnbaa
open Go.RowKit Go.Proofs

set_option maxRecDepth 20000 in
set_option maxHeartbeats 1600000 in
theorem reach_start (now : Int) (pn : ByteArray) (b o c : Nat) (P : List Ti) (i : Nat) (q t : Int) (w : World) (hT : TisAt w b o P) (hb : b < w.heap.size) (hG : GoodP P) (h1 : 0 ≤ now) (h2 : now ≤ 1099511627776) (hi : i < P.length) (hq : q = (i : Nat)) (ht : 0 ≤ t) (ht2 : t ≤ 1099511627776) :
    Calls Try.prog 44 #[rcV now pn b o P.length c, .int .i64 q, .int .i64 t] w fun e w' =>
      e = .returned (.tuple #[.int .i64 (floorI t (P.getD i default).e), .bool (decide (fromI now P i ≤ floorI t (P.getD i default).e))]) ∧ Below w.heap.size w w' := by
  subst hq
  obtain ⟨E, hE⟩ : ∃ E, E = (P.getD i default).e := ⟨_, rfl⟩
  rw [← hE]
  have ce : w.cell? ⟨b, o + i * 4 + 1, none⟩ = some (.int .i64 E) := by rw [hE]; exact hT.e i hi
  have hE1 : 1 ≤ E := by rw [hE]; exact hG.e1 i hi
  have hE2 : E ≤ 1000000 := by rw [hE]; exact hG.e2 i hi
  have HG := hid hG
  have HT := hid hT
  have hd : decide (t < 0) = false := by simp; omega
  clear hE hG hT
  go_enter Try.func44, Try.ntmps44
  go_wp2_with fail
  refine (reach_in now pn b o P.length c i _ (by omega) (by omega)).mono ?_
  rintro e w1 ⟨rfl, hb1⟩
  obtain ⟨r, hB1⟩ := RcAt.box hb1
  have HR := hid r
  have HB1 := hid hB1
  obtain ⟨r0, r1, r2, r3⟩ := r
  have e1 : w1.cell? ⟨b, o + i * 4 + 1, none⟩ = some (.int .i64 E) := ((bcell hB1).1 b _ hb).trans ce
  have hb1w : b < w1.heap.size := Nat.lt_of_lt_of_le hb hB1.size
  clear hb1 hB1 ce
  go_wp2_with fail
  refine (floor_any t E w1 hE1 (by omega) (by omega) (by omega)).mono ?_
  rintro e w2 ⟨rfl, rfl⟩
  go_wp2_with fail
  refine (reach_from now pn b o c P i i w1 (HT.out.kept HB1.out hb) hb1w HG.out h1 h2 hi rfl).mono ?_
  rintro e w2 ⟨rfl, hb2⟩
  have HB2 : Hid (Below w.heap.size w w2) := HB1.out.trans (hb2.mono HB1.out.size)
  clear hb2
  go_wp2
  go_ret2
  exact ⟨by first | trivial | rfl, HB2.out⟩

/-- the first of n that reaches so far back; m are left -/
def coverF (f : Nat → Int) (q : Int) (n : Nat) : Nat → Nat
  | 0 => n - 1
  | m + 1 => if f (n - (m + 1)) ≤ q then n - (m + 1) else coverF f q n m

theorem coverF_lt (f : Nat → Int) (q : Int) (n : Nat) (hn : 1 ≤ n) : ∀ m, coverF f q n m < n
  | 0 => by unfold coverF; omega
  | m + 1 => by
    unfold coverF
    split
    · omega
    · exact coverF_lt f q n hn m

def coverI (now : Int) (P : List Ti) (q : Int) : Nat := coverF (fromI now P) q P.length P.length

set_option maxRecDepth 20000 in
set_option maxHeartbeats 1600000 in
theorem reach_cover (now : Int) (pn : ByteArray) (b o c : Nat) (P : List Ti) (q : Int) (w : World) (hT : TisAt w b o P) (hb : b < w.heap.size) (hG : GoodP P) (h1 : 0 ≤ now) (h2 : now ≤ 1099511627776) :
    Calls Try.prog 21 #[rcV now pn b o P.length c, .int .i64 q] w fun e w' => e = .returned (.int .i64 (coverI now P q : Nat)) ∧ Below w.heap.size w w' := by
  obtain ⟨R, hR⟩ : ∃ R, R = coverI now P q := ⟨_, rfl⟩
  rw [← hR]
  have hp := hG.pos
  have hl5 := hG.len
  have HG := hid hG
  have HT := hid hT
  have HR := hid hR
  clear hR hG hT
  go_enter Try.func21, Try.ntmps21
  go_wp2_with fail
  go_loopw [10] (fun i wr => ∃ k : Nat, k ≤ P.length ∧ i = .int .i64 k ∧ Hid (R = coverF (fromI now P) q P.length (P.length - k)) ∧ RcAt wr w.heap.size now pn b o P.length c ∧ Below w.heap.size w wr) (fun i _ => P.length - (intOf i).toNat)
  case atStart => exact ⟨0, by omega, by first | trivial | rfl, HR.out, ⟨by go_simp, by go_simp, by go_simp, by go_simp⟩, below_al (Below.refl _ _) _⟩
  case round =>
    obtain ⟨k, hk, rfl, hx, hr, hB⟩ := hrel
    have HRC := hid hr
    have HB := hid hB
    have hbw : b < wr.heap.size := Nat.lt_of_lt_of_le hb hB.size
    obtain ⟨r0, r1, r2, r3⟩ := hr
    have hgl := cell_lt r0
    clear hB
    by_cases hkn : k = P.length
    · have hd : decide ((k : Int) < P.length) = false := by simp; omega
      have hRe : R = P.length - 1 := by rw [hx.out, hkn, Nat.sub_self]; rfl
      have hRi : ((P.length : Nat) : Int) - 1 = (R : Nat) := by omega
      clear hRe
      go_wp2
      go_ret
      rw [← hRi]
      exact ⟨by first | trivial | rfl, HB.out⟩
    · have hk2 : k < P.length := by omega
      have hd : decide ((k : Int) < P.length) = true := by simp; omega
      have hstep : Hid (R = if fromI now P k ≤ q then k else coverF (fromI now P) q P.length (P.length - (k + 1))) := by
        show _ = _
        rw [hx.out, show P.length - k = (P.length - (k + 1)) + 1 by omega, coverF, show P.length - (P.length - (k + 1) + 1) = k by omega]
      go_wp2_with fail
      refine (reach_from now pn b o c P k k wr (HT.out.kept HB.out hb) hbw HG.out h1 h2 hk2 rfl).mono ?_
      rintro e w1 ⟨rfl, hb1⟩
      have HRC1 := hid (HRC.out.below hb1 hgl)
      have HB1 : Hid (Below w.heap.size w w1) := HB.out.trans (hb1.mono HB.out.size)
      clear hb1
      by_cases hf : fromI now P k ≤ q
      · have hd2 : decide (fromI now P k ≤ q) = true := by simp; omega
        go_wp2
        go_ret
        rw [hstep.out, if_pos hf]
        exact ⟨by first | trivial | rfl, HB1.out⟩
      · have hd2 : decide (fromI now P k ≤ q) = false := by simp; omega
        go_wp2
        go_roundw
        case rel => exact ⟨k + 1, by omega, by go_num, by show R = _; rw [hstep.out, if_neg (by omega : ¬ fromI now P k ≤ q)], HRC1.out, HB1.out⟩
        case measure => simp [intOf]; omega
end Go.Proofs.Ytcbpaikklkmnbaa
