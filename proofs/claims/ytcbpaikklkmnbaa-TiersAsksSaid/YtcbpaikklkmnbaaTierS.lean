/- May a policy be? The calls of package policy. -/
import Derived.Test.YtcbpaikklkmnbaaTierM
namespace Go.Proofs.Ytcbpaikklkmnbaa
open Go.RowKit Go.Proofs
set_option maxRecDepth 20000
set_option maxHeartbeats 1600000

abbrev tiV (x : Ti) : Value := .agg #[.string x.n, .int .i64 x.e, .int .i64 x.k, .int .i64 x.s]

theorem same_name (x : Ti) (bt : Nat) (nm : ByteArray) (w : World) (h : w.cell? ⟨bt, 0, none⟩ = some (.string nm)) :
    Calls Try.prog 94 #[tiV x, .pointer (some ⟨bt, 0, none⟩)] w fun e w' => e = .returned (.bool (decide (x.n = nm))) ∧ Below w.heap.size w w' := by
  have hl := cell_lt h
  go_enter Try.func94, Try.ntmps94
  go_wp2
  go_ret
  refine ⟨congrArg (fun b => Ending.returned (Value.bool b)) ?_, below_al (Below.refl _ _) _⟩
  first
  | rfl
  | (simp; done)
  | (by_cases hq : x.n = nm
     · simp [hq]
     · simp [hq, show ¬ x.n.toList = nm.toList from fun h => hq (toList_inj h)])

/-- is a name among those of some tiers? -/
def knownB (nm : ByteArray) (P : List Ti) : Bool := P.any (fun x => decide (x.n = nm))

theorem tier_index (b o c bt : Nat) (P : List Ti) (nm : ByteArray) (w : World) (hT : TisAt w b o P) (hP : P.length ≤ 1000) (hb : b < w.heap.size) (h : w.cell? ⟨bt, 0, none⟩ = some (.string nm)) :
    Calls Try.prog 113 #[.slice (some ⟨b, o, none⟩) P.length c, .func (.func 94) #[] #[.pointer (some ⟨bt, 0, none⟩)]] w fun e w' =>
      ∃ v : Int, e = .returned (.int .i64 v) ∧ decide (0 ≤ v) = knownB nm P ∧ Below w.heap.size w w' := by
  have hl := cell_lt h
  have HT := hid hT
  have HC := hid h
  clear hT h
  go_enter Try.func113, Try.ntmps113
  go_wp2_with fail
  go_loopw [8] (fun i wr => ∃ k : Nat, k ≤ P.length ∧ i = .int .i64 k ∧ Hid (knownB nm (P.take k) = false) ∧ Below w.heap.size w wr) (fun i _ => P.length - (intOf i).toNat)
  case atStart => exact ⟨0, by omega, by first | trivial | rfl, by rfl, Below.refl _ _⟩
  case round =>
    obtain ⟨k, hk, rfl, hq, hb⟩ := hrel
    have HB := hid hb
    clear hb
    by_cases hkn : k = P.length
    · have hd : decide ((k : Int) < P.length) = false := by simp; omega
      have hall : Hid (knownB nm P = false) := by
        have := hq.out
        rw [hkn, List.take_length] at this
        exact this
      go_wp2
      go_ret
      exact ⟨_, rfl, by rw [hall.out]; rfl, HB.out⟩
    · have hk2 : k < P.length := by omega
      have hd : decide ((k : Int) < P.length) = true := by simp; omega
      obtain ⟨x, hx⟩ : ∃ x, x = P.getD k default := ⟨_, rfl⟩
      have hTr := HT.out.kept HB.out (by assumption)
      have c0 := hTr.n k hk2
      have c1 := hTr.e k hk2
      have c2 := hTr.k k hk2
      have c3 := hTr.s k hk2
      rw [← hx] at c0 c1 c2 c3
      have hx2 : x = P[k] := by rw [hx, List.getD_eq_getElem?_getD, List.getElem?_eq_getElem hk2]; rfl
      have HX := hid hx2
      clear hx hx2 hTr
      go_wp2_with fail
      refine (same_name x bt nm wr (((bcell HB.out).1 _ 0 hl).trans HC.out)).mono ?_
      rintro e w1 ⟨rfl, hb1⟩
      have HB1 : Hid (Below w.heap.size w w1) := HB.out.trans (hb1.mono HB.out.size)
      clear hb1
      by_cases hv : x.n = nm
      · have hd2 : decide (x.n = nm) = true := by simp; exact hv
        have hkn2 : Hid (knownB nm P = true) := by
          show P.any _ = true
          rw [List.any_eq_true]
          exact ⟨P[k], List.getElem_mem _, by rw [← HX.out]; exact hd2⟩
        clear hv
        go_wp2
        go_ret
        exact ⟨_, rfl, by rw [hkn2.out]; simp, HB1.out⟩
      · have hd2 : decide (x.n = nm) = false := by simp; exact hv
        have hst : Hid (knownB nm (P.take (k + 1)) = false) := by
          show (P.take (k + 1)).any _ = false
          have h1 : (P.take k).any (fun x => decide (x.n = nm)) = false := hq.out
          rw [List.take_succ_eq_append_getElem hk2, List.any_append, h1, ← HX.out]
          simp [hv]
        clear hv
        go_wp2
        go_roundw
        case rel => exact ⟨k + 1, by omega, by go_num, hst.out, HB1.out⟩
        case measure => simp [intOf]; omega

theorem tier_contains (b o c bt : Nat) (P : List Ti) (nm : ByteArray) (w : World) (hT : TisAt w b o P) (hP : P.length ≤ 1000) (hb : b < w.heap.size) (h : w.cell? ⟨bt, 0, none⟩ = some (.string nm)) :
    Calls Try.prog 93 #[.slice (some ⟨b, o, none⟩) P.length c, .func (.func 94) #[] #[.pointer (some ⟨bt, 0, none⟩)]] w fun e w' =>
      e = .returned (.bool (knownB nm P)) ∧ Below w.heap.size w w' := by
  go_enter Try.func93, Try.ntmps93
  go_wp2_with fail
  refine (tier_index b o c bt P nm w hT hP hb h).mono ?_
  rintro e w1 ⟨v, rfl, hv, hb1⟩
  have HV := hid hv
  clear hv
  go_wp2
  go_ret
  rw [← HV.out]
  exact ⟨by first | trivial | rfl | simp, hb1⟩

/-- may a tier stand behind others? -/
def fitsB (t : Ti) (P : List Ti) : Bool :=
  validB t.n && (decide (1 ≤ t.k) && decide (t.k ≤ 1000000)) && (decide (1 ≤ t.s) && decide (t.s ≤ 8)) &&
  (if P.length = 0 then decide (t.e = 1) else
    !knownB t.n P && decide ((P.getD (P.length - 1) default).e < t.e) && decide (t.e ≤ 1000000) && (decide (1 ≤ (P.getD (P.length - 1) default).e) && decide (t.e.tmod (P.getD (P.length - 1) default).e = 0)) && decide ((P.getD (P.length - 1) default).k ≤ t.k))

theorem within_is (n m : Int) (v : Bool) (hv : (decide (1 ≤ n) && decide (n ≤ m)) = v) (w : World) : Calls Try.prog 62 #[.int .i64 n, .int .i64 m] w fun e w' => e = .returned (.bool v) ∧ w = w' := by
  rw [← hv]
  exact within_any n m w

theorem policy_fits (t : Ti) (b o c : Nat) (P : List Ti) (w : World) (hT : TisAt w b o P) (hP : P.length ≤ 1000) (hb : b < w.heap.size) :
    Calls Try.prog 63 #[tiV t, .slice (some ⟨b, o, none⟩) P.length c] w fun e w' => e = .returned (.bool (fitsB t P)) ∧ Below w.heap.size w w' := by
  obtain ⟨R, hR⟩ : ∃ R, R = fitsB t P := ⟨_, rfl⟩
  rw [← hR]
  have HR := hid hR
  have HT := hid hT
  clear hR hT
  go_enter Try.func63, Try.ntmps63
  go_wp2_with fail
  refine (valid_one _ 0 1 t.n _ (by go_simp)).mono ?_
  rintro x w1 ⟨rfl, rfl⟩
  cases hv : validB t.n with
  | false =>
    have hRf : R = false := by rw [HR.out]; unfold fitsB; rw [hv]; simp
    go_wp2
    go_ret
    rw [hRf]
    exact ⟨by first | trivial | rfl, below_al (below_al (Below.refl _ _) _) _⟩
  | true =>
    have HV := hid hv
    clear hv
    go_wp2_with fail
    refine (within_any t.k 1000000 _).mono ?_
    rintro x w1 ⟨rfl, rfl⟩
    cases hk : (decide (1 ≤ t.k) && decide (t.k ≤ 1000000)) with
    | false =>
      have hRf : R = false := by rw [HR.out]; unfold fitsB; rw [hk]; simp
      clear hk
      go_wp2
      go_ret
      rw [hRf]
      exact ⟨by first | trivial | rfl, below_al (below_al (Below.refl _ _) _) _⟩
    | true =>
      have HK := hid hk
      clear hk
      go_wp2_with fail
      refine (within_any t.s 8 _).mono ?_
      rintro x w1 ⟨rfl, rfl⟩
      cases hs : (decide (1 ≤ t.s) && decide (t.s ≤ 8)) with
      | false =>
        have hRf : R = false := by rw [HR.out]; unfold fitsB; rw [hs]; simp
        clear hs
        go_wp2
        go_ret
        rw [hRf]
        exact ⟨by first | trivial | rfl, below_al (below_al (Below.refl _ _) _) _⟩
      | true =>
        have HSS := hid hs
        clear hs
        by_cases h0 : P.length = 0
        · have hRe : R = decide (t.e = 1) := by rw [HR.out]; unfold fitsB; rw [HV.out, HK.out, HSS.out, if_pos h0]; simp
          rw [h0]
          clear h0
          go_wp2
          go_ret
          rw [hRe]
          exact ⟨by first | trivial | rfl | (congr 2; rw [Bool.eq_iff_iff]; simp; done), below_al (below_al (Below.refl _ _) _) _⟩
        · have hl : P.length - 1 < P.length := by omega
          obtain ⟨x, hx⟩ : ∃ x, x = P.getD (P.length - 1) default := ⟨_, rfl⟩
          have hRe : Hid (R = (!knownB t.n P && decide (x.e < t.e) && decide (t.e ≤ 1000000) && (decide (1 ≤ x.e) && decide (t.e.tmod x.e = 0)) && decide (x.k ≤ t.k))) := by
            show _ = _
            rw [HR.out]; unfold fitsB; rw [HV.out, HK.out, HSS.out, if_neg h0, ← hx]; simp
          have c0 := HT.out.n _ hl
          have c1 := HT.out.e _ hl
          have c2 := HT.out.k _ hl
          have c3 := HT.out.s _ hl
          rw [← hx] at c0 c1 c2 c3
          obtain ⟨q, hq⟩ : ∃ q, q = P.length - 1 := ⟨_, rfl⟩
          rw [← hq] at c0 c1 c2 c3
          have hqi : ((P.length : Nat) : Int) - 1 = (q : Nat) := by omega
          have hpl : P.length = q + 1 := by omega
          have HPL := hid hpl
          clear hx hl HR hq hpl
          have hB0 : Below w.heap.size w (((w.alloc (.cells #[.string t.n, .int .i64 t.e, .int .i64 t.k, .int .i64 t.s] 63)).alloc (.cells #[.string t.n] 9)).alloc (.cells #[.string x.n, .int .i64 x.e, .int .i64 x.k, .int .i64 x.s] 63)) := below_al (below_al (below_al (Below.refl _ _) _) _) _
          have HB0 := hid hB0
          clear hB0
          go_wp2_with fail
          refine (tier_contains b o c w.heap.size P t.n _ (HT.out.kept HB0.out hb) hP (by simp; omega) (by go_simp)).mono ?_
          rintro y w1 ⟨rfl, hb1⟩
          have t1 : w1.cell? ⟨w.heap.size, 1, none⟩ = some (.int .i64 t.e) := ((bcell hb1).1 _ 1 (by simp; omega)).trans (by go_simp)
          have t2 : w1.cell? ⟨w.heap.size, 2, none⟩ = some (.int .i64 t.k) := ((bcell hb1).1 _ 2 (by simp; omega)).trans (by go_simp)
          have x1 : w1.cell? ⟨w.heap.size + 1 + 1, 1, none⟩ = some (.int .i64 x.e) := ((bcell hb1).1 _ 1 (by simp)).trans (by go_simp)
          have x2 : w1.cell? ⟨w.heap.size + 1 + 1, 2, none⟩ = some (.int .i64 x.k) := ((bcell hb1).1 _ 2 (by simp)).trans (by go_simp)
          have HB1 := hid (below_then hb1 HB0.out)
          clear hb1 c0 c1 c2 c3
          cases hkn : knownB t.n P with
          | true =>
            have hRf : R = false := by rw [hRe.out, hkn]; rfl
            clear hkn
            go_wp2
            go_ret
            rw [hRf]
            exact ⟨by first | trivial | rfl, HB1.out⟩
          | false =>
            have HKN := hid hkn
            clear hkn
            by_cases he : x.e < t.e
            · by_cases hm : t.e ≤ 1000000
              · have d1 : decide (x.e < t.e) = true := decide_eq_true he
                have d2 : decide (t.e ≤ 1000000) = true := decide_eq_true hm
                have hRe2 : Hid (R = ((decide (1 ≤ x.e) && decide (t.e.tmod x.e = 0)) && decide (x.k ≤ t.k))) := by
                  show _ = _
                  rw [hRe.out, HKN.out, d1, d2]; simp
                clear he hm
                go_wp2_with fail
                refine (divides_any x.e t.e w1).mono ?_
                rintro y w2 ⟨rfl, rfl⟩
                cases hdv : (decide (1 ≤ x.e) && decide (t.e.tmod x.e = 0)) with
                | false =>
                  have hRf : R = false := by rw [hRe2.out, hdv]; rfl
                  clear hdv
                  go_wp2
                  go_ret
                  rw [hRf]
                  exact ⟨by first | trivial | rfl, HB1.out⟩
                | true =>
                  have hRf : R = decide (x.k ≤ t.k) := by rw [hRe2.out, hdv]; simp
                  clear hdv
                  go_wp2
                  go_ret
                  rw [hRf]
                  exact ⟨by first | trivial | rfl, HB1.out⟩
              · have d1 : decide (x.e < t.e) = true := decide_eq_true he
                have d2 : decide (t.e ≤ 1000000) = false := decide_eq_false hm
                have hRf : R = false := by rw [hRe.out, d1, d2]; simp
                clear he hm
                go_wp2
                go_ret
                rw [hRf]
                exact ⟨by first | trivial | rfl, HB1.out⟩
            · have d1 : decide (x.e < t.e) = false := decide_eq_false he
              have hRf : R = false := by rw [hRe.out, d1]; simp
              clear he
              go_wp2
              go_ret
              rw [hRf]
              exact ⟨by first | trivial | rfl, HB1.out⟩
end Go.Proofs.Ytcbpaikklkmnbaa
