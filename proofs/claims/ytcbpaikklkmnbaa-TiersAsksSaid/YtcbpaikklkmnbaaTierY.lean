/- Tiers' time goes on, and they are asked: Tick, Len, Ask. -/
import Derived.Test.YtcbpaikklkmnbaaTierX
namespace Go.Proofs.Ytcbpaikklkmnbaa
open Go.RowKit Go.Proofs
set_option maxRecDepth 20000
set_option maxHeartbeats 1600000

theorem TsAt.tick {w : World} {H t : Nat} {now : Int} {pn : ByteArray} {b c : Nat} {P : List Ti} {B : Nat → Nat × Nat} {T : Nat → List Rc} {k : Nat} {la : Option Addr} {cl : Nat} (h : TsAt w H t now pn b c P B T k la cl) (n : Int) : TsAt (w.setCell ⟨t, 0, none⟩ (.int .i64 n)) H t n pn b c P B T k la cl := by
  have u : Upd (fun q => q = t) w (fun q => q = t) (w.setCell ⟨t, 0, none⟩ (.int .i64 n)) := Upd.setCell (S := fun q => q = t) w (p := ⟨t, 0, none⟩) rfl _
  obtain ⟨t0, t1, t2, t3⟩ := h.rc
  have c4 := h.c4
  have f4 := h.f4
  have f0 := h.f0
  refine ⟨⟨by go_simp, by go_simp, by go_simp, by go_simp⟩, by go_simp, by go_simp, by go_simp, h.ti.upd u h.bl (by have := h.lo; omega), Nat.lt_of_lt_of_le h.bl u.size, ?_, ?_, h.nd, h.row, h.lo, h.lo2⟩
  · refine h.own.kept (row := some t) ⟨u.os, u.tape, u.output, u.size, fun q hq hn => u.block q hq (fun e => hn (by rw [e]))⟩ (Or.inr ?_)
    rw [ownBlock_slice]
    intro he
    have := (h.row t he).1
    omega
  · intro j hj
    have := h.lo2 j hj
    exact (h.tb j hj).kept u (by omega) (by omega)

/-- what a tick may write -/
def tickS (t : Nat) (B : Nat → Nat × Nat) (n : Nat) (q : Nat) : Prop := q = t ∨ mapS B n q

theorem tiers_tick {w : World} {H t : Nat} {now : Int} {pn : ByteArray} {b c : Nat} {P : List Ti} {B : Nat → Nat × Nat} {T : Nat → List Rc} {la : Option Addr} {cl : Nat} (h : TsAt w H t now pn b c P B T P.length la cl) (hG : GoodP P) (hn1 : 0 ≤ now) (hn2 : now ≤ 1099511627776) (n : Int) :
    Calls Try.prog 19 #[.pointer (some ⟨t, 0, none⟩), .int .i64 n] w fun e w' => ∃ (x now' : Int) (T' : Nat → List Rc), e = .returned (.int .i64 x) ∧ TsAt w' H t now' pn b c P B T' P.length la cl ∧ 0 ≤ now' ∧ now' ≤ 1099511627776 ∧ (∀ j, j < P.length → (T' j).Sublist (T j)) ∧ Upd (tickS t B P.length) w (tickS t B P.length) w' := by
  have HTS := hid h
  have HG := hid hG
  have hpos := hG.pos
  have hlen := hG.len
  obtain ⟨lb, cl', hlv, _, hlbl⟩ := h.own.form hpos
  obtain ⟨rfl, _, rfl⟩ := Value.slice.inj hlv
  obtain ⟨t0, t1, t2, t3⟩ := h.rc
  have f0 := h.f0
  have c4 := h.c4
  clear h hG hlv
  go_enter Try.func19, Try.ntmps19
  go_wp2_with fail
  refine (tiers_none HTS.out hpos).mono ?_
  rintro x w1 ⟨rfl, rfl⟩
  by_cases hn : n < 0
  · have hd : decide (n < 0) = true := by simp; omega
    go_wp2
    go_ret
    exact ⟨1, now, T, by first | trivial | rfl, HTS.out, hn1, hn2, fun _ _ => List.Sublist.refl _, Upd.refl _ _⟩
  · have hd : decide (n < 0) = false := by simp; omega
    by_cases hm : 1099511627776 - now < n
    · have hdm : decide (1099511627776 - now < n) = true := by simp; omega
      go_wp2
      go_ret
      exact ⟨26, now, T, by first | trivial | rfl, HTS.out, hn1, hn2, fun _ _ => List.Sublist.refl _, Upd.refl _ _⟩
    · have hdm : decide (1099511627776 - now < n) = false := by simp; omega
      have hT0 : Hid (TsAt (w.setCell ⟨t, 0, none⟩ (.int .i64 (now + n))) H t (now + n) pn b c P B T P.length (some ⟨lb, 0, none⟩) cl) := HTS.out.tick (now + n)
      have hU0 : Hid (Upd (tickS t B P.length) w (tickS t B P.length) (w.setCell ⟨t, 0, none⟩ (.int .i64 (now + n)))) := Upd.setCell (S := tickS t B P.length) w (p := ⟨t, 0, none⟩) (Or.inl rfl) _
      have hN1 : 0 ≤ now + n := by omega
      have hN2 : now + n ≤ 1099511627776 := by omega
      go_wp2_with fail
      go_loopw [38] (fun i wr => ∃ (m : Nat) (T' : Nat → List Rc), m ≤ P.length ∧ i = .int .i64 m ∧ Hid (TsAt wr H t (now + n) pn b c P B T' P.length (some ⟨lb, 0, none⟩) cl) ∧ Hid (∀ j, j < P.length → (T' j).Sublist (T j)) ∧ Hid (Upd (tickS t B P.length) w (tickS t B P.length) wr)) (fun i _ => P.length - (intOf i).toNat)
      case atStart =>
        exact ⟨0, T, by omega, by first | trivial | rfl, hT0.out, fun _ _ => List.Sublist.refl _, hU0.out⟩
      case round =>
        obtain ⟨m, T', hm, rfl, HT5, HS5, HU5⟩ := hrel
        by_cases hmn : m = P.length
        · have hdm : decide ((m : Int) < P.length) = false := by simp; omega
          go_wp2
          go_ret
          exact ⟨0, now + n, T', by first | trivial | rfl, HT5.out, hN1, hN2, HS5.out, HU5.out⟩
        · have hm2 : m < P.length := by omega
          have hdm : decide ((m : Int) < P.length) = true := by simp; omega
          have cp := HT5.out.own.cells (g := lb) rfl m _ (ptrs_get B hm2)
          rw [addO, Nat.zero_add] at cp
          obtain ⟨r0, r1, r2, r3⟩ := HT5.out.rc
          go_wp2_with fail
          refine (reach_from (now + n) pn b 0 c P m m wr HT5.out.ti HT5.out.bl HG.out hN1 hN2 hm2 rfl).mono ?_
          rintro y w6 ⟨rfl, hb6⟩
          have HT6 := hid (HT5.out.below hb6)
          have HU6 := hid (HU5.out.trans (Upd.of_below hb6))
          clear hb6
          go_wp2_with fail
          refine (table_below (HT6.out.tb m hm2) (fromI (now + n) P m)).mono ?_
          rintro y w7 ⟨q, rfl, htb, hu7⟩
          have HT7 := hid (HT6.out.put hm2 hu7 htb)
          have HU7 : Hid (Upd (tickS t B P.length) w (tickS t B P.length) w7) := HU6.out.trans ⟨hu7.os, hu7.tape, hu7.output, hu7.size, fun q hq hn => hu7.block q hq (fun e => hn (Or.inr ⟨m, hm2, e⟩)), fun q hq => Or.inl hq⟩
          have HS7 : Hid (∀ j, j < P.length → ((fun i => if i = m then (T' m).filter (fun r => !decide (r.t < fromI (now + n) P m)) else T' i) j).Sublist (T j)) := by
            intro j hj
            by_cases hjm : j = m
            · subst hjm
              simp only [if_true]
              exact List.filter_sublist.trans (HS5.out j hj)
            · simp only [hjm, if_false]
              exact HS5.out j hj
          clear htb hu7
          go_wp2
          go_roundw
          case rel => exact ⟨m + 1, _, by omega, by go_num, HT7.out, HS7.out, HU7.out⟩
          case measure => simp [intOf]; omega

/-- how many records n tables have -/
def sumL (T : Nat → List Rc) : Nat → Nat
  | 0 => 0
  | n + 1 => sumL T n + (T n).length

theorem sumL_le (T : Nat → List Rc) (n : Nat) (h : ∀ j, j < n → (T j).length ≤ 100000) : sumL T n ≤ n * 100000 := by
  induction n with
  | zero => simp [sumL]
  | succ n ih =>
    have := ih (fun j hj => h j (by omega))
    have := h n (by omega)
    simp only [sumL]
    omega

theorem tiers_len {w : World} {H t : Nat} {now : Int} {pn : ByteArray} {b c : Nat} {P : List Ti} {B : Nat → Nat × Nat} {T : Nat → List Rc} {la : Option Addr} {cl : Nat} (h : TsAt w H t now pn b c P B T P.length la cl) (hG : GoodP P) (hL : ∀ j, j < P.length → (T j).length ≤ 100000) :
    Calls Try.prog 37 #[.pointer (some ⟨t, 0, none⟩)] w fun e w' => e = .returned (.int .i64 (sumL T P.length : Nat)) ∧ w = w' := by
  have HTS := hid h
  have HL := hid hL
  have hpos := hG.pos
  have hlen := hG.len
  obtain ⟨lb, cl', hlv, _, hlbl⟩ := h.own.form hpos
  obtain ⟨rfl, _, rfl⟩ := Value.slice.inj hlv
  have c4 := h.c4
  clear h hG hlv hL
  go_enter Try.func37, Try.ntmps37
  go_wp2_with fail
  go_loopw [3, 13] (fun s i wr => ∃ m : Nat, m ≤ P.length ∧ i = .int .i64 m ∧ s = .int .i64 (sumL T m : Nat) ∧ w = wr) (fun _ i _ => P.length - (intOf i).toNat)
  case atStart => exact ⟨0, by omega, by first | trivial | rfl, by first | trivial | rfl, by first | trivial | rfl⟩
  case round =>
    obtain ⟨m, hm, rfl, rfl, rfl⟩ := hrel
    by_cases hmn : m = P.length
    · subst hmn
      go_wp2
      go_ret
      exact ⟨by first | trivial | rfl, by first | trivial | rfl⟩
    · have hm2 : m < P.length := by omega
      have hdm : decide ((m : Int) < P.length) = true := by simp; omega
      have cp := HTS.out.own.cells (g := lb) rfl m _ (ptrs_get B hm2)
      rw [addO, Nat.zero_add] at cp
      have hs1 := sumL_le T m (fun j hj => HL.out j (by omega))
      have hs2 := HL.out m hm2
      go_wp2_with fail
      refine (table_len (HTS.out.tb m hm2)).mono ?_
      rintro y w7 ⟨rfl, rfl⟩
      have hsum : ((sumL T m : Nat) : Int) + ((T m).length : Nat) = ((sumL T (m + 1) : Nat) : Int) := by simp [sumL]
      have HSUM := hid hsum
      clear hsum
      go_wp2
      go_roundw
      case rel => exact ⟨m + 1, by omega, by go_num, by rw [← HSUM.out], by first | trivial | rfl⟩
      case measure => simp [intOf]; omega

end Go.Proofs.Ytcbpaikklkmnbaa
