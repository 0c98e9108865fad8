/- TiersAsks: the walk. -/
import Derived.Test.YtcbpaikklkmnbaaBookD
namespace Go.Proofs.Ytcbpaikklkmnbaa
open Go.RowKit Go.Proofs
set_option maxRecDepth 20000
set_option maxHeartbeats 3200000

theorem SasAt.below {w w' : World} {b o : Nat} {S : List Sa} (h : SasAt w b o S) (hb : Below w.heap.size w w') : SasAt w' b o S :=
  h.upd (Upd.of_below (S := fun _ => False) hb) (fun _ _ h => h)

theorem RInv.sub {e : Int} {L M : List Rc} (h : RInv e L) (hs : M.Sublist L) : RInv e M :=
  ⟨fun r hr => h.ag r (hs.subset hr), fun r hr => h.ti r (hs.subset hr)⟩

theorem TisAt.below {w w' : World} {b o : Nat} {P : List Ti} (h : TisAt w b o P) (hb : Below w.heap.size w w') : TisAt w' b o P :=
  ⟨fun j hj => ((bcell hb).1 _ _ (cell_lt (h.n j hj))).trans (h.n j hj), fun j hj => ((bcell hb).1 _ _ (cell_lt (h.e j hj))).trans (h.e j hj), fun j hj => ((bcell hb).1 _ _ (cell_lt (h.k j hj))).trans (h.k j hj), fun j hj => ((bcell hb).1 _ _ (cell_lt (h.s j hj))).trans (h.s j hj)⟩

theorem OpsAt.below {w w' : World} {b o : Nat} {L : List Opn} (h : OpsAt w b o L) (hb : Below w.heap.size w w') : OpsAt w' b o L := by
  obtain ⟨o0, o1, o2, o3, oo⟩ := h
  have hc : ∀ {g q : Nat} {v : Value}, w.cell? ⟨g, q, none⟩ = some v → w'.cell? ⟨g, q, none⟩ = some v := fun hq => ((bcell hb).1 _ _ (cell_lt hq)).trans hq
  exact ⟨fun j hj => hc (o0 j hj), fun j hj => hc (o1 j hj), fun j hj => hc (o2 j hj), fun j hj => hc (o3 j hj), fun j hj => ⟨(oo j hj).sa, (oo j hj).ss.below hb, (oo j hj).ra, fun i hi => by obtain ⟨s, hs⟩ := (oo j hj).rs i hi; exact ⟨s, hc hs⟩⟩⟩

theorem RowR.keep {w w' : World} {g : Nat} {S : List Rc} (h : RowR w g S) (hb : Below w.heap.size w w') : RowR w' g S :=
  fun j hj c hc => h.below hb (h.lt hj) j hj c hc

theorem ask_ok {w : World} {H t : Nat} {now : Int} {pn : ByteArray} {b c : Nat} {P : List Ti} {B : Nat → Nat × Nat} {T : Nat → List Rc} {la : Option Addr} {cl : Nat} (h : TsAt w H t now pn b c P B T P.length la cl) (hG : GoodP P) (hn1 : 0 ≤ now) (hn2 : now ≤ 1099511627776) (hL : ∀ j, j < P.length → (T j).length ≤ 100000) (s : ByteArray) (f u : Int) (q : Nat) (hk : askB s f u = true) (hq : coverI now P f = q) :
    Calls Try.prog 20 #[.pointer (some ⟨t, 0, none⟩), .string s, .int .i64 f, .int .i64 u] w fun e w' =>
      ∃ (a : Option Addr) (cc r : Nat) (S : List Rc), e = .returned (.tuple #[anV (q : Nat) a (S.filter (inQ s f u)).length cc, .int .i64 0]) ∧ S.Perm (T q) ∧ S.Pairwise RLt ∧ RecsAt w' w.heap.size a r (S.filter (inQ s f u)) ∧ Below w.heap.size w w' := by
  refine (tiers_ask h hG hn1 hn2 hL s f u).mono ?_
  rintro e w' ⟨hb, (⟨h1, _⟩ | ⟨_, a, n, cc, r, S, rfl, hn, hp, hs, hr⟩)⟩
  · rw [hk] at h1
    cases h1
  · subst hn
    rw [hq] at hp ⊢
    exact ⟨a, cc, r, S, rfl, hp, hs, hr, hb⟩

theorem inQ_is {s : ByteArray} {f u : Int} {r : Rc} (h : inQ s f u r = true) : r.s = s ∧ f ≤ r.t ∧ r.t < u := by
  unfold inQ at h
  simp only [Bool.and_eq_true, decide_eq_true_eq] at h
  exact ⟨h.1.1, h.1.2, h.2⟩

/-- what holds of all tiers' records -/
def TInv (P : List Ti) (T : Nat → List Rc) (n : Nat) : Prop := ∀ j, j < P.length → RInv (P.getD j default).e (T j) ∧ (T j).length ≤ n

theorem TsAt.upBelow {w w' : World} {H t : Nat} {now : Int} {pn : ByteArray} {b c : Nat} {P : List Ti} {B : Nat → Nat × Nat} {T : Nat → List Rc} {k : Nat} {la : Option Addr} {cl : Nat} (h : TsAt w H t now pn b c P B T k la cl) (hH : H ≤ w.heap.size)
    (u : Upd (tickS t B k) w (tickS t B k) w') : Below H w w' := by
  refine u.below hH (fun q hq => ?_)
  rcases hq with rfl | ⟨j, hj, rfl⟩
  · exact h.lo.2.1
  · have h1 := (h.lo2 j hj).2
    have h2 := h.lo.2.1
    omega

theorem put_step {w : World} {H t : Nat} {now : Int} {pn : ByteArray} {b c : Nat} {P : List Ti} {B : Nat → Nat × Nat} {T : Nat → List Rc} {la : Option Addr} {cl : Nat} (h : TsAt w H t now pn b c P B T P.length la cl) (hH : H ≤ w.heap.size) (hG : GoodP P) (hn1 : 0 ≤ now) (hn2 : now ≤ 1099511627776) {N : Nat} (hI : TInv P T N)
    (S : List Sa) (a : Option Addr) (sb so sc : Nat) (ha : S ≠ [] → a = some ⟨sb, so, none⟩) (hS : SasAt w sb so S) :
    Calls Try.prog 18 #[.pointer (some ⟨t, 0, none⟩), .slice a S.length sc] w fun e w' => ∃ (n : Int) (T' : Nat → List Rc), e = .returned (.int .i64 n) ∧ TsAt w' H t now pn b c P B T' P.length la cl ∧ TInv P T' (N + 8) ∧ Below H w w' := by
  refine (tiers_put h hG hn1 hn2 (fun j hj => (hI j hj).1) S a sb so sc ha hS).mono ?_
  rintro e w' ⟨n, T', rfl, hT, hu, hor⟩
  have hB : Below H w w' := h.upBelow hH ⟨hu.os, hu.tape, hu.output, hu.size, fun q hq hn => hu.block q hq (fun e => hn (Or.inr e)), fun q hq => Or.inl hq⟩
  refine ⟨n, T', rfl, hT, ?_, hB⟩
  rcases hor with ⟨_, _, h1⟩ | ⟨_, h8, htk, h1⟩
  · intro j hj
    rw [h1 j]
    exact ⟨(hI j hj).1, by have := (hI j hj).2; omega⟩
  · intro j hj
    rw [h1 j hj]
    have h2 := RInv.puts (now := now) (P := P) (j := j) (hG.e1 j hj) (hI j hj).1 (S := S) (fun y hy => (takes_ok (htk y hy)).2.1)
    exact ⟨h2.1, by have := (hI j hj).2; have := h2.2; omega⟩

theorem tick_step {w : World} {H t : Nat} {now : Int} {pn : ByteArray} {b c : Nat} {P : List Ti} {B : Nat → Nat × Nat} {T : Nat → List Rc} {la : Option Addr} {cl : Nat} (h : TsAt w H t now pn b c P B T P.length la cl) (hH : H ≤ w.heap.size) (hG : GoodP P) (hn1 : 0 ≤ now) (hn2 : now ≤ 1099511627776) {N : Nat} (hI : TInv P T N) (n : Int) :
    Calls Try.prog 19 #[.pointer (some ⟨t, 0, none⟩), .int .i64 n] w fun e w' => ∃ (x now' : Int) (T' : Nat → List Rc), e = .returned (.int .i64 x) ∧ TsAt w' H t now' pn b c P B T' P.length la cl ∧ 0 ≤ now' ∧ now' ≤ 1099511627776 ∧ TInv P T' (N + 8) ∧ Below H w w' := by
  refine (tiers_tick h hG hn1 hn2 n).mono ?_
  rintro e w' ⟨x, now', T', rfl, hT, h1, h2, hs, hu⟩
  exact ⟨x, now', T', rfl, hT, h1, h2, fun j hj => ⟨(hI j hj).1.sub (hs j hj), by have := (hs j hj).length_le; have := (hI j hj).2; omega⟩, h.upBelow hH hu⟩

theorem asks_walk (pn : ByteArray) (a : Option Addr) (b o c : Nat) (P : List Ti) (now : Int) (oa : Option Addr) (ob oo oc : Nat) (L : List Opn) (s : ByteArray) (f m u : Int) (w : World)
    (ha : P ≠ [] → a = some ⟨b, o, none⟩ ∧ b < w.heap.size) (hT : TisAt w b o P) (hc : P.length ≤ c) (hoa : L ≠ [] → oa = some ⟨ob, oo, none⟩) (hO : OpsAt w ob oo L) :
    Calls Try.prog 4 #[poV pn a P.length c, .int .i64 now, .slice oa L.length oc, .string s, .int .i64 f, .int .i64 m, .int .i64 u] w fun e w' => e = .returned (.bool true) ∧ Below w.heap.size w w' := by
  have HA := hid ha
  have HT := hid hT
  have HOA := hid hoa
  have HO := hid hO
  clear ha hT hoa hO
  have hB0 : Below w.heap.size w (w.alloc (.cells #[.string pn, .slice a P.length c] 41)) := below_al (Below.refl _ _) _
  have hT0 := HT.out.al (.cells #[.string pn, .slice a P.length c] 41)
  have hbx := (blk_at (heap_alloc_new w (.cells #[.string pn, .slice a P.length c] 41))).1
  have x0 := hbx 0
  have x1 := hbx 1
  have hwl : w.heap.size < (w.alloc (.cells #[.string pn, .slice a P.length c] 41)).heap.size := by simp
  clear hbx
  go_enter Try.func4, Try.ntmps4
  go_wp2_with fail
  generalize w.alloc (.cells #[.string pn, .slice a P.length c] 41) = W at *
  have HB0 := hid hB0
  have HT0 := hid hT0
  clear hB0 hT0
  refine (book_small pn a b o c P W (fun h => (HA.out h).1) HT0.out).mono ?_
  rintro e w1 ⟨v, rfl, hv, hb1⟩
  have y0 := ((bcell hb1).1 _ 0 hwl).trans x0
  have y1 := ((bcell hb1).1 _ 1 hwl).trans x1
  have HB1 : Hid (Below w.heap.size w w1) := HB0.out.trans (hb1.mono HB0.out.size)
  have hw1l : w.heap.size < w1.heap.size := cell_lt y0
  clear hb1 x0 x1
  cases v with
  | false =>
    go_wp2_with fail
    refine (law_alive _).mono ?_
    rintro e wq ⟨rfl, hbq⟩
    have HQ : Hid (Below w.heap.size w wq) := HB1.out.trans (hbq.mono HB1.out.size)
    clear hbq
    go_wp2
    go_ret
    exact ⟨by first | trivial | rfl, HQ.out⟩
  | true =>
    have hP10 : P.length ≤ 10 := hv rfl
    clear hv
    have hO1 : OpsAt w1 ob oo L := HO.out.below HB1.out
    have HO1 := hid hO1
    clear hO1
    go_wp2_with fail
    refine (law_light oa ob oo oc L w1 HOA.out HO1.out).mono ?_
    rintro e w2 ⟨v, rfl, hv, rfl⟩
    cases v with
    | false =>
      go_wp2_with fail
      refine (law_alive _).mono ?_
      rintro e wq ⟨rfl, hbq⟩
      have HQ : Hid (Below w.heap.size w wq) := HB1.out.trans (hbq.mono HB1.out.size)
      clear hbq
      go_wp2
      go_ret
      exact ⟨by first | trivial | rfl, HQ.out⟩
    | true =>
      have hL50 : L.length ≤ 50 := hv rfl
      clear hv
      by_cases h60 : 60 < s.size
      · have hd60 : decide ((60 : Int) < s.size) = true := by simp; omega
        go_wp2_with fail
        refine (law_alive _).mono ?_
        rintro e wq ⟨rfl, hbq⟩
        have HQ : Hid (Below w.heap.size w wq) := HB1.out.trans (hbq.mono HB1.out.size)
        clear hbq
        go_wp2
        go_ret
        exact ⟨by first | trivial | rfl, HQ.out⟩
      · have hd60 : decide ((60 : Int) < s.size) = false := by simp; omega
        by_cases hf0 : f < 0
        · have hdf0 : decide (f < 0) = true := by simp; omega
          go_wp2_with fail
          refine (law_alive _).mono ?_
          rintro e wq ⟨rfl, hbq⟩
          have HQ : Hid (Below w.heap.size w wq) := HB1.out.trans (hbq.mono HB1.out.size)
          clear hbq
          go_wp2
          go_ret
          exact ⟨by first | trivial | rfl, HQ.out⟩
        · have hdf0 : decide (f < 0) = false := by simp; omega
          by_cases hmf : m < f
          · have hdmf : decide (m < f) = true := by simp; omega
            go_wp2_with fail
            refine (law_alive _).mono ?_
            rintro e wq ⟨rfl, hbq⟩
            have HQ : Hid (Below w.heap.size w wq) := HB1.out.trans (hbq.mono HB1.out.size)
            clear hbq
            go_wp2
            go_ret
            exact ⟨by first | trivial | rfl, HQ.out⟩
          · have hdmf : decide (m < f) = false := by simp; omega
            by_cases hum : u < m
            · have hdum : decide (u < m) = true := by simp; omega
              go_wp2_with fail
              refine (law_alive _).mono ?_
              rintro e wq ⟨rfl, hbq⟩
              have HQ : Hid (Below w.heap.size w wq) := HB1.out.trans (hbq.mono HB1.out.size)
              clear hbq
              go_wp2
              go_ret
              exact ⟨by first | trivial | rfl, HQ.out⟩
            · have hdum : decide (u < m) = false := by simp; omega
              go_wp2_with fail
              refine (tiers_new pn a b o c P now w1 (fun h => ⟨(HA.out h).1, Nat.lt_of_lt_of_le (HA.out h).2 HB1.out.size⟩) (HT.out.below HB1.out) (by omega) hc).mono ?_
              rintro e w3 (⟨_, ⟨n, hn, rfl⟩, hb3⟩ | ⟨hnew, t, b', c', B, la, cl, rfl, hts, hb3⟩)
              · have HB3 : Hid (Below w.heap.size w w3) := HB1.out.trans (hb3.mono HB1.out.size)
                have hdn : (n != 0) = true := by simpa using hn
                clear hb3
                go_wp2_with fail
                refine (law_alive _).mono ?_
                rintro e wq ⟨rfl, hbq⟩
                have HQ : Hid (Below w.heap.size w wq) := HB3.out.trans (hbq.mono HB3.out.size)
                clear hbq
                go_wp2
                go_ret
                exact ⟨by first | trivial | rfl, HQ.out⟩
              · have hck : checkB pn P = true := by
                  unfold newB at hnew
                  simp only [Bool.and_eq_true] at hnew
                  exact hnew.1
                have hnow : 0 ≤ now ∧ now ≤ 1099511627776 := by
                  unfold newB at hnew
                  simp only [Bool.and_eq_true, decide_eq_true_eq] at hnew
                  exact hnew.2
                have hG := check_good hck
                obtain ⟨rfl, hbw⟩ := HA.out (by intro h; have := hG.pos; rw [h] at this; simp at this)
                have HG := hid hG
                have HTS := hid hts
                have HB3 := hid hb3
                clear hck hnew hG hts hb3
                go_wp2_with fail
                go_loopw [17] (fun i wr => ∃ (k : Nat) (now' : Int) (T' : Nat → List Rc), k ≤ L.length ∧ i = .int .i64 k ∧ 0 ≤ now' ∧ now' ≤ 1099511627776 ∧ Hid (TsAt wr w1.heap.size t now' pn b' c' P B T' P.length la cl) ∧ Hid (TInv P T' (8 * k)) ∧ Hid (Below w1.heap.size w1 wr)) (fun i _ => L.length - (intOf i).toNat)
                case atStart => exact ⟨0, now, fun _ => [], by omega, by first | trivial | rfl, hnow.1, hnow.2, HTS.out, fun j hj => ⟨⟨fun r hr => by simp at hr, fun r hr => by simp at hr⟩, by simp⟩, HB3.out⟩
                case round =>
                  obtain ⟨k, now1, T1, hk, rfl, hn1, hn2, HT1, HI1, HB4⟩ := hrel
                  obtain ⟨w4, hw4⟩ : ∃ w4, w4 = wr := ⟨_, rfl⟩
                  subst hw4
                  have HO4 := hid (HO1.out.below HB4.out)
                  by_cases hkn : k = L.length
                  · have hdk : decide ((k : Int) < L.length) = false := by simp; omega
                    have HIN : Hid (TInv P T1 400) := fun j hj => ⟨(HI1.out j hj).1, by have := (HI1.out j hj).2; omega⟩
                    subst hkn
                    go_wp2_with fail
                    have hLen : ∀ j, j < P.length → (T1 j).length ≤ 100000 := fun j hj => by have := (HIN.out j hj).2; omega
                    have HB40 : Hid (Below w.heap.size w w4) := HB1.out.trans (HB4.out.mono HB1.out.size)
                    refine (tiers_ask HT1.out HG.out hn1 hn2 hLen s f u).mono ?_
                    rintro e w5 ⟨hb5, (⟨hk, rfl⟩ | ⟨hk, ra, rn, cc, r, S0, rfl, hrn, hp0, hs0, hr0⟩)⟩
                    · have HB5 : Hid (Below w.heap.size w (w5.alloc (.cells #[.int .i64 0, .slice none 0 0] 55))) := below_al (HB40.out.trans (hb5.mono HB40.out.size)) _
                      clear hb5 hk hLen
                      go_wp2_with fail
                      refine (law_alive _).mono ?_
                      rintro e wq ⟨rfl, hbq⟩
                      have HQ : Hid (Below w.heap.size w wq) := HB5.out.trans (hbq.mono HB5.out.size)
                      clear hbq
                      go_wp2
                      go_ret
                      exact ⟨by first | trivial | rfl, HQ.out⟩
                    · have hq : coverI now1 P f < P.length := coverF_lt _ _ _ HG.out.pos _
                      obtain ⟨q, hqe⟩ : ∃ q, coverI now1 P f = q := ⟨_, rfl⟩
                      rw [hqe] at hq hp0
                      obtain ⟨F, hFe⟩ : ∃ F, S0.filter (inQ s f u) = F := ⟨_, rfl⟩
                      rw [hFe] at hrn hr0
                      subst hrn
                      obtain ⟨E, hEe⟩ : ∃ E, (P.getD q default).e = E := ⟨_, rfl⟩
                      have hE1 : 1 ≤ E := by rw [← hEe]; exact HG.out.e1 q hq
                      have hFp : F.Pairwise RLt := by rw [← hFe]; exact hs0.sublist List.filter_sublist
                      have hFl : F.length ≤ 400 := by
                        have h1 : F.length ≤ S0.length := by rw [← hFe]; exact List.length_filter_le _ _
                        have h2 := hp0.length_eq
                        have h3 := (HIN.out q hq).2
                        omega
                      have hFr : ∀ x ∈ F, x.s = s ∧ f ≤ x.t ∧ x.t < u ∧ x.t.tmod E = 0 := by
                        intro x hx
                        rw [← hFe] at hx
                        obtain ⟨h1, h2⟩ := List.mem_filter.1 hx
                        have h3 := inQ_is h2
                        have h4 := ((HIN.out q hq).1.ti x (hp0.subset h1)).2
                        rw [hEe] at h4
                        exact ⟨h3.1, h3.2.1, h3.2.2, h4⟩
                      have hB6 : Below w5.heap.size w5 (w5.alloc (.cells #[.int .i64 (q : Nat), .slice ra F.length cc] 55)) := below_al (Below.refl _ _) _
                      obtain ⟨p0, _⟩ := blk_at (heap_alloc_new w5 (.cells #[.int .i64 (q : Nat), .slice ra F.length cc] 55))
                      have z0 := p0 0
                      have z1 := p0 1
                      have HT5 := hid (HT1.out.below hb5)
                      have HB5 : Hid (Below w.heap.size w w5) := HB40.out.trans (hb5.mono HB40.out.size)
                      have HB15 : Hid (Below w1.heap.size w1 w5) := HB4.out.trans (hb5.mono HB4.out.size)
                      have HK := hid hk
                      have HQE := hid hqe
                      have HFE := hid hFe
                      have HEE := hid hEe
                      have HFP := hid hFp
                      have HFR := hid hFr
                      have HP0 := hid hp0
                      have HS0 := hid hs0
                      have HR0 := hid hr0
                      have HLEN := hid hLen
                      clear p0 hb5 hk hFe hEe hFp hFr hp0 hs0 hr0 hLen
                      go_wp2_with fail
                      try rw [HQE.out]
                      obtain ⟨W6, hW6⟩ : ∃ W6, W6 = w5.alloc (.cells #[.int .i64 (q : Nat), .slice ra F.length cc] 55) := ⟨_, rfl⟩
                      rw [← hW6] at hB6 z0 z1 ⊢
                      have hl6 : w5.heap.size < W6.heap.size := cell_lt z0
                      have HB6 : Hid (Below w.heap.size w W6) := HB5.out.trans (hB6.mono HB5.out.size)
                      have HB16 : Hid (Below w1.heap.size w1 W6) := HB15.out.trans (hB6.mono HB15.out.size)
                      have HT6 := hid (HT5.out.below hB6)
                      have HR6 : Hid (RowR W6 r F) := HR0.out.row.keep hB6
                      have y16 : W6.cell? ⟨w.heap.size, 1, none⟩ = _ := ((bcell HB16.out).1 _ 1 hw1l).trans y1
                      have HZ0 := hid z0
                      have HZ1 := hid z1
                      have HY1 := hid y16
                      have hne5 : w.heap.size < w5.heap.size := Nat.lt_of_lt_of_le hw1l HB15.out.size
                      clear hW6 hB6 z0 z1 y16 y0 y1
                      go_loopw [20] (fun i wr => ∃ k : Nat, k ≤ F.length ∧ i = .int .i64 k ∧ Hid (Below W6.heap.size W6 wr)) (fun i _ => F.length - (intOf i).toNat)
                      case atStart => exact ⟨0, by omega, by first | trivial | rfl, Below.refl _ _⟩
                      case round =>
                        obtain ⟨k, hk, rfl, HB7⟩ := hrel
                        have z0 := ((bcell HB7.out).1 _ 0 hl6).trans HZ0.out
                        have z1 := ((bcell HB7.out).1 _ 1 hl6).trans HZ1.out
                        have y1 := ((bcell HB7.out).1 _ 1 (cell_lt HY1.out)).trans HY1.out
                        have HBR : Hid (Below w.heap.size w wr) := HB6.out.trans (HB7.out.mono HB6.out.size)
                        by_cases hkn : k = F.length
                        · have hdk : decide ((k : Int) < F.length) = false := by simp; omega
                          subst hkn
                          obtain ⟨w8, hw8⟩ : ∃ w8, w8 = wr := ⟨_, rfl⟩
                          subst hw8
                          have HB18 : Hid (Below w1.heap.size w1 w8) := HB16.out.trans (HB7.out.mono HB16.out.size)
                          have HT8 := hid (HT6.out.below HB7.out)
                          have HR8 : Hid (RowR w8 r F) := HR6.out.keep HB7.out
                          have HZ08 := hid z0
                          have HZ18 := hid z1
                          clear z0 y1
                          go_wp2_with fail
                          clear z1
                          have hval : validB s = true ∧ 0 ≤ f ∧ f ≤ u := by
                            have h1 := HK.out
                            unfold askB at h1
                            simp only [Bool.and_eq_true, decide_eq_true_eq] at h1
                            exact h1
                          have hk2 : askB s f m = true := by
                            unfold askB
                            rw [hval.1, decide_eq_true hval.2.1, decide_eq_true (show f ≤ m by omega)]
                            rfl
                          have hk3 : askB s m u = true := by
                            unfold askB
                            rw [hval.1, decide_eq_true (show 0 ≤ m by omega), decide_eq_true (show m ≤ u by omega)]
                            rfl
                          obtain ⟨q3, hq3⟩ : ∃ q3, coverI now1 P m = q3 := ⟨_, rfl⟩
                          refine (ask_ok HT8.out HG.out hn1 hn2 HLEN.out s f m q hk2 HQE.out).mono ?_
                          rintro e w9 ⟨ra2, cc2, r2, S2, rfl, hp2, hs2, hr2, hb9⟩
                          have HT9 := hid (HT8.out.below hb9)
                          have HZ09 := hid (((bcell hb9).1 _ 0 (cell_lt HZ08.out)).trans HZ08.out)
                          have HZ19 := hid (((bcell hb9).1 _ 1 (cell_lt HZ08.out)).trans HZ18.out)
                          have HR9 := hid (HR8.out.keep hb9)
                          have HB19 : Hid (Below w1.heap.size w1 w9) := HB18.out.trans (hb9.mono HB18.out.size)
                          obtain ⟨F2, hF2⟩ : ∃ F2, S2.filter (inQ s f m) = F2 := ⟨_, rfl⟩
                          rw [hF2] at hr2 ⊢
                          have HP2 := hid hp2
                          have HS2 := hid hs2
                          have HR2 := hid hr2
                          have HF2 := hid hF2
                          have HK3 := hid hk3
                          have HQ3 := hid hq3
                          clear hp2 hs2 hr2 hF2 hb9 hk2 hk3 hq3 hval
                          go_wp2_with fail
                          have hbA : Below w9.heap.size w9 (w9.alloc (.cells #[.int .i64 (q : Nat), .slice ra2 F2.length cc2] 55)) := below_al (Below.refl _ _) _
                          have hpA := (blk_at (heap_alloc_new w9 (.cells #[.int .i64 (q : Nat), .slice ra2 F2.length cc2] 55))).1
                          have a0 := hpA 0
                          have a1 := hpA 1
                          generalize w9.alloc (.cells #[.int .i64 (q : Nat), .slice ra2 F2.length cc2] 55) = V9 at *
                          have HTA := hid (HT9.out.below hbA)
                          have HZ0A := hid (((bcell hbA).1 _ 0 (cell_lt HZ09.out)).trans HZ09.out)
                          have HZ1A := hid (((bcell hbA).1 _ 1 (cell_lt HZ09.out)).trans HZ19.out)
                          have HRA := hid (HR9.out.keep hbA)
                          have HRA2 := hid (HR2.out.row.keep hbA)
                          have HB1A : Hid (Below w1.heap.size w1 V9) := HB19.out.trans (hbA.mono HB19.out.size)
                          have HA0 := hid a0
                          have HA1 := hid a1
                          clear hbA hpA a0 a1
                          refine (ask_ok HTA.out HG.out hn1 hn2 HLEN.out s m u q3 HK3.out HQ3.out).mono ?_
                          rintro e w10 ⟨ra3, cc3, r3, S3, rfl, hp3, hs3, hr3, hb10⟩
                          have HTB := hid (HTA.out.below hb10)
                          have HZ0B := hid (((bcell hb10).1 _ 0 (cell_lt HZ0A.out)).trans HZ0A.out)
                          have HZ1B := hid (((bcell hb10).1 _ 1 (cell_lt HZ0A.out)).trans HZ1A.out)
                          have HA0B := hid (((bcell hb10).1 _ 0 (cell_lt HA0.out)).trans HA0.out)
                          have HA1B := hid (((bcell hb10).1 _ 1 (cell_lt HA0.out)).trans HA1.out)
                          have HRB := hid (HRA.out.keep hb10)
                          have HRB2 := hid (HRA2.out.keep hb10)
                          have HB1B : Hid (Below w1.heap.size w1 w10) := HB1A.out.trans (hb10.mono HB1A.out.size)
                          obtain ⟨F3, hF3⟩ : ∃ F3, S3.filter (inQ s m u) = F3 := ⟨_, rfl⟩
                          rw [hF3] at hr3 ⊢
                          have HP3 := hid hp3
                          have HS3 := hid hs3
                          have HR3 := hid hr3
                          have HF3 := hid hF3
                          clear hp3 hs3 hr3 hF3 hb10
                          go_wp2_with fail
                          have hbC : Below w10.heap.size w10 (w10.alloc (.cells #[.int .i64 (q3 : Nat), .slice ra3 F3.length cc3] 55)) := below_al (Below.refl _ _) _
                          have hpC := (blk_at (heap_alloc_new w10 (.cells #[.int .i64 (q3 : Nat), .slice ra3 F3.length cc3] 55))).1
                          have e0 := hpC 0
                          have e1 := hpC 1
                          generalize w10.alloc (.cells #[.int .i64 (q3 : Nat), .slice ra3 F3.length cc3] 55) = V at *
                          have HTV := hid (HTB.out.below hbC)
                          have z0 := ((bcell hbC).1 _ 0 (cell_lt HZ0B.out)).trans HZ0B.out
                          have z1 := ((bcell hbC).1 _ 1 (cell_lt HZ0B.out)).trans HZ1B.out
                          have a0 := ((bcell hbC).1 _ 0 (cell_lt HA0B.out)).trans HA0B.out
                          have a1 := ((bcell hbC).1 _ 1 (cell_lt HA0B.out)).trans HA1B.out
                          have HRV := hid (HRB.out.keep hbC)
                          have HRV2 := hid (HRB2.out.keep hbC)
                          have HRV3 := hid (HR3.out.row.keep hbC)
                          have HBV : Hid (Below w.heap.size w V) := HB1.out.trans ((HB1B.out.trans (hbC.mono HB1B.out.size)).mono HB1.out.size)
                          obtain ⟨t0, t1, t2, t3⟩ := HTV.out.rc
                          clear hbC hpC
                          by_cases hqq : q3 = q
                          · subst hqq
                            have hS2 : S2 = S0 := sorted_one (HP2.out.trans HP0.out.symm) HS2.out HS0.out
                            have hS3 : S3 = S0 := sorted_one (HP3.out.trans HP0.out.symm) HS3.out HS0.out
                            have hFF : Hid (F2 ++ F3 = F) := by
                              show _ = _
                              rw [← HF2.out, ← HF3.out, ← HFE.out, hS2, hS3]
                              exact cut_two (by omega) (by omega) HS0.out
                            have hl2 : F2.length + F3.length ≤ 400 := by
                              have := congrArg List.length hFF.out
                              rw [List.length_append] at this
                              omega
                            clear hS2 hS3
                            first
                            | go_region_held3 (fun w' => w'.cell? ⟨w5.heap.size, 0, none⟩ = some (.int .i64 (q3 : Nat)) ∧ w'.cell? ⟨w5.heap.size, 1, none⟩ = some (.slice ra F.length cc) ∧ w'.cell? ⟨w9.heap.size, 0, none⟩ = some (.int .i64 (q3 : Nat)) ∧ w'.cell? ⟨w9.heap.size, 1, none⟩ = some (.slice ra2 F2.length cc2) ∧ w'.cell? ⟨w10.heap.size, 0, none⟩ = some (.int .i64 (q3 : Nat)) ∧ w'.cell? ⟨w10.heap.size, 1, none⟩ = some (.slice ra3 F3.length cc3) ∧ w'.cell? ⟨t, 0, none⟩ = some (.int .i64 now1) ∧ w'.cell? ⟨t, 1, none⟩ = some (.string pn) ∧ w'.cell? ⟨t, 2, none⟩ = some (.slice (some ⟨b', 0, none⟩) P.length c') ∧ w'.cell? ⟨t, 3, none⟩ = some (.slice none 0 0)) (first | go_keep) (first
                                | (go_at_call 16; refine (law_alive _).mono ?_; rintro y w11 ⟨rfl, hb11⟩; have hb110 : Below V.heap.size V w11 := (below_drewN (Below.refl V.heap.size V) 1).trans hb11; have pz0 : w11.cell? ⟨w5.heap.size, 0, none⟩ = _ := ((bcell hb110).1 _ 0 (by exact cell_lt z0)).trans z0; have pz1 : w11.cell? ⟨w5.heap.size, 1, none⟩ = _ := ((bcell hb110).1 _ 1 (by exact cell_lt z1)).trans z1; have pa0 : w11.cell? ⟨w9.heap.size, 0, none⟩ = _ := ((bcell hb110).1 _ 0 (by exact cell_lt a0)).trans a0; have pa1 : w11.cell? ⟨w9.heap.size, 1, none⟩ = _ := ((bcell hb110).1 _ 1 (by exact cell_lt a1)).trans a1; have pe0 : w11.cell? ⟨w10.heap.size, 0, none⟩ = _ := ((bcell hb110).1 _ 0 (by exact cell_lt e0)).trans e0; have pe1 : w11.cell? ⟨w10.heap.size, 1, none⟩ = _ := ((bcell hb110).1 _ 1 (by exact cell_lt e1)).trans e1; have pt0 : w11.cell? ⟨t, 0, none⟩ = _ := ((bcell hb110).1 _ 0 (by exact cell_lt t0)).trans t0; have pt1 : w11.cell? ⟨t, 1, none⟩ = _ := ((bcell hb110).1 _ 1 (by exact cell_lt t1)).trans t1; have pt2 : w11.cell? ⟨t, 2, none⟩ = _ := ((bcell hb110).1 _ 2 (by exact cell_lt t2)).trans t2; have pt3 : w11.cell? ⟨t, 3, none⟩ = _ := ((bcell hb110).1 _ 3 (by exact cell_lt t3)).trans t3; have HT11 := hid (HTV.out.below hb110); have HRa := hid (HRV.out.keep hb110); have HRb := hid (HRV2.out.keep hb110); have HRc := hid (HRV3.out.keep hb110); have HB11 : Hid (Below w.heap.size w w11) := HBV.out.trans (hb110.mono HBV.out.size); clear hb11 hb110)
                                | (go_at_call 21; refine (cover_is HT11.out HG.out hn1 hn2 f q3 HQE.out).mono ?_; rintro y w12 ⟨rfl, hb12⟩; have xz0 : w12.cell? ⟨w5.heap.size, 0, none⟩ = _ := ((bcell hb12).1 _ 0 (by exact cell_lt pz0)).trans pz0; have xz1 : w12.cell? ⟨w5.heap.size, 1, none⟩ = _ := ((bcell hb12).1 _ 1 (by exact cell_lt pz1)).trans pz1; have xa0 : w12.cell? ⟨w9.heap.size, 0, none⟩ = _ := ((bcell hb12).1 _ 0 (by exact cell_lt pa0)).trans pa0; have xa1 : w12.cell? ⟨w9.heap.size, 1, none⟩ = _ := ((bcell hb12).1 _ 1 (by exact cell_lt pa1)).trans pa1; have xe0 : w12.cell? ⟨w10.heap.size, 0, none⟩ = _ := ((bcell hb12).1 _ 0 (by exact cell_lt pe0)).trans pe0; have xe1 : w12.cell? ⟨w10.heap.size, 1, none⟩ = _ := ((bcell hb12).1 _ 1 (by exact cell_lt pe1)).trans pe1; have xt0 : w12.cell? ⟨t, 0, none⟩ = _ := ((bcell hb12).1 _ 0 (by exact cell_lt pt0)).trans pt0; have xt1 : w12.cell? ⟨t, 1, none⟩ = _ := ((bcell hb12).1 _ 1 (by exact cell_lt pt1)).trans pt1; have xt2 : w12.cell? ⟨t, 2, none⟩ = _ := ((bcell hb12).1 _ 2 (by exact cell_lt pt2)).trans pt2; have xt3 : w12.cell? ⟨t, 3, none⟩ = _ := ((bcell hb12).1 _ 3 (by exact cell_lt pt3)).trans pt3; have HSa := hid (HRa.out.keep hb12); have HSb := hid (HRb.out.keep hb12); have HSc := hid (HRc.out.keep hb12); have HB12 : Hid (Below w.heap.size w w12) := HB11.out.trans (hb12.mono HB11.out.size); clear hb12)
                                | (refine step_appX w12 (by rfl) _ _ (by rfl) w12.heap.size none 0 0 [] (by rfl) (World.ownsRow_nil _ _ _ _) ra2 r2 cc2 F2 (by rfl) HSb.out HR2.out.ad (by omega) (Nat.le_refl _) ?_; intro sa4 c4' w13 hown13 hu13; have hn13 : ∀ k, k < w12.heap.size → ¬ rowS none k := fun k _ hk => (by unfold rowS at hk; simp at hk); have hn13' : ∀ k, k < w12.heap.size → ¬ rowS sa4 k := fun k hk hr => (by rcases hu13.own k hr with h1 | h1 <;> first | exact hn13 k hk h1 | omega); have yz0 : w13.cell? ⟨w5.heap.size, 0, none⟩ = _ := (hu13.cell (cell_lt xz0) (hn13 _ (cell_lt xz0)) 0).trans xz0; have yz1 : w13.cell? ⟨w5.heap.size, 1, none⟩ = _ := (hu13.cell (cell_lt xz1) (hn13 _ (cell_lt xz1)) 1).trans xz1; have ya0 : w13.cell? ⟨w9.heap.size, 0, none⟩ = _ := (hu13.cell (cell_lt xa0) (hn13 _ (cell_lt xa0)) 0).trans xa0; have ya1 : w13.cell? ⟨w9.heap.size, 1, none⟩ = _ := (hu13.cell (cell_lt xa1) (hn13 _ (cell_lt xa1)) 1).trans xa1; have ye0 : w13.cell? ⟨w10.heap.size, 0, none⟩ = _ := (hu13.cell (cell_lt xe0) (hn13 _ (cell_lt xe0)) 0).trans xe0; have ye1 : w13.cell? ⟨w10.heap.size, 1, none⟩ = _ := (hu13.cell (cell_lt xe1) (hn13 _ (cell_lt xe1)) 1).trans xe1; have yt0 : w13.cell? ⟨t, 0, none⟩ = _ := (hu13.cell (cell_lt xt0) (hn13 _ (cell_lt xt0)) 0).trans xt0; have yt1 : w13.cell? ⟨t, 1, none⟩ = _ := (hu13.cell (cell_lt xt1) (hn13 _ (cell_lt xt1)) 1).trans xt1; have yt2 : w13.cell? ⟨t, 2, none⟩ = _ := (hu13.cell (cell_lt xt2) (hn13 _ (cell_lt xt2)) 2).trans xt2; have yt3 : w13.cell? ⟨t, 3, none⟩ = _ := (hu13.cell (cell_lt xt3) (hn13 _ (cell_lt xt3)) 3).trans xt3; have HSc13 := hid (HSc.out.keep (hu13.below (Nat.le_refl _) (fun k hk => absurd hk (by unfold rowS; simp)))); have HSa13 := hid (HSa.out.keep (hu13.below (Nat.le_refl _) (fun k hk => absurd hk (by unfold rowS; simp)))); have HO13 := hid hown13; have hsz13 := hu13.size; have HB13 : Hid (Below w.heap.size w w13) := HB12.out.trans (hu13.below HB12.out.size (fun k hk => absurd hk (by unfold rowS; simp))); have HN13 := hid hn13'; clear hown13 hu13 hn13 hn13')
                                | (refine step_appX w13 (by rfl) _ _ (by rfl) w12.heap.size sa4 (0 + F2.length) c4' ([] ++ recCells F2) (by rfl) HO13.out ra3 r3 cc3 F3 (by rfl) HSc13.out HR3.out.ad (by omega) hsz13 ?_; intro sa5 c5 w14 hown14 hu14; have HO14 := hid (show w14.ownsRow w12.heap.size 61 7 (.slice sa5 (F2.length + F3.length) c5) (F2.length + F3.length) (recCells F2 ++ recCells F3) from (by simpa using hown14)); have HU14 := hid hu14; have vz0 : w14.cell? ⟨w5.heap.size, 0, none⟩ = _ := (HU14.out.cell (cell_lt yz0) (HN13.out _ (cell_lt xz0)) 0).trans yz0; have vz1 : w14.cell? ⟨w5.heap.size, 1, none⟩ = _ := (HU14.out.cell (cell_lt yz1) (HN13.out _ (cell_lt xz1)) 1).trans yz1; have va0 : w14.cell? ⟨w9.heap.size, 0, none⟩ = _ := (HU14.out.cell (cell_lt ya0) (HN13.out _ (cell_lt xa0)) 0).trans ya0; have va1 : w14.cell? ⟨w9.heap.size, 1, none⟩ = _ := (HU14.out.cell (cell_lt ya1) (HN13.out _ (cell_lt xa1)) 1).trans ya1; have ve0 : w14.cell? ⟨w10.heap.size, 0, none⟩ = _ := (HU14.out.cell (cell_lt ye0) (HN13.out _ (cell_lt xe0)) 0).trans ye0; have ve1 : w14.cell? ⟨w10.heap.size, 1, none⟩ = _ := (HU14.out.cell (cell_lt ye1) (HN13.out _ (cell_lt xe1)) 1).trans ye1; have vt0 : w14.cell? ⟨t, 0, none⟩ = _ := (HU14.out.cell (cell_lt yt0) (HN13.out _ (cell_lt xt0)) 0).trans yt0; have vt1 : w14.cell? ⟨t, 1, none⟩ = _ := (HU14.out.cell (cell_lt yt1) (HN13.out _ (cell_lt xt1)) 1).trans yt1; have vt2 : w14.cell? ⟨t, 2, none⟩ = _ := (HU14.out.cell (cell_lt yt2) (HN13.out _ (cell_lt xt2)) 2).trans yt2; have vt3 : w14.cell? ⟨t, 3, none⟩ = _ := (HU14.out.cell (cell_lt yt3) (HN13.out _ (cell_lt xt3)) 3).trans yt3; have HSa14 : Hid (RowR w14 r F) := (fun j hj c hc => ⟨(HU14.out.cell (HSa13.out.lt hj) (HN13.out _ (HSa.out.lt hj)) _).trans (HSa13.out j hj c hc).1, (HU14.out.frozen (HSa13.out.lt hj) (HN13.out _ (HSa.out.lt hj)) _).trans (HSa13.out j hj c hc).2⟩); have HB14 : Hid (Below w.heap.size w w14) := HB13.out.trans (HU14.out.below HB13.out.size (fun k hk => (by have h1 := (HO13.out.lt k (by rw [ownBlock_slice]; exact hk)).1; have h2 := HB12.out.size; omega))); clear hown14 hu14)
                                      | (go_at_call 22; refine (same_both sa5 _ c5 F2 F3 F rfl hFF.out HO14.out ra r cc HR0.out.ad HSa14.out (by omega)).mono ?_; rintro y w15 ⟨rfl, hb15⟩; have oz0 : w15.cell? ⟨w5.heap.size, 0, none⟩ = _ := ((bcell hb15).1 _ 0 (cell_lt vz0)).trans vz0; have oz1 : w15.cell? ⟨w5.heap.size, 1, none⟩ = _ := ((bcell hb15).1 _ 1 (cell_lt vz1)).trans vz1; have oa0 : w15.cell? ⟨w9.heap.size, 0, none⟩ = _ := ((bcell hb15).1 _ 0 (cell_lt va0)).trans va0; have oa1 : w15.cell? ⟨w9.heap.size, 1, none⟩ = _ := ((bcell hb15).1 _ 1 (cell_lt va1)).trans va1; have oe0 : w15.cell? ⟨w10.heap.size, 0, none⟩ = _ := ((bcell hb15).1 _ 0 (cell_lt ve0)).trans ve0; have oe1 : w15.cell? ⟨w10.heap.size, 1, none⟩ = _ := ((bcell hb15).1 _ 1 (cell_lt ve1)).trans ve1; have ot0 : w15.cell? ⟨t, 0, none⟩ = _ := ((bcell hb15).1 _ 0 (cell_lt vt0)).trans vt0; have ot1 : w15.cell? ⟨t, 1, none⟩ = _ := ((bcell hb15).1 _ 1 (cell_lt vt1)).trans vt1; have ot2 : w15.cell? ⟨t, 2, none⟩ = _ := ((bcell hb15).1 _ 2 (cell_lt vt2)).trans vt2; have ot3 : w15.cell? ⟨t, 3, none⟩ = _ := ((bcell hb15).1 _ 3 (cell_lt vt3)).trans vt3; have HBF : Hid (Below w.heap.size w w15) := HB14.out.trans (hb15.mono HB14.out.size); clear hb15))
                            | fail
                            all_goals
                              go_wp2
                              go_ret
                              exact ⟨by first | trivial | rfl, HBF.out⟩
                          · have hqb : (((q : Nat) : Int) != (q3 : Nat)) = true := by simp; omega
                            refine wp_region_noPanic ?_
                            refine wp_region_held_drew (S := fun w' => w'.cell? ⟨w5.heap.size, 0, none⟩ = some (.int .i64 (q : Nat)) ∧ w'.cell? ⟨w5.heap.size, 1, none⟩ = some (.slice ra F.length cc) ∧ w'.cell? ⟨w9.heap.size, 0, none⟩ = some (.int .i64 (q : Nat)) ∧ w'.cell? ⟨w9.heap.size, 1, none⟩ = some (.slice ra2 F2.length cc2) ∧ w'.cell? ⟨w10.heap.size, 0, none⟩ = some (.int .i64 (q3 : Nat)) ∧ w'.cell? ⟨w10.heap.size, 1, none⟩ = some (.slice ra3 F3.length cc3) ∧ w'.cell? ⟨t, 0, none⟩ = some (.int .i64 now1) ∧ w'.cell? ⟨t, 1, none⟩ = some (.string pn) ∧ w'.cell? ⟨t, 2, none⟩ = some (.slice (some ⟨b', 0, none⟩) P.length c') ∧ w'.cell? ⟨t, 3, none⟩ = some (.slice none 0 0)) (by kernel_rfl) ?_ (fun hHeld => ?_)
                            · (try dsimp only)
                              go_keep
                            refine wpAnyH_ready (rs := [0]) (by kernel_rfl) (by simp) ?_
                            refine AllReadyH.cons rfl (fun K hK => ?_) AllReadyH.nil
                            go_simp
                            (go_at_call 16; refine (law_alive _).mono ?_; rintro y w11 ⟨rfl, hb11⟩; have hb110 : Below V.heap.size V w11 := (below_drewN (Below.refl V.heap.size V) 1).trans hb11; have pz0 : w11.cell? ⟨w5.heap.size, 0, none⟩ = _ := ((bcell hb110).1 _ 0 (by exact cell_lt z0)).trans z0; have pz1 : w11.cell? ⟨w5.heap.size, 1, none⟩ = _ := ((bcell hb110).1 _ 1 (by exact cell_lt z1)).trans z1; have pa0 : w11.cell? ⟨w9.heap.size, 0, none⟩ = _ := ((bcell hb110).1 _ 0 (by exact cell_lt a0)).trans a0; have pa1 : w11.cell? ⟨w9.heap.size, 1, none⟩ = _ := ((bcell hb110).1 _ 1 (by exact cell_lt a1)).trans a1; have pe0 : w11.cell? ⟨w10.heap.size, 0, none⟩ = _ := ((bcell hb110).1 _ 0 (by exact cell_lt e0)).trans e0; have pe1 : w11.cell? ⟨w10.heap.size, 1, none⟩ = _ := ((bcell hb110).1 _ 1 (by exact cell_lt e1)).trans e1; have pt0 : w11.cell? ⟨t, 0, none⟩ = _ := ((bcell hb110).1 _ 0 (by exact cell_lt t0)).trans t0; have pt1 : w11.cell? ⟨t, 1, none⟩ = _ := ((bcell hb110).1 _ 1 (by exact cell_lt t1)).trans t1; have pt2 : w11.cell? ⟨t, 2, none⟩ = _ := ((bcell hb110).1 _ 2 (by exact cell_lt t2)).trans t2; have pt3 : w11.cell? ⟨t, 3, none⟩ = _ := ((bcell hb110).1 _ 3 (by exact cell_lt t3)).trans t3; have HT11 := hid (HTV.out.below hb110); have HB11 : Hid (Below w.heap.size w w11) := HBV.out.trans (hb110.mono HBV.out.size); clear hb11 hb110)
                            go_wp2_with fail
                            refine hK.out _ _ ?_ (fun hHeld => ?_)
                            · (try dsimp only)
                              go_keep
                            clear hK K
                            (try simp only [Act.put, List.setIfInBounds_toArray, List.set_cons_zero, List.set_cons_succ])
                            refine wpAnyH_take (i := 1) (oi := ?to1) (v := ?tv1) ?th1 (by kernel_rfl) (by kernel_rfl) (by kernel_rfl) (fun _ _ _ h => h) (Or.inl ⟨?tw1, ?ty1⟩) (by assumption) ?tr1
                            case th1 => ((simp only [List.getElem?_toArray, List.getElem?_cons_succ, List.getElem?_cons_zero]); (try rfl))
                            case tw1 => rfl
                            case ty1 => (intro w hSw; (try dsimp only at hSw); go_simp; (try with_reducible rfl))
                            (try simp only [Act.put, List.setIfInBounds_toArray, List.set_cons_zero, List.set_cons_succ])
                            refine wpAnyH_take (i := 2) (oi := ?to2) (v := ?tv2) ?th2 (by kernel_rfl) (by kernel_rfl) (by kernel_rfl) (fun _ _ _ h => h) (Or.inl ⟨?tw2, ?ty2⟩) (by assumption) ?tr2
                            case th2 => ((simp only [List.getElem?_toArray, List.getElem?_cons_succ, List.getElem?_cons_zero]); (try rfl))
                            case tw2 => rfl
                            case ty2 => (intro w hSw; (try dsimp only at hSw); go_simp; (try with_reducible rfl))
                            (try simp only [Act.put, List.setIfInBounds_toArray, List.set_cons_zero, List.set_cons_succ])
                            refine wpAnyH_take (i := 3) (oi := ?to3) (v := ?tv3) ?th3 (by kernel_rfl) (by kernel_rfl) (by kernel_rfl) (fun _ _ _ h => h) (Or.inl ⟨?tw3, ?ty3⟩) (by assumption) ?tr3
                            case th3 => ((simp only [List.getElem?_toArray, List.getElem?_cons_succ, List.getElem?_cons_zero]); (try rfl))
                            case tw3 => rfl
                            case ty3 => (intro w hSw; (try dsimp only at hSw); go_simp; (try with_reducible rfl))
                            (try simp only [Act.put, List.setIfInBounds_toArray, List.set_cons_zero, List.set_cons_succ])
                            refine wpAnyH_take (i := 4) (oi := ?to4) (v := ?tv4) ?th4 (by kernel_rfl) (by kernel_rfl) (by kernel_rfl) (fun _ _ _ h => h) (Or.inl ⟨?tw4, ?ty4⟩) (by assumption) ?tr4
                            case th4 => ((simp only [List.getElem?_toArray, List.getElem?_cons_succ, List.getElem?_cons_zero]); (try rfl))
                            case tw4 => rfl
                            case ty4 => (intro w hSw; (try dsimp only at hSw); go_simp; (try with_reducible rfl))
                            (try simp only [Act.put, List.setIfInBounds_toArray, List.set_cons_zero, List.set_cons_succ])
                            refine wpAnyH_take (i := 5) (oi := ?to5) (v := ?tv5) ?th5 (by kernel_rfl) (by kernel_rfl) (by kernel_rfl) (fun _ _ _ h => h) (Or.inl ⟨?tw5, ?ty5⟩) (by assumption) ?tr5
                            case th5 => ((simp only [List.getElem?_toArray, List.getElem?_cons_succ, List.getElem?_cons_zero]); (try rfl))
                            case tw5 => rfl
                            case ty5 => (intro w hSw; (try dsimp only at hSw); go_simp; (try with_reducible rfl))
                            (try simp only [Act.put, List.setIfInBounds_toArray, List.set_cons_zero, List.set_cons_succ])
                            refine wpAnyH_take (i := 6) (oi := ?to6) (v := ?tv6) ?th6 (by kernel_rfl) (by kernel_rfl) (by kernel_rfl) (fun _ _ _ h => h) (Or.inl ⟨?tw6, ?ty6⟩) (by assumption) ?tr6
                            case th6 => ((simp only [List.getElem?_toArray, List.getElem?_cons_succ, List.getElem?_cons_zero]); (try rfl))
                            case tw6 => rfl
                            case ty6 => (intro w hSw; (try dsimp only at hSw); go_simp; (try with_reducible rfl))
                            (try simp only [Act.put, List.setIfInBounds_toArray, List.set_cons_zero, List.set_cons_succ])
                            refine wpAnyH_take (i := 7) (oi := ?to7) (v := ?tv7) ?th7 (by kernel_rfl) (by kernel_rfl) (by kernel_rfl) (fun _ _ _ h => h) (Or.inl ⟨?tw7, ?ty7⟩) (by assumption) ?tr7
                            case th7 => ((simp only [List.getElem?_toArray, List.getElem?_cons_succ, List.getElem?_cons_zero]); (try rfl))
                            case tw7 => rfl
                            case ty7 => (intro w hSw; (try dsimp only at hSw); go_simp; (try with_reducible rfl))
                            (try simp only [Act.put, List.setIfInBounds_toArray, List.set_cons_zero, List.set_cons_succ])
                            refine wpAnyH_take (i := 8) (oi := ?to8) (v := ?tv8) ?th8 (by kernel_rfl) (by kernel_rfl) (by kernel_rfl) (fun _ _ _ h => h) (Or.inl ⟨?tw8, ?ty8⟩) (by assumption) ?tr8
                            case th8 => ((simp only [List.getElem?_toArray, List.getElem?_cons_succ, List.getElem?_cons_zero]); (try rfl))
                            case tw8 => rfl
                            case ty8 => (intro w hSw; (try dsimp only at hSw); go_simp; (try with_reducible rfl))
                            (try simp only [Act.put, List.setIfInBounds_toArray, List.set_cons_zero, List.set_cons_succ])
                            refine wpAnyH_ready (rs := [9]) (by kernel_rfl) (by simp) ?_
                            refine AllReadyH.cons rfl (fun K hK => ?_) AllReadyH.nil
                            go_simp
                            (go_at_call 21; refine (cover_is HT11.out HG.out hn1 hn2 f q HQE.out).mono ?_; rintro y w12 ⟨rfl, hb12⟩; have xz0 : w12.cell? ⟨w5.heap.size, 0, none⟩ = _ := ((bcell hb12).1 _ 0 (by exact cell_lt pz0)).trans pz0; have xz1 : w12.cell? ⟨w5.heap.size, 1, none⟩ = _ := ((bcell hb12).1 _ 1 (by exact cell_lt pz1)).trans pz1; have xa0 : w12.cell? ⟨w9.heap.size, 0, none⟩ = _ := ((bcell hb12).1 _ 0 (by exact cell_lt pa0)).trans pa0; have xa1 : w12.cell? ⟨w9.heap.size, 1, none⟩ = _ := ((bcell hb12).1 _ 1 (by exact cell_lt pa1)).trans pa1; have xe0 : w12.cell? ⟨w10.heap.size, 0, none⟩ = _ := ((bcell hb12).1 _ 0 (by exact cell_lt pe0)).trans pe0; have xe1 : w12.cell? ⟨w10.heap.size, 1, none⟩ = _ := ((bcell hb12).1 _ 1 (by exact cell_lt pe1)).trans pe1; have xt0 : w12.cell? ⟨t, 0, none⟩ = _ := ((bcell hb12).1 _ 0 (by exact cell_lt pt0)).trans pt0; have xt1 : w12.cell? ⟨t, 1, none⟩ = _ := ((bcell hb12).1 _ 1 (by exact cell_lt pt1)).trans pt1; have xt2 : w12.cell? ⟨t, 2, none⟩ = _ := ((bcell hb12).1 _ 2 (by exact cell_lt pt2)).trans pt2; have xt3 : w12.cell? ⟨t, 3, none⟩ = _ := ((bcell hb12).1 _ 3 (by exact cell_lt pt3)).trans pt3; have HB12 : Hid (Below w.heap.size w w12) := HB11.out.trans (hb12.mono HB11.out.size); clear hb12)
                            go_wp2_with fail
                            refine hK.out _ _ ?_ (fun hHeld => ?_)
                            · (try dsimp only)
                              go_keep
                            clear hK K
                            (try simp only [Act.put, List.setIfInBounds_toArray, List.set_cons_zero, List.set_cons_succ])
                            refine wpAnyH_take (i := 10) (oi := ?to10) (v := ?tv10) ?th10 (by kernel_rfl) (by kernel_rfl) (by kernel_rfl) (fun _ _ _ h => h) (Or.inl ⟨?tw10, ?ty10⟩) (by assumption) ?tr10
                            case th10 => ((simp only [List.getElem?_toArray, List.getElem?_cons_succ, List.getElem?_cons_zero]); (try rfl))
                            case tw10 => rfl
                            case ty10 => (intro w hSw; (try dsimp only at hSw); go_simp; (try with_reducible rfl))
                            (try simp only [Act.put, List.setIfInBounds_toArray, List.set_cons_zero, List.set_cons_succ])
                            refine wpAnyH_take (i := 11) (oi := ?to11) (v := ?tv11) ?th11 (by kernel_rfl) (by kernel_rfl) (by kernel_rfl) (fun _ _ _ h => h) (Or.inl ⟨?tw11, ?ty11⟩) (by assumption) ?tr11
                            case th11 => ((simp only [List.getElem?_toArray, List.getElem?_cons_succ, List.getElem?_cons_zero]); (try rfl))
                            case tw11 => rfl
                            case ty11 => (intro w hSw; (try dsimp only at hSw); go_simp; (try with_reducible rfl))
                            (try simp only [Act.put, List.setIfInBounds_toArray, List.set_cons_zero, List.set_cons_succ])
                            refine wpAnyH_take (i := 12) (oi := ?to12) (v := ?tv12) ?th12 (by kernel_rfl) (by kernel_rfl) (by kernel_rfl) (fun _ _ _ h => h) (Or.inl ⟨?tw12, ?ty12⟩) (by assumption) ?tr12
                            case th12 => ((simp only [List.getElem?_toArray, List.getElem?_cons_succ, List.getElem?_cons_zero]); (try rfl))
                            case tw12 => rfl
                            case ty12 => (intro w hSw; (try dsimp only at hSw); go_simp; (try with_reducible rfl))
                            (try simp only [Act.put, List.setIfInBounds_toArray, List.set_cons_zero, List.set_cons_succ])
                            refine wpAnyH_take (i := 13) (oi := ?to13) (v := ?tv13) ?th13 (by kernel_rfl) (by kernel_rfl) (by kernel_rfl) (fun _ _ _ h => h) (Or.inl ⟨?tw13, ?ty13⟩) (by assumption) ?tr13
                            case th13 => ((simp only [List.getElem?_toArray, List.getElem?_cons_succ, List.getElem?_cons_zero]); (try rfl))
                            case tw13 => rfl
                            case ty13 => (intro w hSw; (try dsimp only at hSw); go_simp; (try with_reducible rfl))
                            (try simp only [Act.put, List.setIfInBounds_toArray, List.set_cons_zero, List.set_cons_succ])
                            refine wpAnyH_take (i := 14) (oi := ?to14) (v := ?tv14) ?th14 (by kernel_rfl) (by kernel_rfl) (by kernel_rfl) (fun _ _ _ h => h) (Or.inl ⟨?tw14, ?ty14⟩) (by assumption) ?tr14
                            case th14 => ((simp only [List.getElem?_toArray, List.getElem?_cons_succ, List.getElem?_cons_zero]); (try rfl))
                            case tw14 => rfl
                            case ty14 => (intro w hSw; (try dsimp only at hSw); go_simp; (try with_reducible rfl))
                            (try simp only [Act.put, List.setIfInBounds_toArray, List.set_cons_zero, List.set_cons_succ])
                            refine wpAnyH_take (i := 15) (oi := ?to15) (v := ?tv15) ?th15 (by kernel_rfl) (by kernel_rfl) (by kernel_rfl) (fun _ _ _ h => h) (Or.inl ⟨?tw15, ?ty15⟩) (by assumption) ?tr15
                            case th15 => ((simp only [List.getElem?_toArray, List.getElem?_cons_succ, List.getElem?_cons_zero]); (try rfl))
                            case tw15 => rfl
                            case ty15 => (intro w hSw; (try dsimp only at hSw); go_simp; (try with_reducible rfl))
                            (try simp only [Act.put, List.setIfInBounds_toArray, List.set_cons_zero, List.set_cons_succ])
                            refine wpAnyH_take (i := 16) (oi := ?to16) (v := ?tv16) ?th16 (by kernel_rfl) (by kernel_rfl) (by kernel_rfl) (fun _ _ _ h => h) (Or.inl ⟨?tw16, ?ty16⟩) (by assumption) ?tr16
                            case th16 => ((simp only [List.getElem?_toArray, List.getElem?_cons_succ, List.getElem?_cons_zero]); (try rfl))
                            case tw16 => rfl
                            case ty16 => (intro w hSw; (try dsimp only at hSw); go_simp; (try with_reducible rfl))
                            (try simp only [Act.put, List.setIfInBounds_toArray, List.set_cons_zero, List.set_cons_succ])
                            refine wpAnyH_take (i := 17) (oi := ?to17) (v := ?tv17) ?th17 (by kernel_rfl) (by kernel_rfl) (by kernel_rfl) (fun _ _ _ h => h) (Or.inl ⟨?tw17, ?ty17⟩) (by assumption) ?tr17
                            case th17 => ((simp only [List.getElem?_toArray, List.getElem?_cons_succ, List.getElem?_cons_zero]); (try rfl))
                            case tw17 => rfl
                            case ty17 => (intro w hSw; (try dsimp only at hSw); go_simp; (try with_reducible rfl))
                            (try simp only [Act.put, List.setIfInBounds_toArray, List.set_cons_zero, List.set_cons_succ])
                            refine wpAnyH_take (i := 18) (oi := ?to18) (v := ?tv18) ?th18 (by kernel_rfl) (by kernel_rfl) (by kernel_rfl) (fun _ _ _ h => h) (Or.inl ⟨?tw18, ?ty18⟩) (by assumption) ?tr18
                            case th18 => ((simp only [List.getElem?_toArray, List.getElem?_cons_succ, List.getElem?_cons_zero]); (try rfl))
                            case tw18 => rfl
                            case ty18 => (intro w hSw; (try dsimp only at hSw); go_simp; (try with_reducible rfl))
                            (try simp only [Act.put, List.setIfInBounds_toArray, List.set_cons_zero, List.set_cons_succ])
                            refine wpAnyH_take (i := 19) (oi := ?to19) (v := undef) ?th19 (by kernel_rfl) (by kernel_rfl) (by kernel_rfl) (fun _ _ _ h => h) (Or.inr ⟨?tw19, rfl⟩) (by assumption) ?tr19
                            case th19 => ((simp only [List.getElem?_toArray, List.getElem?_cons_succ, List.getElem?_cons_zero]); (try rfl))
                            case tw19 => rfl
                            (try simp only [Act.put, List.setIfInBounds_toArray, List.set_cons_zero, List.set_cons_succ])
                            refine wpAnyH_take (i := 20) (oi := ?to20) (v := undef) ?th20 (by kernel_rfl) (by kernel_rfl) (by kernel_rfl) (fun _ _ _ h => h) (Or.inr ⟨?tw20, rfl⟩) (by assumption) ?tr20
                            case th20 => ((simp only [List.getElem?_toArray, List.getElem?_cons_succ, List.getElem?_cons_zero]); (try rfl))
                            case tw20 => rfl
                            (try simp only [Act.put, List.setIfInBounds_toArray, List.set_cons_zero, List.set_cons_succ])
                            refine wpAnyH_take (i := 21) (oi := ?to21) (v := undef) ?th21 (by kernel_rfl) (by kernel_rfl) (by kernel_rfl) (fun _ _ _ h => h) (Or.inr ⟨?tw21, rfl⟩) (by assumption) ?tr21
                            case th21 => ((simp only [List.getElem?_toArray, List.getElem?_cons_succ, List.getElem?_cons_zero]); (try rfl))
                            case tw21 => rfl
                            (try simp only [Act.put, List.setIfInBounds_toArray, List.set_cons_zero, List.set_cons_succ])
                            refine wpAnyH_take (i := 22) (oi := ?to22) (v := undef) ?th22 (by kernel_rfl) (by kernel_rfl) (by kernel_rfl) (fun _ _ _ h => h) (Or.inr ⟨?tw22, rfl⟩) (by assumption) ?tr22
                            case th22 => ((simp only [List.getElem?_toArray, List.getElem?_cons_succ, List.getElem?_cons_zero]); (try rfl))
                            case tw22 => rfl
                            (try simp only [Act.put, List.setIfInBounds_toArray, List.set_cons_zero, List.set_cons_succ])
                            refine wpAnyH_take (i := 23) (oi := ?to23) (v := undef) ?th23 (by kernel_rfl) (by kernel_rfl) (by kernel_rfl) (fun _ _ _ h => h) (Or.inr ⟨?tw23, rfl⟩) (by assumption) ?tr23
                            case th23 => ((simp only [List.getElem?_toArray, List.getElem?_cons_succ, List.getElem?_cons_zero]); (try rfl))
                            case tw23 => rfl
                            (try simp only [Act.put, List.setIfInBounds_toArray, List.set_cons_zero, List.set_cons_succ])
                            refine wpAnyH_take (i := 24) (oi := ?to24) (v := undef) ?th24 (by kernel_rfl) (by kernel_rfl) (by kernel_rfl) (fun _ _ _ h => h) (Or.inr ⟨?tw24, rfl⟩) (by assumption) ?tr24
                            case th24 => ((simp only [List.getElem?_toArray, List.getElem?_cons_succ, List.getElem?_cons_zero]); (try rfl))
                            case tw24 => rfl
                            (try simp only [Act.put, List.setIfInBounds_toArray, List.set_cons_zero, List.set_cons_succ])
                            refine wpAnyH_take (i := 25) (oi := ?to25) (v := undef) ?th25 (by kernel_rfl) (by kernel_rfl) (by kernel_rfl) (fun _ _ _ h => h) (Or.inr ⟨?tw25, rfl⟩) (by assumption) ?tr25
                            case th25 => ((simp only [List.getElem?_toArray, List.getElem?_cons_succ, List.getElem?_cons_zero]); (try rfl))
                            case tw25 => rfl
                            (try simp only [Act.put, List.setIfInBounds_toArray, List.set_cons_zero, List.set_cons_succ])
                            refine wpAnyH_take (i := 26) (oi := ?to26) (v := undef) ?th26 (by kernel_rfl) (by kernel_rfl) (by kernel_rfl) (fun _ _ _ h => h) (Or.inr ⟨?tw26, rfl⟩) (by assumption) ?tr26
                            case th26 => ((simp only [List.getElem?_toArray, List.getElem?_cons_succ, List.getElem?_cons_zero]); (try rfl))
                            case tw26 => rfl
                            (try simp only [Act.put, List.setIfInBounds_toArray, List.set_cons_zero, List.set_cons_succ])
                            refine wpAnyH_take (i := 27) (oi := ?to27) (v := undef) ?th27 (by kernel_rfl) (by kernel_rfl) (by kernel_rfl) (fun _ _ _ h => h) (Or.inr ⟨?tw27, rfl⟩) (by assumption) ?tr27
                            case th27 => ((simp only [List.getElem?_toArray, List.getElem?_cons_succ, List.getElem?_cons_zero]); (try rfl))
                            case tw27 => rfl
                            (try simp only [Act.put, List.setIfInBounds_toArray, List.set_cons_zero, List.set_cons_succ])
                            refine wpAnyH_take (i := 28) (oi := ?to28) (v := ?tv28) ?th28 (by kernel_rfl) (by kernel_rfl) (by kernel_rfl) (fun _ _ _ h => h) (Or.inl ⟨?tw28, ?ty28⟩) (by assumption) ?tr28
                            case th28 => ((simp only [List.getElem?_toArray, List.getElem?_cons_succ, List.getElem?_cons_zero]); (try rfl))
                            case tw28 => rfl
                            case ty28 => (intro w hSw; (try dsimp only at hSw); go_simp; (try with_reducible rfl))
                            (try simp only [Act.put, List.setIfInBounds_toArray, List.set_cons_zero, List.set_cons_succ])
                            refine wpAnyH_take (i := 29) (oi := ?to29) (v := ?tv29) ?th29 (by kernel_rfl) (by kernel_rfl) (by kernel_rfl) (fun _ _ _ h => h) (Or.inl ⟨?tw29, ?ty29⟩) (by assumption) ?tr29
                            case th29 => ((simp only [List.getElem?_toArray, List.getElem?_cons_succ, List.getElem?_cons_zero]); (try rfl))
                            case tw29 => rfl
                            case ty29 => (intro w hSw; (try dsimp only at hSw); go_simp; (try with_reducible rfl))
                            (try simp only [Act.put, List.setIfInBounds_toArray, List.set_cons_zero, List.set_cons_succ])
                            refine wpAnyH_take (i := 30) (oi := ?to30) (v := ?tv30) ?th30 (by kernel_rfl) (by kernel_rfl) (by kernel_rfl) (fun _ _ _ h => h) (Or.inl ⟨?tw30, ?ty30⟩) (by assumption) ?tr30
                            case th30 => ((simp only [List.getElem?_toArray, List.getElem?_cons_succ, List.getElem?_cons_zero]); (try rfl))
                            case tw30 => rfl
                            case ty30 => (intro w hSw; (try dsimp only at hSw); go_simp; (try with_reducible rfl))
                            (try simp only [Act.put, List.setIfInBounds_toArray, List.set_cons_zero, List.set_cons_succ])
                            refine wpAnyH_done (by kernel_rfl) ?_ _
                            refine NoPanic.normal ?_
                            go_wp2
                            go_ret
                            exact ⟨by first | trivial | rfl, HB12.out⟩
                        · have hk2 : k < F.length := by omega
                          have hdk : decide ((k : Int) < F.length) = true := by simp; omega
                          obtain rfl := HR0.out.ad (by intro h; rw [h] at hk2; simp at hk2)
                          obtain ⟨x, hx⟩ : ∃ x, x = F[k] := ⟨_, rfl⟩
                          have hre := (HR6.out.keep HB7.out).at hk2
                          have hxf := HFR.out x (by rw [hx]; exact List.getElem_mem _)
                          have hprev : Hid (∀ i (h : i < F.length), i < k → F[i].t < x.t) := by
                            intro i h hik
                            have h1 := List.pairwise_iff_getElem.1 HFP.out i k h hk2 hik
                            rw [← hx] at h1
                            rcases h1 with h1 | h1
                            · rw [(HFR.out F[i] (List.getElem_mem _)).1, hxf.1] at h1
                              exact absurd h1 (List.lt_irrefl _)
                            · exact h1.2
                          rw [← hx] at hre
                          obtain ⟨c0, c1, c2, c3, c4, c5, c6⟩ := hre
                          obtain ⟨xs, rt, xa⟩ := x
                          obtain ⟨h1, h2, h3, h4⟩ := hxf
                          have hxs : xs = s := h1
                          subst hxs
                          have hd0 : decide (((q : Nat) : Int) < 0) = false := by simp
                          have hd1 : decide (((P.length : Nat) : Int) ≤ (q : Nat)) = false := by simp; omega
                          have hdE : decide (E < 1) = false := by simp; omega
                          have ce : wr.cell? ⟨b, o + q * 4 + 1, none⟩ = some (.int .i64 E) := by
                            have h5 := (HT.out.below HBR.out).e q hq
                            rw [HEE.out] at h5
                            exact h5
                          have hrt1 : decide (rt < f) = false := by simp; exact h2
                          have hrt2 : decide (u ≤ rt) = false := by simp; exact h3
                          have hrt3 : (rt.tmod E != 0) = false := by simpa using h4
                          have hEz : (E == 0) = false := by rw [beq_eq_false_iff_ne]; omega
                          have hEn : ¬ E = 0 := by omega
                          have HK2 := hid hk2
                          have HX := hid hx
                          have hl7 := cell_lt z0
                          have hl8 := cell_lt y1
                          have hl9 := cell_lt ce
                          have hl10 := cell_lt c0
                          clear hx h1 h2 h3 h4
                          go_wp2_with fail
                          obtain ⟨V, hV⟩ : ∃ V, V = wr.alloc (.cells #[.string xs, .int .i64 rt, .int .i64 xa.c, .int .i64 xa.h, .int .u64 xa.l, .int .i64 xa.a, .int .i64 xa.b] 61) := ⟨_, rfl⟩
                          obtain ⟨p0, _⟩ := blk_at (heap_alloc_new wr (.cells #[.string xs, .int .i64 rt, .int .i64 xa.c, .int .i64 xa.h, .int .u64 xa.l, .int .i64 xa.a, .int .i64 xa.b] 61))
                          have hBV : Below wr.heap.size wr (wr.alloc (.cells #[.string xs, .int .i64 rt, .int .i64 xa.c, .int .i64 xa.h, .int .u64 xa.l, .int .i64 xa.a, .int .i64 xa.b] 61)) := below_al (Below.refl _ _) _
                          rw [← hV] at p0 hBV ⊢
                          have d0 := p0 0
                          have d1 := p0 1
                          have d2 := ((bcell hBV).1 _ 1 hl8).trans y1
                          have d3 := ((bcell hBV).1 _ 0 hl7).trans z0
                          have d4 := ((bcell hBV).1 _ _ hl9).trans ce
                          have d5 := ((bcell hBV).1 _ 1 hl7).trans z1
                          have HB8 : Hid (Below W6.heap.size W6 V) := HB7.out.trans (hBV.mono HB7.out.size)
                          clear p0 hV y1 z0 z1 ce c0 c1 c2 c3 c4 c5 c6
                          rcases k with _ | k
                          · clear hBV
                            go_wp2_with fail
                            go_quiet (first | fail)
                            have HB9 := hid (below_drewN HB8.out 1)
                            go_wp2
                            go_roundw
                            case rel => exact ⟨1, by have := HK2.out; omega, by first | trivial | rfl | go_num, below_drewN HB8.out _⟩
                            case measure => have := HK2.out; simp [intOf]; omega
                          · obtain ⟨pt, hpt⟩ : ∃ pt, pt = (F[k]'(by omega)).t := ⟨_, rfl⟩
                            have hle : decide (rt ≤ pt) = false := by
                              have h1 := hprev.out k (by omega) (by omega)
                              rw [← hpt] at h1
                              simp
                              exact h1
                            have cp : wr.cell? ⟨r, k * 7 + 1, none⟩ = some (.int .i64 pt) := by rw [hpt]; exact ((HR6.out.keep HB7.out).at (j := k) (by omega)).c1
                            have d6 := ((bcell hBV).1 _ _ hl10).trans cp
                            have hkpos : decide ((0 : Int) < ((k + 1 : Nat) : Int)) = true := decide_eq_true (by omega)
                            have HKP := hid hpt
                            clear hpt cp hBV hkn
                            go_wp2_with fail
                            go_quiet (first | fail)
                            go_wp2
                            go_roundw
                            case rel => exact ⟨k + 1 + 1, HK2.out, by go_num, below_drewN HB8.out _⟩
                            case measure => have := HK2.out; simp [intOf]; omega
                  · have hk2 : k < L.length := by omega
                    have hdk : decide ((k : Int) < L.length) = true := by simp; omega
                    obtain rfl := HOA.out (by intro h; rw [h] at hk2; simp at hk2)
                    obtain ⟨x, hx⟩ : ∃ x, x = L.getD k default := ⟨_, rfl⟩
                    have c0 := HO4.out.c0 k hk2
                    have c1 := HO4.out.c1 k hk2
                    have c2 := HO4.out.c2 k hk2
                    have hop := HO4.out.op k hk2
                    rw [← hx] at c0 c1 c2 hop
                    have HOP := hid hop
                    have HK2 := hid hk2
                    have HX := hid hx
                    clear hx hop
                    by_cases hk1 : x.kind = 1
                    · have he1 : (x.kind == 1) = true := by rw [hk1]; rfl
                      have he2 : (x.kind == 2) = false := by rw [hk1]; rfl
                      clear hk1
                      go_wp2_with fail
                      refine (put_step HT1.out HB4.out.size HG.out hn1 hn2 HI1.out x.S x.sa x.sb x.so x.sc HOP.out.sa HOP.out.ss).mono ?_
                      rintro e w5 ⟨n, T2, rfl, hT2, hI2, hb5⟩
                      have d0 : w5.cell? ⟨ob, oo + k * 4, none⟩ = some (.int .i64 x.kind) := by
                        have h5 := (HO1.out.below (HB4.out.trans hb5)).c0 k HK2.out
                        rw [← HX.out] at h5
                        exact h5
                      have HT2 := hid hT2
                      have HI2 := hid hI2
                      have HB5 := hid (HB4.out.trans hb5)
                      clear hT2 hI2 hb5
                      go_wp2
                      go_roundw
                      case rel => exact ⟨k + 1, now1, T2, HK2.out, by go_num, hn1, hn2, HT2.out, fun j hj => ⟨(HI2.out j hj).1, by have := (HI2.out j hj).2; omega⟩, HB5.out⟩
                      case measure => have := HK2.out; simp [intOf]; omega
                    · have he1 : (x.kind == 1) = false := by rw [beq_eq_false_iff_ne]; exact hk1
                      by_cases hk3 : x.kind = 2
                      · have he2 : (x.kind == 2) = true := by rw [hk3]; rfl
                        clear hk1 hk3
                        go_wp2_with fail
                        refine (tick_step HT1.out HB4.out.size HG.out hn1 hn2 HI1.out x.n).mono ?_
                        rintro e w5 ⟨z, now2, T2, rfl, hT2, hq1, hq2, hI2, hb5⟩
                        have HT2 := hid hT2
                        have HI2 := hid hI2
                        have HB5 := hid (HB4.out.trans hb5)
                        clear hT2 hI2 hb5
                        go_wp2
                        go_roundw
                        case rel => exact ⟨k + 1, now2, T2, HK2.out, by go_num, hq1, hq2, HT2.out, fun j hj => ⟨(HI2.out j hj).1, by have := (HI2.out j hj).2; omega⟩, HB5.out⟩
                        case measure => have := HK2.out; simp [intOf]; omega
                      · have he2 : (x.kind == 2) = false := by rw [beq_eq_false_iff_ne]; exact hk3
                        clear hk1 hk3
                        go_wp2
                        go_roundw
                        case rel => exact ⟨k + 1, now1, T1, HK2.out, by go_num, hn1, hn2, HT1.out, fun j hj => ⟨(HI1.out j hj).1, by have := (HI1.out j hj).2; omega⟩, HB4.out⟩
                        case measure => have := HK2.out; simp [intOf]; omega
end Go.Proofs.Ytcbpaikklkmnbaa
