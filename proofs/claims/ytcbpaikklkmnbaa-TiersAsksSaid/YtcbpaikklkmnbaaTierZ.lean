/- Tiers are asked: Ask, Cover. -/
import Derived.Test.YtcbpaikklkmnbaaTierY
namespace Go.Proofs.Ytcbpaikklkmnbaa
open Go.RowKit Go.Proofs
set_option maxRecDepth 20000
set_option maxHeartbeats 1600000

/-- may one ask so? -/
def askB (s : ByteArray) (f u : Int) : Bool := validB s && (decide (0 ≤ f) && decide (f ≤ u))

abbrev anV (n : Int) (a : Option Addr) (m c : Nat) : Value := .agg #[.int .i64 n, .slice a m c]

/-- a slice of records, and what it has -/
def AnsAt (w : World) (B : Nat) (T : List Rc) (s : ByteArray) (f u : Int) (a : Option Addr) (n r : Nat) (S : List Rc) : Prop :=
  n = (S.filter (inQ s f u)).length ∧ S.Perm T ∧ S.Pairwise RLt ∧ RecsAt w B a r (S.filter (inQ s f u))

theorem set_ans {w V : World} {t0 t1 : Value} (hB : Below w.heap.size w V) (e0 : V.cell? ⟨w.heap.size, 0, none⟩ = some t0) (e1 : V.cell? ⟨w.heap.size, 1, none⟩ = some t1) (m : Nat) (a : Option Addr) (n c : Nat) :
    ((V.setCell ⟨w.heap.size, 0, none⟩ (.int .i64 (m : Nat))).setCell ⟨w.heap.size, 1, none⟩ (.slice a n c)).cell? ⟨w.heap.size, 0, none⟩ = some (.int .i64 (m : Nat)) ∧
    ((V.setCell ⟨w.heap.size, 0, none⟩ (.int .i64 (m : Nat))).setCell ⟨w.heap.size, 1, none⟩ (.slice a n c)).cell? ⟨w.heap.size, 1, none⟩ = some (.slice a n c) ∧
    Below w.heap.size w ((V.setCell ⟨w.heap.size, 0, none⟩ (.int .i64 (m : Nat))).setCell ⟨w.heap.size, 1, none⟩ (.slice a n c)) ∧
    Upd (fun q => q = w.heap.size) V (fun q => q = w.heap.size) ((V.setCell ⟨w.heap.size, 0, none⟩ (.int .i64 (m : Nat))).setCell ⟨w.heap.size, 1, none⟩ (.slice a n c)) := by
  refine ⟨by go_simp, by go_simp, (hB.setCell (p := ⟨w.heap.size, 0, none⟩) (Nat.le_refl _) _).setCell (p := ⟨w.heap.size, 1, none⟩) (Nat.le_refl _) _, ?_⟩
  exact (Upd.setCell (S := fun q => q = w.heap.size) V (p := ⟨w.heap.size, 0, none⟩) rfl _).trans (Upd.setCell (S := fun q => q = w.heap.size) _ (p := ⟨w.heap.size, 1, none⟩) rfl _)

theorem zero_ans {w V : World} {t0 t1 : Value} (hB : Below w.heap.size w V) (e0 : V.cell? ⟨w.heap.size, 0, none⟩ = some t0) (e1 : V.cell? ⟨w.heap.size, 1, none⟩ = some t1) :
    ((V.setCell ⟨w.heap.size, 0, none⟩ (.int .i64 0)).setCell ⟨w.heap.size, 1, none⟩ (.slice none 0 0)).cell? ⟨w.heap.size, 0, none⟩ = some (.int .i64 0) ∧
    ((V.setCell ⟨w.heap.size, 0, none⟩ (.int .i64 0)).setCell ⟨w.heap.size, 1, none⟩ (.slice none 0 0)).cell? ⟨w.heap.size, 1, none⟩ = some (.slice none 0 0) ∧
    Below w.heap.size w ((V.setCell ⟨w.heap.size, 0, none⟩ (.int .i64 0)).setCell ⟨w.heap.size, 1, none⟩ (.slice none 0 0)) := by
  have h := set_ans hB e0 e1 0 none 0 0
  exact ⟨h.1, h.2.1, h.2.2.1⟩

theorem tiers_ask {w : World} {H t : Nat} {now : Int} {pn : ByteArray} {b c : Nat} {P : List Ti} {B : Nat → Nat × Nat} {T : Nat → List Rc} {la : Option Addr} {cl : Nat} (h : TsAt w H t now pn b c P B T P.length la cl) (hG : GoodP P) (hn1 : 0 ≤ now) (hn2 : now ≤ 1099511627776) (hL : ∀ j, j < P.length → (T j).length ≤ 100000) (s : ByteArray) (f u : Int) :
    Calls Try.prog 20 #[.pointer (some ⟨t, 0, none⟩), .string s, .int .i64 f, .int .i64 u] w fun e w' =>
      Below w.heap.size w w' ∧ ((askB s f u = false ∧ e = .returned (.tuple #[anV 0 none 0 0, .int .i64 1])) ∨
      (askB s f u = true ∧ ∃ (a : Option Addr) (n cc r : Nat) (S : List Rc), e = .returned (.tuple #[anV (coverI now P f : Nat) a n cc, .int .i64 0]) ∧ AnsAt w' w.heap.size (T (coverI now P f)) s f u a n r S)) := by
  have HTS := hid h
  have HG := hid hG
  have HL := hid hL
  have hpos := hG.pos
  have hlen := hG.len
  obtain ⟨lb, cl', hlv, _, hlbl⟩ := h.own.form hpos
  obtain ⟨rfl, _, rfl⟩ := Value.slice.inj hlv
  have hB0 : Below w.heap.size w (w.alloc (.cells #[.int .i64 0, .slice none 0 0] 55)) := below_al (Below.refl _ _) _
  obtain ⟨p0, p1⟩ := blk_at (heap_alloc_new w (.cells #[.int .i64 0, .slice none 0 0] 55))
  have d0 := p0 0
  have d1 := p0 1
  have g0 := p1 0
  have g1 := p1 1
  have hwl : w.heap.size < (w.alloc (.cells #[.int .i64 0, .slice none 0 0] 55)).heap.size := by simp
  clear h hG hlv hL p0 p1
  go_enter Try.func20, Try.ntmps20
  go_wp2_with fail
  generalize w.alloc (.cells #[.int .i64 0, .slice none 0 0] 55) = W at *
  have HTW := hid (HTS.out.below hB0)
  have HBW := hid hB0
  clear hB0
  refine (tiers_none HTW.out hpos).mono ?_
  rintro x w1 ⟨rfl, rfl⟩
  go_wp2_with fail
  refine (valid_one _ 0 1 s _ (by go_simp)).mono ?_
  rintro x w1 ⟨rfl, rfl⟩
  have hB1 : Below W.heap.size W (W.alloc (.cells #[.string s] 9)) := below_al (Below.refl _ _) _
  have e0 := ((bcell hB1).1 _ 0 hwl).trans d0
  have e1 := ((bcell hB1).1 _ 1 hwl).trans d1
  have k0 := ((bcell hB1).2 _ 0 hwl).trans g0
  have k1 := ((bcell hB1).2 _ 1 hwl).trans g1
  have hvl : w.heap.size < (W.alloc (.cells #[.string s] 9)).heap.size := by simp; omega
  clear d0 d1 g0 g1
  generalize W.alloc (.cells #[.string s] 9) = V at *
  have HTX := hid (HTW.out.below hB1)
  have HBX : Hid (Below w.heap.size w V) := HBW.out.trans (hB1.mono HBW.out.size)
  clear hB1
  cases hv : validB s with
  | false =>
    have hkb : askB s f u = false := by unfold askB; rw [hv]; simp
    have HKB := hid hkb
    clear hkb
    go_wp2
    have hz := zero_ans HBX.out e0 e1
    obtain ⟨z0, z1, hzb⟩ := hz
    generalize (V.setCell ⟨w.heap.size, 0, none⟩ (.int .i64 0)).setCell ⟨w.heap.size, 1, none⟩ (.slice none 0 0) = V2 at *
    have HZB := hid hzb
    clear hzb
    simp [bodyPost, results, Try.results20, go_sem, z0, z1]
    exact ⟨HZB.out, HKB.out⟩
  | true =>
    have HV := hid hv
    clear hv
    by_cases hf : f < 0
    · have hdf : decide (f < 0) = true := by simp; omega
      have hkb : askB s f u = false := by unfold askB; rw [decide_eq_false (show ¬ 0 ≤ f by omega)]; simp
      have HKB := hid hkb
      clear hkb
      go_wp2
      have hz := zero_ans HBX.out e0 e1
      obtain ⟨z0, z1, hzb⟩ := hz
      generalize (V.setCell ⟨w.heap.size, 0, none⟩ (.int .i64 0)).setCell ⟨w.heap.size, 1, none⟩ (.slice none 0 0) = V2 at *
      have HZB := hid hzb
      clear hzb
      simp [bodyPost, results, Try.results20, go_sem, z0, z1]
      exact ⟨HZB.out, HKB.out⟩
    · have hdf : decide (f < 0) = false := by simp; omega
      by_cases hu : u < f
      · have hdu : decide (u < f) = true := by simp; omega
        have hkb : askB s f u = false := by unfold askB; rw [decide_eq_false (show ¬ f ≤ u by omega)]; simp
        have HKB := hid hkb
        clear hkb
        go_wp2
        have hz := zero_ans HBX.out e0 e1
        obtain ⟨z0, z1, hzb⟩ := hz
        generalize (V.setCell ⟨w.heap.size, 0, none⟩ (.int .i64 0)).setCell ⟨w.heap.size, 1, none⟩ (.slice none 0 0) = V2 at *
        have HZB := hid hzb
        clear hzb
        simp [bodyPost, results, Try.results20, go_sem, z0, z1]
        exact ⟨HZB.out, HKB.out⟩
      · have hdu : decide (u < f) = false := by simp; omega
        have HKB : Hid (askB s f u = true) := by
          show _ = _
          unfold askB
          rw [HV.out, decide_eq_true (show 0 ≤ f by omega), decide_eq_true (show f ≤ u by omega)]
          rfl
        obtain ⟨t0, t1, t2, t3⟩ := HTX.out.rc
        go_wp2_with fail
        refine (reach_cover now pn b 0 c P f V HTX.out.ti HTX.out.bl HG.out hn1 hn2).mono ?_
        rintro x w6 ⟨rfl, hb6⟩
        have a0 := ((bcell hb6).1 _ 0 hvl).trans e0
        have a1 := ((bcell hb6).1 _ 1 hvl).trans e1
        have j0 := ((bcell hb6).2 _ 0 hvl).trans k0
        have j1 := ((bcell hb6).2 _ 1 hvl).trans k1
        have HT6 := hid (HTX.out.below hb6)
        have HB6 : Hid (Below w.heap.size w w6) := HBX.out.trans (hb6.mono HBX.out.size)
        clear hb6 e0 e1 k0 k1 t0 t1 t2 t3
        have hml : coverI now P f < P.length := coverF_lt _ _ _ hpos _
        generalize hcm : coverI now P f = m at *
        have HCM := hid hcm
        clear hcm
        have cp := HT6.out.own.cells (g := lb) rfl m _ (ptrs_get B hml)
        rw [addO, Nat.zero_add] at cp
        have c4 := HT6.out.c4
        have h6l := cell_lt a0
        go_wp2_with fail
        refine (table_range (HT6.out.tb m hml) (HL.out m hml) s f u).mono ?_
        rintro x w7 ⟨a, cc, r, S, rfl, hp, hs, hr, hb7⟩
        have q0 := ((bcell hb7).1 _ 0 h6l).trans a0
        have q1 := ((bcell hb7).1 _ 1 h6l).trans a1
        have v0 := ((bcell hb7).2 _ 0 h6l).trans j0
        have v1 := ((bcell hb7).2 _ 1 h6l).trans j1
        have HB7 : Hid (Below w.heap.size w w7) := HB6.out.trans (hb7.mono HB6.out.size)
        obtain ⟨n, hn⟩ : ∃ n, n = (S.filter (inQ s f u)).length := ⟨_, rfl⟩
        rw [← hn]
        have HA7 : Hid (AnsAt w7 w6.heap.size (T m) s f u a n r S) := ⟨hn, hp, hs, hr⟩
        clear hp hs hr hb7 a0 a1 j0 j1 hn
        go_wp2
        have hz := set_ans HB7.out q0 q1 m a n cc
        obtain ⟨z0, z1, hzb, hzu⟩ := hz
        have HA8 : Hid (AnsAt ((w7.setCell ⟨w.heap.size, 0, none⟩ (.int .i64 (m : Nat))).setCell ⟨w.heap.size, 1, none⟩ (.slice a n cc)) w.heap.size (T m) s f u a n r S) := by
          obtain ⟨h1, h2, h3, h4⟩ := HA7.out
          refine ⟨h1, h2, h3, ⟨?_, h4.ad, by have := h4.lo; omega⟩⟩
          have hlo := h4.lo
          intro j hj c' hc'
          have hne : ¬ r = w.heap.size := by omega
          have hrl : r < w7.heap.size := cell_lt (h4.row.at hj).c0
          exact ⟨(hzu.cell hrl hne _).trans (h4.row j hj c' hc').1, (hzu.frozen hrl hne _).trans (h4.row j hj c' hc').2⟩
        generalize (w7.setCell ⟨w.heap.size, 0, none⟩ (.int .i64 (m : Nat))).setCell ⟨w.heap.size, 1, none⟩ (.slice a n cc) = V2 at *
        have HZB := hid hzb
        clear hzb hzu
        simp [bodyPost, results, Try.results20, go_sem, z0, z1]
        refine ⟨HZB.out, HKB.out, a, n, ?_⟩
        exact ⟨⟨by rw [HCM.out], rfl, rfl⟩, r, S, by rw [HCM.out]; exact HA8.out⟩

theorem tiers_cover {w : World} {H t : Nat} {now : Int} {pn : ByteArray} {b c : Nat} {P : List Ti} {B : Nat → Nat × Nat} {T : Nat → List Rc} {la : Option Addr} {cl : Nat} (h : TsAt w H t now pn b c P B T P.length la cl) (hG : GoodP P) (hn1 : 0 ≤ now) (hn2 : now ≤ 1099511627776) (f : Int) :
    Calls Try.prog 21 #[rcV now pn b 0 P.length c, .int .i64 f] w fun e w' => e = .returned (.int .i64 (coverI now P f : Nat)) ∧ Below w.heap.size w w' :=
  reach_cover now pn b 0 c P f w h.ti h.bl hG hn1 hn2

end Go.Proofs.Ytcbpaikklkmnbaa
