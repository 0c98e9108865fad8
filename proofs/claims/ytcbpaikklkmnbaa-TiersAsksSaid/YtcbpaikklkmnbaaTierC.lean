/- What is known of values: Of and Merge. -/
import Derived.Test.YtcbpaikklkmnbaaTierB
import Derived.Deep.RegionHeld3
import Derived.Deep.RegionLaw
import Derived.Deep.RegionWith
namespace Go.Proofs.Ytcbpaikklkmnbaa
open Go.RowKit Go.Proofs

theorem blk_at {w : World} {b : Nat} {cs : Array Value} {T : TypeId} (h : w.heap[b]? = some (.cells cs T (0, 0))) : (∀ o, w.cell? ⟨b, o, none⟩ = cs[o]?) ∧ (∀ o, w.frozen? ⟨b, o, none⟩ = false) := by
  refine ⟨fun o => cell_of_row w b o cs T (0, 0) h, fun o => ?_⟩
  unfold World.frozen?
  simp only [h]
  simp



/-- the five cells of what is known, writable -/
structure AgAt (w : World) (b : Nat) (x : Ag) : Prop where
  c0 : w.cell? ⟨b, 0, none⟩ = some (.int .i64 x.c)
  c1 : w.cell? ⟨b, 1, none⟩ = some (.int .i64 x.h)
  c2 : w.cell? ⟨b, 2, none⟩ = some (.int .u64 x.l)
  c3 : w.cell? ⟨b, 3, none⟩ = some (.int .i64 x.a)
  c4 : w.cell? ⟨b, 4, none⟩ = some (.int .i64 x.b)
  f0 : w.frozen? ⟨b, 0, none⟩ = false
  f1 : w.frozen? ⟨b, 1, none⟩ = false
  f2 : w.frozen? ⟨b, 2, none⟩ = false
  f3 : w.frozen? ⟨b, 3, none⟩ = false
  f4 : w.frozen? ⟨b, 4, none⟩ = false

theorem AgAt.below {w w' : World} {b B : Nat} {x : Ag} (h : AgAt w b x) (hb : Below B w w') (hB : b < B) : AgAt w' b x where
  c0 := ((bcell hb).1 b 0 hB).trans h.c0
  c1 := ((bcell hb).1 b 1 hB).trans h.c1
  c2 := ((bcell hb).1 b 2 hB).trans h.c2
  c3 := ((bcell hb).1 b 3 hB).trans h.c3
  c4 := ((bcell hb).1 b 4 hB).trans h.c4
  f0 := ((bcell hb).2 b 0 hB).trans h.f0
  f1 := ((bcell hb).2 b 1 hB).trans h.f1
  f2 := ((bcell hb).2 b 2 hB).trans h.f2
  f3 := ((bcell hb).2 b 3 hB).trans h.f3
  f4 := ((bcell hb).2 b 4 hB).trans h.f4

theorem AgAt.below' {w w' : World} {b B : Nat} {x : Ag} (hb : Below B w w') (h : AgAt w b x) (hB : b < B) : AgAt w' b x := h.below hb hB

theorem AgAt.lt {w : World} {b : Nat} {x : Ag} (h : AgAt w b x) : b < w.heap.size := cell_lt h.c0

theorem AgAt.new (w : World) (T : TypeId) : AgAt (w.alloc (.cells #[.int .i64 0, .int .i64 0, .int .u64 0, .int .i64 0, .int .i64 0] T)) w.heap.size agZ := by
  obtain ⟨h1, h2⟩ := blk_at (heap_alloc_new w (.cells #[.int .i64 0, .int .i64 0, .int .u64 0, .int .i64 0, .int .i64 0] T))
  exact ⟨h1 0, h1 1, h1 2, h1 3, h1 4, h2 0, h2 1, h2 2, h2 3, h2 4⟩

theorem AgAt.newOf (w : World) (x : Ag) (T : TypeId) : AgAt (w.alloc (.cells #[.int .i64 x.c, .int .i64 x.h, .int .u64 x.l, .int .i64 x.a, .int .i64 x.b] T)) w.heap.size x := by
  obtain ⟨h1, h2⟩ := blk_at (heap_alloc_new w (.cells #[.int .i64 x.c, .int .i64 x.h, .int .u64 x.l, .int .i64 x.a, .int .i64 x.b] T))
  exact ⟨h1 0, h1 1, h1 2, h1 3, h1 4, h2 0, h2 1, h2 2, h2 3, h2 4⟩

abbrev setAg (w : World) (b : Nat) (x : Ag) : World := ((((w.setCell ⟨b, 0, none⟩ (.int .i64 x.c)).setCell ⟨b, 1, none⟩ (.int .i64 x.h)).setCell ⟨b, 2, none⟩ (.int .u64 x.l)).setCell ⟨b, 3, none⟩ (.int .i64 x.a)).setCell ⟨b, 4, none⟩ (.int .i64 x.b)

theorem AgAt.set {w : World} {b : Nat} {x : Ag} (h : AgAt w b x) (y : Ag) : AgAt (setAg w b y) b y := by
  obtain ⟨c0, c1, c2, c3, c4, f0, f1, f2, f3, f4⟩ := h
  constructor <;> go_simp

theorem AgAt.setO {w : World} {b g : Nat} {x : Ag} (h : AgAt w b x) (y : Ag) (hne : b ≠ g) : AgAt (setAg w g y) b x := by
  obtain ⟨c0, c1, c2, c3, c4, f0, f1, f2, f3, f4⟩ := h
  constructor <;> go_simp

theorem below_set {B : Nat} {a w : World} (h : Below B a w) {b : Nat} (hb : B ≤ b) (x : Ag) : Below B a (setAg w b x) :=
  ((((h.setCell (p := ⟨b, 0, none⟩) hb _).setCell (p := ⟨b, 1, none⟩) hb _).setCell (p := ⟨b, 2, none⟩) hb _).setCell (p := ⟨b, 3, none⟩) hb _).setCell (p := ⟨b, 4, none⟩) hb _

set_option maxRecDepth 20000 in
set_option maxHeartbeats 1600000 in
theorem ag_of (b c : Nat) (v : Int) (w : World) (hc : w.cell? ⟨b, 0, none⟩ = some (.int .i64 v)) :
    Calls Try.prog 36 #[.slice (some ⟨b, 0, none⟩) 1 c] w fun e w' => e = .returned (agV (agOne v)) ∧ Below w.heap.size w w' := by
  have hb := cell_lt hc
  go_enter Try.func36, Try.ntmps36
  go_wp2_with fail
  go_loopw [8] (fun i wr => ∃ (k : Nat) (x : Ag), k ≤ 1 ∧ i = .int .i64 k ∧ Hid (x = if k = 0 then agZ else agOne v) ∧ AgAt wr w.heap.size agZ ∧ AgAt wr (w.heap.size + 1) x ∧ Below w.heap.size w wr) (fun i _ => 1 - (intOf i).toNat)
  case atStart =>
    refine ⟨0, agZ, by omega, by first | trivial | rfl, rfl, (AgAt.new w _).below (w' := (w.alloc _).alloc _) ((Below.refl _ _).alloc (Nat.le_refl _) _) (by simp), ?_, below_al (below_al (Below.refl _ _) _) _⟩
    have := AgAt.new (w.alloc (.cells #[.int .i64 0, .int .i64 0, .int .u64 0, .int .i64 0, .int .i64 0] 59)) 59
    simpa using this
  case round =>
    obtain ⟨k, x, hk, rfl, hx, hR, hA, hB⟩ := hrel
    have HR := hid hR
    have HA := hid hA
    have HB := hid hB
    obtain ⟨z0, z1, z2, z3, z4, y0, y1, y2, y3, y4⟩ := hA
    have hAl := cell_lt z0
    clear hR hB
    by_cases hk1 : k = 1
    · subst hk1
      obtain ⟨v0, v1, v2, v3, v4, u0, u1, u2, u3, u4⟩ := HR.out
      have hxv : x = agOne v := hx.out
      clear hx
      subst hxv
      go_wp2
      have hS := HR.out.set (agOne v)
      have hW := below_set HB.out (Nat.le_refl w.heap.size) (agOne v)
      simp only [setAg] at hS hW
      generalize (wr.setCell ⟨w.heap.size, 0, none⟩ (.int .i64 (agOne v).c)).setCell ⟨w.heap.size, 1, none⟩ (.int .i64 (agOne v).h) = W1 at hS hW ⊢
      generalize ((W1.setCell ⟨w.heap.size, 2, none⟩ (.int .u64 (agOne v).l)).setCell ⟨w.heap.size, 3, none⟩ (.int .i64 (agOne v).a)).setCell ⟨w.heap.size, 4, none⟩ (.int .i64 (agOne v).b) = W at hS hW ⊢
      obtain ⟨s0, s1, s2, s3, s4, _, _, _, _, _⟩ := hS
      simp [bodyPost, results, Try.results36, go_sem, s0, s1, s2, s3, s4]
      exact hW
    · have hk0 : k = 0 := by omega
      subst hk0
      have hxc : x.c = 0 := by rw [hx.out]; rfl
      have HXC := hid hxc
      have hxl : 0 ≤ x.l ∧ x.l < 18446744073709551616 := by rw [hx.out, if_pos rfl]; decide
      have HXL := hid hxl
      clear hxc hxl
      have hcr : wr.cell? ⟨b, 0, none⟩ = some (.int .i64 v) := ((bcell HB.out).1 b 0 hb).trans hc
      go_wp2_with fail
      go_region_with (first
        | (go_at_call 60; refine (ag_one v _).mono ?_; rintro e w1 ⟨rfl, hb1⟩; have A1 : AgAt w1 (w.heap.size + 1) x := AgAt.below' hb1 ⟨HA.out.c0, HA.out.c1, HA.out.c2, HA.out.c3, HA.out.c4, HA.out.f0, HA.out.f1, HA.out.f2, HA.out.f3, HA.out.f4⟩ (by have := HA.out.lt; simpa using this); have R1 : AgAt w1 w.heap.size agZ := AgAt.below' hb1 ⟨HR.out.c0, HR.out.c1, HR.out.c2, HR.out.c3, HR.out.c4, HR.out.f0, HR.out.f1, HR.out.f2, HR.out.f3, HR.out.f4⟩ (by have := HR.out.lt; simpa using this); have HA1 := hid A1; have HR1 := hid R1; have HB1 : Hid (Below w.heap.size w w1) := (by first | exact HB.out.trans (hb1.mono HB.out.size) | exact (below_drewN HB.out _).trans (hb1.mono HB.out.size) | exact (show Below w.heap.size w wr.drew from below_drewN HB.out 1).trans (hb1.mono HB.out.size)); obtain ⟨a0, a1, a2, a3, a4, _, _, _, _, _⟩ := A1; clear hb1 R1)
        | (go_at_call 59; refine (ag_both x (agOne v) _ HXL.out.1 HXL.out.2 (show 0 ≤ (agOne v).l from u64n v) (show (agOne v).l < 18446744073709551616 from u64l v)).mono ?_; rintro e w2 ⟨rfl, hb2⟩; have A2 : AgAt w2 (w.heap.size + 1) x := AgAt.below' hb2 ⟨HA1.out.c0, HA1.out.c1, HA1.out.c2, HA1.out.c3, HA1.out.c4, HA1.out.f0, HA1.out.f1, HA1.out.f2, HA1.out.f3, HA1.out.f4⟩ (by have := HA1.out.lt; simpa using this); have R2 : AgAt w2 w.heap.size agZ := AgAt.below' hb2 ⟨HR1.out.c0, HR1.out.c1, HR1.out.c2, HR1.out.c3, HR1.out.c4, HR1.out.f0, HR1.out.f1, HR1.out.f2, HR1.out.f3, HR1.out.f4⟩ (by have := HR1.out.lt; simpa using this); have HA2 := hid A2; have HR2 := hid R2; have HB2 : Hid (Below w.heap.size w w2) := (by first | exact HB1.out.trans (hb2.mono HB1.out.size) | exact (below_drewN HB1.out _).trans (hb2.mono HB1.out.size)); obtain ⟨a0, a1, a2, a3, a4, g0, g1, g2, g3, g4⟩ := A2; clear hb2 R2))
      all_goals
        go_wp2
        go_roundw
        case rel =>
          refine ⟨1, agBoth x (agOne v), by omega, by go_num, ?_, HR2.out.setO _ (by omega), HA2.out.set _, below_set HB2.out (by omega) _⟩
          show agBoth x (agOne v) = _
          rw [if_neg (by omega), agBoth, if_pos HXC.out]
        case measure => simp [intOf]

/-- two, of which only those are joined that may be -/
def agMerge (x y : Ag) : Ag :=
  if agOk y then agBoth (if agOk x then x else agZ) y else (if agOk x then x else agZ)

theorem both_l (x y : Ag) (hy : 0 ≤ y.l ∧ y.l < 18446744073709551616) : 0 ≤ (agBoth x y).l ∧ (agBoth x y).l < 18446744073709551616 := by
  unfold agBoth
  split
  · exact hy
  · simp only
    omega

/-- sums that fit -/
def AgIn (x : Ag) : Prop := 0 ≤ x.l ∧ x.l < 18446744073709551616

set_option maxRecDepth 20000 in
set_option maxHeartbeats 1600000 in
theorem ag_merge (b c : Nat) (L : List Ag) (w : World) (hL : L.length ≤ 1000) (hc : ∀ j (h : j < L.length), w.cell? ⟨b, j * 5, none⟩ = some (.int .i64 L[j].c) ∧ w.cell? ⟨b, j * 5 + 1, none⟩ = some (.int .i64 L[j].h) ∧ w.cell? ⟨b, j * 5 + 2, none⟩ = some (.int .u64 L[j].l) ∧ w.cell? ⟨b, j * 5 + 3, none⟩ = some (.int .i64 L[j].a) ∧ w.cell? ⟨b, j * 5 + 4, none⟩ = some (.int .i64 L[j].b))
    (hi : ∀ x ∈ L, AgIn x) :
    Calls Try.prog 70 #[.slice (some ⟨b, 0, none⟩) L.length c] w fun e w' => e = .returned (agV (L.foldl (fun a x => if agOk x then agBoth a x else a) agZ)) ∧ Below w.heap.size w w' := by
  have HC := hid hc
  have HI := hid hi
  obtain ⟨R, hRd⟩ : ∃ R, R = L.foldl (fun a x => if agOk x then agBoth a x else a) agZ := ⟨_, rfl⟩
  rw [← hRd]
  have HRD := hid hRd
  clear hc hi hRd
  go_enter Try.func70, Try.ntmps70
  go_wp2_with fail
  go_loopw [8] (fun i wr => ∃ (k : Nat) (x : Ag), k ≤ L.length ∧ i = .int .i64 k ∧ Hid (x = (L.take k).foldl (fun a x => if agOk x then agBoth a x else a) agZ) ∧ Hid (AgIn x) ∧ AgAt wr w.heap.size agZ ∧ AgAt wr (w.heap.size + 1) x ∧ Below w.heap.size w wr) (fun i _ => L.length - (intOf i).toNat)
  case atStart =>
    refine ⟨0, agZ, by omega, by first | trivial | rfl, rfl, (by decide : 0 ≤ agZ.l ∧ agZ.l < 18446744073709551616), (AgAt.new w _).below (w' := (w.alloc _).alloc _) ((Below.refl _ _).alloc (Nat.le_refl _) _) (by simp), ?_, below_al (below_al (Below.refl _ _) _) _⟩
    have := AgAt.new (w.alloc (.cells #[.int .i64 0, .int .i64 0, .int .u64 0, .int .i64 0, .int .i64 0] 59)) 59
    simpa using this
  case round =>
    obtain ⟨k, x, hk, rfl, hx, hxi, hR, hA, hB⟩ := hrel
    have HR := hid hR
    have HA := hid hA
    have HB := hid hB
    obtain ⟨z0, z1, z2, z3, z4, y0, y1, y2, y3, y4⟩ := hA
    have hAl := cell_lt z0
    clear hR hB
    by_cases hk1 : k = L.length
    · obtain ⟨v0, v1, v2, v3, v4, u0, u1, u2, u3, u4⟩ := HR.out
      have hxv : x = R := by rw [HRD.out, hx.out, hk1, List.take_length]
      have hd : decide ((k : Int) < L.length) = false := by simp; omega
      clear hx
      subst hxv
      go_wp2
      have hS := HR.out.set x
      have hW := below_set HB.out (Nat.le_refl w.heap.size) x
      simp only [setAg] at hS hW
      generalize (wr.setCell ⟨w.heap.size, 0, none⟩ (.int .i64 x.c)).setCell ⟨w.heap.size, 1, none⟩ (.int .i64 x.h) = W1 at hS hW ⊢
      generalize ((W1.setCell ⟨w.heap.size, 2, none⟩ (.int .u64 x.l)).setCell ⟨w.heap.size, 3, none⟩ (.int .i64 x.a)).setCell ⟨w.heap.size, 4, none⟩ (.int .i64 x.b) = W at hS hW ⊢
      obtain ⟨s0, s1, s2, s3, s4, _, _, _, _, _⟩ := hS
      simp [bodyPost, results, Try.results70, go_sem, s0, s1, s2, s3, s4]
      exact hW
    · have hk2 : k < L.length := by omega
      have hd : decide ((k : Int) < L.length) = true := by simp; omega
      obtain ⟨q0, q1, q2, q3, q4⟩ := HC.out k hk2
      have hb : b < w.heap.size := cell_lt q0
      have p0 : wr.cell? ⟨b, k * 5, none⟩ = _ := ((bcell HB.out).1 b _ hb).trans q0
      have p1 : wr.cell? ⟨b, k * 5 + 1, none⟩ = _ := ((bcell HB.out).1 b _ hb).trans q1
      have p2 : wr.cell? ⟨b, k * 5 + 2, none⟩ = _ := ((bcell HB.out).1 b _ hb).trans q2
      have p3 : wr.cell? ⟨b, k * 5 + 3, none⟩ = _ := ((bcell HB.out).1 b _ hb).trans q3
      have p4 : wr.cell? ⟨b, k * 5 + 4, none⟩ = _ := ((bcell HB.out).1 b _ hb).trans q4
      have hyI := HI.out _ (List.getElem_mem hk2)
      have hstep : Hid ((L.take (k + 1)).foldl (fun a x => if agOk x then agBoth a x else a) agZ = if agOk L[k] then agBoth x L[k] else x) := by
        show _ = _
        rw [List.take_succ_eq_append_getElem hk2, List.foldl_append, ← hx.out]
        rfl
      have HY := hid hyI
      clear hyI q0 q1 q2 q3 q4
      generalize L[k] = y at p0 p1 p2 p3 p4 HY hstep
      have hyN := AgAt.newOf wr y 59
      go_wp2_with fail
      refine (ag_valid y _).mono ?_
      rintro e w1 ⟨rfl, hb1⟩
      have hwr : wr.heap.size < (wr.alloc (.cells #[.int .i64 y.c, .int .i64 y.h, .int .u64 y.l, .int .i64 y.a, .int .i64 y.b] 59)).heap.size := by simp
      have Y1 := hyN.below hb1 hwr
      have hb01 : Below wr.heap.size wr w1 := (below_al (Below.refl _ _) _).trans (hb1.mono (Nat.le_of_lt hwr))
      have A1 := HA.out.below hb01 HA.out.lt
      have R1 := HR.out.below hb01 HR.out.lt
      have HB1 : Hid (Below w.heap.size w w1) := HB.out.trans (hb01.mono HB.out.size)
      have HA1 := hid A1
      have HR1 := hid R1
      clear hyN hb1 hb01 hwr R1 p0 p1 p2 p3 p4
      obtain ⟨a0, a1, a2, a3, a4, _, _, _, _, _⟩ := A1
      cases hok : agOk y with
      | false =>
        go_wp2
        go_roundw
        case rel =>
          refine ⟨k + 1, x, by omega, by go_num, ?_, hxi, HR1.out, HA1.out, HB1.out⟩
          show x = _
          rw [hstep.out, hok]
          rfl
        case measure => simp [intOf]; omega
      | true =>
        have HY1 := hid Y1
        obtain ⟨b0, b1, b2, b3, b4, _, _, _, _, _⟩ := Y1
        go_wp2_with fail
        refine (ag_both x y _ hxi.out.1 hxi.out.2 HY.out.1 HY.out.2).mono ?_
        rintro e w2 ⟨rfl, hb2⟩
        have A2 := HA1.out.below hb2 HA1.out.lt
        have R2 := HR1.out.below hb2 HR1.out.lt
        have HB2 : Hid (Below w.heap.size w w2) := HB1.out.trans (hb2.mono HB1.out.size)
        have HA2 := hid A2
        have HR2 := hid R2
        clear hb2 R2 b0 b1 b2 b3 b4 a0 a1 a2 a3 a4
        obtain ⟨a0, a1, a2, a3, a4, g0, g1, g2, g3, g4⟩ := A2
        go_wp2
        go_roundw
        case rel =>
          refine ⟨k + 1, agBoth x y, by omega, by go_num, ?_, both_l x y HY.out, HR2.out.setO _ (by omega), HA2.out.set _, below_set HB2.out (by omega) _⟩
          show agBoth x y = _
          rw [hstep.out, hok]
          rfl
        case measure => simp [intOf]; omega
end Go.Proofs.Ytcbpaikklkmnbaa
