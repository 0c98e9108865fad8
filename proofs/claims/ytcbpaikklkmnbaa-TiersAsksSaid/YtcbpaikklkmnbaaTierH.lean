/- The calls of package table: Add, Len. -/
import Derived.Test.YtcbpaikklkmnbaaTierG
namespace Go.Proofs.Ytcbpaikklkmnbaa
open Go.RowKit Go.Proofs
set_option maxRecDepth 20000
set_option maxHeartbeats 1600000

/-- two, joined as Merge does -/
def agMrg (x y : Ag) : Ag := [x, y].foldl (fun a x => if agOk x then agBoth a x else a) agZ

theorem merge_two (B : Nat) (x y : Ag) (w w1 : World) (T : TypeId) (hB : B = w.heap.size) (hx : AgIn x) (hy : AgIn y)
    (hw : w1 = w.alloc (.cells #[.int .i64 x.c, .int .i64 x.h, .int .u64 x.l, .int .i64 x.a, .int .i64 x.b, .int .i64 y.c, .int .i64 y.h, .int .u64 y.l, .int .i64 y.a, .int .i64 y.b] T)) :
    Calls Try.prog 70 #[.slice (some ⟨B, 0, none⟩) 2 2] w1.drew fun e w' => e = .returned (agV (agMrg x y)) ∧ Below w1.heap.size w1 w' := by
  have hc := fun j => cell_alloc_at w #[.int .i64 x.c, .int .i64 x.h, .int .u64 x.l, .int .i64 x.a, .int .i64 x.b, .int .i64 y.c, .int .i64 y.h, .int .u64 y.l, .int .i64 y.a, .int .i64 y.b] T B j hB
  rw [← hw] at hc
  refine (ag_merge B 2 [x, y] w1.drew (by simp) ?_ ?_).mono fun e w' ⟨he, hb⟩ => ⟨he, (show Below w1.heap.size w1 w1.drew from below_drewN (Below.refl _ _) 1).trans hb⟩
  · intro j hj
    have hj2 : j < 2 := hj
    rcases (show j = 0 ∨ j = 1 by omega) with rfl | rfl
    · exact ⟨hc 0, hc 1, hc 2, hc 3, hc 4⟩
    · exact ⟨hc 5, hc 6, hc 7, hc 8, hc 9⟩
  · intro z hz
    simp at hz
    rcases hz with rfl | rfl
    · exact hx
    · exact hy

theorem zero_ag (w : World) : (zeroValue 59).run Try.prog w = .ok (agV agZ) w := by kernel_rfl

theorem MapL.not_cells {w : World} {b o : Nat} {L : List Rc} {v : Value} (h : MapL w b L) (hc : w.cell? ⟨b, o, none⟩ = some v) : False := by
  obtain ⟨es, c, hb, _⟩ := h
  unfold World.cell? at hc
  simp [hb] at hc

theorem ReAt.kept {w w' : World} {g o : Nat} {r : Rc} {S S' : Nat → Prop} (h : ReAt w g o r) (u : Upd S w S' w') (hg : ¬ S g) : ReAt w' g o r where
  c0 := (u.cell (cell_lt h.c0) hg _).trans h.c0
  c1 := (u.cell (cell_lt h.c0) hg _).trans h.c1
  c2 := (u.cell (cell_lt h.c0) hg _).trans h.c2
  c3 := (u.cell (cell_lt h.c0) hg _).trans h.c3
  c4 := (u.cell (cell_lt h.c0) hg _).trans h.c4
  c5 := (u.cell (cell_lt h.c0) hg _).trans h.c5
  c6 := (u.cell (cell_lt h.c0) hg _).trans h.c6

theorem TbAt.below {w w' : World} {g m : Nat} {e : Int} {L : List Rc} (h : TbAt w g m e L) (hb : Below w.heap.size w w') : TbAt w' g m e L :=
  h.kept (Upd.of_below (S := fun _ => False) hb) (fun h => h) (fun h => h)

theorem table_add {w : World} {g m : Nat} {e : Int} {L : List Rc} (h : TbAt w g m e L) (r : Rc) (b c : Nat) (hr : ReAt w b 0 r) (hv : validB r.s = true) (ht : 0 ≤ r.t) (he : 1 ≤ e) (hm : r.t.tmod e = 0) (ha : agOk r.a = true) (hk : KeyOk r) (hi : AgIn r.a) (hL : ∀ x ∈ L, AgIn x.a) :
    Calls Try.prog 45 #[.pointer (some ⟨g, 0, none⟩), .slice (some ⟨b, 0, none⟩) 1 c] w fun x w' => x = .returned (.int .i64 1) ∧ TbAt w' g m e (setL L ⟨r.s, r.t, agMrg (lookL L r.s r.t) r.a⟩) ∧ Upd (fun j => j = m) w (fun j => j = m) w' := by
  have hbm : b ≠ m := fun e => h.ml.not_cells (e ▸ hr.c0)
  have hgm : g ≠ m := h.ne
  have HV := hid hv
  have HT := hid h
  have HR := hid hr
  have HM := hid hm
  have HA := hid ha
  have HK := hid hk
  have HI := hid hi
  have HL := hid hL
  clear hv h hr hm ha hk hi hL
  go_enter Try.func45, Try.ntmps45
  go_wp2_with fail
  refine (table_none HT.out).mono ?_
  rintro x w1 ⟨rfl, rfl⟩
  go_wp2_with fail
  go_loopw [5, 13] (fun n i wr => ∃ k : Nat, k ≤ 1 ∧ i = .int .i64 k ∧ n = .int .i64 k ∧ Hid (k = 0 → w = wr) ∧ Hid (k = 1 → TbAt wr g m e (setL L ⟨r.s, r.t, agMrg (lookL L r.s r.t) r.a⟩) ∧ Upd (fun j => j = m) w (fun j => j = m) wr)) (fun _ i _ => 1 - (intOf i).toNat)
  case atStart => exact ⟨0, by omega, by first | trivial | rfl, by first | trivial | rfl, fun _ => rfl, fun h => by omega⟩
  case round =>
    obtain ⟨k, hk, rfl, rfl, h0, h1⟩ := hrel
    by_cases hk1 : k = 1
    · subst hk1
      go_wp2
      go_ret
      exact ⟨by first | trivial | rfl, h1.out (by first | trivial | rfl)⟩
    · have hk0 : k = 0 := by omega
      subst hk0
      obtain rfl : w = wr := h0.out rfl
      clear h0 h1
      obtain ⟨c0, c1, c2, c3, c4, c5, c6⟩ := HR.out
      go_wp2_with fail
      have hT1 : TbAt (w.alloc (rcObj r)) g m e L := HT.out.below (below_al (Below.refl _ _) _)
      refine (table_right hT1 r HV.out ht he HM.out HA.out).mono ?_
      rintro x w1 ⟨rfl, hb1⟩
      have hT2 := hT1.below hb1
      have hE := (ReAt.new w r).below hb1 (by simp)
      have HB1 : Hid (Below w.heap.size w w1) := below_then hb1 (below_al (Below.refl _ _) _)
      have hw1 : w.heap.size < w1.heap.size := cell_lt hE.c0
      clear hT1 hb1 c0 c1 c2 c3 c4 c5 c6
      obtain ⟨c0, c1, c2, c3, c4, c5, c6⟩ := hE
      go_wp2_with fail
      have HW : Hid (TbAt (w1.alloc (.cells #[.string r.s, .int .i64 r.t] 129)) g m e L) := hT2.below (below_al (Below.refl _ _) _)
      have p0 : (w1.alloc (.cells #[.string r.s, .int .i64 r.t] 129)).cell? ⟨w1.heap.size, 0, none⟩ = some (.string r.s) := by go_simp
      have p1 : (w1.alloc (.cells #[.string r.s, .int .i64 r.t] 129)).cell? ⟨w1.heap.size, 1, none⟩ = some (.int .i64 r.t) := by go_simp
      have HE := hid ((ReAt.below (g := w.heap.size) (o := 0) (r := r) ⟨c0, c1, c2, c3, c4, c5, c6⟩ ((Below.refl w1.heap.size w1).alloc (Nat.le_refl _) (.cells #[.string r.s, .int .i64 r.t] 129)) hw1))
      have HB2 : Hid (Below w.heap.size w (w1.alloc (.cells #[.string r.s, .int .i64 r.t] 129))) := below_al HB1.out _
      have hsz : (w1.alloc (.cells #[.string r.s, .int .i64 r.t] 129)).heap.size = w1.heap.size + 1 := by simp
      clear hT2 c0 c1 c2 c3 c4 c5 c6
      generalize w1.alloc (.cells #[.string r.s, .int .i64 r.t] 129) = W at *
      have t1 := HW.out.c1
      obtain ⟨c0, c1, c2, c3, c4, c5, c6⟩ := HE.out
      have hlook := run_lookL (w := W.drew) (s := r.s) (t := r.t) (show MapL W.drew m L from HW.out.ml) HK.out.1 HK.out.2 (zero_ag _)
      have n1 : w1.heap.size ≠ m := fun e => HW.out.ml.not_cells (e ▸ p0)
      have n2 : w.heap.size ≠ m := fun e => HW.out.ml.not_cells (e ▸ c2)
      have hml := HW.out.ml.lt
      have hgl := cell_lt t1
      have hvl : Hid (AgIn (lookL L r.s r.t)) := by
        show AgIn _
        unfold lookL
        split
        · rename_i x hx
          exact HL.out x (List.mem_of_find?_eq_some hx)
        · exact (by decide : 0 ≤ agZ.l ∧ agZ.l < 18446744073709551616)
      generalize hV : lookL L r.s r.t = V at *
      go_region_held3 (fun w' => w'.cell? ⟨g, 1, none⟩ = some (.map (some m)) ∧ w'.cell? ⟨w1.heap.size, 0, none⟩ = some (.string r.s) ∧ w'.cell? ⟨w1.heap.size, 1, none⟩ = some (.int .i64 r.t) ∧ w'.cell? ⟨w.heap.size, 2, none⟩ = some (.int .i64 r.a.c) ∧ w'.cell? ⟨w.heap.size, 3, none⟩ = some (.int .i64 r.a.h) ∧ w'.cell? ⟨w.heap.size, 4, none⟩ = some (.int .u64 r.a.l) ∧ w'.cell? ⟨w.heap.size, 5, none⟩ = some (.int .i64 r.a.a) ∧ w'.cell? ⟨w.heap.size, 6, none⟩ = some (.int .i64 r.a.b)) (first | go_keep) (first
        | (go_at_call 70; refine (merge_two _ V r.a W _ 59 hsz.symm hvl.out HI.out rfl).mono ?_; rintro x w2 ⟨rfl, hb2⟩; have hW2 : Below W.heap.size W w2 := (below_al (Below.refl _ _) _).trans (hb2.mono (by simp)); have hT3 := HW.out.below hW2; obtain ⟨w3, hrun, hm3, hu3⟩ := run_updL hT3.ml ⟨r.s, r.t, agMrg V r.a⟩ HK.out; have HB3 : Hid (Below w.heap.size w w2) := HB2.out.trans (hW2.mono HB2.out.size); have HT3 := hid hT3; have HM3 := hid hm3; have HU3 := hid hu3; have y0 : w2.cell? ⟨g, 1, none⟩ = _ := hT3.c1; have y1 : w2.cell? ⟨w1.heap.size, 0, none⟩ = _ := ((bcell hW2).1 _ 0 (cell_lt p0)).trans p0; have y2 : w2.cell? ⟨w1.heap.size, 1, none⟩ = _ := ((bcell hW2).1 _ 1 (cell_lt p1)).trans p1; have y3 : w2.cell? ⟨w.heap.size, 2, none⟩ = _ := ((bcell hW2).1 _ 2 (cell_lt c2)).trans c2; have y4 : w2.cell? ⟨w.heap.size, 3, none⟩ = _ := ((bcell hW2).1 _ 3 (cell_lt c2)).trans c3; have y5 : w2.cell? ⟨w.heap.size, 4, none⟩ = _ := ((bcell hW2).1 _ 4 (cell_lt c2)).trans c4; have y6 : w2.cell? ⟨w.heap.size, 5, none⟩ = _ := ((bcell hW2).1 _ 5 (cell_lt c2)).trans c5; have y7 : w2.cell? ⟨w.heap.size, 6, none⟩ = _ := ((bcell hW2).1 _ 6 (cell_lt c2)).trans c6; have x0 : w3.cell? ⟨g, 1, none⟩ = _ := (hu3.cell (cell_lt y0) hgm 1).trans y0; have x1 : w3.cell? ⟨w1.heap.size, 0, none⟩ = _ := (hu3.cell (cell_lt y1) n1 0).trans y1; have x2 : w3.cell? ⟨w1.heap.size, 1, none⟩ = _ := (hu3.cell (cell_lt y2) n1 1).trans y2; have x3 : w3.cell? ⟨w.heap.size, 2, none⟩ = _ := (hu3.cell (cell_lt y3) n2 2).trans y3; have x4 : w3.cell? ⟨w.heap.size, 3, none⟩ = _ := (hu3.cell (cell_lt y4) n2 3).trans y4; have x5 : w3.cell? ⟨w.heap.size, 4, none⟩ = _ := (hu3.cell (cell_lt y5) n2 4).trans y5; have x6 : w3.cell? ⟨w.heap.size, 5, none⟩ = _ := (hu3.cell (cell_lt y6) n2 5).trans y6; have x7 : w3.cell? ⟨w.heap.size, 6, none⟩ = _ := (hu3.cell (cell_lt y7) n2 6).trans y7; clear hb2 hW2 hT3 hm3 hu3))
      go_wp2
      go_roundw
      case rel =>
        refine ⟨1, by omega, by go_num, by go_num, fun h => by omega, fun _ => ⟨⟨(HU3.out.cell (cell_lt HT3.out.c0) hgm 0).trans HT3.out.c0, x0, ?_⟩, ?_⟩⟩
        · rw [hV]
          exact HM3.out
        · exact (Upd.of_below HB3.out).trans HU3.out
      case measure => simp [intOf]
theorem map_und : Try.prog.underlying 122 = some (.map (Try.prog.mapKeyOf 122) (Try.prog.mapElemOf 122)) := by kernel_rfl

theorem table_len {w : World} {g m : Nat} {e : Int} {L : List Rc} (h : TbAt w g m e L) : Calls Try.prog 61 #[.pointer (some ⟨g, 0, none⟩)] w fun x w' => x = .returned (.int .i64 (L.length : Nat)) ∧ w = w' := by
  obtain ⟨c0, c1, es, cl, hb, hs, he, hk⟩ := h
  have hn : es.size = L.length := by
    have := congrArg List.length he
    simpa using this
  rw [← hn]
  have HE := hid he
  have HS := hid hs
  have HK := hid hk
  clear he hs hk hn
  have hln := run_len_map (P := Try.prog) w 122 3 m es cl map_und hb
  go_enter Try.func61, Try.ntmps61
  go_wp2
  go_ret
  exact ⟨by first | trivial | rfl, by first | trivial | rfl⟩

end Go.Proofs.Ytcbpaikklkmnbaa
