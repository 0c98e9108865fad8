/- The calls of package table that put. -/
import Derived.Test.YtcbpaikklkmnbaaTierE
import Derived.Test.YtcbpaikklkmnbaaTierF
import Derived.Deep.RegionHeld3
import Derived.Carry
namespace Go.Proofs.Ytcbpaikklkmnbaa
open Go.RowKit Go.Proofs
set_option maxRecDepth 20000
set_option maxHeartbeats 1600000

/-- a table in block g with its map in block m -/
structure TbAt (w : World) (g m : Nat) (e : Int) (L : List Rc) : Prop where
  c0 : w.cell? ⟨g, 0, none⟩ = some (.int .i64 e)
  c1 : w.cell? ⟨g, 1, none⟩ = some (.map (some m))
  ml : MapL w m L

theorem TbAt.ne {w : World} {g m : Nat} {e : Int} {L : List Rc} (h : TbAt w g m e L) : g ≠ m := by
  intro hgm
  subst hgm
  obtain ⟨es, c, hb, _⟩ := h.ml
  have h0 := h.c0
  unfold World.cell? at h0
  simp [hb] at h0

theorem TbAt.kept {w w' : World} {g m : Nat} {e : Int} {L : List Rc} {S S' : Nat → Prop} (h : TbAt w g m e L) (u : Upd S w S' w') (hg : ¬ S g) (hm : ¬ S m) : TbAt w' g m e L :=
  ⟨(u.cell (cell_lt h.c0) hg 0).trans h.c0, (u.cell (cell_lt h.c0) hg 1).trans h.c1, h.ml.kept u hm⟩

theorem run_eq_map (m : Nat) (w : World) : (binOp .eql 122 (.map (some m)) (.map none)).run Try.prog w = .ok (.bool false) w := by
  rfl

theorem below_dr {B : Nat} {w w' : World} (h : Below B w w') : Below B w w'.drew := below_drewN h 1

theorem below_then {w X w1 : World} (hb1 : Below X.heap.size X w1) (h : Below w.heap.size w X) : Below w.heap.size w w1 := h.trans (hb1.mono h.size)

theorem map_some (m : Nat) (w : World) : (binOp .eql 122 (.map (some m)) (.map none)).run Try.prog w = .ok (.bool false) w := by
  have h := Try.underlying122
  exact run_eq_map m w

theorem valid_is (b o c : Nat) (s : ByteArray) (v : Bool) (hv : validB s = v) (w : World) (hc : w.cell? ⟨b, o, none⟩ = some (.string s)) :
    Calls Try.prog 48 #[.slice (some ⟨b, o, none⟩) 1 c] w fun r w' => r = .returned (.bool v) ∧ w = w' := by
  rw [← hv]
  exact valid_one b o c s w hc

theorem on_is (t e : Int) (v : Bool) (hv : v = (decide (1 ≤ e) && decide (t.tmod e = 0))) (w : World) : Calls Try.prog 39 #[.int .i64 t, .int .i64 e] w fun r w' => r = .returned (.bool v) ∧ w = w' := by
  rw [hv]
  exact on_any t e w

theorem ag_is (x : Ag) (v : Bool) (hv : agOk x = v) (w : World) : Calls Try.prog 97 #[agV x] w fun e w' => e = .returned (.bool v) ∧ Below w.heap.size w w' := by
  rw [← hv]
  exact ag_valid x w

theorem table_none {w : World} {g m : Nat} {e : Int} {L : List Rc} (h : TbAt w g m e L) : Calls Try.prog 68 #[.pointer (some ⟨g, 0, none⟩)] w fun r w' => r = .returned (.bool false) ∧ w = w' := by
  have c1 := h.c1
  have hme := map_some m
  go_enter Try.func68, Try.ntmps68
  go_wp2
  go_ret
  exact ⟨by first | trivial | rfl, by first | trivial | rfl⟩

theorem table_new (e : Int) (w : World) (he : 1 ≤ e) : Calls Try.prog 41 #[.int .i64 e] w fun r w' => r = .returned (.pointer (some ⟨w.heap.size + 1, 0, none⟩)) ∧ TbAt w' (w.heap.size + 1) w.heap.size e [] ∧ Below w.heap.size w w' ∧ w'.heap.size = w.heap.size + 2 := by
  have hmm := @run_makeMap Try.prog
  go_enter Try.func41, Try.ntmps41
  go_wp2
  go_ret
  refine ⟨by first | trivial | rfl, ⟨by go_simp, by go_simp, ?_⟩, below_al (below_al (Below.refl _ _) _) _, by simp⟩
  exact (MapL.made w).kept (Upd.alloc (fun _ => False) _ _) (fun h => h)

/-- may a record stand in a table? -/
def rightB (e : Int) (r : Rc) : Bool := validB r.s && decide (0 ≤ r.t) && (decide (1 ≤ e) && decide (r.t.tmod e = 0)) && agOk r.a

abbrev rcVal (r : Rc) : Value := .agg #[.string r.s, .int .i64 r.t, .int .i64 r.a.c, .int .i64 r.a.h, .int .u64 r.a.l, .int .i64 r.a.a, .int .i64 r.a.b]
abbrev rcObj (r : Rc) : Obj := .cells #[.string r.s, .int .i64 r.t, .int .i64 r.a.c, .int .i64 r.a.h, .int .u64 r.a.l, .int .i64 r.a.a, .int .i64 r.a.b] 61

/-- a record's cells -/
structure ReAt (w : World) (g o : Nat) (r : Rc) : Prop where
  c0 : w.cell? ⟨g, o, none⟩ = some (.string r.s)
  c1 : w.cell? ⟨g, o + 1, none⟩ = some (.int .i64 r.t)
  c2 : w.cell? ⟨g, o + 2, none⟩ = some (.int .i64 r.a.c)
  c3 : w.cell? ⟨g, o + 3, none⟩ = some (.int .i64 r.a.h)
  c4 : w.cell? ⟨g, o + 4, none⟩ = some (.int .u64 r.a.l)
  c5 : w.cell? ⟨g, o + 5, none⟩ = some (.int .i64 r.a.a)
  c6 : w.cell? ⟨g, o + 6, none⟩ = some (.int .i64 r.a.b)

theorem ReAt.below {w w' : World} {g o B : Nat} {r : Rc} (h : ReAt w g o r) (hb : Below B w w') (hB : g < B) : ReAt w' g o r where
  c0 := ((bcell hb).1 g _ hB).trans h.c0
  c1 := ((bcell hb).1 g _ hB).trans h.c1
  c2 := ((bcell hb).1 g _ hB).trans h.c2
  c3 := ((bcell hb).1 g _ hB).trans h.c3
  c4 := ((bcell hb).1 g _ hB).trans h.c4
  c5 := ((bcell hb).1 g _ hB).trans h.c5
  c6 := ((bcell hb).1 g _ hB).trans h.c6

theorem ReAt.new (w : World) (r : Rc) : ReAt (w.alloc (rcObj r)) w.heap.size 0 r := by
  obtain ⟨h1, h2⟩ := blk_at (heap_alloc_new w (rcObj r))
  exact ⟨h1 0, h1 1, h1 2, h1 3, h1 4, h1 5, h1 6⟩

theorem table_right {w : World} {g m : Nat} {e : Int} {L : List Rc} (h : TbAt w g m e L) (r : Rc) (hv : validB r.s = true) (ht : 0 ≤ r.t) (he : 1 ≤ e) (hm : r.t.tmod e = 0) (ha : agOk r.a = true) :
    Calls Try.prog 69 #[.pointer (some ⟨g, 0, none⟩), rcVal r] w fun x w' => x = .returned (.bool true) ∧ Below w.heap.size w w' := by
  have c0 := h.c0
  have hgl := cell_lt c0
  have ho : true = (decide (1 ≤ e) && decide (r.t.tmod e = 0)) := by rw [decide_eq_true he, decide_eq_true hm]; rfl
  have hd : decide (0 ≤ r.t) = true := by simp; omega
  have HO := hid ho
  clear hm ho
  go_enter Try.func69, Try.ntmps69
  go_wp2_with fail
  first
  | (go_region_with (first
      | (go_at_call 48; refine (valid_is _ 0 1 r.s _ hv _ (by go_simp)).mono ?_; rintro x w1 ⟨rfl, rfl⟩)
      | (go_at_call 39; refine (on_is r.t e true HO.out _).mono ?_; rintro x w1 ⟨rfl, rfl⟩)
      | (go_at_call 97; refine (ag_is r.a true ha _).mono ?_; rintro x w1 ⟨rfl, hb1⟩; have HB1 : Hid (Below w.heap.size w w1) := below_then hb1 (by repeat (first | exact Below.refl _ _ | refine below_al ?_ _ | refine below_dr ?_)); clear hb1)))
  | fail
  all_goals
    go_wp2
    go_ret
    exact ⟨by first | trivial | rfl, HB1.out⟩

end Go.Proofs.Ytcbpaikklkmnbaa
