/- maps.DeleteFunc over a table's map, and what calls it. -/
import Derived.Test.YtcbpaikklkmnbaaTierI
import Derived.Deep.LoopGhost
import Derived.Maps.Ext
namespace Go.Proofs.Ytcbpaikklkmnbaa
open Go.RowKit Go.Proofs Go.Maps Go.MapKept
open Go.ChangeMaps (setBlock heap_setBlock_same heap_setBlock_other)
set_option maxRecDepth 20000
set_option maxHeartbeats 1600000

/-- the start in a key -/
def keyT : Value → Int
  | .agg #[_, .int _ t] => t
  | _ => 0

theorem wpList_delE (w : World) {ops : Array Oper} {rest : List Oper} {o : Oper} {a : Act} {Q : Exit → Act → World → Prop} (hg : o.guard = none) (m x : Operand) (hop : o.op = Op.call { callee := Callee.builtin Builtin.delete, args := #[m, x], argTypes := #[122, 129] })
    (b clock : Nat) (es : Array MapEntry) (hb : w.heap[b]? = some (.map es clock)) (hs : Stamped es clock) (hk : ∀ e ∈ es.toList, ∃ l, keyOf Try.prog 129 e.key = some l) (e : MapEntry) (he : e ∈ es.toList)
    (hm : a.eval m = .map (some b)) (hx : a.eval x = e.key)
    (h : ∀ (es' : Array MapEntry) (w' : World), w'.heap[b]? = some (.map es' clock) → Stamped es' clock → es'.toList = es.toList.filter (fun x => x.born != e.born) → w.grownBy w' (some b) → w'.heap.size = w.heap.size → wpList Try.prog ops Q rest (a.put o.dst (.tuple #[])) w') :
    wpList Try.prog ops Q (o :: rest) a w := by
  refine wpList_plain hg fun K' hK' => ?_
  obtain ⟨es', hrun, hs', hl⟩ := run_delE hb hs hk he o.type
  unfold Oper.wp
  simp [execOp, hop, resolve, invoke, builtin, hm, hx, hrun, Result.andThen]
  exact hK' _ _ (h es' _ (heap_setBlock_same hb _) hs' hl ⟨rfl, rfl, rfl, by simp [setBlock], fun i _ hi => heap_setBlock_other hb _ (fun e1 => hi (by rw [e1]))⟩ (by simp [setBlock]))

theorem range_run (w : World) (b : Nat) (es : Array MapEntry) (clock : Nat) (hb : w.heap[b]? = some (.map es clock)) :
    (Instr.range 122 (.map (some b))).run Try.prog w = .ok (.pointer (some ⟨w.heap.size, 0, none⟩)) (w.alloc (.mapIter (some b) clock #[] clock)) := run_range_map w 122 _ _ b es clock Try.underlying122 hb

theorem entry_shape {es0 : Array MapEntry} {L : List Rc} (h : es0.toList.map (fun e => (e.key, e.val)) = L.map (fun r => (rcKey r, agV r.a))) {e : MapEntry} (he : e ∈ es0.toList) : ∃ r ∈ L, e.key = rcKey r ∧ e.val = agV r.a := by
  obtain ⟨j, hj⟩ := List.mem_iff_getElem?.1 he
  obtain ⟨r, hr, h1, h2⟩ := entry_get h hj
  exact ⟨r, List.mem_of_getElem? hr, h1, h2⟩

theorem filter_recs {es0 : List MapEntry} {q : Int} : ∀ {L : List Rc}, es0.map (fun e => (e.key, e.val)) = L.map (fun r => (rcKey r, agV r.a)) →
    (es0.filter (fun x => !decide (keyT x.key < q))).map (fun e => (e.key, e.val)) = (L.filter (fun r => !decide (r.t < q))).map (fun r => (rcKey r, agV r.a)) := by
  induction es0 with
  | nil => intro L h; cases L with
    | nil => rfl
    | cons r L => simp at h
  | cons e es ih =>
    intro L h
    cases L with
    | nil => simp at h
    | cons r L =>
      simp only [List.map_cons, List.cons.injEq, Prod.mk.injEq] at h
      have hk : keyT e.key = r.t := by rw [h.1.1]; rfl
      have := ih h.2
      simp only [List.filter_cons, hk]
      split
      · simp only [List.map_cons, List.cons.injEq, Prod.mk.injEq]
        exact ⟨h.1, this⟩
      · exact this

/-- what is left of the entries, behind those that were seen -/
def keptE (es0 : Array MapEntry) (q : Int) (seen : Array Nat) : List MapEntry := es0.toList.filter (fun x => !(seen.contains x.born && decide (keyT x.key < q)))

theorem keptE_end {es0 es : Array MapEntry} {q : Int} {seen : Array Nat} (h : es.toList = keptE es0 q seen) (h0 : (leftOf es seen).size = 0) : es.toList = es0.toList.filter (fun x => !decide (keyT x.key < q)) := by
  rw [h]
  unfold keptE
  refine List.filter_congr fun x hx => ?_
  by_cases hd : keyT x.key < q
  · have : seen.contains x.born = true := by
      cases hc : seen.contains x.born with
      | true => rfl
      | false =>
        have hm : x ∈ es.toList := by rw [h]; exact List.mem_filter.2 ⟨hx, by rw [hc]; rfl⟩
        have : x ∈ leftOf es seen := Array.mem_filter.2 ⟨by simpa using hm, by rw [hc]; rfl⟩
        have := Array.size_pos_of_mem this
        omega
    rw [this, Bool.true_and]
  · simp [hd]

theorem born_eq {es : Array MapEntry} {clock : Nat} (hs : Stamped es clock) {x e : MapEntry} (hx : x ∈ es.toList) (he : e ∈ es.toList) (h : x.born = e.born) : x = e := by
  obtain ⟨i, hi⟩ := List.mem_iff_getElem?.1 hx
  obtain ⟨j, hj⟩ := List.mem_iff_getElem?.1 he
  have h1 : (es.toList.map (·.born))[i]? = some e.born := by rw [List.getElem?_map, hi, ← h]; rfl
  have h2 : (es.toList.map (·.born))[j]? = some e.born := by rw [List.getElem?_map, hj]; rfl
  have hil : i < (es.toList.map (·.born)).length := (List.getElem?_eq_some_iff.1 h1).1
  have : i = j := (List.getElem?_inj hil hs.2.1).1 (h1.trans h2.symm)
  subst this
  rw [hi] at hj
  exact Option.some.inj hj

theorem keptE_stays {es0 : Array MapEntry} {clock : Nat} (hs : Stamped es0 clock) {q : Int} {seen : Array Nat} {e : MapEntry} (he : e ∈ es0.toList) (hd : ¬ keyT e.key < q) : keptE es0 q (seen.push e.born) = keptE es0 q seen := by
  unfold keptE
  refine List.filter_congr fun x hx => ?_
  rw [contains_push]
  by_cases hb : x.born = e.born
  · rw [born_eq hs hx he hb]
    simp [hd]
  · have hb' : (x.born == e.born) = false := by simpa using hb
    rw [hb', Bool.or_false]

theorem keptE_struck {es0 : Array MapEntry} {clock : Nat} (hs : Stamped es0 clock) {q : Int} {seen : Array Nat} {e : MapEntry} (he : e ∈ es0.toList) (hd : keyT e.key < q) : (keptE es0 q seen).filter (fun x => x.born != e.born) = keptE es0 q (seen.push e.born) := by
  unfold keptE
  rw [List.filter_filter]
  refine List.filter_congr fun x hx => ?_
  rw [contains_push]
  by_cases hb : x.born = e.born
  · rw [born_eq hs hx he hb]
    simp [hd]
  · have hb' : (x.born == e.born) = false := by simpa using hb
    have hb2 : (x.born != e.born) = true := by simpa using hb
    rw [hb', hb2, Bool.or_false, Bool.true_and]

theorem left_struck (es es' : Array MapEntry) (seen : Array Nat) (e : MapEntry) (he : e ∈ (leftOf es seen).toList) (h : es'.toList = es.toList.filter (fun x => x.born != e.born)) : (leftOf es' (seen.push e.born)).size < (leftOf es seen).size := by
  have h1 := left_shrinks es seen e he
  have h2 : (leftOf es' (seen.push e.born)).toList = (leftOf es (seen.push e.born)).toList := by
    unfold leftOf
    rw [Array.toList_filter, Array.toList_filter, h, List.filter_filter]
    refine List.filter_congr fun x _ => ?_
    rw [contains_push]
    cases hb : (x.born == e.born) <;> simp [bne, hb]
  have h3 : (leftOf es' (seen.push e.born)).size = (leftOf es (seen.push e.born)).size := by rw [← Array.length_toList, ← Array.length_toList, h2]
  omega

theorem maps_delete {w : World} {m : Nat} {L : List Rc} (h : MapL w m L) (cx cb : Nat) (q : Int) (hx : w.cell? ⟨cx, 0, none⟩ = some (.func (.func 72) #[] #[.pointer (some ⟨cb, 0, none⟩)])) (hc : w.cell? ⟨cb, 0, none⟩ = some (.int .i64 q)) :
    Calls Try.prog 98 #[.map (some m), .func (.func 99) #[] #[.pointer (some ⟨cx, 0, none⟩)]] w fun e w' =>
      e = .returned (.tuple #[]) ∧ MapL w' m (L.filter (fun r => !decide (r.t < q))) ∧ Upd (fun j => j = m) w (fun j => j = m) w' := by
  have hcxm : cx ≠ m := fun e => h.not_cells (e ▸ hx)
  have hcbm : cb ≠ m := fun e => h.not_cells (e ▸ hc)
  have hml := h.lt
  obtain ⟨es0, clock, hb, hs, he, hk⟩ := h
  have hrng := range_run w m es0 clock hb
  have HE := hid he
  have HK := hid hk
  have HS := hid hs
  have HX := hid hx
  have HC := hid hc
  have HB := hid hb
  clear he hk hs hx hc hb
  go_enter Try.func98, Try.ntmps98
  go_wp2_with fail
  go_loopw [8] (fun _ wr => ∃ (seen : Array Nat) (c0 : Nat) (es : Array MapEntry), wr.heap[w.heap.size]? = some (.mapIter (some m) clock seen c0) ∧ wr.heap[m]? = some (.map es clock) ∧ Stamped es clock ∧ Hid (es.toList = keptE es0 q seen) ∧ clock ≤ c0 ∧ Upd (fun j => j = m) w (fun j => j = m) wr) (fun _ wr => wr.rangeLeft m w.heap.size)
  case atStart =>
    refine ⟨#[], clock, es0, heap_alloc_new w _, (Below.heap_alloc w _ m hml).trans HB.out, HS.out, ?_, Nat.le_refl _, Upd.alloc _ w _⟩
    show es0.toList = keptE es0 q #[]
    unfold keptE
    rw [List.filter_eq_self.2]
    intro x _
    simp
  case round =>
    obtain ⟨seen, c0, es, hri, hmb, hst, hkp, hcc, hup⟩ := hrel
    have HUP := hid hup
    have HST := hid hst
    have hold : ∀ x ∈ es.toList, x.born < clock := hst.1
    have hsz := hup.size
    have hrl : wr.rangeLeft m w.heap.size = (leftOf es seen).size := by unfold World.rangeLeft; rw [hmb, hri]
    have HRL := hid hrl
    have HOLD := hid hold
    have HMB := hid hmb
    have HRI := hid hri
    clear hup hst hold hrl hmb hri
    go_wp2_with (first
      | (at_next; refine wpList_nextE wr rfl _ rfl w.heap.size m clock c0 clock seen es rfl HRI.out HMB.out HOLD.out hcc HST.out ?_ ?_)
      | go_in)
    · intro h0
      have hfin : Hid (MapL wr m (L.filter (fun r => !decide (r.t < q)))) := by
        refine ⟨es, clock, HMB.out, HST.out, ?_, fun r hr => HK.out r (List.mem_filter.1 hr).1⟩
        rw [keptE_end hkp.out (by first | exact h0 | (rw [h0]; rfl))]
        exact filter_recs HE.out
      go_wp2
      go_end0
      exact ⟨by first | trivial | rfl, hfin.out, HUP.out⟩
    · intro e w1 hel0 hr1 hb1 hg1 hs1 hen
      have hel : e ∈ (leftOf es seen).toList := by first | exact hel0 | exact Array.mem_toList_iff.2 hel0
      clear hel0
      have hes0 : e ∈ es0.toList := by
        have h1 := (mem_left hel).1
        rw [hkp.out] at h1
        exact (List.mem_filter.1 h1).1
      have hee : e ∈ es.toList := (mem_left hel).1
      obtain ⟨r0, hr0, hk0, hv0⟩ := entry_shape HE.out hes0
      have hlt := left_shrinks es seen e hel
      have hst := fun (es' : Array MapEntry) h => left_struck es es' seen e hel h
      have hUP1 : Hid (Upd (fun j => j = m) w (fun j => j = m) w1) := by
        refine ⟨hg1.os.trans HUP.out.os, hg1.tape.trans HUP.out.tape, hg1.output.trans HUP.out.output, by omega, fun k hk hn => ?_, fun k hk => Or.inl hk⟩
        exact (hg1.block k (by omega) (by simp; omega)).trans (HUP.out.block k hk hn)
      obtain ⟨key, val, bn⟩ := e
      simp only at hk0 hv0
      subst hk0
      subst hv0
      have hxc : w1.cell? ⟨cx, 0, none⟩ = _ := (hUP1.out.cell (cell_lt HX.out) hcxm 0).trans HX.out
      have hcc1 : w1.cell? ⟨cb, 0, none⟩ = _ := (hUP1.out.cell (cell_lt HC.out) hcbm 0).trans HC.out
      have HHB := hid hb1
      have HHR := hid hr1
      have HLT := hid hlt
      have HSTR := hid hst
      have HE0 := hid hes0
      have HEE := hid hee
      have HG1 := hid hg1
      clear hlt hst hes0 hee hel hg1 hb1 hr1
      go_wp2_with fail
      have hP := (blk_at (heap_alloc_new w1 (.cells #[.string r0.s, .int .i64 r0.t] 129))).1
      have hPl : w1.heap.size < (w1.alloc (.cells #[.string r0.s, .int .i64 r0.t] 129)).heap.size := by simp
      refine (drop_one r0.s r0.t r0.a cx cb q _ (((bcell (below_al (below_al (Below.refl w1.heap.size w1) _) _)).1 _ 0 (cell_lt hxc)).trans hxc) (((bcell (below_al (below_al (Below.refl w1.heap.size w1) _) _)).1 _ 0 (cell_lt hcc1)).trans hcc1)).mono ?_
      rintro x w2 ⟨rfl, hb2⟩
      have hB2 : Below w1.heap.size w1 w2 := below_then hb2 (below_al (below_al (Below.refl _ _) _) _)
      have hB3 : Below (w1.heap.size + 1) (w1.alloc (.cells #[.string r0.s, .int .i64 r0.t] 129)) w2 :=
        (((Below.refl (w1.heap.size + 1) (w1.alloc (.cells #[.string r0.s, .int .i64 r0.t] 129))).alloc (by simp) _).trans (hb2.mono (by simp)))
      have p0 : w2.cell? ⟨w1.heap.size, 0, none⟩ = some (.string r0.s) := ((bcell hB3).1 _ 0 (by omega)).trans (hP 0)
      have p1 : w2.cell? ⟨w1.heap.size, 1, none⟩ = some (.int .i64 r0.t) := ((bcell hB3).1 _ 1 (by omega)).trans (hP 1)
      have HM2 : Hid (w2.heap[m]? = some (.map es clock)) := (hB2.block m (Array.getElem?_eq_some_iff.1 HHB.out).1).trans HHB.out
      have HR2 : Hid (w2.heap[w.heap.size]? = some (.mapIter (some m) clock (seen.push bn) clock)) := (hB2.block w.heap.size (Array.getElem?_eq_some_iff.1 HHR.out).1).trans HHR.out
      have HUP2 : Hid (Upd (fun j => j = m) w (fun j => j = m) w2) := hUP1.out.trans (Upd.of_below hB2)
      rw [hs1] at p0 p1
      have hkt : keyT (rcKey r0) = r0.t := rfl
      have HKT := hid hkt
      have hs2 := hB2.size
      clear hP hPl hb2 hB2 hB3 hkt
      by_cases hd : r0.t < q
      · have hdt : decide (r0.t < q) = true := by simp; omega
        have hke : Hid (∀ e ∈ es.toList, ∃ l, keyOf Try.prog 129 e.key = some l) := by
          intro e he
          refine keys_ok HE.out HK.out e ?_
          rw [hkp.out] at he
          exact (List.mem_filter.1 he).1
        go_wp2_with (first
          | (at_delete; refine wpList_delE w2 rfl _ _ rfl m clock es HM2.out HST.out hke.out ⟨rcKey r0, agV r0.a, bn⟩ HEE.out rfl rfl ?_; intro es' w3 hb3 hs3 hl3 hg3 hsz3; have HB3 := hid hb3; have HS3 := hid hs3; have HL3 := hid hl3; have HG3 := hid hg3; clear hb3 hs3 hl3 hg3))
        have HR3 : Hid (w3.heap[w.heap.size]? = some (.mapIter (some m) clock (seen.push bn) clock)) := (HG3.out.block w.heap.size (Array.getElem?_eq_some_iff.1 HR2.out).1 (by simp; omega)).trans HR2.out
        have HUP3 : Hid (Upd (fun j => j = m) w (fun j => j = m) w3) := by
          refine ⟨HG3.out.os.trans HUP2.out.os, HG3.out.tape.trans HUP2.out.tape, HG3.out.output.trans HUP2.out.output, by have := HUP2.out.size; omega, fun k hk hn => ?_, fun k hk => Or.inl hk⟩
          exact (HG3.out.block k (by have := HUP2.out.size; omega) (by simp; omega)).trans (HUP2.out.block k hk hn)
        go_wp2
        go_roundw
        case rel =>
          refine ⟨seen.push bn, clock, HR3.out, es', HB3.out, HS3.out, ?_, Nat.le_refl _, HUP3.out⟩
          show es'.toList = keptE es0 q (seen.push bn)
          rw [HL3.out, hkp.out]
          exact keptE_struck HS.out HE0.out (by rw [HKT.out]; omega)
        case measure =>
          rw [HRL.out]
          unfold World.rangeLeft
          rw [HB3.out, HR3.out]
          exact HSTR.out es' HL3.out
      · have hdt : decide (r0.t < q) = false := by simp; omega
        go_wp2
        go_roundw
        case rel =>
          refine ⟨seen.push bn, clock, es, HR2.out, HM2.out, HST.out, ?_, Nat.le_refl _, HUP2.out⟩
          show es.toList = keptE es0 q (seen.push bn)
          rw [hkp.out]
          exact (keptE_stays HS.out HE0.out (by rw [HKT.out]; omega)).symm
        case measure =>
          rw [HRL.out]
          unfold World.rangeLeft
          rw [HM2.out, HR2.out]
          exact HLT.out

/-- how long a map is -/
theorem run_lenL {w : World} {m : Nat} {L : List Rc} (h : MapL w m L) : (Builtin.len_ #[122] 3 #[.map (some m)]).run Try.prog w = .ok (.int .i64 (L.length : Nat)) w := by
  obtain ⟨es, cl, hb, _, he, _⟩ := h
  have hn : es.size = L.length := by
    have := congrArg List.length he
    simpa using this
  rw [← hn]
  exact run_len_map (P := Try.prog) w 122 3 m es cl map_und hb

theorem table_drop {w : World} {g m : Nat} {e : Int} {L : List Rc} (h : TbAt w g m e L) (cb : Nat) (q : Int) (hc : w.cell? ⟨cb, 0, none⟩ = some (.int .i64 q)) :
    Calls Try.prog 71 #[.pointer (some ⟨g, 0, none⟩), .func (.func 72) #[] #[.pointer (some ⟨cb, 0, none⟩)]] w fun x w' =>
      ∃ n : Int, x = .returned (.int .i64 n) ∧ TbAt w' g m e (L.filter (fun r => !decide (r.t < q))) ∧ Upd (fun j => j = m) w (fun j => j = m) w' := by
  have hgm := h.ne
  have hcl := cell_lt hc
  have hT := h.below (below_al (Below.refl w.heap.size w) (.cells #[.func (.func 72) #[] #[.pointer (some ⟨cb, 0, none⟩)]] 132))
  have hx := (blk_at (heap_alloc_new w (.cells #[.func (.func 72) #[] #[.pointer (some ⟨cb, 0, none⟩)]] 132))).1 0
  have hc1 := ((bcell (below_al (Below.refl w.heap.size w) (.cells #[.func (.func 72) #[] #[.pointer (some ⟨cb, 0, none⟩)]] 132))).1 cb 0 hcl).trans hc
  have hu1 := Upd.alloc (fun j => j = m) w (.cells #[.func (.func 72) #[] #[.pointer (some ⟨cb, 0, none⟩)]] 132)
  go_enter Try.func71, Try.ntmps71
  go_wp2_with fail
  generalize w.alloc (.cells #[.func (.func 72) #[] #[.pointer (some ⟨cb, 0, none⟩)]] 132) = W at *
  refine (table_none hT).mono ?_
  rintro x w1 ⟨rfl, rfl⟩
  have t1 := hT.c1
  have hln := run_lenL hT.ml
  have HT := hid hT
  have HX := hid hx
  have HC := hid hc1
  have HU := hid hu1
  clear h hT hx hc1 hu1 hc
  go_wp2_with fail
  refine (maps_delete HT.out.ml w.heap.size cb q HX.out HC.out).mono ?_
  rintro x w2 ⟨rfl, hm2, hu2⟩
  have t2 : w2.cell? ⟨g, 1, none⟩ = _ := (hu2.cell (cell_lt HT.out.c1) hgm 1).trans HT.out.c1
  have t0 : w2.cell? ⟨g, 0, none⟩ = _ := (hu2.cell (cell_lt HT.out.c0) hgm 0).trans HT.out.c0
  have hln2 := run_lenL hm2
  have HM2 := hid hm2
  have HU2 := hid hu2
  clear hm2 hu2 hln
  go_wp2
  go_ret
  exact ⟨_, rfl, ⟨t0, t2, HM2.out⟩, HU.out.trans HU2.out⟩

theorem table_below {w : World} {g m : Nat} {e : Int} {L : List Rc} (h : TbAt w g m e L) (q : Int) :
    Calls Try.prog 46 #[.pointer (some ⟨g, 0, none⟩), .int .i64 q] w fun x w' =>
      ∃ n : Int, x = .returned (.int .i64 n) ∧ TbAt w' g m e (L.filter (fun r => !decide (r.t < q))) ∧ Upd (fun j => j = m) w (fun j => j = m) w' := by
  have hT := h.below (below_al (Below.refl w.heap.size w) (.cells #[.int .i64 q] 3))
  have hx := (blk_at (heap_alloc_new w (.cells #[.int .i64 q] 3))).1 0
  have hu1 := Upd.alloc (fun j => j = m) w (.cells #[.int .i64 q] 3)
  have HT := hid hT
  have HX := hid hx
  have HU := hid hu1
  clear h hT hx hu1
  go_enter Try.func46, Try.ntmps46
  go_wp2_with fail
  refine (table_drop HT.out w.heap.size q HX.out).mono ?_
  rintro x w2 ⟨n, rfl, hT2, hu2⟩
  have HT2 := hid hT2
  have HU2 := hid hu2
  clear hT2 hu2
  go_wp2
  go_ret
  exact ⟨n, rfl, HT2.out, HU.out.trans HU2.out⟩

end Go.Proofs.Ytcbpaikklkmnbaa
