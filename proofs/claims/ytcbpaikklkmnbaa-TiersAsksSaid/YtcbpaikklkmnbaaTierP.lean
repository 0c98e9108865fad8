/- All records of a table, in order: the call. -/
import Derived.Test.YtcbpaikklkmnbaaTierO
import Derived.Deep.AppendLies
namespace Go.Proofs.Ytcbpaikklkmnbaa
open Go.RowKit Go.Proofs Go.Maps Go.MapKept Go.Sort
set_option maxRecDepth 20000
set_option maxHeartbeats 1600000


/-- the cells of records -/
def recCells (l : List Rc) : List Value := l.flatMap rcEnc

theorem recCells_one (l : List Rc) : ∀ u ∈ recCells l, u.oneCell' = true := by
  intro u hu
  obtain ⟨r, _, hr⟩ := List.mem_flatMap.1 hu
  simp [rcEnc] at hr
  rcases hr with rfl | rfl | rfl | rfl | rfl | rfl | rfl <;> rfl


/-- a record out of a map's entry -/
def decE : Value × Value → Rc
  | (.agg #[.string s, .int _ t], .agg #[.int _ c, .int _ h, .int _ l, .int _ a, .int _ b]) => ⟨s, t, ⟨c, h, l, a, b⟩⟩
  | _ => default

theorem decE_enc (r : Rc) : decE (rcKey r, agV r.a) = r := rfl

theorem perm_of_enc {V L : List Rc} (h : (V.map (fun r => (rcKey r, agV r.a))).Perm (L.map (fun r => (rcKey r, agV r.a)))) : V.Perm L := by
  have h1 := h.map decE
  have h2 : (decE ∘ fun r => (rcKey r, agV r.a)) = id := funext decE_enc
  rwa [List.map_map, List.map_map, h2, List.map_id, List.map_id] at h1

theorem recCells_app (V : List Rc) (r : Rc) : recCells V ++ rcEnc r = recCells (V ++ [r]) := by simp [recCells]

theorem recCells_length : ∀ (V : List Rc), (recCells V).length = V.length * 7
  | [] => rfl
  | r :: V => by
    have := recCells_length V
    simp only [recCells, List.flatMap_cons, List.length_append, List.length_cons] at this ⊢
    rw [this]
    simp [rcEnc]
    omega

theorem recCells_get : ∀ (V : List Rc) (j c : Nat) (hj : j < V.length), c < 7 → (recCells V)[j * 7 + c]? = (rcEnc V[j])[c]?
  | [], j, c, hj, _ => by simp at hj
  | r :: V, 0, c, _, hc => by
    simp only [recCells, List.flatMap_cons]
    rw [List.getElem?_append_left (by simp [rcEnc]; omega)]
    simp
  | r :: V, j + 1, c, hj, hc => by
    have := recCells_get V j c (by simpa using hj) hc
    simp only [recCells, List.flatMap_cons] at this ⊢
    rw [List.getElem?_append_right (by simp [rcEnc]; omega)]
    rw [show (j + 1) * 7 + c - (rcEnc r).length = j * 7 + c by simp [rcEnc]; omega, this]
    simp

/-- a slice of records, whose row is no elder than B -/
structure RecsAt (w : World) (B : Nat) (a : Option Addr) (g : Nat) (S : List Rc) : Prop where
  row : RowR w g S
  ad : S ≠ [] → a = some ⟨g, 0, none⟩
  lo : B ≤ g

theorem row_of_holds {w : World} {g : Nat} {d : Array Rc} (h : HoldsK rcEnc 7 w g 0 d) : RowR w g d.toList := by
  intro j hj c hc
  have hj' : j < d.size := by simpa using hj
  have h1 := h.cell hj' hc
  rw [Nat.zero_add] at h1
  refine ⟨?_, h1.2⟩
  rw [h1.1, getElem!_pos d j hj', getElem!_pos (rcEnc d[j]) c (by simp [rcEnc]; omega)]
  simp

theorem holds_of_own {w : World} {B g c : Nat} {T : TypeId} {V : List Rc} (h : w.ownsRow B T 7 (.slice (some ⟨g, 0, none⟩) V.length c) V.length (recCells V)) : HoldsK rcEnc 7 w g 0 V.toArray := by
  have hc := h.cells (g := g) rfl
  have hf : ∀ j, w.frozen? ⟨g, j, none⟩ = false := by
    rcases h.2 with ⟨hv, _⟩ | ⟨g', cap, cur, hv, _, hg, _⟩
    · cases hv
    · obtain rfl : g = g' := by simpa using (Value.slice.inj hv).1
      exact fun j => (blk_at hg).2 j
  intro t ht
  rw [size_flatK] at ht
  simp only [List.size_toArray] at ht
  have hd : t / 7 < V.length := by omega
  rw [get_flatK _ _ _ t (by simpa using ht), Nat.zero_add]
  refine ⟨?_, hf t⟩
  have h1 := recCells_get V (t / 7) (t % 7) hd (by omega)
  rw [show t / 7 * 7 + t % 7 = t by omega] at h1
  have h2 : ∃ u, (recCells V)[t]? = some u := by
    rw [h1]
    exact ⟨_, List.getElem?_eq_getElem (by simp [rcEnc]; omega)⟩
  obtain ⟨u, hu⟩ := h2
  have h3 := hc t u hu
  rw [show (⟨g, 0, none⟩ : Addr).add t = ⟨g, t, none⟩ by unfold Addr.add; split <;> simp_all] at h3
  rw [h3, ← hu, h1]
  have h4 : (V.toArray)[t / 7]! = V[t / 7] := by rw [getElem!_pos V.toArray (t / 7) (by simpa using hd)]; simp
  rw [h4, getElem!_pos (rcEnc V[t / 7]) (t % 7) (by simp [rcEnc]; omega)]
  simp [rcEnc]

theorem left_perm {es : Array MapEntry} {clock : Nat} (hs : Stamped es clock) {seen : Array Nat} {e : MapEntry} (he : e ∈ (leftOf es seen).toList) : (leftOf es seen).toList.Perm (e :: (leftOf es (seen.push e.born)).toList) := by
  have h2 : (leftOf es (seen.push e.born)).toList = (leftOf es seen).toList.filter (fun x => x.born != e.born) := by
    unfold leftOf
    rw [Array.toList_filter, Array.toList_filter, List.filter_filter]
    refine List.filter_congr fun x _ => ?_
    rw [contains_push]
    cases hb : (x.born == e.born) <;> simp [bne, hb]
  obtain ⟨j, hj⟩ := List.mem_iff_getElem?.1 he
  have hsub : (leftOf es seen).toList.Sublist es.toList := by
    unfold leftOf
    rw [Array.toList_filter]
    exact List.filter_sublist
  have hn : ((leftOf es seen).toList.map (·.born)).Nodup := (hsub.map _).nodup hs.2.1
  rw [h2, ← erase_filter hn hj]
  obtain ⟨hjl, hje⟩ := List.getElem?_eq_some_iff.1 hj
  rw [← hje]
  generalize (leftOf es seen).toList = l at hjl
  clear hsub hn hj hje h2 he hs
  induction l generalizing j with
  | nil => simp at hjl
  | cons a l ih =>
    cases j with
    | zero => exact List.Perm.refl _
    | succ j =>
      simp only [List.getElem_cons_succ, List.eraseIdx_cons_succ]
      exact ((ih j (by simpa using hjl)).cons a).trans (List.Perm.swap _ _ _)

theorem upd_sortWorld (w : World) (g n : Nat) (d' : Array Rc) (os : Array Obj) : Upd (fun j => j = g) w (fun j => j = g) (sortWorldK rcEnc 7 w g 0 n d' os) := by
  refine ⟨rfl, rfl, rfl, ?_, fun k hk hn => ?_, fun k h => Or.inl h⟩
  · simp [sortWorldK, grow, putRowK, putRow, mapBlock]
  · have hn' : ¬ g = k := fun e => hn e.symm
    have hk2 : k < (w.heap.modify g (onCells (putCells id 0 (flatK rcEnc 7 d')))).size := by simpa using hk
    show (w.heap.modify g (onCells (putCells id 0 (flatK rcEnc 7 d'))) ++ os)[k]? = w.heap[k]?
    rw [Array.getElem?_append_left hk2, Array.getElem?_modify, if_neg hn']

theorem table_all {w : World} {g m : Nat} {e : Int} {L : List Rc} (h : TbAt w g m e L) (hlen : L.length ≤ 100000) :
    Calls Try.prog 76 #[.pointer (some ⟨g, 0, none⟩)] w fun x w' =>
      ∃ (a : Option Addr) (c r : Nat) (S : List Rc), x = .returned (.slice a S.length c) ∧ S.length ≤ c ∧ S.Perm L ∧ S.Pairwise RLt ∧ RecsAt w' w.heap.size a r S ∧ Below w.heap.size w w' := by
  have hnod := h.ml.nodup
  obtain ⟨es, clock, hb, hs, he, hk⟩ := h.ml
  have hrng := range_run w m es clock hb
  have HN := hid hnod
  have HT := hid h
  have t1 := h.c1
  clear h hnod
  go_enter Try.func76, Try.ntmps76
  go_wp2_with fail
  refine (table_none HT.out).mono ?_
  rintro x w1 ⟨rfl, rfl⟩
  go_wp2_with fail
  have HB := hid hb
  have HS := hid hs
  have HE := hid he
  have HK := hid hk
  have hml := HT.out.ml.lt
  clear hb hs he hk hrng t1
  go_loopw [3, 13] (fun o _ wr => ∃ (seen : Array Nat) (c0 : Nat) (V : List Rc) (a : Option Addr) (c : Nat), wr.heap[w.heap.size]? = some (.mapIter (some m) clock seen c0) ∧ o = .slice a V.length c ∧ clock ≤ c0 ∧ Hid (V = [] → a = none ∧ c = 0) ∧ Hid (wr.ownsRow (w.heap.size + 1) 61 7 (.slice a V.length c) V.length (recCells V)) ∧ Hid (∃ VE : List MapEntry, VE.map (fun e => (e.key, e.val)) = V.map (fun r => (rcKey r, agV r.a)) ∧ (VE ++ (leftOf es seen).toList).Perm es.toList) ∧ Below w.heap.size w wr) (fun _ _ wr => wr.rangeLeft m w.heap.size)
  case atStart =>
    refine ⟨#[], clock, [], none, 0, heap_alloc_new w _, rfl, Nat.le_refl _, fun _ => ⟨rfl, rfl⟩, World.ownsRow_nil _ _ _ _, ⟨[], rfl, ?_⟩, below_al (Below.refl _ _) _⟩
    have e1 : leftOf es #[] = es := by unfold leftOf; simp
    rw [e1]
    exact List.Perm.refl _
  case round =>
    obtain ⟨seen, c0, V, a, c, hri, rfl, hcc, hnil, hown, hve, hbl⟩ := hrel
    have hsz := hbl.size
    have HBL := hid hbl
    have HRI := hid hri
    have hrs : w.heap.size < wr.heap.size := (Array.getElem?_eq_some_iff.1 hri).1
    have HMB : Hid (wr.heap[m]? = some (.map es clock)) := (hbl.block m hml).trans HB.out
    have hrl : wr.rangeLeft m w.heap.size = (leftOf es seen).size := by unfold World.rangeLeft; rw [HMB.out, hri]
    have HRL := hid hrl
    have hV : V.length ≤ 100000 := by
      obtain ⟨VE, h1, h2⟩ := hve.out
      have h3 := h2.length_eq
      have h4 := congrArg List.length h1
      have h5 := congrArg List.length HE.out
      simp only [List.length_map, List.length_append, Array.length_toList] at h3 h4 h5
      omega
    clear hri hrl hbl
    go_wp2_with (first
      | (at_next; refine wpList_nextE wr rfl _ rfl w.heap.size m clock c0 clock seen es rfl HRI.out HMB.out HS.out.1 hcc HS.out ?_ ?_)
      | go_in)
    · intro h0
      have hperm : V.Perm L := by
        obtain ⟨VE, h1, h2⟩ := hve.out
        have h0' : (leftOf es seen).toList = [] := by first | (rw [h0]; done) | exact Array.toList_eq_nil_iff.2 h0 | exact Array.toList_eq_nil_iff.2 (Array.eq_empty_of_size_eq_zero h0)
        rw [h0', List.append_nil] at h2
        have h3 := h2.map (fun e => (e.key, e.val))
        rw [h1, HE.out] at h3
        exact perm_of_enc h3
      have HP := hid hperm
      have HH0 := hid h0
      clear hperm h0
      rcases V with _ | ⟨r0, V0⟩
      · obtain ⟨rfl, rfl⟩ := hnil.out rfl
        go_wp2_with fail
        refine (sort_none 0 _ wr).mono ?_
        rintro e w2 ⟨rfl, rfl⟩
        go_wp2
        go_ret
        have hL : L = [] := by simpa using HP.out.symm
        exact ⟨none, 0, _, [], rfl, by simp, by rw [hL], List.Pairwise.nil, ⟨fun j hj => by simp at hj, fun h => absurd rfl h, HBL.out.size⟩, HBL.out⟩
      · generalize hVe : r0 :: V0 = V at *
        have hne : 0 < V.length := by rw [← hVe]; simp
        obtain ⟨gg, cap, hv, hbg, hgl⟩ := hown.out.form hne
        obtain ⟨rfl, _, rfl⟩ := Value.slice.inj hv
        have hcap : V.length ≤ c := by
          rcases hown.out.2 with ⟨hx, _⟩ | ⟨g', cap, cur, hx, _, _, hcap, _⟩
          · cases hx
          · obtain ⟨_, _, rfl⟩ := Value.slice.inj hx
            exact hcap
        clear hv hVe
        go_wp2_with fail
        have hsz7 : V.toArray.size = V.length := by simp
        have hcall := sort_recs gg 0 c V.toArray wr (holds_of_own hown.out) hgl (by rw [hsz7]; omega)
        rw [hsz7] at hcall
        refine hcall.mono ?_
        rintro e w2 ⟨rfl, d', n, os, hp, hsd, rfl⟩
        have hsorted := sorted_list hp hsd (by rw [List.toList_toArray]; exact (HP.out.map rcKey).nodup_iff.2 HN.out)
        rw [List.toList_toArray] at hsorted
        have hu := upd_sortWorld wr gg n d' os
        have hdl : d'.toList.length = V.length := hsorted.1.length_eq
        have hdsz : d'.size = V.toArray.size := by
          have h := hdl
          simp only [Array.length_toList, List.size_toArray] at h ⊢
          exact h
        have hrow : RowR (sortWorldK rcEnc 7 wr gg 0 n d' os) gg d'.toList := by
          refine row_of_holds ?_
          refine holdsK_grow rcEnc 7 _ os gg 0 d' (by simpa [putRowK, putRow, mapBlock] using hgl) ?_
          exact holdsK_putRowK rcEnc 7 (Go.Sort.ahead wr n) gg 0 V.toArray d' (holds_of_own hown.out) hdsz
        have HSO := hid hsorted
        have HU := hid hu
        have HROW := hid hrow
        clear hsorted hu hrow
        generalize sortWorldK rcEnc 7 wr gg 0 n d' os = w2 at *
        go_wp2
        go_ret
        refine ⟨some ⟨gg, 0, none⟩, c, gg, d'.toList, by rw [hdl]; rfl, by rw [hdl]; exact hcap, HSO.out.1.trans HP.out, HSO.out.2, ⟨HROW.out, fun _ => rfl, by omega⟩, HBL.out.trans (HU.out.below ?_ ?_)⟩
        · exact hsz
        · intro k hk
          omega
    · intro e w1 hel0 hr1 hb1 hg1 hs1 hen
      have hel : e ∈ (leftOf es seen).toList := by first | exact hel0 | exact Array.mem_toList_iff.2 hel0
      have hee : e ∈ es.toList := (mem_left hel).1
      obtain ⟨r0, hr0, hk0, hv0⟩ := entry_shape HE.out hee
      have hlt := left_shrinks es seen e hel
      have hB1 : Hid (Below w.heap.size w w1) := ⟨hg1.os.trans HBL.out.os, hg1.tape.trans HBL.out.tape, hg1.output.trans HBL.out.output, by have := HBL.out.size; omega, fun k hk => (hg1.block k (by have := HBL.out.size; omega) (by simp; omega)).trans (HBL.out.block k hk)⟩
      have hperm2 : Hid ((leftOf es seen).toList.Perm (e :: (leftOf es (seen.push e.born)).toList)) := left_perm HS.out hel
      obtain ⟨key, val, bn⟩ := e
      simp only at hk0 hv0
      subst hk0
      subst hv0
      have HHB := hid hb1
      have HHR := hid hr1
      have HLT := hid hlt
      have HEL := hid hel
      have HG1 := hid hg1
      clear hlt hee hel hel0 hg1 hb1 hr1
      have hPB : Below w1.heap.size w1 ((w1.alloc (.cells #[.string r0.s, .int .i64 r0.t] 129)).alloc (.cells #[.int .i64 r0.a.c, .int .i64 r0.a.h, .int .u64 r0.a.l, .int .i64 r0.a.a, .int .i64 r0.a.b] 59)) := below_al (below_al (Below.refl _ _) _) _
      have HO1 : Hid (((w1.alloc (.cells #[.string r0.s, .int .i64 r0.t] 129)).alloc (.cells #[.int .i64 r0.a.c, .int .i64 r0.a.h, .int .u64 r0.a.l, .int .i64 r0.a.a, .int .i64 r0.a.b] 59)).ownsRow (w.heap.size + 1) 61 7 (.slice a V.length c) V.length (recCells V)) := by
        refine own_below ?_ hPB
        exact hown.out.kept (row := some w.heap.size) HG1.out (Or.inr (fun h => by have := (hown.out.lt w.heap.size h).1; omega))
      have HPB := hid hPB
      have HS1 := hid hs1
      have hw1s : w.heap.size < w1.heap.size := by omega
      clear hPB hs1 hsz hrs
      go_wp2_with (at_builtin; refine wpList_app1 slt_rec ((w1.alloc (.cells #[.string r0.s, .int .i64 r0.t] 129)).alloc (.cells #[.int .i64 r0.a.c, .int .i64 r0.a.h, .int .u64 r0.a.l, .int .i64 r0.a.a, .int .i64 r0.a.b] 59)) rfl _ _ rfl (w.heap.size + 1) a V.length c (recCells V) rfl HO1.out #[.string r0.s, .int .i64 r0.t, .int .i64 r0.a.c, .int .i64 r0.a.h, .int .u64 r0.a.l, .int .i64 r0.a.a, .int .i64 r0.a.b] ?cx rfl ?c2 ?c3 ?c4 ?c5 ?_)
      case c2 => exact ⟨rfl, rfl, rfl, rfl, rfl, rfl, rfl⟩
      case c3 => unfold maxLen; omega
      case c4 => omega
      case c5 => have := HPB.out.size; omega
      intro a2 c2 w3 hown3 hu3
      have hown4 : w3.ownsRow (w.heap.size + 1) 61 7 (.slice a2 (V ++ [r0]).length c2) (V ++ [r0]).length (recCells (V ++ [r0])) := by
        rw [← recCells_app, List.length_append]
        exact hown3
      have hlow : ∀ k, rowS a k → w.heap.size + 1 ≤ k := fun k hk => (HO1.out.lt k (by rw [ownBlock_slice]; exact hk)).1
      have HB3 : Hid (Below w.heap.size w w3) := (hB1.out.trans (HPB.out.mono (by omega))).trans (hu3.below (by simp; omega) (fun k hk => by have := hlow k hk; omega))
      have HR3 : Hid (w3.heap[w.heap.size]? = some (.mapIter (some m) clock (seen.push bn) clock)) := by
        refine (hu3.block _ (by simp; omega) (fun h => by have := hlow _ h; omega)).trans ((HPB.out.block _ hw1s).trans HHR.out)
      have HM3 : Hid (w3.heap[m]? = some (.map es clock)) := (HB3.out.block m hml).trans HB.out
      have HO4 := hid hown4
      have hlen4 : V.length + 1 = (V ++ [r0]).length := by simp
      clear hown3 hu3 hown4 hlow
      go_wp2
      go_roundw
      case rel =>
        refine ⟨seen.push bn, clock, V ++ [r0], a2, c2, HR3.out, by rw [hlen4], Nat.le_refl _, fun h => by simp at h, HO4.out, ?_, HB3.out⟩
        obtain ⟨VE, h1, h2⟩ := hve.out
        refine ⟨VE ++ [⟨rcKey r0, agV r0.a, bn⟩], by simp [h1], ?_⟩
        rw [List.append_assoc]
        exact ((List.Perm.append_left VE hperm2.out).symm).trans h2
      case measure =>
        rw [HRL.out]
        unfold World.rangeLeft
        rw [HM3.out, HR3.out]
        exact HLT.out
end Go.Proofs.Ytcbpaikklkmnbaa
