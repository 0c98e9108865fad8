/- Records in a row of memory: slices.IndexFunc and slices.DeleteFunc over them. -/
import Derived.Test.YtcbpaikklkmnbaaTierM
import Derived.Laws.IdiomCopy
namespace Go.Proofs.Ytcbpaikklkmnbaa
open Go.RowKit Go.Proofs
set_option maxRecDepth 20000
set_option maxHeartbeats 1600000

instance : Inhabited Rc := ⟨⟨ByteArray.empty, 0, agZ⟩⟩

/-- a record's cells -/
def rcEnc (r : Rc) : List Value := [.string r.s, .int .i64 r.t, .int .i64 r.a.c, .int .i64 r.a.h, .int .u64 r.a.l, .int .i64 r.a.a, .int .i64 r.a.b]

theorem rcEnc_one (r : Rc) : ∀ u ∈ rcEnc r, u.oneCell' = true := by
  intro u hu
  simp [rcEnc] at hu
  rcases hu with rfl | rfl | rfl | rfl | rfl | rfl | rfl <;> rfl

/-- records in a row of memory that may be written -/
def RowR (w : World) (g : Nat) (S : List Rc) : Prop := ∀ j (h : j < S.length), ∀ c, c < 7 → w.cell? ⟨g, j * 7 + c, none⟩ = (rcEnc S[j])[c]? ∧ w.frozen? ⟨g, j * 7 + c, none⟩ = false

theorem RowR.below {w w' : World} {g B : Nat} {S : List Rc} (h : RowR w g S) (hb : Below B w w') (hB : g < B) : RowR w' g S := fun j hj c hc => ⟨((bcell hb).1 g _ hB).trans (h j hj c hc).1, ((bcell hb).2 g _ hB).trans (h j hj c hc).2⟩

theorem RowR.at {w : World} {g : Nat} {S : List Rc} (h : RowR w g S) {j : Nat} (hj : j < S.length) : ReAt w g (j * 7) S[j] :=
  ⟨(h j hj 0 (by omega)).1, (h j hj 1 (by omega)).1, (h j hj 2 (by omega)).1, (h j hj 3 (by omega)).1, (h j hj 4 (by omega)).1, (h j hj 5 (by omega)).1, (h j hj 6 (by omega)).1⟩

/-- seven cells that may be written -/
structure FrAt (w : World) (g o : Nat) : Prop where
  f0 : w.frozen? ⟨g, o, none⟩ = false
  f1 : w.frozen? ⟨g, o + 1, none⟩ = false
  f2 : w.frozen? ⟨g, o + 2, none⟩ = false
  f3 : w.frozen? ⟨g, o + 3, none⟩ = false
  f4 : w.frozen? ⟨g, o + 4, none⟩ = false
  f5 : w.frozen? ⟨g, o + 5, none⟩ = false
  f6 : w.frozen? ⟨g, o + 6, none⟩ = false

theorem RowR.fr {w : World} {g : Nat} {S : List Rc} (h : RowR w g S) {j : Nat} (hj : j < S.length) : FrAt w g (j * 7) :=
  ⟨(h j hj 0 (by omega)).2, (h j hj 1 (by omega)).2, (h j hj 2 (by omega)).2, (h j hj 3 (by omega)).2, (h j hj 4 (by omega)).2, (h j hj 5 (by omega)).2, (h j hj 6 (by omega)).2⟩

theorem RowR.lt {w : World} {g : Nat} {S : List Rc} (h : RowR w g S) {j : Nat} (hj : j < S.length) : g < w.heap.size := cell_lt (h.at hj).c0

theorem RowR.some {w : World} {g : Nat} {S : List Rc} (h : RowR w g S) {j c : Nat} (hj : j < S.length) (hc : c < 7) : (w.cell? ⟨g, j * 7 + c, none⟩).isSome = true := by
  rw [(h j hj c hc).1, List.getElem?_eq_getElem (by simp [rcEnc]; omega)]
  rfl

theorem RowR.set {w : World} {g : Nat} {S : List Rc} (h : RowR w g S) {i : Nat} (hi : i < S.length) (r : Rc) : RowR (w.setCells g (i * 7) (rcEnc r)) g (S.set i r) := by
  intro j hj c hc
  have hj2 : j < S.length := by simpa using hj
  refine ⟨?_, by rw [World.frozen?_setCells]; exact (h j hj2 c hc).2⟩
  by_cases hji : j = i
  · subst hji
    have h1 := World.cell?_setCells_in g (rcEnc r) (j * 7) w (fun k hk => h.some hj2 (by simpa [rcEnc] using hk)) c (by simpa [rcEnc] using hc)
    rw [h1, List.getElem_set_self, List.getElem?_eq_getElem]
  · rw [World.cell?_setCells_out g (rcEnc r) (i * 7) w _ (fun _ _ => by simp [rcEnc]; omega), List.getElem_set_ne (Ne.symm hji)]
    exact (h j hj2 c hc).1

theorem RowR.front {w : World} {g : Nat} {S : List Rc} (h : RowR w g S) (n : Nat) : RowR w g (S.take n) := by
  intro j hj c hc
  rw [List.length_take] at hj
  rw [List.getElem_take]
  exact h j (by omega) c hc

/-- what IndexFunc tells -/
def IdxR (p : Rc → Bool) (S : List Rc) (v : Int) : Prop :=
  (v = -1 ∧ ∀ r ∈ S, p r = true) ∨ ∃ k, ∃ h : k < S.length, v = (k : Nat) ∧ p S[k] = false ∧ ∀ r ∈ S.take k, p r = true

theorem index_recs (a : Option Addr) (g c bs bf bu : Nat) (S : List Rc) (s : ByteArray) (f u : Int) (w : World) (ha : S ≠ [] → a = some ⟨g, 0, none⟩) (hrow : RowR w g S) (hS : S.length ≤ 100000)
    (h1 : w.cell? ⟨bs, 0, none⟩ = some (.string s)) (h2 : w.cell? ⟨bf, 0, none⟩ = some (.int .i64 f)) (h3 : w.cell? ⟨bu, 0, none⟩ = some (.int .i64 u)) :
    Calls Try.prog 100 #[.slice a S.length c, .func (.func 77) #[] #[.pointer (some ⟨bs, 0, none⟩), .pointer (some ⟨bf, 0, none⟩), .pointer (some ⟨bu, 0, none⟩)]] w fun e w' =>
      ∃ v, e = .returned (.int .i64 v) ∧ IdxR (inQ s f u) S v ∧ Below w.heap.size w w' := by
  have l1 := cell_lt h1
  have l2 := cell_lt h2
  have l3 := cell_lt h3
  have H1 := hid h1
  have H2 := hid h2
  have H3 := hid h3
  have HA := hid ha
  have HR := hid hrow
  clear h1 h2 h3 ha hrow
  go_enter Try.func100, Try.ntmps100
  go_wp2_with fail
  go_loopw [8] (fun i wr => ∃ k : Nat, k ≤ S.length ∧ i = .int .i64 k ∧ Hid (∀ r ∈ S.take k, inQ s f u r = true) ∧ Below w.heap.size w wr) (fun i _ => S.length - (intOf i).toNat)
  case atStart => exact ⟨0, by omega, by first | trivial | rfl, fun r hr => by simp at hr, Below.refl _ _⟩
  case round =>
    obtain ⟨k, hk, rfl, hq, hb⟩ := hrel
    have HB := hid hb
    clear hb
    by_cases hkn : k = S.length
    · have hd : decide ((k : Int) < S.length) = false := by simp; omega
      have hall : Hid (∀ r ∈ S, inQ s f u r = true) := fun r hr => hq.out r (by rw [hkn, List.take_length]; exact hr)
      go_wp2
      go_ret
      exact ⟨_, rfl, Or.inl ⟨rfl, hall.out⟩, HB.out⟩
    · have hk2 : k < S.length := by omega
      have hd : decide ((k : Int) < S.length) = true := by simp; omega
      obtain rfl := HA.out (by intro h; rw [h] at hk2; simp at hk2)
      have hgl : g < w.heap.size := HR.out.lt hk2
      obtain ⟨r, hr⟩ : ∃ r, r = S[k] := ⟨_, rfl⟩
      have hre : ReAt wr g (k * 7) r := by rw [hr]; exact (HR.out.at hk2).below HB.out hgl
      obtain ⟨c0, c1, c2, c3, c4, c5, c6⟩ := hre
      have HRR := hid hr
      clear hr
      go_wp2_with fail
      refine (range_one r bs bf bu s f u wr (((bcell HB.out).1 _ 0 l1).trans H1.out) (((bcell HB.out).1 _ 0 l2).trans H2.out) (((bcell HB.out).1 _ 0 l3).trans H3.out)).mono ?_
      rintro e w1 ⟨rfl, hb1⟩
      have HB1 : Hid (Below w.heap.size w w1) := HB.out.trans (hb1.mono HB.out.size)
      clear hb1
      cases hv : inQ s f u r with
      | false =>
        have HV := hid hv
        clear hv
        go_wp2
        go_ret
        exact ⟨_, rfl, Or.inr ⟨k, hk2, rfl, by rw [← HRR.out]; exact HV.out, hq.out⟩, HB1.out⟩
      | true =>
        have HV := hid hv
        clear hv
        go_wp2
        go_roundw
        case rel =>
          refine ⟨k + 1, by omega, by go_num, fun r' hr' => ?_, HB1.out⟩
          rw [List.take_succ_eq_append_getElem hk2] at hr'
          rcases List.mem_append.1 hr' with h | h
          · exact hq.out r' h
          · simp at h
            rw [h, ← HRR.out]
            exact HV.out
        case measure => simp [intOf]; omega

theorem zeroRec (w : World) : (zeroValue 61).run Try.prog w = .ok (.agg #[.string ⟨#[]⟩, .int .i64 0, .int .i64 0, .int .i64 0, .int .u64 0, .int .i64 0, .int .i64 0]) w := by kernel_rfl

theorem zero_cells : ∀ n, (Builtin.zeroCells #[.string ⟨#[]⟩, .int .i64 0, .int .i64 0, .int .i64 0, .int .u64 0, .int .i64 0, .int .i64 0] n).toList.length = n * 7 ∧ ∀ u ∈ (Builtin.zeroCells #[.string ⟨#[]⟩, .int .i64 0, .int .i64 0, .int .i64 0, .int .u64 0, .int .i64 0, .int .i64 0] n).toList, u.oneCell' = true := by
  intro n
  refine ⟨by simp [Builtin.zeroCells], fun u hu => ?_⟩
  simp only [Builtin.zeroCells, Array.toList_map, List.mem_map] at hu
  obtain ⟨i, _, rfl⟩ := hu
  have : i % 7 = 0 ∨ i % 7 = 1 ∨ i % 7 = 2 ∨ i % 7 = 3 ∨ i % 7 = 4 ∨ i % 7 = 5 ∨ i % 7 = 6 := by omega
  rcases this with h | h | h | h | h | h | h <;> simp [h] <;> rfl

theorem Upd.setCells {S : Nat → Prop} (g : Nat) (h : S g) : ∀ (vs : List Value) (o : Nat) (w : World), Upd S w S (w.setCells g o vs)
  | [], _, w => Upd.refl _ w
  | v :: r, o, w => (Upd.setCell w (p := ⟨g, o, none⟩) h v).trans (Upd.setCells g h r (o + 1) _)

/-- clear at the tail of a row of records -/
theorem run_clearR {w : World} {g : Nat} {X : List Rc} (h : RowR w g X) (i c : Nat) (hi : i < X.length) :
    ∃ w', (∀ ty, (Builtin.clear_ #[49] ty #[.slice (some ⟨g, i * 7, none⟩) (X.length - i) c]).run Try.prog w = .ok (.tuple #[]) w') ∧ RowR w' g (X.take i) ∧ Upd (fun j => j = g) w (fun j => j = g) w' := by
  obtain ⟨hl, h1⟩ := zero_cells (X.length - i)
  have hcell : ∀ j, j < (X.length - i) * 7 → (w.cell? ⟨g, i * 7 + j, none⟩).isSome = true ∧ w.frozen? ⟨g, i * 7 + j, none⟩ = false := by
    intro j hj
    have e : i * 7 + j = (i + j / 7) * 7 + j % 7 := by omega
    rw [e]
    exact ⟨h.some (by omega) (by omega), (h _ (by omega) _ (by omega)).2⟩
  have hst := run_storeCells_cells (P := Try.prog) g (i * 7) (Builtin.zeroCells #[.string ⟨#[]⟩, .int .i64 0, .int .i64 0, .int .i64 0, .int .u64 0, .int .i64 0, .int .i64 0] (X.length - i)).toList 0 w
    (fun j hj => (hcell j (by rw [← hl]; exact hj)).1) (fun j hj => (hcell j (by rw [← hl]; exact hj)).2) h1
  rw [Nat.add_zero] at hst
  refine ⟨w.setCells g (i * 7) (Builtin.zeroCells #[.string ⟨#[]⟩, .int .i64 0, .int .i64 0, .int .i64 0, .int .u64 0, .int .i64 0, .int .i64 0] (X.length - i)).toList, ?_, ?_, ?_⟩
  · intro ty
    obtain ⟨m, hm⟩ : ∃ m, X.length - i = m + 1 := ⟨X.length - i - 1, by omega⟩
    rw [hm] at hst ⊢
    simp [Builtin.clear_, run_underlying Try.underlying49, Value.cells, hst]
  · intro j hj c hc
    have hj2 : j < i ∧ j < X.length := by rw [List.length_take] at hj; omega
    rw [World.cell?_setCells_out _ _ _ _ _ (fun _ _ => Or.inl (by show j * 7 + c < i * 7; omega)), World.frozen?_setCells, List.getElem_take]
    exact h j hj2.2 c hc
  · exact Upd.setCells (S := fun j => j = g) g rfl _ _ _

theorem idx_filter {p : Rc → Bool} {S : List Rc} {k : Nat} (h : ∀ r ∈ S.take k, p r = true) : (S.take k).filter p = S.take k := List.filter_eq_self.2 h

theorem delete_recs (a : Option Addr) (g c bs bf bu : Nat) (S : List Rc) (s : ByteArray) (f u : Int) (w : World) (ha : S ≠ [] → a = some ⟨g, 0, none⟩) (hrow : RowR w g S) (hS : S.length ≤ 100000) (hc : S.length ≤ c)
    (h1 : w.cell? ⟨bs, 0, none⟩ = some (.string s)) (h2 : w.cell? ⟨bf, 0, none⟩ = some (.int .i64 f)) (h3 : w.cell? ⟨bu, 0, none⟩ = some (.int .i64 u)) (n1 : S ≠ [] → bs ≠ g ∧ bf ≠ g ∧ bu ≠ g) :
    Calls Try.prog 75 #[.slice a S.length c, .func (.func 77) #[] #[.pointer (some ⟨bs, 0, none⟩), .pointer (some ⟨bf, 0, none⟩), .pointer (some ⟨bu, 0, none⟩)]] w fun e w' =>
      e = .returned (.slice a (S.filter (inQ s f u)).length c) ∧ RowR w' g (S.filter (inQ s f u)) ∧ Upd (fun j => j = g) w (fun j => j = g) w' := by
  have H1 := hid h1
  have H2 := hid h2
  have H3 := hid h3
  have HA := hid ha
  have HR := hid hrow
  have HN := hid n1
  clear h1 h2 h3 ha hrow n1
  obtain ⟨F, hF⟩ : ∃ F, F = S.filter (inQ s f u) := ⟨_, rfl⟩
  rw [← hF]
  have HF := hid hF
  clear hF
  go_enter Try.func75, Try.ntmps75
  go_wp2_with fail
  refine (index_recs a g c bs bf bu S s f u w HA.out HR.out hS H1.out H2.out H3.out).mono ?_
  rintro e w1 ⟨v, rfl, hv, hb⟩
  have HB := hid hb
  clear hb
  rcases hv with ⟨rfl, hall⟩ | ⟨k, hk, rfl, hp, hall⟩
  · obtain rfl : F = S := by rw [HF.out]; exact List.filter_eq_self.2 hall
    clear hall
    go_wp2
    go_ret
    refine ⟨by first | trivial | rfl, ?_, Upd.of_below HB.out⟩
    intro j hj c' hc'
    exact (HR.out.below HB.out (HR.out.lt hj)) j hj c' hc'
  · have hne : S ≠ [] := by intro h; rw [h] at hk; simp at hk
    obtain rfl := HA.out hne
    obtain ⟨n1, n2, n3⟩ := HN.out hne
    have hgl : g < w.heap.size := HR.out.lt hk
    have HP := hid hp
    have HALL := hid hall
    have hkd : ((k : Int) == -1) = false := by simp
    clear hp hall hne
    go_wp2_with fail
    go_loopw [5, 6] (fun i j wr => ∃ (ii jj : Nat) (X : List Rc), i = .int .i64 ii ∧ j = .int .i64 jj ∧ ii < jj ∧ jj ≤ S.length ∧ Hid (X.length = S.length ∧ RowR wr g X ∧ X.take ii = (S.take jj).filter (inQ s f u) ∧ X.drop jj = S.drop jj) ∧ Upd (fun j => j = g) w (fun j => j = g) wr) (fun _ j _ => S.length - (intOf j).toNat)
    case atStart =>
      refine ⟨k, k + 1, S, by first | trivial | rfl, congrArg (Value.int .i64) (by omega), by omega, by omega, ⟨rfl, HR.out.below HB.out hgl, ?_, rfl⟩, Upd.of_below HB.out⟩
      rw [List.take_succ_eq_append_getElem hk, List.filter_append, idx_filter HALL.out]
      simp [HP.out]
    case round =>
      obtain ⟨ii, jj, X, rfl, rfl, hij, hjn, hX, hu⟩ := hrel
      have HU := hid hu
      clear hu
      by_cases hjS : jj = S.length
      · have hd : decide ((jj : Int) < S.length) = false := by simp; omega
        have hFX : Hid (X.take ii = F ∧ ii = F.length) := by
          obtain ⟨x1, x2, x3, x4⟩ := hX.out
          have h5 : X.take ii = F := by rw [x3, hjS, List.take_length, HF.out]
          refine ⟨h5, ?_⟩
          rw [← h5, List.length_take]
          omega
        obtain ⟨w2, hcl, hr2, hu2⟩ := run_clearR hX.out.2.1 ii (c - ii) (by rw [hX.out.1]; omega)
        rw [hX.out.1] at hcl
        have HR2 := hid hr2
        have HU2 := hid hu2
        clear hr2 hu2
        go_wp2
        go_ret
        refine ⟨by rw [hFX.out.2]; rfl, ?_, HU.out.trans HU2.out⟩
        rw [← hFX.out.1]
        exact HR2.out
      · have hj2 : jj < S.length := by omega
        have hd : decide ((jj : Int) < S.length) = true := by simp; omega
        obtain ⟨r, hr⟩ : ∃ r, r = S[jj] := ⟨_, rfl⟩
        have hjX : jj < X.length := by rw [hX.out.1]; exact hj2
        have hXr : X[jj] = r := by
          have h5 := congrArg (fun l => l[0]?) hX.out.2.2.2
          simp only [List.getElem?_drop, Nat.add_zero] at h5
          rw [List.getElem?_eq_getElem hjX, List.getElem?_eq_getElem hj2] at h5
          rw [hr]
          exact Option.some.inj h5
        have hre : ReAt wr g (jj * 7) r := by rw [← hXr]; exact hX.out.2.1.at hjX
        obtain ⟨c0, c1, c2, c3, c4, c5, c6⟩ := hre
        have HRR := hid hr
        have HXR := hid hXr
        clear hr hXr
        go_wp2_with fail
        have hP := ReAt.new wr r
        have hB0 : Below wr.heap.size wr (wr.alloc (rcObj r)) := below_al (Below.refl _ _) _
        have hU0 : Upd (fun j => j = g) w (fun j => j = g) (wr.alloc (rcObj r)) := HU.out.trans (Upd.of_below hB0)
        have hgw : g < wr.heap.size := Nat.lt_of_lt_of_le hgl HU.out.size
        refine (range_one r bs bf bu s f u _ ((hU0.cell (cell_lt H1.out) n1 0).trans H1.out) ((hU0.cell (cell_lt H2.out) n2 0).trans H2.out) ((hU0.cell (cell_lt H3.out) n3 0).trans H3.out)).mono ?_
        rintro e w2 ⟨rfl, hb2⟩
        have hE := hP.below hb2 (by simp)
        have hB2 : Below wr.heap.size wr w2 := below_then hb2 hB0
        have HU2 : Hid (Upd (fun j => j = g) w (fun j => j = g) w2) := HU.out.trans (Upd.of_below hB2)
        have HR2 : Hid (RowR w2 g X) := hX.out.2.1.below hB2 hgw
        have hii : ii < X.length := by omega
        have hpl := cell_lt hE.c0
        have hne : g ≠ wr.heap.size := by omega
        clear hP hb2 hB2 hB0 hU0 c0 c1 c2 c3 c4 c5 c6
        obtain ⟨c0, c1, c2, c3, c4, c5, c6⟩ := hE
        cases hv : inQ s f u r with
        | false =>
          have HV := hid hv
          clear hv
          go_wp2
          go_roundw
          case rel =>
            refine ⟨ii, jj + 1, X, by first | trivial | rfl, by simp, by omega, by omega, ⟨hX.out.1, HR2.out, ?_, ?_⟩, HU2.out⟩
            · rw [hX.out.2.2.1, List.take_succ_eq_append_getElem hj2, List.filter_append, ← HRR.out]
              simp [HV.out]
            · rw [← List.drop_drop, ← List.drop_drop, hX.out.2.2.2]
          case measure => simp [intOf]; omega
        | true =>
          have HV := hid hv
          clear hv
          obtain ⟨f0, f1, f2, f3, f4, f5, f6⟩ := HR2.out.fr hii
          obtain ⟨q0, q1, q2, q3, q4, q5, q6⟩ := HR2.out.at hii
          go_wp2
          go_roundw
          case rel =>
            refine ⟨ii + 1, jj + 1, X.set ii r, by simp, by simp, by omega, by omega, ⟨by rw [List.length_set]; exact hX.out.1, HR2.out.set hii r, ?_, ?_⟩, HU2.out.trans (Upd.setCells (S := fun j => j = g) g rfl (rcEnc r) (ii * 7) w2)⟩
            · rw [List.take_succ_eq_append_getElem hj2, List.filter_append, ← HRR.out, List.take_succ_eq_append_getElem (by simpa using hii), List.getElem_set_self, List.take_set_of_le (Nat.le_refl _), hX.out.2.2.1]
              simp [HV.out]
            · rw [List.drop_set_of_lt (by omega), ← List.drop_drop, ← List.drop_drop, hX.out.2.2.2]
          case measure => simp [intOf]; omega
end Go.Proofs.Ytcbpaikklkmnbaa
