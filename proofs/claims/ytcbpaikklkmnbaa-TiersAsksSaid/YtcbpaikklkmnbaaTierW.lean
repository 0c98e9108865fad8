/- New tiers. -/
import Derived.Test.YtcbpaikklkmnbaaTierV
import Derived.Deep.RegionHeld3
import Derived.Deep.RegionLaw
namespace Go.Proofs.Ytcbpaikklkmnbaa
open Go.RowKit Go.Proofs
set_option maxRecDepth 20000
set_option maxHeartbeats 1600000

theorem tiers_none {w : World} {H t : Nat} {now : Int} {pn : ByteArray} {b c : Nat} {P : List Ti} {B : Nat → Nat × Nat} {T : Nat → List Rc} {k : Nat} {la : Option Addr} {cl : Nat} (h : TsAt w H t now pn b c P B T k la cl) (hk : 1 ≤ k) :
    Calls Try.prog 42 #[.pointer (some ⟨t, 0, none⟩)] w fun x w' => x = .returned (.bool false) ∧ w = w' := by
  have c4 := h.c4
  have hk0 : ((k : Int) == 0) = false := by simp; omega
  go_enter Try.func42, Try.ntmps42
  go_wp2
  go_ret
  exact ⟨by first | trivial | rfl, by first | trivial | rfl⟩

theorem TisAt.al {w : World} {b o : Nat} {P : List Ti} (h : TisAt w b o P) (x : Obj) : TisAt (w.alloc x) b o P :=
  ⟨fun j hj => Lib.cell?_alloc_some _ (h.n j hj), fun j hj => Lib.cell?_alloc_some _ (h.e j hj), fun j hj => Lib.cell?_alloc_some _ (h.k j hj), fun j hj => Lib.cell?_alloc_some _ (h.s j hj)⟩

/-- append of one element that was laid just ahead, inside a region that has drawn its order -/
theorem step_app2 {P : Program} {t e : TypeId} {z : Value} {size bytes : Nat} (T : SlT P t e z size bytes) (w : World) {ops : Array Oper} {o : Oper} {a : Act} {K : Act → World → Prop} {Q : Exit → Act → World → Prop} {E : Prop} (hgd : o.guard = none) (s x : Operand)
    (ho : o.op = .call { callee := .builtin .append, args := #[s, x], argTypes := #[t, t] })
    (sa : Option Addr) (n cap : Nat) (xs : List Value) (hs : a.eval s = .slice sa n cap) (hown : w.ownsRow 0 e size (.slice sa n cap) n xs)
    (cs : Array Value) (hx : a.eval x = .slice (some ⟨w.heap.size, 0, none⟩) 1 1) (hl : cs.size = size) (h1 : ∀ u ∈ cs.toList, u.oneCell' = true)
    (h63 : n + 1 ≤ maxLen) (hbytes : (n + 1) * bytes ≤ 140737488355328)
    (h : ∀ sa' cap' w', w'.ownsRow 0 e size (.slice sa' (n + 1) cap') (n + 1) (xs ++ cs.toList) → Upd (rowS sa) w (rowS sa') w' → K (a.put o.dst (.slice sa' (n + 1) cap')) w') :
    if Region.wanted o (yielded ops a.tmps) = true then Oper.wp P o a (w.alloc (.cells cs e)) K Q else E := by
  have hw : Region.wanted o (yielded ops a.tmps) = true := by simp [Region.wanted, hgd]
  rw [if_pos hw]
  obtain ⟨i, hi, hz, hz1, hz2⟩ := T.inf
  have hnews : ∀ j u, cs.toList[j]? = some u → (w.alloc (.cells cs e)).cell? ((⟨w.heap.size, 0, none⟩ : Addr).add j) = some u := by
    intro j u hu
    rw [addO, Nat.zero_add, cell_of_row (w.alloc (.cells cs e)) w.heap.size j cs e (0, 0) (heap_alloc_new w _)]
    simpa using hu
  obtain ⟨v', w', hr, h2, h3, _, h5⟩ := run_append_own_at (P := P) (w.alloc (.cells cs e)) 0 t o.type e i z size bytes T.und hi hz hz1 hz2 T.zs T.pos (.slice sa n cap) n xs (hown.alloc _) ⟨w.heap.size, 0, none⟩ 1 1 cs.toList (by simpa using hl) hnews h1 h63 hbytes (Nat.zero_le _)
  unfold Oper.wp execOp
  simp only [ho, resolve, invoke, builtin, Sem.run_bind, Sem.run_pure, Result.andThen_ok, List.map_toArray, List.map_cons, List.map_nil, hs, hx, hr]
  obtain ⟨a', c', rfl⟩ := slice_of_own h2
  exact h a' c' w' h2 ((Upd.alloc _ w _).trans (Upd.of_row h3 h5))

/-- does New make tiers? -/
def newB (pn : ByteArray) (P : List Ti) (now : Int) : Bool := checkB pn P && (decide (0 ≤ now) && decide (now ≤ 1099511627776))

theorem tiers_new (pn : ByteArray) (a : Option Addr) (b o c : Nat) (P : List Ti) (now : Int) (w : World) (ha : P ≠ [] → a = some ⟨b, o, none⟩ ∧ b < w.heap.size) (hT : TisAt w b o P) (hP : P.length ≤ 1000) (hc : P.length ≤ c) :
    Calls Try.prog 17 #[poV pn a P.length c, .int .i64 now, .slice none 0 0] w fun e w' =>
      (newB pn P now = false ∧ (∃ n : Int, n ≠ 0 ∧ e = .returned (.tuple #[.pointer none, .int .i64 n])) ∧ Below w.heap.size w w') ∨
      (newB pn P now = true ∧ ∃ t b' c' B la cl, e = .returned (.tuple #[.pointer (some ⟨t, 0, none⟩), .int .i64 0]) ∧ TsAt w' w.heap.size t now pn b' c' P B (fun _ => []) P.length la cl ∧ Below w.heap.size w w') := by
  have HT := hid hT
  have HA := hid ha
  clear hT ha
  have hB0 : Below w.heap.size w (w.alloc (.cells #[.string pn, .slice a P.length c] 41)) := below_al (Below.refl _ _) _
  have HB0 := hid hB0
  clear hB0
  go_enter Try.func17, Try.ntmps17
  go_wp2_with fail
  refine (policy_check pn a b o c P _ (fun h => ⟨(HA.out h).1, by have := (HA.out h).2; simp; omega⟩) (HT.out.al _) hP hc).mono ?_
  rintro e w1 ⟨n, rfl, hb1⟩
  cases hk : checkB pn P with
  | false =>
    have HB1 := hid (below_then hb1 HB0.out)
    have hnb : newB pn P now = false := by unfold newB; rw [hk]; rfl
    clear hb1
    go_wp2
    go_ret2
    exact Or.inl ⟨hnb, ⟨23, by omega, by first | trivial | rfl⟩, HB1.out⟩
  | true =>
    have HK := hid hk
    have hG := hid (check_good hk)
    have hne : P ≠ [] := by intro h; have := hG.out.pos; rw [h] at this; simp at this
    obtain ⟨rfl, hb⟩ := HA.out hne
    have hk0 : w1.cell? ⟨w.heap.size, 0, none⟩ = some (.string pn) := ((bcell hb1).1 _ 0 (by simp)).trans (by go_simp)
    have hk1 : w1.cell? ⟨w.heap.size, 1, none⟩ = some (.slice (some ⟨b, o, none⟩) P.length c) := ((bcell hb1).1 _ 1 (by simp)).trans (by go_simp)
    have HB1 := hid (below_then hb1 HB0.out)
    clear hb1 hk hne
    by_cases hn0 : now < 0
    · have hd : decide (now < 0) = true := by simp; omega
      have hnb : newB pn P now = false := by unfold newB; rw [show decide (0 ≤ now) = false by simp; omega]; simp
      go_wp2
      go_ret2
      exact Or.inl ⟨hnb, ⟨1, by omega, by first | trivial | rfl⟩, HB1.out⟩
    · by_cases hn1 : 1099511627776 < now
      · have hd : decide (now < 0) = false := by simp; omega
        have hd1 : decide (1099511627776 < now) = true := by simp; omega
        have hnb : newB pn P now = false := by unfold newB; rw [show decide (now ≤ 1099511627776) = false by simp; omega]; simp
        go_wp2
        go_ret2
        exact Or.inl ⟨hnb, ⟨1, by omega, by first | trivial | rfl⟩, HB1.out⟩
      · have hd : decide (now < 0) = false := by simp; omega
        have hd1 : decide (1099511627776 < now) = false := by simp; omega
        have hnb : Hid (newB pn P now = true) := by
          show _ = _
          unfold newB; rw [HK.out, show decide (0 ≤ now) = true by simp; omega, show decide (now ≤ 1099511627776) = true by simp; omega]; rfl
        have hd2 : decide ((P.length : Int) < 0) = false := by simp
        go_wp2_with fail
        go_loopw [39] (fun i wr => i = .int .i64 0 ∧ w1 = wr) (fun _ _ => 0)
        case atStart => exact ⟨by first | trivial | rfl, by first | trivial | rfl⟩
        case round =>
          obtain ⟨rfl, rfl⟩ := hrel
          go_wp2_with fail
          refine (reach_of now pn b o c P w1 (HT.out.kept HB1.out hb) hP hG.out.pos (Nat.lt_of_lt_of_le hb HB1.out.size)).mono ?_
          rintro e w2 ⟨b', c', rfl, hc', hT2, hb1, hb2, hB2⟩
          have hk2 : w2.cell? ⟨w.heap.size, 1, none⟩ = some (.slice (some ⟨b, o, none⟩) P.length c) := ((bcell hB2).1 _ 1 (cell_lt hk1)).trans hk1
          have HB2 : Hid (Below w.heap.size w w2) := HB1.out.trans (hB2.mono HB1.out.size)
          have HT2 := hid hT2
          have hbl : w.heap.size ≤ b' := Nat.le_trans HB1.out.size hb1
          have hl2 := cell_lt hk2
          clear hB2 hT2 hk0 hk1
          go_wp2_with fail
          go_loopw [67] (fun i wr => ∃ (k : Nat) (B : Nat → Nat × Nat) (la : Option Addr) (cl : Nat), k ≤ P.length ∧ i = .int .i64 k ∧ TsAt wr w.heap.size w2.heap.size now pn b' c' P B (fun _ => []) k la cl ∧ Below w.heap.size w wr) (fun i _ => P.length - (intOf i).toNat)
          case atStart =>
            have hB3 : Below w2.heap.size w2 (w2.alloc (.cells #[.int .i64 now, .string pn, .slice (some ⟨b', 0, none⟩) P.length c', .slice none 0 0, .slice none 0 0] 70)) := below_al (Below.refl _ _) _
            obtain ⟨p0, p1⟩ := blk_at (heap_alloc_new w2 (.cells #[.int .i64 now, .string pn, .slice (some ⟨b', 0, none⟩) P.length c', .slice none 0 0, .slice none 0 0] 70))
            refine ⟨0, fun _ => (0, 0), none, 0, by omega, by first | trivial | rfl, ⟨⟨p0 0, p0 1, p0 2, p0 3⟩, p0 4, p1 4, p1 0, HT2.out.al _, by simp; omega, World.ownsRow_nil _ _ _ _, fun j h => by omega, fun i j h => by omega, fun q h => by unfold rowS at h; simp at h, ⟨hbl, HB2.out.size, hb2⟩, fun j h => by omega⟩, HB2.out.trans (hB3.mono HB2.out.size)⟩
          case round =>
            obtain ⟨k, B, la, cl, hk, rfl, hts, hB⟩ := hrel
            have HTS := hid hts
            have HB := hid hB
            have hbw : b < wr.heap.size := Nat.lt_of_lt_of_le hb hB.size
            clear hts hB
            by_cases hkn : k = P.length
            · have hd : decide ((k : Int) < P.length) = false := by simp; omega
              have HR : Hid (TsAt wr w.heap.size w2.heap.size now pn b' c' P B (fun _ => []) P.length la cl) := by
                show TsAt _ _ _ _ _ _ _ _ _ _ _ _ _
                rw [← hkn]
                exact HTS.out
              go_wp2
              go_ret2
              exact Or.inr ⟨hnb.out, w2.heap.size, b', c', B, la, cl, by first | trivial | rfl | exact ⟨rfl, rfl⟩, HR.out, HB.out⟩
            · have hk2' : k < P.length := by omega
              have hd : decide ((k : Int) < P.length) = true := by simp; omega
              obtain ⟨x, hx⟩ : ∃ x, x = P.getD k default := ⟨_, rfl⟩
              have hTr := HT.out.kept HB.out hb
              have c0 := hTr.n k hk2'
              have c1 := hTr.e k hk2'
              have c2 := hTr.k k hk2'
              have c3 := hTr.s k hk2'
              rw [← hx] at c0 c1 c2 c3
              have hxe : 1 ≤ x.e := by rw [hx]; exact hG.out.e1 k hk2'
              have HX := hid hx
              clear hx hTr
              go_wp2_with fail
              have hW : Below wr.heap.size wr (wr.alloc (.cells #[.string x.n, .int .i64 x.e, .int .i64 x.k, .int .i64 x.s] 63)) := below_al (Below.refl _ _) _
              have d1 := (blk_at (heap_alloc_new wr (.cells #[.string x.n, .int .i64 x.e, .int .i64 x.k, .int .i64 x.s] 63))).1 1
              have hwr : wr.heap.size < (wr.alloc (.cells #[.string x.n, .int .i64 x.e, .int .i64 x.k, .int .i64 x.s] 63)).heap.size := by simp
              generalize wr.alloc (.cells #[.string x.n, .int .i64 x.e, .int .i64 x.k, .int .i64 x.s] 63) = W at *
              have HTW := hid (HTS.out.below hW)
              have HBW : Hid (Below w.heap.size w W) := HB.out.trans (hW.mono HB.out.size)
              have tc4 := HTW.out.c4
              have htl := cell_lt tc4
              have hrt : ¬ rowS la w2.heap.size := fun hq => by have := (HTS.out.row _ hq).1; omega
              have hrw : ¬ rowS la wr.heap.size := fun hq => by have := (HTS.out.own.lt wr.heap.size (by rw [ownBlock_slice]; exact hq)).2; omega
              have htne : w2.heap.size ≠ wr.heap.size := by have := cell_lt HTS.out.c4; omega
              clear hW c0 c1 c2 c3
              first
              | (go_region_law (first
                  | (go_simp; go_at_call 41; refine (table_new x.e _ hxe).mono ?_; rintro y w3 ⟨rfl, htb, hb3, hs3⟩; have HTW3 : Hid (TsAt w3 w.heap.size w2.heap.size now pn b' c' P B (fun _ => []) k la cl) := HTW.out.drew.below hb3; have HO3 := hid HTW3.out.own; have HTB := hid htb; have HB3 : Hid (Below w.heap.size w w3) := (show Below w.heap.size w W.drew from below_drewN HBW.out 1).trans (hb3.mono HBW.out.size); have y4 := HTW3.out.c4; have y5 := HTW3.out.f4; have y6 : w3.cell? ⟨wr.heap.size, 1, none⟩ = _ := ((bcell hb3).1 _ 1 (by exact hwr)).trans d1; have y7 := cell_lt y4; clear hb3 htb hs3; go_wp2_with fail)
                  | (refine step_app2 slt_ptr w3 (by rfl) _ _ (by rfl) la k cl _ (by rfl) HO3.out #[.pointer (some ⟨W.heap.size + 1, 0, none⟩)] (by rfl) (by rfl) (by intro u hu; simp at hu; rcases hu with rfl | rfl <;> rfl) (by unfold maxLen; omega) (by omega) ?_; intro la2 cl2 w4 hown4 hu4; have z4 : w4.cell? ⟨w2.heap.size, 4, none⟩ = _ := (hu4.cell y7 hrt 4).trans y4; have z5 : w4.frozen? ⟨w2.heap.size, 4, none⟩ = false := (hu4.frozen y7 hrt 4).trans y5; have z6 : w4.cell? ⟨wr.heap.size, 1, none⟩ = _ := (hu4.cell (cell_lt y6) hrw 1).trans y6; have HO4 := hid hown4; have HU4 := hid hu4; clear hown4 hu4)))
              | fail
              all_goals
                have HM : Hid (TsAt (w4.setCell ⟨w2.heap.size, 4, none⟩ (.slice la2 (k + 1) cl2)) w.heap.size w2.heap.size now pn b' c' P (fun j => if j = k then (W.heap.size + 1, W.heap.size) else B j) (fun _ => []) (k + 1) la2 cl2) := by
                  refine TsAt.more HTW3.out (by rw [← HX.out]; exact HTB.out) (fun j hj e => ?_) ⟨by omega, htl⟩ (fun q hq => ?_) HO4.out HU4.out
                  · have := (HTW.out.tb j hj).ml.lt
                    omega
                  · have := (HTW.out.own.lt q (by rw [ownBlock_slice]; exact hq)).2
                    omega
                have HB4 : Hid (Below w.heap.size w (w4.setCell ⟨w2.heap.size, 4, none⟩ (.slice la2 (k + 1) cl2))) := by
                  refine (HB3.out.trans (HU4.out.below HB3.out.size (fun q hq => ?_))).setCell (p := ⟨w2.heap.size, 4, none⟩) HTW3.out.lo.2.1 _
                  have h1 := (HTW3.out.row q hq).1
                  have h2 := HTW3.out.lo.2.1
                  omega
                go_wp2
                go_roundw
                case rel => exact ⟨k + 1, _, la2, cl2, by omega, by go_num, HM.out, HB4.out⟩
                case measure => simp [intOf]; omega
end Go.Proofs.Ytcbpaikklkmnbaa
