/- Tiers take samples: Put. -/
import Derived.Test.YtcbpaikklkmnbaaTierW
import Derived.Test.YtcbpaikklkmnbaaTierR
namespace Go.Proofs.Ytcbpaikklkmnbaa
open Go.RowKit Go.Proofs
set_option maxRecDepth 20000
set_option maxHeartbeats 1600000

/-- a sample -/
structure Sa where
  n : ByteArray
  t : Int
  v : Int
instance : Inhabited Sa := ⟨⟨ByteArray.empty, 0, 0⟩⟩

/-- samples in a row of memory -/
structure SasAt (w : World) (b o : Nat) (S : List Sa) : Prop where
  n : ∀ j, j < S.length → w.cell? ⟨b, o + j * 3, none⟩ = some (.string (S.getD j default).n)
  t : ∀ j, j < S.length → w.cell? ⟨b, o + j * 3 + 1, none⟩ = some (.int .i64 (S.getD j default).t)
  v : ∀ j, j < S.length → w.cell? ⟨b, o + j * 3 + 2, none⟩ = some (.int .i64 (S.getD j default).v)

theorem SasAt.upd {w w' : World} {b o : Nat} {L : List Sa} {S S' : Nat → Prop} (h : SasAt w b o L) (u : Upd S w S' w') (hn : ∀ v, w.cell? v ≠ none → ¬ S v.block) : SasAt w' b o L where
  n := fun j hj => (u.cell (cell_lt (h.n j hj)) (hn ⟨b, _, none⟩ (by rw [h.n j hj]; simp)) _).trans (h.n j hj)
  t := fun j hj => (u.cell (cell_lt (h.t j hj)) (hn ⟨b, _, none⟩ (by rw [h.t j hj]; simp)) _).trans (h.t j hj)
  v := fun j hj => (u.cell (cell_lt (h.v j hj)) (hn ⟨b, _, none⟩ (by rw [h.v j hj]; simp)) _).trans (h.v j hj)

/-- the maps of n tables -/
def mapS (B : Nat → Nat × Nat) (n : Nat) (q : Nat) : Prop := ∃ j, j < n ∧ q = (B j).2

theorem TsAt.notMap {w : World} {H t : Nat} {now : Int} {pn : ByteArray} {b c : Nat} {P : List Ti} {B : Nat → Nat × Nat} {T : Nat → List Rc} {k : Nat} {la : Option Addr} {cl : Nat} (h : TsAt w H t now pn b c P B T k la cl) {g o : Nat} {v : Value} (hc : w.cell? ⟨g, o, none⟩ = some v) : ¬ mapS B k g := by
  rintro ⟨j, hj, rfl⟩
  exact (h.tb j hj).ml.not_cells hc

theorem TsAt.put {w w' : World} {H t : Nat} {now : Int} {pn : ByteArray} {b c : Nat} {P : List Ti} {B : Nat → Nat × Nat} {T : Nat → List Rc} {k : Nat} {la : Option Addr} {cl : Nat} (h : TsAt w H t now pn b c P B T k la cl) {j : Nat} (hj : j < k) {L : List Rc}
    (u : Upd (fun q => q = (B j).2) w (fun q => q = (B j).2) w') (hT : TbAt w' (B j).1 (B j).2 (P.getD j default).e L) : TsAt w' H t now pn b c P B (fun i => if i = j then L else T i) k la cl := by
  have ht : ¬ t = (B j).2 := by have := (h.lo2 j hj).2; omega
  have hb : ¬ b = (B j).2 := by have := (h.lo2 j hj).2; have := h.lo; omega
  have htl := cell_lt h.c4
  refine ⟨⟨(u.cell htl ht _).trans h.rc.c0, (u.cell htl ht _).trans h.rc.c1, (u.cell htl ht _).trans h.rc.c2, (u.cell htl ht _).trans h.rc.c3⟩, (u.cell htl ht _).trans h.c4, (u.frozen htl ht _).trans h.f4, (u.frozen htl ht _).trans h.f0, h.ti.upd u h.bl hb, Nat.lt_of_lt_of_le h.bl u.size, ?_, ?_, h.nd, h.row, h.lo, h.lo2⟩
  · refine ⟨h.own.1, ?_⟩
    rcases h.own.2 with hn | ⟨g, cap, cur, hv, hb, hg, rest⟩
    · exact .inl hn
    · refine .inr ⟨g, cap, cur, hv, hb, ?_, rest⟩
      rw [u.block g (Array.getElem?_eq_some_iff.1 hg).1 (fun e => ?_)]
      · exact hg
      · exact ((h.row g (by obtain ⟨rfl, _, _⟩ := Value.slice.inj hv; rfl)).2.2 j hj).2 e
  · intro i hi
    by_cases hij : i = j
    · subst hij
      simp only [if_true]
      exact hT
    · simp only [hij, if_false]
      exact (h.tb i hi).kept u (fun e => (h.tb j hj).ml.not_cells (e ▸ (h.tb i hi).c0)) (fun e => h.nd i j hi hj hij e)

theorem TsAt.same {w : World} {H t : Nat} {now : Int} {pn : ByteArray} {b c : Nat} {P : List Ti} {B : Nat → Nat × Nat} {T T' : Nat → List Rc} {k : Nat} {la : Option Addr} {cl : Nat} (h : TsAt w H t now pn b c P B T k la cl) (hT : ∀ j, j < k → T j = T' j) : TsAt w H t now pn b c P B T' k la cl :=
  ⟨h.rc, h.c4, h.f4, h.f0, h.ti, h.bl, h.own, fun j hj => by rw [← hT j hj]; exact h.tb j hj, h.nd, h.row, h.lo, h.lo2⟩

/-- what a sample does to a tier's records -/
def putF (now : Int) (P : List Ti) (x : Sa) (j : Nat) (L : List Rc) : List Rc :=
  if fromI now P j ≤ floorI x.t (P.getD j default).e then
    setL L ⟨x.n, floorI x.t (P.getD j default).e, agMrg (lookL L x.n (floorI x.t (P.getD j default).e)) (agOne x.v)⟩
  else L

def putsF (now : Int) (P : List Ti) (S : List Sa) (j : Nat) (L : List Rc) : List Rc := S.foldl (fun L x => putF now P x j L) L

theorem putsF_take (now : Int) (P : List Ti) {S : List Sa} {k : Nat} (hk : k < S.length) (j : Nat) (L : List Rc) : putsF now P (S.take (k + 1)) j L = putF now P S[k] j (putsF now P (S.take k) j L) := by
  unfold putsF
  rw [List.take_succ_eq_append_getElem hk, List.foldl_append]
  rfl

/-- what holds of a tier's records -/
structure RInv (e : Int) (L : List Rc) : Prop where
  ag : ∀ r ∈ L, AgIn r.a
  ti : ∀ r ∈ L, 0 ≤ r.t ∧ r.t.tmod e = 0

theorem agOne_in (v : Int) : AgIn (agOne v) := ⟨u64n v, u64l v⟩
theorem agOne_ok (v : Int) : agOk (agOne v) = true := by simp [agOk, agOne]

theorem mem_setL {L : List Rc} {r x : Rc} (h : x ∈ setL L r) : x ∈ L ∨ x = r := by
  unfold setL at h
  split at h
  · exact List.mem_or_eq_of_mem_set h
  · rcases List.mem_append.1 h with h | h
    · exact Or.inl h
    · exact Or.inr (by simpa using h)

theorem length_setL (L : List Rc) (r : Rc) : (setL L r).length ≤ L.length + 1 := by
  unfold setL
  split <;> simp

theorem agMrg_in {x y : Ag} (hx : AgIn x) (hy : AgIn y) : AgIn (agMrg x y) := by
  have hz : AgIn agZ := (by decide : 0 ≤ agZ.l ∧ agZ.l < 18446744073709551616)
  have hb : ∀ a y : Ag, AgIn a → AgIn y → AgIn (if agOk y then agBoth a y else a) := by
    intro a y ha hy
    split
    · exact both_l a y hy
    · exact ha
  show AgIn (List.foldl _ _ _)
  simp only [List.foldl_cons, List.foldl_nil]
  exact hb _ _ (hb _ _ hz hx) hy

theorem lookL_in {L : List Rc} (h : ∀ r ∈ L, AgIn r.a) (s : ByteArray) (t : Int) : AgIn (lookL L s t) := by
  unfold lookL
  split
  · rename_i x hx
    exact h x (List.mem_of_find?_eq_some hx)
  · exact (by decide : 0 ≤ agZ.l ∧ agZ.l < 18446744073709551616)

theorem floor_on {t e : Int} (ht : 0 ≤ t) (he : 1 ≤ e) : 0 ≤ floorI t e ∧ (floorI t e).tmod e = 0 ∧ floorI t e ≤ t := by
  rw [floorI_nn t e ht, Int.tmod_eq_emod_of_nonneg ht]
  have h1 := Int.mul_ediv_add_emod t e
  have h2 : 0 ≤ t / e := Int.ediv_nonneg ht (by omega)
  have h3 : 0 ≤ e * (t / e) := Int.mul_nonneg (by omega) h2
  have h4 : 0 ≤ t % e := Int.emod_nonneg t (by omega)
  have h5 : t - t % e = e * (t / e) := by omega
  rw [h5]
  exact ⟨h3, Int.mul_tmod_right e (t / e), by omega⟩

theorem RInv.put {now : Int} {P : List Ti} {x : Sa} {j : Nat} {L : List Rc} (h : RInv (P.getD j default).e L) (he : 1 ≤ (P.getD j default).e) (ht : 0 ≤ x.t) : RInv (P.getD j default).e (putF now P x j L) := by
  unfold putF
  split
  · refine ⟨fun r hr => ?_, fun r hr => ?_⟩
    · rcases mem_setL hr with h1 | rfl
      · exact h.ag r h1
      · exact agMrg_in (lookL_in h.ag _ _) (agOne_in _)
    · rcases mem_setL hr with h1 | rfl
      · exact h.ti r h1
      · exact ⟨(floor_on ht he).1, (floor_on ht he).2.1⟩
  · exact h

theorem length_putF (now : Int) (P : List Ti) (x : Sa) (j : Nat) (L : List Rc) : (putF now P x j L).length ≤ L.length + 1 := by
  unfold putF
  split
  · exact length_setL _ _
  · omega

theorem RInv.puts {now : Int} {P : List Ti} {j : Nat} (he : 1 ≤ (P.getD j default).e) : ∀ {S : List Sa} {L : List Rc}, RInv (P.getD j default).e L → (∀ x ∈ S, 0 ≤ x.t) → RInv (P.getD j default).e (putsF now P S j L) ∧ (putsF now P S j L).length ≤ L.length + S.length
  | [], L, h, _ => ⟨h, by simp [putsF]⟩
  | x :: S, L, h, hS => by
    have h1 := RInv.puts (now := now) he (h.put (now := now) he (hS x List.mem_cons_self)) (fun y hy => hS y (List.mem_cons_of_mem _ hy))
    have h2 := length_putF now P x j L
    refine ⟨h1.1, ?_⟩
    have h3 := h1.2
    show (putsF now P S j (putF now P x j L)).length ≤ _
    simp only [List.length_cons]
    omega

theorem takes_ok {now : Int} {P : List Ti} {s : ByteArray} {t : Int} (h : takesI now P s t = 0) : validB s = true ∧ 0 ≤ t ∧ t ≤ now := by
  unfold takesI at h
  split at h
  · cases h
  · split at h
    · cases h
    · rename_i h1 h2
      refine ⟨?_, by omega, by omega⟩
      cases hv : validB s with
      | true => rfl
      | false => exact absurd (Or.inl hv) h1

theorem valid_key {s : ByteArray} (h : validB s = true) {t : Int} (h1 : 0 ≤ t) (h2 : t ≤ 1099511627776) (a : Ag) : KeyOk ⟨s, t, a⟩ := by
  refine ⟨?_, ?_⟩
  · unfold validB at h
    simp only [Bool.and_eq_true, decide_eq_true_eq] at h
    show s.size ≤ maxLen
    unfold maxLen
    omega
  · show (Lit.int .i64 t).wf = true
    have h3 : IntKind.i64.min = -9223372036854775808 := rfl
    have h4 : IntKind.i64.max = 9223372036854775807 := rfl
    simp only [Lit.wf, h3, h4, Bool.and_eq_true, decide_eq_true_eq]
    omega

theorem of_new (B : Nat) (v : Int) (w0 w1 : World) (T : TypeId) (hB : B = w0.heap.size) (hw : w1 = w0.alloc (.cells #[.int .i64 v] T)) :
    Calls Try.prog 36 #[.slice (some ⟨B, 0, none⟩) 1 1] w1 fun e w' => e = .returned (agV (agOne v)) ∧ Below w1.heap.size w1 w' := by
  subst hw
  exact ag_of B 1 v _ (cell_alloc_at w0 _ T B 0 hB)

theorem add_new {w0 w1 : World} {g m B : Nat} {e : Int} {L : List Rc} (h : TbAt w0 g m e L) (r : Rc) (hB : B = w0.heap.size) (hw : w1 = w0.alloc (rcObj r)) (hv : validB r.s = true) (ht : 0 ≤ r.t) (he : 1 ≤ e) (hm : r.t.tmod e = 0) (ha : agOk r.a = true) (hk : KeyOk r) (hi : AgIn r.a) (hL : ∀ x ∈ L, AgIn x.a) :
    Calls Try.prog 45 #[.pointer (some ⟨g, 0, none⟩), .slice (some ⟨B, 0, none⟩) 1 1] w1 fun x w' => x = .returned (.int .i64 1) ∧ TbAt w' g m e (setL L ⟨r.s, r.t, agMrg (lookL L r.s r.t) r.a⟩) ∧ Upd (fun j => j = m) w0 (fun j => j = m) w' := by
  subst hw
  subst hB
  refine (table_add (h.below (below_al (Below.refl _ _) _)) r w0.heap.size 1 (ReAt.new w0 r) hv ht he hm ha hk hi hL).mono ?_
  rintro x w' ⟨h1, h2, h3⟩
  exact ⟨h1, h2, (Upd.alloc _ w0 _).trans h3⟩

theorem start_at (now : Int) (pn : ByteArray) (b o c : Nat) (P : List Ti) (i : Nat) (q t E F : Int) (v : Bool) (w : World) (hT : TisAt w b o P) (hb : b < w.heap.size) (hG : GoodP P) (h1 : 0 ≤ now) (h2 : now ≤ 1099511627776) (hi : i < P.length) (hq : q = (i : Nat)) (ht : 0 ≤ t) (ht2 : t ≤ 1099511627776)
    (hE : (P.getD i default).e = E) (hF : floorI t E = F) (hv : decide (fromI now P i ≤ F) = v) :
    Calls Try.prog 44 #[rcV now pn b o P.length c, .int .i64 q, .int .i64 t] w fun e w' => e = .returned (.tuple #[.int .i64 F, .bool v]) ∧ Below w.heap.size w w' := by
  subst hE
  subst hF
  subst hv
  exact reach_start now pn b o c P i q t w hT hb hG h1 h2 hi hq ht ht2

theorem tiers_put {w : World} {H t : Nat} {now : Int} {pn : ByteArray} {b c : Nat} {P : List Ti} {B : Nat → Nat × Nat} {T : Nat → List Rc} {la : Option Addr} {cl : Nat} (h : TsAt w H t now pn b c P B T P.length la cl) (hG : GoodP P) (hn1 : 0 ≤ now) (hn2 : now ≤ 1099511627776) (hI : ∀ j, j < P.length → RInv (P.getD j default).e (T j))
    (S : List Sa) (a : Option Addr) (sb so sc : Nat) (ha : S ≠ [] → a = some ⟨sb, so, none⟩) (hS : SasAt w sb so S) :
    Calls Try.prog 18 #[.pointer (some ⟨t, 0, none⟩), .slice a S.length sc] w fun e w' => ∃ (n : Int) (T' : Nat → List Rc), e = .returned (.int .i64 n) ∧ TsAt w' H t now pn b c P B T' P.length la cl ∧ Upd (mapS B P.length) w (mapS B P.length) w' ∧
      ((n ≠ 0 ∧ (S = [] ∨ 8 < S.length ∨ ∃ x ∈ S, takesI now P x.n x.t ≠ 0) ∧ ∀ j, T' j = T j) ∨ (n = 0 ∧ S.length ≤ 8 ∧ (∀ x ∈ S, takesI now P x.n x.t = 0) ∧ ∀ j, j < P.length → T' j = putsF now P S j (T j))) := by
  have HTS := hid h
  have HA := hid ha
  have HSS := hid hS
  have HG := hid hG
  have HI := hid hI
  have hpos := hG.pos
  have hlen := hG.len
  obtain ⟨lb, cl', hlv, _, hlbl⟩ := h.own.form hpos
  obtain ⟨rfl, _, rfl⟩ := Value.slice.inj hlv
  clear h ha hS hG hI hlv
  go_enter Try.func18, Try.ntmps18
  go_wp2_with fail
  refine (tiers_none HTS.out hpos).mono ?_
  rintro x w1 ⟨rfl, rfl⟩
  by_cases hS0 : S.length = 0
  · have hSn : S = [] := List.length_eq_zero_iff.1 hS0
    have hd : ((S.length : Int) == 0) = true := by simp; omega
    go_wp2
    go_ret
    exact ⟨1, T, by first | trivial | rfl, HTS.out, Upd.refl _ _, Or.inl ⟨by omega, Or.inl hSn, fun _ => rfl⟩⟩
  · have hd : ((S.length : Int) == 0) = false := by rw [beq_eq_false_iff_ne]; omega
    by_cases hS8 : 8 < S.length
    · have hd8 : decide (8 < (S.length : Int)) = true := by simp; omega
      go_wp2
      go_ret
      exact ⟨2, T, by first | trivial | rfl, HTS.out, Upd.refl _ _, Or.inl ⟨by omega, Or.inr (Or.inl hS8), fun _ => rfl⟩⟩
    · have hd8 : decide (8 < (S.length : Int)) = false := by simp; omega
      obtain rfl := HA.out (by intro h; rw [h] at hS0; simp at hS0)
      have hsl : sb < w.heap.size := cell_lt (HSS.out.n 0 (by omega))
      go_wp2_with fail
      go_loopw [28] (fun i wr => ∃ k : Nat, k ≤ S.length ∧ i = .int .i64 k ∧ Hid (∀ x ∈ S.take k, takesI now P x.n x.t = 0) ∧ Below w.heap.size w wr) (fun i _ => S.length - (intOf i).toNat)
      case atStart => exact ⟨0, by omega, by first | trivial | rfl, fun x hx => by simp at hx, Below.refl _ _⟩
      case round =>
        obtain ⟨k, hk, rfl, htk, hB⟩ := hrel
        have HB := hid hB
        have HTR := hid (HTS.out.below hB)
        clear hB
        by_cases hkn : k = S.length
        · have hdk : decide ((k : Int) < S.length) = false := by simp; omega
          have hall : Hid (∀ x ∈ S, takesI now P x.n x.t = 0) := fun x hx => htk.out x (by rw [hkn, List.take_length]; exact hx)
          subst hkn
          go_wp2_with fail
          go_loopw [44] (fun i w4 => ∃ k : Nat, k ≤ S.length ∧ i = .int .i64 k ∧ Hid (TsAt w4 H t now pn b c P B (fun j => putsF now P (S.take k) j (T j)) P.length (some ⟨lb, 0, none⟩) cl) ∧ Hid (Upd (mapS B P.length) w (mapS B P.length) w4)) (fun i _ => S.length - (intOf i).toNat)
          case atStart => exact ⟨0, by omega, by first | trivial | rfl, HTR.out, Upd.of_below HB.out⟩
          case round =>
            obtain ⟨k, hk, rfl, HT4, HU4⟩ := hrel
            obtain ⟨w4, hw4⟩ : ∃ w4, w4 = wr := ⟨_, rfl⟩
            subst hw4
            by_cases hkn : k = S.length
            · have hdk : decide ((k : Int) < S.length) = false := by simp; omega
              have hput : Hid (TsAt w4 H t now pn b c P B (fun j => putsF now P S j (T j)) P.length (some ⟨lb, 0, none⟩) cl) := by
                have := HT4.out
                rw [hkn, List.take_length] at this
                exact this
              go_wp2
              go_ret
              exact ⟨0, _, by first | trivial | rfl, hput.out, HU4.out, Or.inr ⟨rfl, by omega, hall.out, fun _ _ => rfl⟩⟩
            · have hk2 : k < S.length := by omega
              have hdk : decide ((k : Int) < S.length) = true := by simp; omega
              obtain ⟨x, hx⟩ : ∃ x, x = S.getD k default := ⟨_, rfl⟩
              have hu : ∀ {g o : Nat} {v : Value}, w.cell? ⟨g, o, none⟩ = some v → w4.cell? ⟨g, o, none⟩ = some v := fun hc => (HU4.out.cell (cell_lt hc) (HTS.out.notMap hc) _).trans hc
              have c0 := hu (HSS.out.n k hk2)
              have c1 := hu (HSS.out.t k hk2)
              have c2 := hu (HSS.out.v k hk2)
              rw [← hx] at c0 c1 c2
              have hx2 : x = S[k] := by rw [hx, List.getD_eq_getElem?_getD, List.getElem?_eq_getElem hk2]; rfl
              have hxt := takes_ok (hall.out x (by rw [hx2]; exact List.getElem_mem _))
              obtain ⟨hxv, hxt0, hxt1⟩ := hxt
              have HX := hid hx2
              have HXV := hid hxv
              have c4 := HT4.out.c4
              have htl4 := cell_lt c4
              clear hx hx2 hu hxv
              go_wp2_with fail
              have hW : Below w4.heap.size w4 (w4.alloc (.cells #[.string x.n, .int .i64 x.t, .int .i64 x.v] 93)) := below_al (Below.refl _ _) _
              go_loopw [53] (fun i w5 => ∃ m : Nat, m ≤ P.length ∧ i = .int .i64 m ∧ Hid (TsAt w5 H t now pn b c P B (fun j => if j < m then putF now P x j (putsF now P (S.take k) j (T j)) else putsF now P (S.take k) j (T j)) P.length (some ⟨lb, 0, none⟩) cl) ∧ w5.cell? ⟨w4.heap.size, 0, none⟩ = some (.string x.n) ∧ w5.cell? ⟨w4.heap.size, 1, none⟩ = some (.int .i64 x.t) ∧ w5.cell? ⟨w4.heap.size, 2, none⟩ = some (.int .i64 x.v) ∧ Hid (Upd (mapS B P.length) w (mapS B P.length) w5)) (fun i _ => P.length - (intOf i).toNat)
              case atStart =>
                obtain ⟨p0, _⟩ := blk_at (heap_alloc_new w4 (.cells #[.string x.n, .int .i64 x.t, .int .i64 x.v] 93))
                exact ⟨0, by omega, by first | trivial | rfl, by first | exact HT4.out.below hW | (simpa using HT4.out.below hW), p0 0, p0 1, p0 2, HU4.out.trans (Upd.of_below hW)⟩
              case round =>
                obtain ⟨m, hm, rfl, HT5, x0, x1, x2, HU5⟩ := hrel
                obtain ⟨w5, hw5⟩ : ∃ w5, w5 = wr := ⟨_, rfl⟩
                subst hw5
                by_cases hmn : m = P.length
                · have hdm : decide ((m : Int) < P.length) = false := by simp; omega
                  have hnext : Hid (TsAt w5 H t now pn b c P B (fun j => putsF now P (S.take (k + 1)) j (T j)) P.length (some ⟨lb, 0, none⟩) cl) := by
                    refine TsAt.same HT5.out (fun j hj => ?_)
                    rw [if_pos (by omega), putsF_take now P hk2, ← HX.out]
                  go_wp2
                  go_roundw
                  case rel => exact ⟨k + 1, by omega, by go_num, hnext.out, HU5.out⟩
                  case measure => simp [intOf]; omega
                · have hm2 : m < P.length := by omega
                  have hdm : decide ((m : Int) < P.length) = true := by simp; omega
                  obtain ⟨t0, t1, t2, t3⟩ := HT5.out.rc
                  have cp := HT5.out.own.cells (g := lb) rfl m _ (ptrs_get B hm2)
                  rw [addO, Nat.zero_add] at cp
                  have htl := cell_lt t0
                  have hxl := cell_lt x0
                  obtain ⟨E, hE⟩ : ∃ E, (P.getD m default).e = E := ⟨_, rfl⟩
                  obtain ⟨F, hF⟩ : ∃ F, floorI x.t E = F := ⟨_, rfl⟩
                  obtain ⟨v, hv⟩ : ∃ v, decide (fromI now P m ≤ F) = v := ⟨_, rfl⟩
                  have HAG : Hid (∀ j, j < P.length → ∀ r ∈ (if j < m then putF now P x j (putsF now P (S.take k) j (T j)) else putsF now P (S.take k) j (T j)), AgIn r.a) := by
                    intro j hj
                    have he := HG.out.e1 j hj
                    have h1 := (RInv.puts (now := now) (P := P) he (HI.out j hj) (S := S.take k) (fun y hy => (takes_ok (hall.out y (List.mem_of_mem_take hy))).2.1)).1
                    split
                    · exact (h1.put (now := now) (x := x) he hxt0).ag
                    · exact h1.ag
                  have hE1 : 1 ≤ E := by rw [← hE]; exact HG.out.e1 m hm2
                  have hfo := floor_on hxt0 hE1
                  rw [hF] at hfo
                  obtain ⟨hF0, hFm, hFx⟩ := hfo
                  have HE := hid hE
                  have HF := hid hF
                  have HV := hid hv
                  have HFM := hid hFm
                  clear hE hF hv hFm
                  go_wp2_with fail
                  first
                  | go_region_held3 (fun w' => w'.cell? ⟨t, 0, none⟩ = some (.int .i64 now) ∧ w'.cell? ⟨t, 1, none⟩ = some (.string pn) ∧ w'.cell? ⟨t, 2, none⟩ = some (.slice (some ⟨b, 0, none⟩) P.length c) ∧ w'.cell? ⟨t, 3, none⟩ = some (.slice none 0 0) ∧ w'.cell? ⟨w4.heap.size, 1, none⟩ = some (.int .i64 x.t)) (first | go_keep) (first
                      | (go_at_call 44; refine (start_at now pn b 0 c P m m x.t E F v _ (by exact HT5.out.drew.ti) (by exact HT5.out.bl) HG.out hn1 hn2 hm2 rfl hxt0 (by omega) HE.out HF.out HV.out).mono ?_; rintro y w6 ⟨rfl, hb6⟩; have s0 : w6.cell? ⟨t, 0, none⟩ = _ := ((bcell hb6).1 _ 0 (by exact htl)).trans t0; have s1 : w6.cell? ⟨t, 1, none⟩ = _ := ((bcell hb6).1 _ 1 (by exact htl)).trans t1; have s2 : w6.cell? ⟨t, 2, none⟩ = _ := ((bcell hb6).1 _ 2 (by exact htl)).trans t2; have s3 : w6.cell? ⟨t, 3, none⟩ = _ := ((bcell hb6).1 _ 3 (by exact htl)).trans t3; have s4 : w6.cell? ⟨w4.heap.size, 0, none⟩ = _ := ((bcell hb6).1 _ 0 (by exact hxl)).trans x0; have s5 : w6.cell? ⟨w4.heap.size, 1, none⟩ = _ := ((bcell hb6).1 _ 1 (by exact hxl)).trans x1; have s6 : w6.cell? ⟨w4.heap.size, 2, none⟩ = _ := ((bcell hb6).1 _ 2 (by exact hxl)).trans x2; have HT6 := hid (HT5.out.drew.below hb6); have HU6 := hid (HU5.out.trans (Upd.of_below ((below_drewN (Below.refl w5.heap.size w5) 1).trans hb6))); clear hb6))
                  | fail
                  all_goals
                    cases v with
                    | false =>
                      have hnext : Hid (TsAt w6 H t now pn b c P B (fun j => if j < m + 1 then putF now P x j (putsF now P (S.take k) j (T j)) else putsF now P (S.take k) j (T j)) P.length (some ⟨lb, 0, none⟩) cl) := by
                        refine TsAt.same HT6.out (fun j hj => ?_)
                        by_cases hjm : j = m
                        · subst hjm
                          rw [if_neg (by omega), if_pos (by omega)]
                          unfold putF
                          rw [HE.out, HF.out, if_neg (by have := HV.out; simpa using this)]
                        · by_cases hjl : j < m
                          · rw [if_pos hjl, if_pos (by omega)]
                          · rw [if_neg hjl, if_neg (by omega)]
                      go_wp2
                      go_roundw
                      case rel => exact ⟨m + 1, by omega, by go_num, hnext.out, s4, s5, s6, HU6.out⟩
                      case measure => simp [intOf]; omega
                    | true =>
                      have hx6 := cell_lt s4
                      clear t0 t1 t2 t3 x0 x1 x2 cp s0 s1 s2 s3
                      go_wp2_with fail
                      first
                      | go_region_held3 (fun w' => w'.cell? ⟨w4.heap.size, 0, none⟩ = some (.string x.n) ∧ w'.cell? ⟨w4.heap.size, 2, none⟩ = some (.int .i64 x.v)) (first | go_keep) (first
                          | (go_at_call 36; refine (of_new _ x.v w6.drew _ 3 (by simp) rfl).mono ?_; rintro y w7 ⟨rfl, hb7⟩; have hb70 : Below w6.heap.size w6 w7 := ((below_drewN (Below.refl w6.heap.size w6) 1).alloc (Nat.le_refl _) _).trans (hb7.mono (by simp)); have HT7 := hid (HT6.out.below hb70); have HU7 := hid (HU6.out.trans (Upd.of_below hb70)); have z0 : w7.cell? ⟨w4.heap.size, 0, none⟩ = _ := ((bcell hb70).1 _ 0 hx6).trans s4; have z1 : w7.cell? ⟨w4.heap.size, 1, none⟩ = _ := ((bcell hb70).1 _ 1 hx6).trans s5; have z2 : w7.cell? ⟨w4.heap.size, 2, none⟩ = _ := ((bcell hb70).1 _ 2 hx6).trans s6; have hx7 := cell_lt z0; clear hb7 hb70)
                          | (go_at_call 45; refine (add_new (HT7.out.tb m hm2) ⟨x.n, F, agOne x.v⟩ rfl rfl HXV.out hF0 (by rw [HE.out]; exact hE1) (by rw [HE.out]; exact HFM.out) (agOne_ok _) (valid_key HXV.out hF0 (by omega) _) (agOne_in _) (HAG.out m hm2)).mono ?_; rintro y w8 ⟨rfl, htb8, hu8⟩; have HTB8 := hid htb8; have HU8 := hid hu8; clear htb8 hu8; have v0 : w8.cell? ⟨w4.heap.size, 0, none⟩ = _ := (HU8.out.cell hx7 (fun e => HT7.out.notMap z0 ⟨m, hm2, e⟩) 0).trans z0; have v1 : w8.cell? ⟨w4.heap.size, 1, none⟩ = _ := (HU8.out.cell hx7 (fun e => HT7.out.notMap z0 ⟨m, hm2, e⟩) 1).trans z1; have v2 : w8.cell? ⟨w4.heap.size, 2, none⟩ = _ := (HU8.out.cell hx7 (fun e => HT7.out.notMap z0 ⟨m, hm2, e⟩) 2).trans z2))
                      | fail
                      all_goals
                        have hnext : Hid (TsAt w8 H t now pn b c P B (fun j => if j < m + 1 then putF now P x j (putsF now P (S.take k) j (T j)) else putsF now P (S.take k) j (T j)) P.length (some ⟨lb, 0, none⟩) cl) := by
                          refine TsAt.same (HT7.out.put hm2 HU8.out HTB8.out) (fun j hj => ?_)
                          by_cases hjm : j = m
                          · subst hjm
                            simp only [Nat.lt_irrefl, Nat.lt_succ_self, if_true, if_false]
                            unfold putF
                            rw [HE.out, HF.out, if_pos (by have := HV.out; simpa using this)]
                          · rw [if_neg hjm]
                            by_cases hjl : j < m
                            · rw [if_pos hjl, if_pos (by omega)]
                            · rw [if_neg hjl, if_neg (by omega)]
                        have hun : Hid (Upd (mapS B P.length) w (mapS B P.length) w8) := by
                          refine HU7.out.trans ?_
                          exact ⟨HU8.out.os, HU8.out.tape, HU8.out.output, HU8.out.size, fun q hq hn => HU8.out.block q hq (fun e => hn ⟨m, hm2, e⟩), fun q hq => Or.inl hq⟩
                        go_wp2
                        go_roundw
                        case rel => exact ⟨m + 1, by omega, by go_num, hnext.out, v0, v1, v2, hun.out⟩
                        case measure => simp [intOf]; omega
        · have hk2 : k < S.length := by omega
          have hdk : decide ((k : Int) < S.length) = true := by simp; omega
          obtain ⟨x, hx⟩ : ∃ x, x = S.getD k default := ⟨_, rfl⟩
          have c0 := ((bcell HB.out).1 _ _ hsl).trans (HSS.out.n k hk2)
          have c1 := ((bcell HB.out).1 _ _ hsl).trans (HSS.out.t k hk2)
          have c2 := ((bcell HB.out).1 _ _ hsl).trans (HSS.out.v k hk2)
          rw [← hx] at c0 c1 c2
          have hxm : x ∈ S := by rw [hx, List.getD_eq_getElem?_getD, List.getElem?_eq_getElem hk2]; exact List.getElem_mem _
          have hx2 : x = S[k] := by rw [hx, List.getD_eq_getElem?_getD, List.getElem?_eq_getElem hk2]; rfl
          have HX := hid hx2
          have HXM := hid hxm
          clear hx hxm hx2
          go_wp2_with fail
          obtain ⟨p0, _⟩ := blk_at (heap_alloc_new wr (.cells #[.string x.n, .int .i64 x.t, .int .i64 x.v] 93))
          have d0 := p0 0
          have d1 := p0 1
          have d2 := p0 2
          have hW : Below wr.heap.size wr (wr.alloc (.cells #[.string x.n, .int .i64 x.t, .int .i64 x.v] 93)) := below_al (Below.refl _ _) _
          clear p0 c0 c1 c2
          generalize wr.alloc (.cells #[.string x.n, .int .i64 x.t, .int .i64 x.v] 93) = W at *
          have HTW := hid (HTR.out.below hW)
          have HBW : Hid (Below w.heap.size w W) := HB.out.trans (hW.mono HB.out.size)
          obtain ⟨t0, t1, t2, t3⟩ := HTW.out.rc
          have htl := cell_lt t0
          have hxl := cell_lt d0
          clear hW
          first
          | go_region_held3 (fun w' => w'.cell? ⟨t, 0, none⟩ = some (.int .i64 now) ∧ w'.cell? ⟨t, 1, none⟩ = some (.string pn) ∧ w'.cell? ⟨t, 2, none⟩ = some (.slice (some ⟨b, 0, none⟩) P.length c) ∧ w'.cell? ⟨t, 3, none⟩ = some (.slice none 0 0) ∧ w'.cell? ⟨wr.heap.size, 0, none⟩ = some (.string x.n) ∧ w'.cell? ⟨wr.heap.size, 1, none⟩ = some (.int .i64 x.t) ∧ w'.cell? ⟨wr.heap.size, 2, none⟩ = some (.int .i64 x.v)) (first | go_keep) (first
              | (go_at_call 43; refine (reach_takes now pn b 0 c P x.n x.t x.v _ (by exact HTW.out.drew.ti) (by exact HTW.out.bl) HG.out hn1 hn2).mono ?_; rintro y w1 ⟨rfl, hb1⟩; have s0 : w1.cell? ⟨t, 0, none⟩ = _ := ((bcell hb1).1 _ 0 (by exact htl)).trans t0; have s1 : w1.cell? ⟨t, 1, none⟩ = _ := ((bcell hb1).1 _ 1 (by exact htl)).trans t1; have s2 : w1.cell? ⟨t, 2, none⟩ = _ := ((bcell hb1).1 _ 2 (by exact htl)).trans t2; have s3 : w1.cell? ⟨t, 3, none⟩ = _ := ((bcell hb1).1 _ 3 (by exact htl)).trans t3; have s4 : w1.cell? ⟨wr.heap.size, 0, none⟩ = _ := ((bcell hb1).1 _ 0 (by exact hxl)).trans d0; have s5 : w1.cell? ⟨wr.heap.size, 1, none⟩ = _ := ((bcell hb1).1 _ 1 (by exact hxl)).trans d1; have s6 : w1.cell? ⟨wr.heap.size, 2, none⟩ = _ := ((bcell hb1).1 _ 2 (by exact hxl)).trans d2; have HB1 : Hid (Below w.heap.size w w1) := (show Below w.heap.size w W.drew from below_drewN HBW.out 1).trans (hb1.mono HBW.out.size); clear hb1))
          | fail
          all_goals
            by_cases he : takesI now P x.n x.t = 0
            · have hde : (takesI now P x.n x.t == 0) = true := by rw [he]; rfl
              have HE := hid he
              clear he
              go_wp2
              go_roundw
              case rel =>
                refine ⟨k + 1, by omega, by go_num, fun y hy => ?_, HB1.out⟩
                rw [List.take_succ_eq_append_getElem hk2] at hy
                rcases List.mem_append.1 hy with hy | hy
                · exact htk.out y hy
                · simp at hy
                  rw [hy, ← HX.out]
                  exact HE.out
              case measure => simp [intOf]; omega
            · have hde : (takesI now P x.n x.t == 0) = false := by rw [beq_eq_false_iff_ne]; exact he
              have hTE := HTS.out.upd (Upd.of_below (S := fun _ => False) HB1.out) (fun h => h) (fun h => h) (fun _ _ h => h) (fun _ _ => ⟨fun h => h, fun h => h⟩)
              have HTE := hid hTE
              have HE := hid he
              clear he hTE
              go_wp2
              go_ret
              exact ⟨_, T, by first | trivial | rfl, HTE.out, Upd.of_below HB1.out, Or.inl ⟨HE.out, Or.inr (Or.inr ⟨x, HXM.out, HE.out⟩), fun _ => rfl⟩⟩
end Go.Proofs.Ytcbpaikklkmnbaa
