/- LogForges, walked: it answers true, and nothing that was there has turned. -/
import Derived.Test.YtjnipfangjnpcaaLogAlive
namespace Go.Proofs.Ytjnipfangjnpcaa
open Go.RowKit Go.Proofs Go.Maps

/-- a list of texts that came in -/
structure StrsIn (w : World) (v : Option Addr) (b o c : Nat) (l : List ByteArray) : Prop where
  at_ : l ≠ [] → v = some ⟨b, o, none⟩
  cells : StrsAt w b o l
  lt : l ≠ [] → b < w.heap.size
  len : l.length ≤ 9223372036854775807
  size : ∀ x ∈ l, x.size ≤ 9223372036854775807
  cap : l.length ≤ c

theorem StrsIn.below {w w' : World} {v : Option Addr} {b o c : Nat} {l : List ByteArray} (h : StrsIn w v b o c l) (hb : Below w.heap.size w w') : StrsIn w' v b o c l := by
  refine ⟨h.at_, fun j hj => ?_, fun hne => Nat.lt_of_lt_of_le (h.lt hne) hb.size, h.len, h.size, h.cap⟩
  have hne : l ≠ [] := fun e => by subst e; simp at hj
  rw [(bcell hb).1 b (o + j) (h.lt hne)]
  exact h.cells j hj

theorem wal_new_at (g N from_ n gen : Nat) (q : Int) (now : Nat → Option (List UInt8)) (bn bl : Nat) (a : Option Addr) (m : Nat) (w : World) (h : DkAt w g N now bn bl a m) (h1 : 1 ≤ n) (h3 : 0 < gen) (h4 : from_ + n ≤ N) (h5 : N ≤ 4096) (hq : q = (gen : Nat)) :
    Calls Try.prog 8 #[.pointer (some ⟨g, 0, none⟩), .int .i64 from_, .int .i64 n, .int .u64 q] w fun r w' =>
      r = .returned (.tuple #[.pointer (some ⟨w.heap.size, 0, none⟩), .int .i64 0]) ∧ LgAt w' w.heap.size g N from_ n gen 0 0 now bn bl a m ∧ Upd (dkS g bn bl a) w (dkS g bn bl a) w' ∧ w.heap.size < w'.heap.size := by
  subst hq
  exact wal_new g N from_ n gen now bn bl a m w h h1 h3 h4 h5

theorem len_puts {gen from_ n : Nat} (L : List (List UInt8)) : ∀ (used rec : Nat) (now : Nat → Option (List UInt8)), (∀ j, (dget now j).length = 256) → ∀ j, (dget (logPuts from_ n gen used rec now L).2.2.2 j).length = 256 := by
  have one : ∀ (used rec : Nat) (now : Nat → Option (List UInt8)) (r : List UInt8), (∀ j, (dget now j).length = 256) → ∀ j, (dget (logPut from_ n gen used rec now r).2.2.2 j).length = 256 := by
    intro used rec now r h
    unfold logPut
    split
    · exact h
    · split
      · exact h
      · intro j
        simp only
        rw [dputs_get]
        split
        · split
          · rename_i b hb
            obtain ⟨k, hk, rfl⟩ := List.getElem_of_mem (List.mem_of_getElem? hb)
            exact layB_256 _ _ _ _ hk
          · exact h j
        · exact h j
  induction L with
  | nil => intro used rec now h; simpa [logPuts] using h
  | cons r L ih =>
    intro used rec now h
    rw [logPuts]
    split
    · exact one used rec now r h
    · exact ih _ _ _ (one used rec now r h)

/-- Append, of a list that came in, an empty one too -/
theorem log_append_in (gl g N from_ n gen used rec : Nat) (now : Nat → Option (List UInt8)) (bn bl : Nat) (a : Option Addr) (m : Nat) (v : Option Addr) (b off c : Nat) (ss : List ByteArray) (w : World) (h : LgAt w gl g N from_ n gen used rec now bn bl a m)
    (hs : ∀ s ∈ ss, s.size ≤ 100000) (hr : rec + ss.length < 65536) (hm : m + 500 * ss.length < 1000000) (hn : n ≤ 4096) (hc : StrsIn w v b off c ss) (hbS : ss ≠ [] → ¬ lgS gl g bn bl a b) :
    Calls Try.prog 9 #[.pointer (some ⟨gl, 0, none⟩), .slice v ss.length c] w fun r w' =>
      ∃ a' m', r = .returned (.int .i64 ((logPuts from_ n gen used rec now (ss.map (·.data.toList))).1 : Nat)) ∧
        LgAt w' gl g N from_ n gen (logPuts from_ n gen used rec now (ss.map (·.data.toList))).2.1 (logPuts from_ n gen used rec now (ss.map (·.data.toList))).2.2.1 (logPuts from_ n gen used rec now (ss.map (·.data.toList))).2.2.2 bn bl a' m' ∧
        m' ≤ m + 500 * ss.length ∧ Upd (lgS gl g bn bl a) w (lgS gl g bn bl a') w' := by
  by_cases h0 : ss = []
  · subst h0
    refine (log_append_none gl g v c w h.l0 h.l6).mono ?_
    rintro e w' ⟨rfl, rfl⟩
    exact ⟨a, m, by simp [logPuts], by simpa [logPuts] using h, by simp, Upd.refl _ _⟩
  · have e := hc.at_ h0
    subst e
    exact log_append gl g N from_ n gen used rec now bn bl a m b off c ss w h hs hr hm hn hc.cells (hc.lt h0) (hbS h0)

set_option maxRecDepth 20000 in
set_option maxHeartbeats 3200000 in
theorem forges_walk (old l : List ByteArray) (ao al : Option Addr) (bo oo co b1 o1 c1 : Nat) (gen : Nat) (w : World) (hO : StrsIn w ao bo oo co old) (hL : StrsIn w al b1 o1 c1 l) (hg : gen < 18446744073709551616) :
    Calls Try.prog 3 #[.slice ao old.length co, .slice al l.length c1, .int .u64 gen] w fun e w' => e = .returned (.bool true) ∧ Below w.heap.size w w' := by
  have HO := hid hO
  have HL := hid hL
  have HG := hid hg
  clear hO hL hg
  go_enter Try.func3, Try.ntmps3
  go_wp2_with fail
  refine (book_short 16 6000 old bo oo co ao w (by omega) (by omega) HO.out.len HO.out.size HO.out.at_ HO.out.cells HO.out.lt).mono ?_
  rintro e w1 ⟨s1, rfl, hs1, hb1⟩
  have HS1 := hid hs1
  have HB1 := hid hb1
  clear hs1 hb1
  cases s1 with
  | false =>
    go_wp2_with (go_at_call 6; refine (log_alive w1).mono ?_; rintro e w2 ⟨rfl, hb2⟩)
    go_ret
    exact ⟨rfl, HB1.out.trans (hb2.mono HB1.out.size)⟩
  | true =>
    have h16 := (HS1.out rfl).1
    have HT1 := hid (HS1.out rfl).2
    clear HS1
    go_wp2_with fail
    refine (book_short 16 3000 l b1 o1 c1 al w1 (by omega) (by omega) HL.out.len HL.out.size HL.out.at_ (HL.out.below HB1.out).cells (HL.out.below HB1.out).lt).mono ?_
    rintro e w2 ⟨s2, rfl, hs2, hb2⟩
    have HS2 := hid hs2
    have HB2 := hid (HB1.out.trans (hb2.mono HB1.out.size))
    clear hs2 hb2
    cases s2 with
    | false =>
      go_wp2_with (go_at_call 6; refine (log_alive w2).mono ?_; rintro e w3 ⟨rfl, hb3⟩)
      go_ret
      exact ⟨rfl, HB2.out.trans (hb3.mono HB2.out.size)⟩
    | true =>
      have hl := HS2.out rfl
      have hl16 := hl.1
      have HLT := hid hl.2
      clear hl
      by_cases hg2 : gen < 2
      · have hd : decide ((gen : Int) < 2) = true := by simp; omega
        go_wp2_with (go_at_call 6; refine (log_alive w2).mono ?_; rintro e w3 ⟨rfl, hb3⟩)
        go_ret
        exact ⟨rfl, HB2.out.trans (hb3.mono HB2.out.size)⟩
      · have hd : decide ((gen : Int) < 2) = false := by simp; omega
        go_wp2_with fail
        · refine (log_alive w2).mono ?_
          rintro e w3 ⟨rfl, hb3⟩
          go_wp2
          go_ret
          exact ⟨rfl, HB2.out.trans (hb3.mono HB2.out.size)⟩
        · refine (dev_new 20 w2 (by omega) (by omega)).mono ?_
          rintro e w3 ⟨g, bn, bl, rfl, hS, hd3, hb3⟩
          have HS := hid hS
          have HD3 := hid hd3
          have HB3 := hid (HB2.out.trans (hb3.mono HB2.out.size))
          have hz23 := hb3.size
          have hz2 := HB2.out.size
          clear hS hd3 hb3
          go_wp2_with fail
          refine (wal_new_at g 20 2 16 (gen - 1) _ _ bn bl none 0 w3 HD3.out (by omega) (by omega) (by omega) (by omega) ?_).mono ?_
          · have := HG.out
            first | omega | (rw [IntWalk.u64_in _ (by omega)]; omega)
          rintro e w4 ⟨rfl, hl4, hu4, hlt4⟩
          have HL4 := hid hl4
          have HU4 := hid hu4
          clear hl4 hu4
          go_wp2_with fail
          have hne4 : old ≠ [] → ¬ lgS w3.heap.size g bn bl none bo := by
            intro h e
            have h1 := HO.out.lt h
            rcases e with e | e
            · omega
            · have := HS.out _ e; omega
          refine (log_append_in w3.heap.size g 20 2 16 (gen - 1) 0 0 _ bn bl none 0 ao bo oo co old w4 HL4.out ?_ (by omega) (by omega) (by omega) ?_ hne4).mono ?_
          · intro x hx
            have h1 := total_mem old x hx
            have h2 := HT1.out
            omega
          · exact HO.out.below ((HB3.out.trans (HU4.out.below HB3.out.size (fun k hk => by have := HS.out k hk; omega))).mono (Nat.le_refl _))
          obtain ⟨P, hP⟩ : ∃ P, P = logPuts 2 16 (gen - 1) 0 0 (fun _ => none) (old.map (·.data.toList)) := ⟨_, rfl⟩
          rw [← hP]
          rintro e w5 ⟨a5, m5, rfl, hl5, hm5, hu5⟩
          have HP := hid hP
          have HL5 := hid hl5
          have HU5 : Hid (Upd (lgS w3.heap.size g bn bl none) w4 (lgS w3.heap.size g bn bl a5) w5) := hu5
          have hm5' : m5 ≤ 10000 := by omega
          have HB5 : Hid (Below w.heap.size w w5) := (HB3.out.trans (HU4.out.below HB3.out.size (fun k hk => by have := HS.out k hk; omega))).trans (HU5.out.below (Nat.le_trans HB3.out.size HU4.out.size) (fun k hk => by
            rcases hk with rfl | hk
            · exact HB3.out.size
            · have := HS.out k hk; omega))
          have hS5 : Hid (∀ k, dkS g bn bl a5 k → w.heap.size ≤ k) := by
            intro k hk
            rcases HU5.out.own k (Or.inr hk) with h1 | h1
            · rcases h1 with rfl | h1
              · exact HB3.out.size
              · have := HS.out k h1; omega
            · have h3 := HB3.out.size
              have h4 := HU4.out.size
              omega
          clear hP hl5 hu5 hm5 hne4
          go_wp2_with fail
          refine (wal_new_at g 20 2 16 gen _ P.2.2.2 bn bl a5 m5 w5 HL5.out.dk (by omega) (by omega) (by omega) (by omega) rfl).mono ?_
          rintro e w6 ⟨rfl, hl6, hu6, hlt6⟩
          have HL6 := hid hl6
          have HU6 := hid hu6
          have HB6 := hid (HB5.out.trans (hu6.below HB5.out.size hS5.out))
          clear hl6 hu6
          have hne6 : l ≠ [] → ¬ lgS w5.heap.size g bn bl a5 b1 := by
            intro h e
            have h1 := HL.out.lt h
            have h2 := HB5.out.size
            rcases e with e | e
            · omega
            · have := hS5.out _ e; omega
          go_wp2_with fail
          refine (log_append_in w5.heap.size g 20 2 16 gen 0 0 P.2.2.2 bn bl a5 m5 al b1 o1 c1 l w6 HL6.out ?_ (by omega) (by omega) (by omega) (HL.out.below HB6.out) hne6).mono ?_
          · intro x hx
            have h1 := total_mem l x hx
            have h2 := HLT.out
            omega
          obtain ⟨R, hR⟩ : ∃ R, R = logPuts 2 16 gen 0 0 P.2.2.2 (l.map (·.data.toList)) := ⟨_, rfl⟩
          rw [← hR]
          rintro e w7 ⟨a7, m7, rfl, hl7, hm7, hu7⟩
          have HR := hid hR
          have HL7 := hid hl7
          have HU7 := hid hu7
          have hm7' : m7 ≤ 20000 := by omega
          have HB7 : Hid (Below w.heap.size w w7) := HB6.out.trans (HU7.out.below HB6.out.size (fun k hk => by
            rcases hk with rfl | hk
            · exact HB5.out.size
            · exact hS5.out k hk))
          have hS7 : Hid (∀ k, lgS w5.heap.size g bn bl a7 k → w.heap.size ≤ k) := by
            intro k hk
            rcases HU7.out.own k hk with h1 | h1
            · rcases h1 with rfl | h1
              · exact HB5.out.size
              · exact hS5.out k h1
            · have := HB6.out.size; omega
          have hlens : ∀ r ∈ l.map (·.data.toList), r.length ≤ 3000 := by
            intro r hr
            obtain ⟨x, hx, rfl⟩ := List.mem_map.1 hr
            have h1 := total_mem l x hx
            have h2 := HLT.out
            have h3 : x.data.toList.length = x.size := rfl
            omega
          have hoth : ∀ j, Other gen (dget P.2.2.2 j) := by
            rw [HP.out]
            have := HG.out
            exact other_puts (by omega) (by omega) (by omega) _ _ _ _ (other_zero gen (by omega) (by omega))
          have hback := read_back 2 16 gen P.2.2.2 (l.map (·.data.toList)) hlens hoth
          have herr := logPuts_spec 2 16 gen (l.map (·.data.toList)) 0 0 P.2.2.2 hlens (by omega)
          rw [← hR] at hback herr
          have hR14 : (((R.1 : Nat) : Int) == 14) = false := by
            obtain ⟨_, _, _, _, _, _, h6⟩ := herr
            rcases h6 with ⟨h6, _⟩ | h6 <;> simp [h6]
          have HBK := hid hback
          have HOT := hid hoth
          clear hR hl7 hu7 hm7 hne6 hlens hoth hback herr
          go_wp2_with fail
          refine (log_flush w5.heap.size g 20 2 16 gen R.2.1 R.2.2.1 R.2.2.2 bn bl a7 m7 w7 HL7.out (by unfold Big; omega)).mono ?_
          rintro e w8 ⟨rfl, hl8, hu8⟩
          have HL8 := hid hl8
          have HB8 := hid (HB7.out.trans (hu8.below HB7.out.size hS7.out))
          clear hl8 hu8
          go_wp2_with fail
          have h256 : ∀ j, (dget R.2.2.2 j).length = 256 := by
            rw [HR.out]
            exact len_puts _ _ _ _ (fun j => (HOT.out j).1)
          refine (wal_read g 20 2 16 gen R.2.2.2 bn bl none 0 w8 HL8.out.dk (by omega) (by omega) (by omega) (by omega) (by omega) h256).mono ?_
          rw [HBK.out.1]
          obtain ⟨T, hT⟩ : ∃ T, T = l.take R.2.2.1 := ⟨_, rfl⟩
          have hTm : (l.map (·.data.toList)).take R.2.2.1 = T.map (·.data.toList) := by rw [hT, List.map_take]
          have hTl : T.length = R.2.2.1 := by
            have := HBK.out.2
            rw [List.length_map] at this
            rw [hT, List.length_take]
            omega
          have hTle : T.length ≤ l.length := by rw [hT, List.length_take]; omega
          rw [hTm, List.length_map]
          rintro e w9 ⟨ax, cx, rfl, ho9, hb9⟩
          have HO9 := hid ho9
          have HB9 := hid (HB8.out.trans (hb9.mono HB8.out.size))
          have HT := hid hT
          have HTL := hid hTl
          have HL9 : Hid (w9.cell? ⟨w5.heap.size, 5, none⟩ = some (.int .i64 (R.2.2.1 : Nat))) := by
            show _ = _
            rw [(bcell hb9).1 _ _ (cell_lt HL8.out.l5)]
            exact HL8.out.l5
          have hlt9 := cell_lt HL9.out
          clear h256 hT hTm hTl ho9 hb9
          go_wp2_with fail
          refine (log_alive w9).mono ?_
          rintro e w10 ⟨rfl, hb10⟩
          have l5 : w10.cell? ⟨w5.heap.size, 5, none⟩ = some (.int .i64 (T.length : Nat)) := by
            rw [(bcell hb10).1 _ _ hlt9, HTL.out]
            exact HL9.out
          have HB10 := hid (HB9.out.trans (hb10.mono HB9.out.size))
          have HO10 := hid (own_below HO9.out hb10)
          have hcap : T.length ≤ c1 := by have := HL.out.cap; omega
          clear hb10
          go_wp2_with fail
          refine (wal_len w5.heap.size T.length w10 l5).mono ?_
          rintro e w11 ⟨rfl, rfl⟩
          go_wp2_with fail
          obtain ⟨gx, hgx⟩ : ∃ gx, T ≠ [] → ax = some ⟨gx, 0, none⟩ := by
            rcases HO10.out.2 with ⟨q, hq⟩ | ⟨gr, cap, cur, q, _⟩
            · exact ⟨0, fun h => absurd (List.eq_nil_of_length_eq_zero hq) h⟩
            · simp only [Value.slice.injEq] at q
              exact ⟨gr, fun _ => q.1⟩
          have hTne : T ≠ [] → l ≠ [] := by
            intro h e
            apply h
            rw [HT.out, e]
            exact List.take_nil
          refine (book_same T T gx 0 cx b1 o1 c1 ax al w10 (by omega) rfl hgx (fun h => HL.out.at_ (hTne h)) ?_ ?_).mono ?_
          · intro j hj
            have hne : T ≠ [] := fun e => by rw [e] at hj; simp at hj
            have he := hgx hne
            have := HO10.out.cells (g := gx) (by rw [he]; rfl) j (sval (T[j].data.toList)) (by simp [hj])
            rw [show (⟨gx, 0, none⟩ : Addr).add j = ⟨gx, 0 + j, none⟩ by unfold Addr.add; split <;> simp_all] at this
            rw [this, sval_of]
          · intro j hj
            have hne : T ≠ [] := fun e => by rw [e] at hj; simp at hj
            have hj2 : j < l.length := by omega
            rw [(bcell HB10.out).1 b1 (o1 + j) (HL.out.lt (hTne hne)), HL.out.cells j hj2]
            have e : T[j]? = l[j]? := by
              rw [HT.out, List.getElem?_take, if_pos]
              rw [← HTL.out]
              exact hj
            rw [List.getElem?_eq_getElem hj, List.getElem?_eq_getElem hj2] at e
            rw [Option.some.inj e]
          rintro e w12 ⟨rfl, q, rfl⟩
          go_wp2
          go_ret
          exact ⟨by first | rfl | simp, below_drewN HB10.out _⟩

end Go.Proofs.Ytjnipfangjnpcaa
