/- A log that is read. -/
import Derived.Test.YtjnipfangjnpcaaWalC
namespace Go.Proofs.Ytjnipfangjnpcaa
open Go.RowKit Go.Proofs Go.Maps

theorem up_from (s : ByteArray) (w : World) (hs : s.size ≤ Big) :
    Calls Try.prog 56 #[.string s] w fun r w' =>
      ∃ g, r = .returned (.pointer (some ⟨g, 0, none⟩)) ∧ w.heap.size ≤ g ∧ UpAt w' g 0 s.data.toList ∧ Below w.heap.size w w' := by
  go_enter Try.func56, Try.ntmps56
  go_wp2_with (go_at_call 79; refine (str_clone s _ hs).mono ?_; rintro e w1 ⟨rfl, hb⟩)
  go_ret
  refine ⟨w1.heap.size, rfl, hb.size, ⟨by go_simp, by go_simp, by go_simp, s, rfl, by go_simp⟩, hb.alloc hb.size _⟩

/-- the bytes at a place, as a number -/
def field (b : List UInt8) (at_ n : Nat) : Nat := leV ((b.drop at_).take n)

/-- the record that begins in the first of some blocks -/
def wholeB (gen number : Nat) (bs : List (List UInt8)) : Option (List UInt8 × Nat) :=
  let f := field (bs.headD []) 18 2
  if f < 1 ∨ bs.length < f then none else
    let n := field ((bs.drop (f - 1)).headD []) 20 2
    if 224 < n then none else
      let s0 := (bs.take f).flatMap (fun b => b.drop 32)
      let s := s0.take (s0.length - 224 + n)
      if 3000 < s.length ∨ (layB gen number s).length ≠ f then none else
        if layB gen number s = bs.take f then some (s, f) else none

theorem field_sub (l : List UInt8) (k : Nat) (h : k + 2 ≤ 28) : leV ((((l.drop 4).take 28).drop k).take 2) = field l (4 + k) 2 := by
  unfold field
  rw [List.drop_take, List.take_take, List.drop_drop, Nat.min_eq_left (by omega)]

theorem field_lt (l : List UInt8) (k : Nat) : field l k 2 < 65536 := by
  unfold field
  have h := leV_lt ((l.drop k).take 2)
  have h2 : (256 : Nat) ^ ((l.drop k).take 2).length ≤ 256 ^ 2 := Nat.pow_le_pow_right (by omega) (by simp; omega)
  omega

theorem toList_data (s : ByteArray) : s.toList = s.data.toList := Lib.toList_data s

/-- what whole answers -/
def WholeOut (o : Option (List UInt8 × Nat)) (r : Ending) : Prop :=
  match o with
  | none => ∃ s : ByteArray, r = .returned (.tuple #[.string s, .int .i64 0])
  | some (l, k) => ∃ s : ByteArray, s.data.toList = l ∧ r = .returned (.tuple #[.string s, .int .i64 k])

set_option maxRecDepth 20000 in
set_option maxHeartbeats 3200000 in
theorem wal_whole (gen number : Nat) (b off c : Nat) (bs : List ByteArray) (w : World) (h0 : 0 < bs.length) (h1 : bs.length ≤ 400) (hn : number < 65536) (hc : bs.length ≤ c) (h256 : ∀ x ∈ bs, x.size = 256) (hat : StrsAt w b off bs) (hb : b < w.heap.size) :
    Calls Try.prog 32 #[.int .u64 gen, .int .i64 number, .slice (some ⟨b, off, none⟩) bs.length c] w fun r w' =>
      WholeOut (wholeB gen number (bs.map (·.data.toList))) r ∧ Below w.heap.size w w' := by
  have hc0 : w.cell? ⟨b, off, none⟩ = some (.string bs[0]) := hat 0 h0
  have hz0 := h256 bs[0] (List.getElem_mem h0)
  obtain ⟨b0, hb0⟩ : ∃ b0, b0 = bs[0] := ⟨_, rfl⟩
  rw [← hb0] at hc0 hz0
  have hz1 : 256 ≤ b0.size := by omega
  obtain ⟨O, hO⟩ : ∃ O, O = wholeB gen number (bs.map (·.data.toList)) := ⟨_, rfl⟩
  rw [← hO]
  have HO := hid hO
  have HA := hid hat
  have H2 := hid h256
  have HB0 := hid hb0
  have HZ := hid hz0
  clear hat h256 hb0 hz0 hO
  go_enter Try.func32, Try.ntmps32
  go_wp2_with fail
  have e0 : (b0.extract 4 32).data.toList = (b0.data.toList.drop 4).take 28 := by rw [Lib.extract_data]
  have e0l : ((b0.data.toList.drop 4).take 28).length = 28 := by
    have : b0.data.toList.length = b0.size := rfl
    simp only [List.length_take, List.length_drop, this]
    omega
  refine (up_from (b0.extract 4 32) w (by rw [size_data, e0, e0l]; unfold Big; omega)).mono ?_
  rintro e w1 ⟨g, rfl, hg, hu1, hb1⟩
  rw [e0] at hu1
  obtain ⟨L, hL⟩ : ∃ L, L = (b0.data.toList.drop 4).take 28 := ⟨_, rfl⟩
  rw [← hL] at hu1 e0l
  have HU1 := hid hu1
  have HB1 := hid hb1
  have HL := hid hL
  have hLB : L.length ≤ Big := by rw [e0l]; unfold Big; omega
  have HLB := hid hLB
  have HE0 := hid e0l
  clear hu1 hb1 hL e0 e0l hLB
  go_wp2_with fail
  refine (up_word g L w1 HU1.out (by rw [HE0.out]; omega) HLB.out).mono ?_
  rintro e w2 ⟨rfl, hu2, hp2⟩
  have HU2 := hid hu2
  have HP2 : Hid (Below w.heap.size w w2) := HB1.out.trans (hp2.below HB1.out.size (fun k hk => by omega))
  clear hu2 hp2
  go_wp2_with fail
  refine (up_small g _ 4 w2 HU2.out (by unfold fitsB; omega) (by rw [List.length_drop, HE0.out]; omega) (by rw [List.length_drop, HE0.out]; unfold Big; omega)).mono ?_
  rintro e w3 ⟨rfl, hu3, hp3⟩
  rw [List.drop_drop] at hu3
  have HU3 := hid hu3
  have HP3 : Hid (Below w.heap.size w w3) := HP2.out.trans (hp3.below HP2.out.size (fun k hk => by omega))
  clear hu3 hp3
  go_wp2_with fail
  refine (up_small g _ 2 w3 HU3.out (by unfold fitsB; omega) (by rw [List.length_drop, HE0.out]; omega) (by rw [List.length_drop, HE0.out]; unfold Big; omega)).mono ?_
  rintro e w4 ⟨rfl, hu4, hp4⟩
  rw [List.drop_drop] at hu4
  have HU4 := hid hu4
  have HP4 : Hid (Below w.heap.size w w4) := HP3.out.trans (hp4.below HP3.out.size (fun k hk => by omega))
  clear hu4 hp4
  go_wp2_with fail
  refine (up_small g _ 2 w4 HU4.out (by unfold fitsB; omega) (by rw [List.length_drop, HE0.out]; omega) (by rw [List.length_drop, HE0.out]; unfold Big; omega)).mono ?_
  rintro e w5 ⟨rfl, hu5, hp5⟩
  rw [List.drop_drop] at hu5
  have HU5 := hid hu5
  have HP5 : Hid (Below w.heap.size w w5) := HP4.out.trans (hp5.below HP4.out.size (fun k hk => by omega))
  clear hu5 hp5
  obtain ⟨F, hF⟩ : ∃ F, F = field b0.data.toList 18 2 := ⟨_, rfl⟩
  have hFe : leV (((L.drop (8 + 4 + 2))).take 2) = F := by rw [HL.out, field_sub _ _ (by omega), hF]
  rw [hFe]
  have hF16 : F < 65536 := by rw [hF]; exact field_lt _ _
  have HF := hid hF
  have hhead : (bs.map (·.data.toList)).headD [] = b0.data.toList := by
    rw [HB0.out]
    cases bs with
    | nil => simp at h0
    | cons x l => rfl
  have HHD := hid hhead
  clear hF hFe hhead
  by_cases q1 : F < 1
  · have hd : decide ((F : Int) < 1) = true := by simp; omega
    have hpost : wholeB gen number (bs.map (·.data.toList)) = none := by
      unfold wholeB
      rw [HHD.out, ← HF.out]
      simp only
      rw [if_pos (Or.inl q1)]
    have HPO := hid (HO.out.trans hpost)
    clear hpost
    go_wp2
    go_ret2
    rw [HPO.out]
    exact ⟨⟨_, rfl⟩, HP5.out⟩
  by_cases q2 : bs.length < F
  · have hd : decide ((F : Int) < 1) = false := by simp; omega
    have hd2 : decide ((bs.length : Int) < F) = true := by simp; omega
    have hpost : wholeB gen number (bs.map (·.data.toList)) = none := by
      unfold wholeB
      rw [HHD.out, ← HF.out]
      simp only
      rw [if_pos (Or.inr (by simpa using q2))]
    have HPO := hid (HO.out.trans hpost)
    clear hpost
    go_wp2
    go_ret2
    rw [HPO.out]
    exact ⟨⟨_, rfl⟩, HP5.out⟩
  have hd : decide ((F : Int) < 1) = false := by simp; omega
  have hd2 : decide ((bs.length : Int) < F) = false := by simp; omega
  go_wp2
  have q1' : 1 ≤ F := by omega
  have q2' : F ≤ bs.length := by omega
  go_loop [10, 42] (fun t i => ∃ (k : Nat) (t' : ByteArray), k ≤ F ∧ i = .int .i64 k ∧ t = .string t' ∧ Hid (t'.data.toList = ((bs.take k).map (·.data.toList)).flatMap (fun b => b.drop 32)) ∧ t'.size = 224 * k) (fun _ i => F - (intOf i).toNat)
  case atStart => exact ⟨0, _, by omega, rfl, rfl, rfl, rfl⟩
  case round =>
    obtain ⟨k, t, hk, rfl, rfl, ht, hts⟩ := hrel
    by_cases hlt : k < F
    · have hkb : k < bs.length := by omega
      have hcx : w5.cell? ⟨b, off + k, none⟩ = some (.string bs[k]) := by rw [(bcell HP5.out).1 b (off + k) hb]; exact HA.out k hkb
      have hz := H2.out _ (List.getElem_mem hkb)
      obtain ⟨x, hx⟩ : ∃ x, x = bs[k] := ⟨_, rfl⟩
      rw [← hx] at hcx hz
      have HX := hid hx
      have HZ2 := hid hz
      have hz1 : 256 ≤ x.size := by omega
      have hz2 : x.size ≤ 256 := by omega
      have hts2 : t.size ≤ 100000 := by rw [hts]; omega
      have HTS := hid hts
      clear hx hz hts
      go_wp2
      go_round
      case rel =>
        refine ⟨k + 1, _, by omega, by go_num, rfl, ?_, ?_⟩
        · show _ = _
          rw [append_data, Lib.extract_data, ht.out, HX.out, List.take_succ_eq_append_getElem hkb]
          simp only [List.map_append, List.flatMap_append, List.map_cons, List.map_nil, List.flatMap_cons, List.flatMap_nil, List.append_nil]
          congr 1
          exact List.take_of_length_le (by simp)
        · have := HTS.out
          have := HZ2.out
          simp
          omega
      case measure => simp [intOf]; omega
    · obtain rfl : F = k := by omega
      have HT := hid ht.out
      have hts2 : t.size ≤ 100000 := by rw [hts]; omega
      have HTS := hid hts
      have hts3 : 224 ≤ t.size := by rw [hts]; omega
      clear ht hts
      go_wp2_with fail
      refine (up_small g _ 2 w5 HU5.out (by unfold fitsB; omega) (by rw [List.length_drop, HE0.out]; omega) (by rw [List.length_drop, HE0.out]; unfold Big; omega)).mono ?_
      rintro e w6 ⟨rfl, hu6, hp6⟩
      have HP6 : Hid (Below w.heap.size w w6) := HP5.out.trans (hp6.below HP5.out.size (fun k hk => by omega))
      have hFb : F - 1 < bs.length := by omega
      have hcl : w6.cell? ⟨b, off + (F - 1), none⟩ = some (.string bs[F - 1]) := by rw [(bcell HP6.out).1 b (off + (F - 1)) hb]; exact HA.out (F - 1) hFb
      have hzl := H2.out _ (List.getElem_mem hFb)
      obtain ⟨bx, hbx⟩ : ∃ bx, bx = bs[F - 1] := ⟨_, rfl⟩
      rw [← hbx] at hcl hzl
      have hdl : ((bs.map (·.data.toList)).drop (F - 1)).headD [] = bx.data.toList := by
        rw [hbx, ← List.map_drop, List.drop_eq_getElem_cons hFb]
        rfl
      have hzl1 : 256 ≤ bx.size := by omega
      have HBX := hid hbx
      have HDL := hid hdl
      clear hbx hzl hdl hu6 hp6
      obtain ⟨N, hN⟩ : ∃ N, N = field (((bs.map (·.data.toList)).drop (F - 1)).headD []) 20 2 := ⟨_, rfl⟩
      have hN16 : N < 65536 := by rw [hN]; exact field_lt _ _
      by_cases hF1 : F = 1
      · have hNe : leV (((L.drop (8 + 4 + 2 + 2))).take 2) = N := by
          rw [HL.out, field_sub _ _ (by omega), hN, HDL.out, HBX.out, HB0.out]
          congr 3
          simp [hF1]
        rw [hNe]
        have hd9 : decide ((1 : Int) < F) = false := by simp; omega
        have HPW := HP6
        clear hNe hcl hF1

        have HNN := hid hN
        by_cases q3 : 224 < N
        · have hd3 : decide ((224 : Int) < N) = true := by simp; omega
          have hpost : wholeB gen number (bs.map (·.data.toList)) = none := by
            unfold wholeB
            rw [HHD.out, ← HF.out]
            simp only
            rw [if_neg (by simp; omega), ← HNN.out, if_pos q3]
          have HPO := hid (HO.out.trans hpost)
          clear hpost hN
          go_wp2
          go_ret2
          rw [HPO.out]
          exact ⟨⟨_, rfl⟩, HPW.out⟩
        have hd3 : decide ((224 : Int) < N) = false := by simp; omega
        have hsum : (((t.size : Nat) : Int) - 224 + N) = ((t.size - 224 + N : Nat) : Int) := by omega
        obtain ⟨u, hu⟩ : ∃ u, u = t.extract 0 (t.size - 224 + N) := ⟨_, rfl⟩
        have huz : u.size = t.size - 224 + N := by rw [hu]; simp; omega
        have hul : u.data.toList = t.data.toList.take (t.size - 224 + N) := by rw [hu, Lib.extract_data]; simp
        have hu9 : u.size ≤ 100000 := by omega
        have HU := hid hu
        have HUL := hid hul
        have hspec : wholeB gen number (bs.map (·.data.toList)) = (if 3000 < u.data.toList.length ∨ (layB gen number u.data.toList).length ≠ F then none else if layB gen number u.data.toList = (bs.map (·.data.toList)).take F then some (u.data.toList, F) else none) := by
          unfold wholeB
          rw [HHD.out, ← HF.out]
          simp only
          rw [if_neg (by simp; omega), ← HNN.out, if_neg q3]
          have h1 : ((bs.map (·.data.toList)).take F).flatMap (fun b => b.drop 32) = t.data.toList := by rw [← List.map_take, HT.out]
          have h2 : t.data.toList.length = t.size := rfl
          rw [h1, h2, ← HUL.out]
        have HSP := hid (HO.out.trans hspec)
        obtain ⟨B, hB⟩ : ∃ B, B = layB gen number u.data.toList := ⟨_, rfl⟩
        rw [← hB] at hspec
        have hBl : B.length ≤ 500 := by rw [hB, layB_length]; exact blocksN_le _ _ (by have : u.data.toList.length = u.size := rfl; omega) (by omega)
        have HBB := hid hB
        clear hN hu hul hspec hB huz
        have hcall : Calls Try.prog 50 #[.int .u64 gen, .int .i64 number, .string u] w6 fun r w' =>
            ∃ al cl, r = .returned (.slice al B.length cl) ∧ w'.ownsRow w6.heap.size 9 1 (.slice al B.length cl) B.length (B.map sval) ∧ Below w6.heap.size w6 w' := by
          rw [HBB.out]
          exact wal_lay gen number u w6 (by omega) hu9
        have HCALL := hid hcall
        clear hcall
        have hul2 : u.data.toList.length = u.size := rfl
        by_cases q5 : 3000 < u.size
        · have hd5 : decide ((3000 : Int) < u.size) = true := by simp; omega
          have hO : O = none := by rw [HSP.out, if_pos (Or.inl (by rw [hul2]; exact q5))]
          have HPO := hid hO
          clear hO hul2
          go_wp2_with (go_at_call 50; (try rw [← HU.out]); refine HCALL.out.mono ?_; rintro e w9 ⟨al, cl, rfl, ho9, hb9⟩)
          go_ret2
          rw [HPO.out]
          exact ⟨⟨_, rfl⟩, HPW.out.trans (hb9.mono HPW.out.size)⟩
        have hd5 : decide ((3000 : Int) < u.size) = false := by simp; omega
        by_cases q6 : B.length = F
        · have hd6 : (((B.length : Nat) : Int) != F) = false := by simp; omega
          have hO : O = if B = (bs.map (·.data.toList)).take F then some (u.data.toList, F) else none := by
            rw [HSP.out, ← HBB.out, if_neg (by rw [hul2]; simp; omega)]
          have HPO := hid hO
          have Q6 := hid q6
          have hBF : B.length ≤ F ∧ F ≤ B.length := by omega
          clear hO hul2 q6
          go_wp2_with (go_at_call 50; (try rw [← HU.out]); refine HCALL.out.mono ?_; rintro e w9 ⟨al, cl, rfl, ho9, hb9⟩)
          have hal : ∃ gr, al = some ⟨gr, 0, none⟩ := by
            rcases ho9.2 with ⟨q, hq⟩ | ⟨gr, cap, cur, q, _⟩
            · omega
            · simp only [Value.slice.injEq] at q
              exact ⟨gr, q.1⟩
          obtain ⟨gr, rfl⟩ := hal
          have HO9 := hid ho9
          have HB9 : Hid (Below w.heap.size w w9) := HPW.out.trans (hb9.mono HPW.out.size)
          clear ho9 hb9
          go_loop [87] (fun i => ∃ k : Nat, k ≤ F ∧ i = .int .i64 k ∧ Hid (B.take k = (bs.map (·.data.toList)).take k)) (fun i => F - (intOf i).toNat)
          case atStart => exact ⟨0, by omega, rfl, rfl⟩
          case round =>
            obtain ⟨k, hk, rfl, hpre⟩ := hrel
            by_cases hlt : k < F
            · have hkb : k < bs.length := by omega
              have hkB : k < B.length := by omega
              have hcx : w9.cell? ⟨b, off + k, none⟩ = some (.string bs[k]) := by rw [(bcell HB9.out).1 b (off + k) hb]; exact HA.out k hkb
              have hcy : w9.cell? ⟨gr, k, none⟩ = some (.string ⟨B[k].toArray⟩) := by
                have := HO9.out.cells (g := gr) rfl k (sval B[k]) (by simp [hkB])
                rwa [show (⟨gr, 0, none⟩ : Addr).add k = ⟨gr, k, none⟩ by unfold Addr.add; split <;> simp_all] at this
              obtain ⟨x, hx⟩ : ∃ x, x = bs[k] := ⟨_, rfl⟩
              obtain ⟨y, hy⟩ : ∃ y : ByteArray, y = ⟨B[k].toArray⟩ := ⟨_, rfl⟩
              rw [← hx] at hcx
              rw [← hy] at hcy
              have hyl : y.data.toList = B[k] := by rw [hy]
              have HX := hid hx
              have HY := hid hyl
              clear hx hy hyl
              by_cases q7 : B[k] = x.data.toList
              · have hd7 : (y.toList == x.toList) = true := by
                  rw [beq_iff_eq, toList_data, toList_data, HY.out, q7]
                have hstep : B.take (k + 1) = (bs.map (·.data.toList)).take (k + 1) := by
                  rw [List.take_succ_eq_append_getElem hkB, List.take_succ_eq_append_getElem (by simpa using hkb), hpre.out, q7, List.getElem_map, HX.out]
                have HST := hid hstep
                clear hstep q7
                go_wp2
                go_round
                case rel => exact ⟨k + 1, by omega, by go_num, HST⟩
                case measure => simp [intOf]; omega
              · have hd7 : (y.toList == x.toList) = false := by
                  rw [beq_eq_false_iff_ne, ne_eq, toList_data, toList_data, HY.out]
                  exact q7
                have hO : O = none := by
                  rw [HPO.out, if_neg]
                  intro e
                  apply q7
                  have e2 : B[k]? = ((bs.map (·.data.toList)).take F)[k]? := by rw [← e]
                  rw [List.getElem?_eq_getElem hkB, List.getElem?_take, if_pos hlt, List.getElem?_eq_getElem (by simpa using hkb), List.getElem_map, ← HX.out] at e2
                  exact Option.some.inj e2
                have HPN := hid hO
                clear hO q7
                go_wp2
                go_ret2
                rw [HPN.out]
                exact ⟨⟨_, rfl⟩, HB9.out⟩
            · obtain rfl : F = k := by omega
              have hO : O = some (u.data.toList, F) := by
                rw [HPO.out, if_pos]
                have := hpre.out
                rwa [List.take_of_length_le (by omega)] at this
              have HPN := hid hO
              clear hO hpre
              go_wp2
              go_ret2
              rw [HPN.out]
              exact ⟨⟨u, rfl, rfl⟩, HB9.out⟩
        · have hd6 : (((B.length : Nat) : Int) != F) = true := by simp; omega
          have hO : O = none := by rw [HSP.out, ← HBB.out, if_pos (Or.inr q6)]
          have HPO := hid hO
          clear hO hul2 q6
          go_wp2_with (go_at_call 50; (try rw [← HU.out]); refine HCALL.out.mono ?_; rintro e w9 ⟨al, cl, rfl, ho9, hb9⟩)
          go_ret2
          rw [HPO.out]
          exact ⟨⟨_, rfl⟩, HPW.out.trans (hb9.mono HPW.out.size)⟩

      · have hd9 : decide ((1 : Int) < F) = true := by simp; omega
        have hgo : (((F : Nat) : Int) - 1) = ((F - 1 : Nat) : Int) := by omega
        go_wp2_with fail
        have e0 : (bx.extract 20 32).data.toList = (bx.data.toList.drop 20).take 12 := by rw [Lib.extract_data]
        have e0l : ((bx.data.toList.drop 20).take 12).length = 12 := by
          have : bx.data.toList.length = bx.size := rfl
          simp only [List.length_take, List.length_drop, this]
          omega
        refine (up_from (bx.extract 20 32) w6 (by rw [size_data, e0, e0l]; unfold Big; omega)).mono ?_
        rintro e w7 ⟨g7, rfl, hg7, hu7, hb7⟩
        rw [e0] at hu7
        have HU7 := hid hu7
        have HB7 : Hid (Below w.heap.size w w7) := HP6.out.trans (hb7.mono HP6.out.size)
        have hg7w : w.heap.size ≤ g7 := Nat.le_trans HP6.out.size hg7
        have E0L := hid e0l
        clear hu7 hb7 e0 e0l hcl
        go_wp2_with fail
        refine (up_small g7 _ 2 w7 HU7.out (by unfold fitsB; omega) (by rw [E0L.out]; omega) (by rw [E0L.out]; unfold Big; omega)).mono ?_
        rintro e w8 ⟨rfl, hu8, hp8⟩
        have HPW : Hid (Below w.heap.size w w8) := HB7.out.trans (hp8.below HB7.out.size (fun k hk => by omega))
        have hNe : leV (((bx.data.toList.drop 20).take 12).take 2) = N := by
          rw [hN, HDL.out]
          unfold field
          rw [List.take_take]
          rfl
        rw [hNe]
        clear hNe hu8 hp8 hgo

        have HNN := hid hN
        by_cases q3 : 224 < N
        · have hd3 : decide ((224 : Int) < N) = true := by simp; omega
          have hpost : wholeB gen number (bs.map (·.data.toList)) = none := by
            unfold wholeB
            rw [HHD.out, ← HF.out]
            simp only
            rw [if_neg (by simp; omega), ← HNN.out, if_pos q3]
          have HPO := hid (HO.out.trans hpost)
          clear hpost hN
          go_wp2
          go_ret2
          rw [HPO.out]
          exact ⟨⟨_, rfl⟩, HPW.out⟩
        have hd3 : decide ((224 : Int) < N) = false := by simp; omega
        have hsum : (((t.size : Nat) : Int) - 224 + N) = ((t.size - 224 + N : Nat) : Int) := by omega
        obtain ⟨u, hu⟩ : ∃ u, u = t.extract 0 (t.size - 224 + N) := ⟨_, rfl⟩
        have huz : u.size = t.size - 224 + N := by rw [hu]; simp; omega
        have hul : u.data.toList = t.data.toList.take (t.size - 224 + N) := by rw [hu, Lib.extract_data]; simp
        have hu9 : u.size ≤ 100000 := by omega
        have HU := hid hu
        have HUL := hid hul
        have hspec : wholeB gen number (bs.map (·.data.toList)) = (if 3000 < u.data.toList.length ∨ (layB gen number u.data.toList).length ≠ F then none else if layB gen number u.data.toList = (bs.map (·.data.toList)).take F then some (u.data.toList, F) else none) := by
          unfold wholeB
          rw [HHD.out, ← HF.out]
          simp only
          rw [if_neg (by simp; omega), ← HNN.out, if_neg q3]
          have h1 : ((bs.map (·.data.toList)).take F).flatMap (fun b => b.drop 32) = t.data.toList := by rw [← List.map_take, HT.out]
          have h2 : t.data.toList.length = t.size := rfl
          rw [h1, h2, ← HUL.out]
        have HSP := hid (HO.out.trans hspec)
        obtain ⟨B, hB⟩ : ∃ B, B = layB gen number u.data.toList := ⟨_, rfl⟩
        rw [← hB] at hspec
        have hBl : B.length ≤ 500 := by rw [hB, layB_length]; exact blocksN_le _ _ (by have : u.data.toList.length = u.size := rfl; omega) (by omega)
        have HBB := hid hB
        clear hN hu hul hspec hB huz
        have hcall : Calls Try.prog 50 #[.int .u64 gen, .int .i64 number, .string u] w8 fun r w' =>
            ∃ al cl, r = .returned (.slice al B.length cl) ∧ w'.ownsRow w8.heap.size 9 1 (.slice al B.length cl) B.length (B.map sval) ∧ Below w8.heap.size w8 w' := by
          rw [HBB.out]
          exact wal_lay gen number u w8 (by omega) hu9
        have HCALL := hid hcall
        clear hcall
        have hul2 : u.data.toList.length = u.size := rfl
        by_cases q5 : 3000 < u.size
        · have hd5 : decide ((3000 : Int) < u.size) = true := by simp; omega
          have hO : O = none := by rw [HSP.out, if_pos (Or.inl (by rw [hul2]; exact q5))]
          have HPO := hid hO
          clear hO hul2
          go_wp2_with (go_at_call 50; (try rw [← HU.out]); refine HCALL.out.mono ?_; rintro e w9 ⟨al, cl, rfl, ho9, hb9⟩)
          go_ret2
          rw [HPO.out]
          exact ⟨⟨_, rfl⟩, HPW.out.trans (hb9.mono HPW.out.size)⟩
        have hd5 : decide ((3000 : Int) < u.size) = false := by simp; omega
        by_cases q6 : B.length = F
        · have hd6 : (((B.length : Nat) : Int) != F) = false := by simp; omega
          have hO : O = if B = (bs.map (·.data.toList)).take F then some (u.data.toList, F) else none := by
            rw [HSP.out, ← HBB.out, if_neg (by rw [hul2]; simp; omega)]
          have HPO := hid hO
          have Q6 := hid q6
          have hBF : B.length ≤ F ∧ F ≤ B.length := by omega
          clear hO hul2 q6
          go_wp2_with (go_at_call 50; (try rw [← HU.out]); refine HCALL.out.mono ?_; rintro e w9 ⟨al, cl, rfl, ho9, hb9⟩)
          have hal : ∃ gr, al = some ⟨gr, 0, none⟩ := by
            rcases ho9.2 with ⟨q, hq⟩ | ⟨gr, cap, cur, q, _⟩
            · omega
            · simp only [Value.slice.injEq] at q
              exact ⟨gr, q.1⟩
          obtain ⟨gr, rfl⟩ := hal
          have HO9 := hid ho9
          have HB9 : Hid (Below w.heap.size w w9) := HPW.out.trans (hb9.mono HPW.out.size)
          clear ho9 hb9
          go_loop [87] (fun i => ∃ k : Nat, k ≤ F ∧ i = .int .i64 k ∧ Hid (B.take k = (bs.map (·.data.toList)).take k)) (fun i => F - (intOf i).toNat)
          case atStart => exact ⟨0, by omega, rfl, rfl⟩
          case round =>
            obtain ⟨k, hk, rfl, hpre⟩ := hrel
            by_cases hlt : k < F
            · have hkb : k < bs.length := by omega
              have hkB : k < B.length := by omega
              have hcx : w9.cell? ⟨b, off + k, none⟩ = some (.string bs[k]) := by rw [(bcell HB9.out).1 b (off + k) hb]; exact HA.out k hkb
              have hcy : w9.cell? ⟨gr, k, none⟩ = some (.string ⟨B[k].toArray⟩) := by
                have := HO9.out.cells (g := gr) rfl k (sval B[k]) (by simp [hkB])
                rwa [show (⟨gr, 0, none⟩ : Addr).add k = ⟨gr, k, none⟩ by unfold Addr.add; split <;> simp_all] at this
              obtain ⟨x, hx⟩ : ∃ x, x = bs[k] := ⟨_, rfl⟩
              obtain ⟨y, hy⟩ : ∃ y : ByteArray, y = ⟨B[k].toArray⟩ := ⟨_, rfl⟩
              rw [← hx] at hcx
              rw [← hy] at hcy
              have hyl : y.data.toList = B[k] := by rw [hy]
              have HX := hid hx
              have HY := hid hyl
              clear hx hy hyl
              by_cases q7 : B[k] = x.data.toList
              · have hd7 : (y.toList == x.toList) = true := by
                  rw [beq_iff_eq, toList_data, toList_data, HY.out, q7]
                have hstep : B.take (k + 1) = (bs.map (·.data.toList)).take (k + 1) := by
                  rw [List.take_succ_eq_append_getElem hkB, List.take_succ_eq_append_getElem (by simpa using hkb), hpre.out, q7, List.getElem_map, HX.out]
                have HST := hid hstep
                clear hstep q7
                go_wp2
                go_round
                case rel => exact ⟨k + 1, by omega, by go_num, HST⟩
                case measure => simp [intOf]; omega
              · have hd7 : (y.toList == x.toList) = false := by
                  rw [beq_eq_false_iff_ne, ne_eq, toList_data, toList_data, HY.out]
                  exact q7
                have hO : O = none := by
                  rw [HPO.out, if_neg]
                  intro e
                  apply q7
                  have e2 : B[k]? = ((bs.map (·.data.toList)).take F)[k]? := by rw [← e]
                  rw [List.getElem?_eq_getElem hkB, List.getElem?_take, if_pos hlt, List.getElem?_eq_getElem (by simpa using hkb), List.getElem_map, ← HX.out] at e2
                  exact Option.some.inj e2
                have HPN := hid hO
                clear hO q7
                go_wp2
                go_ret2
                rw [HPN.out]
                exact ⟨⟨_, rfl⟩, HB9.out⟩
            · obtain rfl : F = k := by omega
              have hO : O = some (u.data.toList, F) := by
                rw [HPO.out, if_pos]
                have := hpre.out
                rwa [List.take_of_length_le (by omega)] at this
              have HPN := hid hO
              clear hO hpre
              go_wp2
              go_ret2
              rw [HPN.out]
              exact ⟨⟨u, rfl, rfl⟩, HB9.out⟩
        · have hd6 : (((B.length : Nat) : Int) != F) = true := by simp; omega
          have hO : O = none := by rw [HSP.out, ← HBB.out, if_pos (Or.inr q6)]
          have HPO := hid hO
          clear hO hul2 q6
          go_wp2_with (go_at_call 50; (try rw [← HU.out]); refine HCALL.out.mono ?_; rintro e w9 ⟨al, cl, rfl, ho9, hb9⟩)
          go_ret2
          rw [HPO.out]
          exact ⟨⟨_, rfl⟩, HPW.out.trans (hb9.mono HPW.out.size)⟩

end Go.Proofs.Ytjnipfangjnpcaa
