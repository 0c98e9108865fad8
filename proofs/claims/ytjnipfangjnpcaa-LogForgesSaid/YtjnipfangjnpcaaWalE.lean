/- A log that is read, on: Read. -/
import Derived.Test.YtjnipfangjnpcaaWalD
namespace Go.Proofs.Ytjnipfangjnpcaa
open Go.RowKit Go.Proofs Go.Maps

/-- all records that are found in blocks, the first of number num -/
def readAll (gen : Nat) : Nat → Nat → List (List UInt8) → List (List UInt8)
  | 0, _, _ => []
  | f + 1, num, bs => if bs = [] then [] else
      match wholeB gen num bs with
      | none => []
      | some (s, k) => s :: readAll gen f (num + 1) (bs.drop k)

theorem wholeB_pos {gen num : Nat} {bs : List (List UInt8)} {s : List UInt8} {k : Nat} (h : wholeB gen num bs = some (s, k)) : 1 ≤ k ∧ k ≤ bs.length ∧ s.length ≤ 3000 ∧ layB gen num s = bs.take k := by
  unfold wholeB at h
  simp only at h
  split at h
  · cases h
  · split at h
    · cases h
    · split at h
      · cases h
      · split at h
        · simp only [Option.some.injEq, Prod.mk.injEq] at h
          obtain ⟨h1, h2⟩ := h
          rename_i a1 a2 a3 a4
          rw [h1] at a3 a4
          rw [h2] at a1 a4
          exact ⟨by omega, by omega, by omega, a4⟩
        · cases h

/-- the blocks of a log on a disk -/
def diskBlocks (now : Nat → Option (List UInt8)) (from_ n : Nat) : List (List UInt8) := (List.range n).map fun i => dget now (from_ + i)

theorem diskBlocks_succ (now : Nat → Option (List UInt8)) (from_ n : Nat) : diskBlocks now from_ (n + 1) = diskBlocks now from_ n ++ [dget now (from_ + n)] := by
  simp [diskBlocks, List.range_succ]

theorem wal_whole_at (gen number : Nat) (b off c q : Nat) (bs : List ByteArray) (w : World) (h0 : 0 < bs.length) (h1 : bs.length ≤ 400) (hn : number < 65536) (hc : bs.length ≤ c) (h256 : ∀ x ∈ bs, x.size = 256) (hat : StrsAt w b off bs) (hb : b < w.heap.size) (hq : q = bs.length) :
    Calls Try.prog 32 #[.int .u64 gen, .int .i64 number, .slice (some ⟨b, off, none⟩) q c] w fun r w' =>
      WholeOut (wholeB gen number (bs.map (·.data.toList))) r ∧ Below w.heap.size w w' := by
  subst hq
  exact wal_whole gen number b off c bs w h0 h1 hn hc h256 hat hb

def sliceLen : Value → Nat | .slice _ n _ => n | _ => 0

set_option maxRecDepth 20000 in
set_option maxHeartbeats 3200000 in
theorem wal_read (g N from_ n gen : Nat) (now : Nat → Option (List UInt8)) (bn bl : Nat) (a : Option Addr) (m : Nat) (w : World) (h : DkAt w g N now bn bl a m) (h1 : 1 ≤ n) (hn : n ≤ 400) (hg : 0 < gen) (hf : from_ + n ≤ N) (hN : N ≤ 4096)
    (h256 : ∀ i, (dget now i).length = 256) :
    Calls Try.prog 11 #[.pointer (some ⟨g, 0, none⟩), .int .i64 from_, .int .i64 n, .int .u64 gen] w fun r w' =>
      ∃ al cl, r = .returned (.tuple #[.slice al (readAll gen n 0 (diskBlocks now from_ n)).length cl, .int .i64 0]) ∧
        w'.ownsRow w.heap.size 9 1 (.slice al (readAll gen n 0 (diskBlocks now from_ n)).length cl) (readAll gen n 0 (diskBlocks now from_ n)).length ((readAll gen n 0 (diskBlocks now from_ n)).map sval) ∧ Below w.heap.size w w' := by
  have H := hid h
  obtain ⟨R, hR⟩ : ∃ R, R = readAll gen n 0 (diskBlocks now from_ n) := ⟨_, rfl⟩
  rw [← hR]
  have HR := hid hR
  have H256 := hid h256
  clear h hR h256
  go_enter Try.func11, Try.ntmps11
  go_wp2_with (go_at_call 26; refine (wal_right g n gen w h1 (by omega) hg).mono ?_; rintro e w1 ⟨rfl, rfl⟩)
  go_loopw [10, 23] (fun o i wr => ∃ (k : Nat) (a : Option Addr) (c : Nat), k ≤ n ∧ i = .int .i64 k ∧ o = .slice a k c ∧ wr.ownsRow w.heap.size 9 1 (.slice a k c) k ((diskBlocks now from_ k).map sval) ∧ Below w.heap.size w wr) (fun _ i _ => n - (intOf i).toNat)
  case atStart => exact ⟨0, none, 0, by omega, rfl, rfl, World.ownsRow_nil _ _ _ _, Below.refl _ _⟩
  case round =>
    obtain ⟨k, a1, c1, hk, rfl, rfl, hown, hb⟩ := hrel
    by_cases hlt : k < n
    · have HO := hid hown
      have HB := hid hb
      clear hown hb
      go_wp2_with fail
      refine (dev_read_at g N now bn bl a m (from_ + k) _ wr (H.out.below HB.out) (by omega) hN (by omega)).mono ?_
      rintro e w2 ⟨t, ht, rfl, hb2⟩
      have HT := hid ht
      have HO2 := hid (own_below HO.out hb2)
      have HB2 := hid (HB.out.trans (hb2.mono HB.out.size))
      clear ht hb2
      go_wp2_with (at_builtin; refine wpList_app1 slt_strs w2 rfl _ _ rfl w.heap.size a1 k c1 _ rfl HO2.out #[.string t] rfl rfl ?c2 ?c3 ?c4 ?c5 ?_)
      case c2 => rfl
      case c3 => unfold maxLen; omega
      case c4 => omega
      case c5 => exact HB2.out.size
      intro a2 c2 w3 hown3 hu3
      have ht : (diskBlocks now from_ k).map sval ++ [Value.string t] = (diskBlocks now from_ (k + 1)).map sval := by
        rw [diskBlocks_succ, ← HT.out]
        simp [sval]
      rw [ht] at hown3
      have HB3 := hid (HB2.out.trans (hu3.below HB2.out.size (fun j hj => (HO2.out.lt j (by rw [ownBlock_slice]; exact hj)).1)))
      have HO3 := hid hown3
      clear hown3 hu3 ht
      go_wp2
      go_roundw
      case rel => exact ⟨k + 1, a2, c2, by omega, by go_num, rfl, HO3.out, HB3.out⟩
      case measure => simp [intOf]; omega
    · obtain rfl : n = k := by omega
      have HO := hid hown
      have HB := hid hb
      clear hown hb
      go_wp2
      obtain ⟨W, rfl⟩ : ∃ W : World, W = wr := ⟨_, rfl⟩
      obtain ⟨D, hD⟩ : ∃ D, D = diskBlocks now from_ n := ⟨_, rfl⟩
      have hDl : D.length = n := by rw [hD]; simp [diskBlocks]
      have hD256 : ∀ x ∈ D, x.length = 256 := by
        rw [hD]
        intro x hx
        simp only [diskBlocks, List.mem_map] at hx
        obtain ⟨j, _, rfl⟩ := hx
        exact H256.out _
      have HR2 : Hid (R = readAll gen n 0 D) := by rw [hD]; exact HR
      have HO2 : Hid (W.ownsRow w.heap.size 9 1 (.slice a1 n c1) n (D.map sval)) := by rw [hD]; exact HO
      have HDD := hid hDl
      have HD2 := hid hD256
      clear hD hDl hD256 HO HR
      have hal : ∃ gr, a1 = some ⟨gr, 0, none⟩ ∧ n ≤ c1 := by
        rcases HO2.out.2 with ⟨q, hq⟩ | ⟨gr, cap, cur, q, _, _, hq, _⟩
        · omega
        · simp only [Value.slice.injEq] at q
          exact ⟨gr, q.1, by omega⟩
      obtain ⟨gr, rfl, hnc⟩ := hal
      have hgr := HO2.out.lt gr rfl
      have HCELL : Hid (∀ j (h : j < n), W.cell? ⟨gr, j, none⟩ = some (.string ⟨(D[j]'(by rw [HDD.out]; exact h)).toArray⟩)) := by
        intro j hj
        have := HO2.out.cells (g := gr) rfl j (sval (D[j]'(by rw [HDD.out]; exact hj))) (by simp [HDD.out, hj])
        rwa [show (⟨gr, 0, none⟩ : Addr).add j = ⟨gr, j, none⟩ by unfold Addr.add; split <;> simp_all] at this
      go_loopw [10, 11] (fun bv ov wr => ∃ (pos f : Nat) (ad : Option Addr) (cap : Nat) (ao : Option Addr) (co : Nat) (out : List (List UInt8)), pos ≤ n ∧ n - pos ≤ cap ∧ n - pos ≤ f ∧ out.length ≤ pos ∧ bv = .slice ad (n - pos) cap ∧ (pos < n → ad = some ⟨gr, pos, none⟩) ∧ ov = .slice ao out.length co ∧ Hid (R = out ++ readAll gen f out.length (D.drop pos)) ∧
          wr.ownsRow W.heap.size 9 1 (.slice ao out.length co) out.length (out.map sval) ∧ Below W.heap.size W wr) (fun bv _ _ => sliceLen bv)
      case atStart => exact ⟨0, n, _, c1, none, 0, [], by omega, by omega, by omega, by simp, rfl, fun _ => rfl, rfl, HR2, World.ownsRow_nil _ _ _ _, Below.refl _ _⟩
      case round =>
        obtain ⟨pos, f, ad, cap, ao, co, out, hp, hcap, hf9, hout, rfl, had, rfl, hRR, hown, hb⟩ := hrel
        by_cases hlt : pos < n
        · have had2 := had hlt
          subst had2
          have HOw := hid hown
          have HBw := hid hb
          have hgt : decide ((0 : Int) < ((n - pos : Nat) : Int)) = true := by simp; omega
          clear had hown hb
          go_wp2_with fail
          have hbs : ((D.drop pos).map (fun l => (⟨l.toArray⟩ : ByteArray))).map (·.data.toList) = D.drop pos := by simp [List.map_map, Function.comp_def]
          have hbl : ((D.drop pos).map (fun l => (⟨l.toArray⟩ : ByteArray))).length = n - pos := by simp [HDD.out]
          have HBL := hid hbl
          refine (wal_whole_at gen out.length gr pos cap (n - pos) ((D.drop pos).map (fun l => (⟨l.toArray⟩ : ByteArray))) wr (by rw [hbl]; omega) (by rw [hbl]; omega) (by omega) (by rw [hbl]; exact hcap) ?_ ?_ (by have := HBw.out.size; omega) hbl.symm).mono ?_
          · intro x hx
            obtain ⟨l, hl, rfl⟩ := List.mem_map.1 hx
            have := HD2.out l (List.mem_of_mem_drop hl)
            simpa [ByteArray.size] using this
          · intro j hj
            rw [hbl] at hj
            rw [(bcell HBw.out).1 gr (pos + j) hgr.2, HCELL.out (pos + j) (by omega)]
            simp
          rw [hbs]
          rintro e w2 ⟨hwo, hb2⟩
          have HOw2 := hid (own_below HOw.out hb2)
          have HBw2 := hid (HBw.out.trans (hb2.mono HBw.out.size))
          obtain ⟨f, rfl⟩ : ∃ f', f = f' + 1 := ⟨f - 1, by omega⟩
          have hne : D.drop pos ≠ [] := by
            intro e
            have := congrArg List.length e
            rw [List.length_drop, HDD.out] at this
            simp at this
            omega
          clear hbs hbl hb2
          cases hO : wholeB gen out.length (D.drop pos) with
          | none =>
            rw [hO] at hwo
            obtain ⟨s, rfl⟩ := hwo
            have hfin : R = out := by rw [hRR.out, readAll, if_neg hne, hO]; simp
            have HFIN := hid hfin
            clear hfin hO hne
            go_wp2
            go_ret2
            rw [HFIN.out]
            refine ⟨ao, co, rfl, ?_, HB.out.trans (HBw2.out.mono HB.out.size)⟩
            have h9 := HOw2.out
            obtain ⟨p1, p2⟩ := h9
            refine ⟨p1, ?_⟩
            rcases p2 with p2 | ⟨g', cap', cur', q1, q2, q3⟩
            · exact Or.inl p2
            · exact Or.inr ⟨g', cap', cur', q1, Nat.le_trans HB.out.size q2, q3⟩
          | some o =>
            obtain ⟨sl, k⟩ := o
            rw [hO] at hwo
            obtain ⟨s, hs, rfl⟩ := hwo
            have hw := wholeB_pos hO
            rw [List.length_drop, HDD.out] at hw
            obtain ⟨hk1, hk2, _, _⟩ := hw
            have hfin : R = (out ++ [sl]) ++ readAll gen f (out ++ [sl]).length (D.drop (pos + k)) := by
              rw [hRR.out, readAll, if_neg hne, hO]
              simp [List.drop_drop]
            have HFIN := hid hfin
            have HS := hid hs
            have hk0 : (((k : Nat) : Int) == 0) = false := by simp; omega
            clear hfin hO hne hs hRR
            go_wp2_with (at_builtin; refine wpList_app1 slt_strs w2 rfl _ _ rfl W.heap.size ao out.length co _ rfl HOw2.out #[.string s] rfl rfl ?c2 ?c3 ?c4 ?c5 ?_)
            case c2 => rfl
            case c3 => unfold maxLen; omega
            case c4 => omega
            case c5 => exact HBw2.out.size
            intro a2 c2 w3 hown3 hu3
            have hx3 : out.map sval ++ [Value.string s] = (out ++ [sl]).map sval := by rw [← HS.out]; simp [sval]
            rw [hx3] at hown3
            have hl3 : (out ++ [sl]).length = out.length + 1 := by simp
            have HL3 := hid hl3
            have HB3 := hid (HBw2.out.trans (hu3.below HBw2.out.size (fun j hj => (HOw2.out.lt j (by rw [ownBlock_slice]; exact hj)).1)))
            have HO3 := hid hown3
            clear hown3 hu3 hx3 hl3
            go_wp2
            go_roundw
            case rel =>
              refine ⟨pos + k, f, _, _, a2, c2, out ++ [sl], by omega, ?_, by omega, by rw [HL3.out]; omega, by rw [Nat.sub_sub], ?_, by rw [HL3.out], HFIN.out, by rw [HL3.out]; exact HO3.out, HB3.out⟩
              · omega
              · intro h
                rw [if_neg (by omega)]
            case measure => simp [sliceLen]; omega
        · have hpn : n - pos = 0 := by omega
          have hfin : R = out := by
            rw [hRR.out, List.drop_of_length_le (by rw [HDD.out]; omega)]
            cases f <;> simp [readAll]
          have HFIN := hid hfin
          have hgt : decide ((0 : Int) < ((n - pos : Nat) : Int)) = false := by simp; omega
          have HOw := hid hown
          have HBw := hid hb
          clear hown hb hfin hRR
          go_wp2
          go_ret2
          rw [HFIN.out]
          refine ⟨ao, co, rfl, ?_, HB.out.trans (HBw.out.mono HB.out.size)⟩
          obtain ⟨p1, p2⟩ := HOw.out
          refine ⟨p1, ?_⟩
          rcases p2 with p2 | ⟨g', cap', cur', q1, q2, q3⟩
          · exact Or.inl p2
          · exact Or.inr ⟨g', cap', cur', q1, Nat.le_trans HB.out.size q2, q3⟩

end Go.Proofs.Ytjnipfangjnpcaa
