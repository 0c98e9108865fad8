/- The first call of chapter 21's statements answers true. -/
import Derived.Test.YtjnipfangjnpcaaLogPlain
import Derived.Test.YtjnipfangjnpcaaLawA
namespace Go.Proofs.Ytjnipfangjnpcaa
open Go.RowKit Go.Proofs Go.Maps

theorem Below.of_upd {S S' : Nat → Prop} {w w' : World} {B : Nat} (h : Upd S w S' w') (hB : B ≤ w.heap.size) (hn : ∀ k, S k → B ≤ k) : Below B w w' := h.below hB hn

/-- what is owned may be said to be owned from a lower block on -/
theorem own_low {w : World} {B B' : Nat} {e : TypeId} {size : Nat} {v : Value} {n : Nat} {xs : List Value} (h : w.ownsRow B e size v n xs) (hB : B' ≤ B) : w.ownsRow B' e size v n xs := by
  obtain ⟨p1, p2⟩ := h
  refine ⟨p1, ?_⟩
  rcases p2 with p2 | ⟨g', cap', cur', q1, q2, q3⟩
  · exact Or.inl p2
  · exact Or.inr ⟨g', cap', cur', q1, Nat.le_trans hB q2, q3⟩

theorem alive_puts (now : Nat → Option (List UInt8)) : (logPuts 2 16 5 0 0 now [[97, 98], []]).1 = 0 ∧ (logPuts 2 16 5 0 0 now [[97, 98], []]).2.1 = 2 ∧ (logPuts 2 16 5 0 0 now [[97, 98], []]).2.2.1 = 2 := by
  simp [logPuts, logPut, blocksN]

set_option maxRecDepth 20000 in
set_option maxHeartbeats 3200000 in
theorem log_alive (w : World) : Calls Try.prog 6 #[] w fun e w' => e = .returned (.bool true) ∧ Below w.heap.size w w' := by
  go_enter Try.func6, Try.ntmps6
  go_wp2_with fail
  refine (dev_new 20 w (by omega) (by omega)).mono ?_
  rintro e w1 ⟨g, bn, bl, rfl, hS, hd, hb1⟩
  have HS := hid hS
  have HD1 := hid hd
  have HB1 := hid hb1
  clear hS hd hb1
  go_wp2_with fail
  refine (wal_new g 20 2 16 5 _ bn bl none 0 w1 HD1.out (by omega) (by omega) (by omega) (by omega)).mono ?_
  rintro e w2 ⟨rfl, hl2, hu2, hlt2⟩
  have HL2 := hid hl2
  have HU2 := hid hu2
  clear hl2 hu2
  have hgl : w1.heap.size < w2.heap.size := hlt2
  obtain ⟨P, hP⟩ : ∃ P, P = logPuts 2 16 5 0 0 (fun _ => none) [[97, 98], []] := ⟨_, rfl⟩
  have hP0 : P.1 = 0 := by rw [hP]; exact (alive_puts _).1
  have hP1 : P.2.1 = 2 := by rw [hP]; exact (alive_puts _).2.1
  have hP2 : P.2.2.1 = 2 := by rw [hP]; exact (alive_puts _).2.2
  have HP := hid hP
  have HP0 := hid hP0
  have HP1 := hid hP1
  have HP2 := hid hP2
  clear hP hP0 hP1 hP2
  go_wp2_with fail
  refine (log_append w1.heap.size g 20 2 16 5 0 0 _ bn bl none 0 w2.heap.size 0 2 [⟨#[97, 98]⟩, ⟨#[]⟩] _ (HL2.out.kept (Upd.alloc (fun _ => False) w2 _) (fun _ _ h => h)) (by intro x hx; simp at hx; rcases hx with rfl | rfl <;> decide) (by simp) (by simp) (by omega) ?_ (by simp) ?_).mono ?_
  · intro j hj
    rw [cell_alloc_at _ _ _ _ _ rfl]
    match j, hj with
    | 0, _ => rfl
    | 1, _ => rfl
  · intro h
    rcases h with h | h
    · omega
    · have := HD1.out.lt _ h
      omega
  have hmap : ([⟨#[97, 98]⟩, ⟨#[]⟩] : List ByteArray).map (·.data.toList) = [[97, 98], []] := rfl
  rw [hmap, ← HP.out]
  rintro e w3 ⟨a3, m3, rfl, hl3, hm3, hu3⟩
  rw [HP0.out]
  rw [HP1.out, HP2.out] at hl3
  have HL3 := hid hl3
  have HU3 : Hid (Upd (lgS w1.heap.size g bn bl none) w2 (lgS w1.heap.size g bn bl a3) w3) := (Upd.alloc _ w2 _).trans hu3
  have hm3' : m3 ≤ 1000 := by simpa using hm3
  clear hl3 hu3 hm3 hmap
  go_wp2_with fail
  refine (log_flush w1.heap.size g 20 2 16 5 2 2 P.2.2.2 bn bl a3 m3 w3 HL3.out (by unfold Big; omega)).mono ?_
  rintro e w4 ⟨rfl, hl4, hu4⟩
  have HL4 := hid hl4
  have HU4 := hid (HU3.out.trans hu4)
  clear hl4 hu4
  have hO6 : Hid (∀ j, Other 6 (dget P.2.2.2 j)) := by
    rw [HP.out]
    exact other_puts (by omega) (by omega) (by omega) _ _ _ _ (other_zero 6 (by omega) (by omega))
  have hR5 : Hid (readAll 5 16 0 (diskBlocks P.2.2.2 2 16) = [[97, 98], []]) := by
    have h := (read_back 2 16 5 (fun _ => none) [[97, 98], []] (by intro r hr; simp at hr; rcases hr with rfl | rfl <;> simp) (other_zero 5 (by omega) (by omega))).1
    rw [← HP.out, HP2.out] at h
    exact h
  have hR6 : Hid (readAll 6 16 0 (diskBlocks P.2.2.2 2 16) = []) := read_none 2 16 6 _ hO6.out
  go_wp2_with fail
  refine (wal_read g 20 2 16 5 P.2.2.2 bn bl none 0 w4 HL4.out.dk (by omega) (by omega) (by omega) (by omega) (by omega) (fun i => (hO6.out i).1)).mono ?_
  rw [hR5.out]
  rintro e w5 ⟨al, cl, rfl, ho5, hb5⟩
  have hal : ∃ gr, al = some ⟨gr, 0, none⟩ := by
    rcases ho5.2 with ⟨q, hq⟩ | ⟨gr, cap, cur, q, _⟩
    · simp at hq
    · simp only [Value.slice.injEq] at q
      exact ⟨gr, q.1⟩
  obtain ⟨gr, rfl⟩ := hal
  have x5 : w5.cell? ⟨gr, 0, none⟩ = some (.string ⟨#[97, 98]⟩) := by
    have := ho5.cells (g := gr) rfl 0 (sval [97, 98]) rfl
    simpa [Addr.add, sval] using this
  have HB5 := hid hb5
  have hgr5 : gr < w5.heap.size := (ho5.lt gr rfl).2
  clear ho5 hb5
  go_wp2_with fail
  refine (wal_read g 20 2 16 6 P.2.2.2 bn bl none 0 w5 (HL4.out.dk.below HB5.out) (by omega) (by omega) (by omega) (by omega) (by omega) (fun i => (hO6.out i).1)).mono ?_
  rw [hR6.out]
  rintro e w6 ⟨al6, cl6, rfl, ho6, hb6⟩
  have x6 : w6.cell? ⟨gr, 0, none⟩ = some (.string ⟨#[97, 98]⟩) := by rw [(bcell hb6).1 gr 0 hgr5]; exact x5
  have HL6 := hid (HL4.out.kept ((Upd.of_below_at HB5.out).trans (Upd.of_below (S := fun k => w4.heap.size ≤ k) hb6)) (by
    intro k hk e
    rcases hk with rfl | hk
    · have := cell_lt HL4.out.l0; omega
    · have := HL4.out.dk.lt k hk; omega))
  have l2 := HL6.out.l2
  have l4 := HL6.out.l4
  have l5 := HL6.out.l5
  have HB6 : Hid (Below w.heap.size w w6) := by
    have h1 : Below w.heap.size w1 w4 := ((HU2.out.below HB1.out.size HS.out).trans (HU4.out.below (by have := HB1.out.size; omega) (fun k hk => by
      rcases hk with rfl | hk
      · exact HB1.out.size
      · exact HS.out k hk)))
    exact ((HB1.out.trans h1).trans (HB5.out.mono (Nat.le_trans HB1.out.size h1.size))).trans (hb6.mono (Nat.le_trans HB1.out.size (Nat.le_trans h1.size HB5.out.size)))
  clear ho6 hb6 x5
  go_wp2_with (first | (go_at_call 24; refine (wal_left w1.heap.size 16 2 w6 l2 l4 (by omega) (by omega)).mono ?_; rintro e w7 ⟨rfl, q, rfl⟩) | (go_at_call 12; refine (wal_len w1.heap.size 2 _ (by go_simp)).mono ?_; rintro e w8 ⟨rfl, rfl⟩) | (go_at_call 25; refine (wal_blocks 225 _ (by omega)).mono ?_; rintro e w9 ⟨rfl, rfl⟩))
  go_ret
  exact ⟨rfl, below_drewN HB6.out _⟩

end Go.Proofs.Ytjnipfangjnpcaa
