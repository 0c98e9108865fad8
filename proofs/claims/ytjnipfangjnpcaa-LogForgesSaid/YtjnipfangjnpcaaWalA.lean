/- The blocks that package wal lays. -/
import Derived.Test.YtjnipfangjnpcaaPackB
namespace Go.Proofs.Ytjnipfangjnpcaa
open Go.RowKit Go.Proofs

/-- how many blocks a record of n bytes takes -/
def blocksN (n : Nat) : Nat := if n = 0 then 1 else (n - 1) / 224 + 1

set_option maxHeartbeats 400000 in
theorem wal_blocks (n : Nat) (w : World) (hn : n ≤ 1073741824) :
    Calls Try.prog 25 #[.int .i64 n] w fun r w' => r = .returned (.int .i64 (blocksN n : Nat)) ∧ w = w' := by
  unfold blocksN
  by_cases h : n = 0
  · subst h
    go_enter Try.func25, Try.ntmps25
    go_wp2
    go_ret
    exact ⟨rfl, rfl⟩
  · have h2 : ((n : Int) == 0) = false := by simpa using h
    rw [if_neg h]
    have e : ((((n - 1) / 224 + 1 : Nat)) : Int) = ((n : Int) - 1) / 224 + 1 := by omega
    rw [e]
    go_enter Try.func25, Try.ntmps25
    go_wp2
    go_ret
    exact ⟨rfl, rfl⟩

theorem pk_new (w : World) (T : TypeId) : PkAt (w.alloc (.cells #[.int .i64 0, .slice none 0 0] T)) w.heap.size 0 [] none := by
  refine ⟨by go_simp, by go_simp, by go_simp, by simp, 0, by go_simp, World.ownsRow_nil _ _ _ _⟩

/-- a block's head -/
def headB (gen number place of bytes : Nat) : List UInt8 :=
  [87, 76, 79, 71] ++ (words 8 [gen] ++ words 4 [number] ++ words 2 [place, of, bytes] ++ List.replicate 10 0)

set_option maxRecDepth 20000 in
set_option maxHeartbeats 800000 in
theorem wal_head (gen number place of bytes : Nat) (w : World) (h1 : number < 4294967296) (h2 : place < 65536) (h3 : of < 65536) (h4 : bytes < 65536) :
    Calls Try.prog 105 #[.agg #[.int .u64 gen, .int .i64 number, .int .i64 place, .int .i64 of, .int .i64 bytes]] w fun r w' =>
      ∃ s : ByteArray, s.data.toList = headB gen number place of bytes ∧ r = .returned (.string s) ∧ Below w.heap.size w w' := by
  have hn0 : ∀ k, ownS (w.heap.size + 1) none k → k = w.heap.size + 1 := fun k hk => by rcases hk with h | h; exact h; simp at h
  have HN0 := hid hn0
  clear hn0
  go_enter Try.func105, Try.ntmps105
  go_wp2_with fail
  refine (pk_words (w.heap.size + 1) [] none (w.heap.size + 1 + 1) 1 [gen] _ (by have h := (pk_new (w.alloc (.cells #[.int .u64 gen, .int .i64 number, .int .i64 place, .int .i64 of, .int .i64 bytes] 138)) 178).kept (Upd.alloc (fun _ => False) _ (.cells #[.int .u64 gen] 23)) (fun _ _ h => h); simpa using h) (by simp) (by simp) (by exact cells_new _ .u64 [gen] _ _ (by simp)) (by simp) (by intro h; have := HN0.out _ h; omega)).mono ?_
  rintro e w1 ⟨a1, rfl, hp1, hu1⟩
  have hz1 := hu1.size
  simp only [World.size_alloc] at hz1
  have k1 : w1.cell? ⟨w.heap.size, 1, none⟩ = some (.int .i64 number) := by rw [hu1.cell (by simp; omega) (fun h => by have := HN0.out _ h; omega)]; go_simp
  have k2 : w1.cell? ⟨w.heap.size, 2, none⟩ = some (.int .i64 place) := by rw [hu1.cell (by simp; omega) (fun h => by have := HN0.out _ h; omega)]; go_simp
  have k3 : w1.cell? ⟨w.heap.size, 3, none⟩ = some (.int .i64 of) := by rw [hu1.cell (by simp; omega) (fun h => by have := HN0.out _ h; omega)]; go_simp
  have k4 : w1.cell? ⟨w.heap.size, 4, none⟩ = some (.int .i64 bytes) := by rw [hu1.cell (by simp; omega) (fun h => by have := HN0.out _ h; omega)]; go_simp
  have HP1 := hid hp1
  have HU1 := hid hu1
  clear hp1 hu1
  go_wp2_with fail
  refine (pk_small (w.heap.size + 1) _ a1 4 w1.heap.size 1 [number] _ (HP1.out.kept (Upd.alloc (fun _ => False) _ _) (fun _ _ h => h)) (by unfold fitsB; omega) (by intro x hx; simp at hx; subst hx; unfold fitsB; omega) (by simp) (by simp [words_length]) (by exact cells_new _ .i64 [number] _ _ rfl) (by simp) (by intro h; have := HP1.out.lt _ h; omega)).mono ?_
  rintro e w2 ⟨a2, rfl, hp2, hu2⟩
  have hu12 := (HU1.out.trans (Upd.alloc _ _ _)).trans hu2
  have l2 : w2.cell? ⟨w.heap.size, 2, none⟩ = some (.int .i64 place) := by rw [hu12.cell (by simp; omega) (fun h => by have := HN0.out _ h; omega)]; go_simp
  have l3 : w2.cell? ⟨w.heap.size, 3, none⟩ = some (.int .i64 of) := by rw [hu12.cell (by simp; omega) (fun h => by have := HN0.out _ h; omega)]; go_simp
  have l4 : w2.cell? ⟨w.heap.size, 4, none⟩ = some (.int .i64 bytes) := by rw [hu12.cell (by simp; omega) (fun h => by have := HN0.out _ h; omega)]; go_simp
  have HP2 := hid hp2
  have HU2 := hid hu12
  clear hp2 hu12 hu2 k1 k2 k3 k4
  go_wp2_with fail
  refine (pk_small (w.heap.size + 1) _ a2 2 w2.heap.size 3 [place, of, bytes] _ (HP2.out.kept (Upd.alloc (fun _ => False) _ _) (fun _ _ h => h)) (by unfold fitsB; omega) (by intro x hx; simp at hx; rcases hx with rfl | rfl | rfl <;> (unfold fitsB; omega)) (by simp) (by simp [words_length]) (by exact cells_new _ .i64 [place, of, bytes] _ _ rfl) (by simp) (by intro h; have := HP2.out.lt _ h; omega)).mono ?_
  rintro e w3 ⟨a3, rfl, hp3, hu3⟩
  have hu13 := (HU2.out.trans (Upd.alloc _ _ _)).trans hu3
  have HP3 := hid hp3
  have HU3 := hid hu13
  clear hp3 hu13 hu3 l2 l3 l4
  go_wp2_with fail
  refine (pk_fill (w.heap.size + 1) _ a3 28 w3 HP3.out (by simp [words_length]) (by simp)).mono ?_
  rintro e w4 ⟨a4, rfl, hp4, hu4⟩
  have HP4 := hid hp4
  have HU4 := hid (HU3.out.trans hu4)
  clear hp4 hu4
  go_wp2_with fail
  refine (pk_done (w.heap.size + 1) _ a4 w4 HP4.out).mono ?_
  rintro e w5 ⟨s, hs, rfl, rfl⟩
  have hsz : s.size ≤ 28 := by rw [size_data, hs]; simp [words_length]
  have HS := hid hs
  clear hs
  go_wp2
  go_ret
  refine ⟨_, ?_, rfl, ?_⟩
  · rw [append_data, HS.out]
    simp [headB, words_length]
  · exact ((((Below.refl _ w).alloc (Nat.le_refl _) _).alloc (by simp) _).alloc (by simp; omega) _).trans (HU4.out.below (by simp; omega) (fun k hk => by have := HN0.out k hk; omega))

/-- a block -/
def blockB (gen number place of : Nat) (part : List UInt8) : List UInt8 :=
  headB gen number place of part.length ++ part ++ List.replicate (224 - part.length) 0

theorem headB_length (gen number place of bytes : Nat) : (headB gen number place of bytes).length = 32 := by simp [headB, words_length]

set_option maxRecDepth 20000 in
set_option maxHeartbeats 800000 in
theorem wal_put (gen number place of : Nat) (part : ByteArray) (w : World) (h1 : number < 4294967296) (h2 : place < 65536) (h3 : of < 65536) (h4 : part.size ≤ 224) :
    Calls Try.prog 78 #[.agg #[.int .u64 gen, .int .i64 number, .int .i64 place, .int .i64 of, .int .i64 part.size], .string part] w fun r w' =>
      ∃ s : ByteArray, s.data.toList = blockB gen number place of part.data.toList ∧ r = .returned (.string s) ∧ Below w.heap.size w w' := by
  have hn0 : ∀ k, ownS (w.heap.size + 1) none k → k = w.heap.size + 1 := fun k hk => by rcases hk with h | h; exact h; simp at h
  have HN0 := hid hn0
  clear hn0
  have hsub : (224 : Int) - part.size = ((224 - part.size : Nat) : Int) := by omega
  go_enter Try.func78, Try.ntmps78
  go_wp2_with fail
  clear hsub
  refine (pk_fill (w.heap.size + 1) [] none (224 - part.size) _ (by simpa using pk_new (w.alloc (.cells #[.int .u64 gen, .int .i64 number, .int .i64 place, .int .i64 of, .int .i64 part.size] 138)) 178) (by simp) (by omega)).mono ?_
  rintro e w1 ⟨a1, rfl, hp1, hu1⟩
  have hz1 := hu1.size
  simp only [World.size_alloc] at hz1
  have k0 : w1.cell? ⟨w.heap.size, 0, none⟩ = some (.int .u64 gen) := by rw [hu1.cell (by simp; omega) (fun h => by have := HN0.out _ h; omega)]; go_simp
  have k1 : w1.cell? ⟨w.heap.size, 1, none⟩ = some (.int .i64 number) := by rw [hu1.cell (by simp; omega) (fun h => by have := HN0.out _ h; omega)]; go_simp
  have k2 : w1.cell? ⟨w.heap.size, 2, none⟩ = some (.int .i64 place) := by rw [hu1.cell (by simp; omega) (fun h => by have := HN0.out _ h; omega)]; go_simp
  have k3 : w1.cell? ⟨w.heap.size, 3, none⟩ = some (.int .i64 of) := by rw [hu1.cell (by simp; omega) (fun h => by have := HN0.out _ h; omega)]; go_simp
  have k4 : w1.cell? ⟨w.heap.size, 4, none⟩ = some (.int .i64 part.size) := by rw [hu1.cell (by simp; omega) (fun h => by have := HN0.out _ h; omega)]; go_simp
  have HP1 := hid hp1
  have HU1 := hid hu1
  clear hp1 hu1
  go_wp2_with fail
  refine (pk_done (w.heap.size + 1) _ a1 w1 HP1.out).mono ?_
  rintro e w5 ⟨s, hs, rfl, rfl⟩
  have hsz : s.size ≤ 224 := by rw [size_data, hs]; simp
  have HS := hid hs
  clear hs
  go_wp2_with fail
  refine (wal_head gen number place of part.size w1 h1 h2 h3 (by omega)).mono ?_
  rintro e w2 ⟨s2, hs2, rfl, hb2⟩
  have hsz2 : s2.size = 32 := by rw [size_data, hs2, headB_length]
  have hsz3 : s2.size ≤ 32 := by omega
  have HS2 := hid hs2
  have HB := hid hb2
  clear hs2 hb2 hsz2
  go_wp2
  go_ret
  refine ⟨_, ?_, rfl, ?_⟩
  · rw [append_data, append_data, HS.out, HS2.out]
    simp [blockB]
  · exact (((Below.refl _ w).alloc (Nat.le_refl _) _).alloc (by simp) _).trans ((HU1.out.below (by simp; omega) (fun k hk => by have := HN0.out k hk; omega)).trans (HB.out.mono (by omega)))

/-- a record's blocks, from the k-th of n on -/
def layB (gen number : Nat) (l : List UInt8) : List (List UInt8) :=
  (List.range (blocksN l.length)).map fun k => blockB gen number k (blocksN l.length) ((l.drop (k * 224)).take 224)

theorem slt_strs : SlT Try.prog 22 9 (.string ⟨#[]⟩) 1 16 := ⟨Try.underlying22, info_parts (by kernel_rfl), rfl, by decide⟩

theorem blocksN_le (n m : Nat) (h : n ≤ 224 * m) (hm : 1 ≤ m) : blocksN n ≤ m := by
  unfold blocksN
  split <;> omega

theorem blocksN_pos (n : Nat) : 1 ≤ blocksN n := by
  unfold blocksN
  split <;> omega

/-- where a part of a record lies -/
theorem blocksN_at (n k : Nat) (h : k < blocksN n) : k * 224 ≤ n ∧ (k + 1 < blocksN n → (k + 1) * 224 ≤ n) ∧ min ((k + 1) * 224) n - k * 224 ≤ 224 := by
  unfold blocksN at h ⊢
  split at h <;> split <;> omega

theorem ext_part (s : ByteArray) (k X : Nat) (h : X = min ((k + 1) * 224) s.size) (hk : k * 224 ≤ s.size) :
    (s.extract (k * 224) X).data.toList = ((s.data.toList.drop (k * 224)).take 224) ∧ (s.extract (k * 224) X).size = X - k * 224 := by
  have hl : s.data.toList.length = s.size := rfl
  constructor
  · rw [Lib.extract_data]
    rw [List.take_eq_take_iff]
    simp only [List.length_drop, hl]
    omega
  · simp
    omega

theorem layB_take (gen number : Nat) (l : List UInt8) (k : Nat) (h : k < blocksN l.length) :
    (layB gen number l).take (k + 1) = (layB gen number l).take k ++ [blockB gen number k (blocksN l.length) ((l.drop (k * 224)).take 224)] := by
  have hl : k < (layB gen number l).length := by simpa [layB] using h
  rw [List.take_succ_eq_append_getElem hl]
  simp [layB]

theorem layB_length (gen number : Nat) (l : List UInt8) : (layB gen number l).length = blocksN l.length := by simp [layB]

set_option maxRecDepth 20000 in
set_option maxHeartbeats 800000 in
theorem wal_lay (gen number : Nat) (s : ByteArray) (w : World) (h1 : number < 4294967296) (hs : s.size ≤ 100000) :
    Calls Try.prog 50 #[.int .u64 gen, .int .i64 number, .string s] w fun r w' =>
      ∃ a c, r = .returned (.slice a (layB gen number s.data.toList).length c) ∧ w'.ownsRow w.heap.size 9 1 (.slice a (layB gen number s.data.toList).length c) (layB gen number s.data.toList).length ((layB gen number s.data.toList).map sval) ∧ Below w.heap.size w w' := by
  obtain ⟨n, hn⟩ : ∃ n, n = blocksN s.size := ⟨_, rfl⟩
  have hn9 : n ≤ 500 := by rw [hn]; exact blocksN_le _ _ (by omega) (by omega)
  have HN := hid hn
  clear hn
  go_enter Try.func50, Try.ntmps50
  go_wp2_with (go_at_call 25; refine (wal_blocks s.size _ (by omega)).mono ?_; rintro e w1 ⟨rfl, rfl⟩; rw [← HN.out])
  go_loopw [7, 15] (fun o i wr => ∃ (k : Nat) (a : Option Addr) (c : Nat), k ≤ n ∧ i = .int .i64 k ∧ o = .slice a k c ∧ wr.ownsRow w.heap.size 9 1 (.slice a k c) k (((layB gen number s.data.toList).map sval).take k) ∧ Below w.heap.size w wr) (fun _ i _ => n - (intOf i).toNat)
  case atStart => exact ⟨0, none, 0, by omega, rfl, rfl, World.ownsRow_nil _ _ _ _, Below.refl _ _⟩
  case round =>
    obtain ⟨k, a, c, hk, rfl, rfl, hown, hb⟩ := hrel
    have hat := blocksN_at s.size k
    rw [← HN.out] at hat
    by_cases hlt : k < n
    · obtain ⟨p1, p2, p3⟩ := hat hlt
      have HO := hid hown
      have HB := hid hb
      clear hat hown hb
      have hm : min (((k : Int) + 1) * 224) (s.size : Int) = ((min ((k + 1) * 224) s.size : Nat) : Int) := by omega
      go_wp2_with fail
      · have E := ext_part s k s.size (by omega) p1
        obtain ⟨part, hpart⟩ : ∃ p, p = s.extract (k * 224) s.size := ⟨_, rfl⟩
        rw [← hpart] at E ⊢
        rw [← E.2]
        have hps : part.size ≤ 224 := by omega
        have HE := hid E
        clear hpart E
        refine (wal_put gen number k n part wr h1 (by omega) (by omega) hps).mono ?_
        rintro e w2 ⟨b, hbd, rfl, hb2⟩
        have HO2 : Hid (w2.ownsRow w.heap.size 9 1 (.slice a k c) k (((layB gen number s.data.toList).map sval).take k)) := own_below HO.out hb2
        have HB2 := hid (HB.out.trans (hb2.mono HB.out.size))
        have HBD := hid hbd
        clear hb2 hbd
        go_wp2_with (at_builtin; refine wpList_app1 slt_strs w2 rfl _ _ rfl w.heap.size a k c _ rfl HO2.out #[.string b] rfl rfl ?c2 ?c3 ?c4 ?c5 ?_)
        case c2 => rfl
        case c3 => unfold maxLen; omega
        case c4 => omega
        case c5 => exact HB2.out.size
        intro a2 c2 w3 hown3 hu3
        have ht : ((layB gen number s.data.toList).map sval).take k ++ [Value.string b] = ((layB gen number s.data.toList).map sval).take (k + 1) := by
          rw [← List.map_take, ← List.map_take, layB_take gen number s.data.toList k (by rw [← size_data, ← HN.out]; exact hlt), ← size_data, ← HN.out, ← HE.out.1, ← HBD.out]
          simp [sval]
        rw [ht] at hown3
        have HB3 := hid (HB2.out.trans (hu3.below HB2.out.size (fun j hj => (HO2.out.lt j (by rw [ownBlock_slice]; exact hj)).1)))
        clear hu3 ht
        have HO3 := hid hown3
        clear hown3
        go_wp2
        go_roundw
        case rel => exact ⟨k + 1, a2, c2, by omega, by go_num, rfl, HO3.out, HB3.out⟩
        case measure => simp [intOf]; omega
      · have E := ext_part s k (((k : Int) + 1) * 224).toNat (by omega) p1
        obtain ⟨part, hpart⟩ : ∃ p, p = s.extract (k * 224) (((k : Int) + 1) * 224).toNat := ⟨_, rfl⟩
        rw [← hpart] at E ⊢
        rw [← E.2]
        have hps : part.size ≤ 224 := by omega
        have HE := hid E
        clear hpart E
        refine (wal_put gen number k n part wr h1 (by omega) (by omega) hps).mono ?_
        rintro e w2 ⟨b, hbd, rfl, hb2⟩
        have HO2 : Hid (w2.ownsRow w.heap.size 9 1 (.slice a k c) k (((layB gen number s.data.toList).map sval).take k)) := own_below HO.out hb2
        have HB2 := hid (HB.out.trans (hb2.mono HB.out.size))
        have HBD := hid hbd
        clear hb2 hbd
        go_wp2_with (at_builtin; refine wpList_app1 slt_strs w2 rfl _ _ rfl w.heap.size a k c _ rfl HO2.out #[.string b] rfl rfl ?c2 ?c3 ?c4 ?c5 ?_)
        case c2 => rfl
        case c3 => unfold maxLen; omega
        case c4 => omega
        case c5 => exact HB2.out.size
        intro a2 c2 w3 hown3 hu3
        have ht : ((layB gen number s.data.toList).map sval).take k ++ [Value.string b] = ((layB gen number s.data.toList).map sval).take (k + 1) := by
          rw [← List.map_take, ← List.map_take, layB_take gen number s.data.toList k (by rw [← size_data, ← HN.out]; exact hlt), ← size_data, ← HN.out, ← HE.out.1, ← HBD.out]
          simp [sval]
        rw [ht] at hown3
        have HB3 := hid (HB2.out.trans (hu3.below HB2.out.size (fun j hj => (HO2.out.lt j (by rw [ownBlock_slice]; exact hj)).1)))
        clear hu3 ht
        have HO3 := hid hown3
        clear hown3
        go_wp2
        go_roundw
        case rel => exact ⟨k + 1, a2, c2, by omega, by go_num, rfl, HO3.out, HB3.out⟩
        case measure => simp [intOf]; omega
    · obtain rfl : k = n := by omega
      have hk3 : (layB gen number s.data.toList).length = k := by rw [layB_length, ← size_data, ← HN.out]
      rw [List.take_of_length_le (by simp; omega)] at hown
      have HO := hid hown
      have HB := hid hb
      have HK := hid hk3
      clear hat hown hb hk3
      go_wp2
      go_ret
      refine ⟨a, c, by rw [HK.out]; rfl, by rw [HK.out]; exact HO.out, HB.out⟩

end Go.Proofs.Ytjnipfangjnpcaa
