/- The calls of package pack that read. -/
import Derived.Test.YtjnipfangjnpcaaPackB
namespace Go.Proofs.Ytjnipfangjnpcaa
open Go.RowKit Go.Proofs

/-- a number of bytes, the lowest first -/
def leV : List UInt8 → Nat
  | [] => 0
  | b :: l => b.toNat + 256 * leV l

theorem leV_snoc (l : List UInt8) (b : UInt8) : leV (l ++ [b]) = leV l + b.toNat * 256 ^ l.length := by
  induction l with
  | nil => simp [leV]
  | cons x l ih => simp only [List.cons_append, leV, ih, List.length_cons, Nat.pow_succ, Nat.mul_add]; rw [Nat.mul_comm (256 ^ l.length) 256, Nat.mul_left_comm]; omega

theorem leV_lt (l : List UInt8) : leV l < 256 ^ l.length := by
  induction l with
  | nil => simp [leV]
  | cons b l ih =>
    have := b.toNat_lt
    simp only [leV, List.length_cons, Nat.pow_succ]
    omega

/-- '[]byte(s)': the bytes lie in a new row -/
theorem bytes_new {P : Program} (w : World) (src dst e : TypeId) (s : ByteArray) (hs : P.underlying src = some .string) (hd : P.underlying dst = some (.slice e)) (he : P.underlying e = some (.int .u8)) :
    ∃ cap w1, (Go.convert src dst (.string s)).run P w = .ok (.slice (some ⟨w.heap.size, 0, none⟩) s.size cap) w1 ∧ Below w.heap.size w w1 ∧ w.heap.size < w1.heap.size ∧
      (∀ j (h : j < s.size), w1.cell? ⟨w.heap.size, j, none⟩ = some (.int .u8 (s[j].toNat : Nat))) ∧ ∀ j, j < s.size → w1.frozen? ⟨w.heap.size, j, none⟩ = false := by
  refine ⟨_, _, run_bytes_of_string w src dst e s hs hd he, ((Below.refl _ _).drew).alloc (by simp) _, by simp, fun j h => ?_, fun j h => ?_⟩
  · have := World.cell?_alloc_mark w.drew (bytesRow s (grownCap w s.size 0 e)) e ((bytesRow s (grownCap w s.size 0 e)).size, (bytesRow s (grownCap w s.size 0 e)).size + 1) j
    rw [bytesRow_at s _ j h] at this
    exact this
  · have hb : s.size ≤ (bytesRow s (grownCap w s.size 0 e)).size := by simp [bytesRow]
    unfold World.frozen?
    have : (w.drew.alloc (.cells (bytesRow s (grownCap w s.size 0 e)) e ((bytesRow s (grownCap w s.size 0 e)).size, (bytesRow s (grownCap w s.size 0 e)).size + 1))).heap[w.heap.size]? = some (.cells (bytesRow s (grownCap w s.size 0 e)) e ((bytesRow s (grownCap w s.size 0 e)).size, (bytesRow s (grownCap w s.size 0 e)).size + 1)) := by
      show (w.heap.push _)[w.heap.size]? = _
      simp
    simp only [this]
    simp
    omega

theorem pow_8 (k : Nat) : (2 : Nat) ^ (8 * k) = 256 ^ k := by rw [Nat.pow_mul]

theorem or_byte (V b k : Nat) (hk : k < 8) (hV : V < 256 ^ k) (hb : b < 256) :
    bits BinOp.or IntKind.u64 (V : Int) (IntKind.u64.wrap ((b : Int) * 2 ^ (8 * k))) = ((V + b * 256 ^ k : Nat) : Int) := by
  have h1 : b * 256 ^ k < 18446744073709551616 := by
    have h2 : b * 256 ^ k < 256 ^ (k + 1) := by rw [Nat.pow_succ, Nat.mul_comm]; exact Nat.mul_lt_mul_of_pos_left hb (Nat.pow_pos (by omega))
    have h3 : (256 : Nat) ^ (k + 1) ≤ 256 ^ 8 := Nat.pow_le_pow_right (by omega) (by omega)
    have h4 : (256 : Nat) ^ 8 = 18446744073709551616 := by decide
    omega
  have h5 : ((b : Int) * 2 ^ (8 * k)) = ((b * 256 ^ k : Nat) : Int) := by rw [← pow_8]; push_cast; rfl
  rw [h5, IntWalk.u64_in _ (by omega)]
  have h6 : V < 18446744073709551616 := by
    have h3 : (256 : Nat) ^ k ≤ 256 ^ 8 := Nat.pow_le_pow_right (by omega) (by omega)
    have h4 : (256 : Nat) ^ 8 = 18446744073709551616 := by decide
    omega
  rw [bits_or_u64_nat V (b * 256 ^ k) h6 h1]
  congr 1
  have h7 := Nat.shiftLeft_add_eq_or_of_lt (b := V) (i := 8 * k) (by rw [pow_8]; exact hV) b
  rw [Nat.shiftLeft_eq, pow_8] at h7
  rw [Nat.or_comm, ← h7, Nat.add_comm]

set_option maxRecDepth 20000 in
set_option maxHeartbeats 800000 in
theorem up_high (s : ByteArray) (w : World) (hs : s.size ≤ 8) :
    Calls Try.prog 88 #[.string s] w fun r w' => r = .returned (.int .u64 (leV s.data.toList : Nat)) ∧ Below w.heap.size w w' := by
  obtain ⟨cap, w1, hconv, hb, hlt, hcell, hfr⟩ := bytes_new (P := Try.prog) w 9 148 5 s Try.underlying9 Try.underlying148 Try.underlying5
  have HC := hid hcell
  have HB := hid hb
  clear hcell hfr hb
  go_enter Try.func88, Try.ntmps88
  go_wp2
  go_loop [3, 9] (fun v i => ∃ k : Nat, k ≤ s.size ∧ i = .int .i64 k ∧ v = .int .u64 (leV (s.data.toList.take k) : Nat)) (fun _ i => s.size - (intOf i).toNat)
  case atStart => exact ⟨0, by omega, rfl, rfl⟩
  case round =>
    obtain ⟨k, hk, rfl, rfl⟩ := hrel
    by_cases hk2 : k < s.size
    · have hc := HC.out k hk2
      obtain ⟨V, HV⟩ : ∃ V, Hid (V = leV (s.data.toList.take k)) := ⟨_, rfl⟩
      rw [← HV.out]
      obtain ⟨b, hbb⟩ : ∃ b, b = s[k] := ⟨_, rfl⟩
      rw [← hbb] at hc
      have hb8 := b.toNat_lt
      have HBB := hid hbb
      clear hbb
      go_wp2
      go_round
      case rel =>
        refine ⟨k + 1, by omega, by go_num, ?_⟩
        have hl : s.data.toList.length = s.size := rfl
        have hlk : (s.data.toList.take k).length = k := by rw [List.length_take, hl]; omega
        have hV : V < 256 ^ k := by rw [HV.out]; have := leV_lt (s.data.toList.take k); rw [hlk] at this; exact this
        rw [or_byte V b.toNat k (by omega) hV hb8, List.take_succ_eq_append_getElem (by rw [hl]; exact hk2), leV_snoc, hlk, ← HV.out]
        rw [HBB.out]
        rfl
      case measure => simp [intOf]; omega
    · obtain rfl : k = s.size := by omega
      have ht : s.data.toList.take s.size = s.data.toList := List.take_of_length_le (Nat.le_refl _)
      rw [ht]
      obtain ⟨V, HV⟩ : ∃ V, Hid (V = leV s.data.toList) := ⟨_, rfl⟩
      rw [← HV.out]
      clear ht
      go_wp2
      go_ret
      exact ⟨by rw [← HV.out]; rfl, HB.out⟩

/-- the reader in block g: its error, the bytes that are left -/
structure UpAt (w : World) (g : Nat) (e : Int) (l : List UInt8) : Prop where
  c0 : w.cell? ⟨g, 0, none⟩ = some (.int .i64 e)
  f0 : w.frozen? ⟨g, 0, none⟩ = false
  f1 : w.frozen? ⟨g, 1, none⟩ = false
  c1 : ∃ s : ByteArray, s.data.toList = l ∧ w.cell? ⟨g, 1, none⟩ = some (.string s)

theorem UpAt.kept {S S' : Nat → Prop} {w w' : World} {g : Nat} {e : Int} {l : List UInt8} (h : UpAt w g e l) (u : Upd S w S' w') (hn : ¬ S g) : UpAt w' g e l := by
  obtain ⟨c0, f0, f1, s, h1, h2⟩ := h
  have hl := cell_lt c0
  exact ⟨by rw [u.cell hl hn]; exact c0, by rw [u.frozen hl hn]; exact f0, by rw [u.frozen hl hn]; exact f1, s, h1, by rw [u.cell hl hn]; exact h2⟩

set_option maxRecDepth 20000 in
set_option maxHeartbeats 800000 in
theorem up_take (g : Nat) (l : List UInt8) (n : Nat) (w : World) (h : UpAt w g 0 l) (hn : n ≤ l.length) (hl : l.length ≤ Big) :
    Calls Try.prog 89 #[.pointer (some ⟨g, 0, none⟩), .int .i64 n] w fun r w' =>
      ∃ t : ByteArray, t.data.toList = l.take n ∧ r = .returned (.string t) ∧ UpAt w' g 0 (l.drop n) ∧ Upd (fun k => k = g) w (fun k => k = g) w' := by
  obtain ⟨c0, f0, f1, s, hs, c1⟩ := h
  have hsz : s.size = l.length := by rw [size_data, hs]
  have hn2 : n ≤ s.size := by omega
  have hs2 : s.size ≤ 1073741824 := by unfold Big at hl; omega
  have hd : decide ((s.size : Int) < n) = false := by simp; omega
  have HS := hid hs
  have HZ := hid hsz
  clear hs hsz hl hn
  go_enter Try.func89, Try.ntmps89
  go_wp2
  go_ret
  have e1 : (s.extract 0 n).data.toList = l.take n := by rw [Lib.extract_data, HS.out]; simp
  have e2 : (s.extract n s.size).data.toList = l.drop n := by
    rw [Lib.extract_data, HS.out]
    exact List.take_of_length_le (by rw [List.length_drop]; have := HZ.out; omega)
  refine ⟨s.extract 0 n, e1, rfl, ⟨by go_simp, by go_simp, by go_simp, s.extract n s.size, e2, by go_simp⟩, Upd.setCell (S := fun k => k = g) _ rfl _⟩

set_option maxRecDepth 20000 in
set_option maxHeartbeats 800000 in
theorem up_word (g : Nat) (l : List UInt8) (w : World) (h : UpAt w g 0 l) (hn : 8 ≤ l.length) (hl : l.length ≤ Big) :
    Calls Try.prog 57 #[.pointer (some ⟨g, 0, none⟩)] w fun r w' =>
      r = .returned (.int .u64 (leV (l.take 8) : Nat)) ∧ UpAt w' g 0 (l.drop 8) ∧ Upd (fun k => k = g) w (fun k => k = g) w' := by
  have H := hid h
  have hg := cell_lt h.c0
  have HL := hid hl
  clear h hl
  go_enter Try.func57, Try.ntmps57
  go_wp2_with fail
  refine (up_take g l 8 w H.out hn HL.out).mono ?_
  rintro e w1 ⟨t, ht, rfl, h1, u1⟩
  have htl : t.size ≤ 8 := by rw [size_data, ht]; simp; omega
  have HT := hid ht
  have H1 := hid h1
  have U1 := hid u1
  clear ht h1 u1
  go_wp2_with fail
  refine (up_high t w1 htl).mono ?_
  rintro e w2 ⟨rfl, hb⟩
  rw [HT.out]
  obtain ⟨V, HV⟩ : ∃ V, Hid (V = leV (l.take 8)) := ⟨_, rfl⟩
  rw [← HV.out]
  have HB := hid hb
  clear hb
  go_wp2
  go_ret
  have hz := U1.out.size
  exact ⟨by rw [HV.out]; rfl, H1.out.kept (Upd.of_below (S := fun _ => False) HB.out) (fun h => h), U1.out.trans (Upd.of_below HB.out)⟩

set_option maxRecDepth 20000 in
set_option maxHeartbeats 800000 in
theorem up_small (g : Nat) (l : List UInt8) (n : Nat) (w : World) (h : UpAt w g 0 l) (hf : fitsB n 0) (hn : n ≤ l.length) (hl : l.length ≤ Big) :
    Calls Try.prog 58 #[.pointer (some ⟨g, 0, none⟩), .int .i64 n] w fun r w' =>
      r = .returned (.int .i64 (leV (l.take n) : Nat)) ∧ UpAt w' g 0 (l.drop n) ∧ Upd (fun k => k = g) w (fun k => k = g) w' := by
  have H := hid h
  have hg := cell_lt h.c0
  have c0 := h.c0
  have f0 := h.f0
  have HL := hid hl
  have hn4 : n ≤ 4 := by unfold fitsB at hf; omega
  have HF := hid hf
  clear h hl hf
  go_enter Try.func58, Try.ntmps58
  go_wp2_with fail
  go_quiet ((first | (go_at_call 91; exact quiet_eq (pk_fits _ _ _ HF.out)) | (go_at_call 90; exact quiet_eq (pk_fail0 _ _ (by go_simp) (by go_simp)))))
  go_wp2_with fail
  refine (up_take g l n (w.drewN nq) (H.out.kept (Upd.drewN (fun _ => False) w nq) (fun h => h)) hn HL.out).mono ?_
  rintro e w1 ⟨t, ht, rfl, h1, u1⟩
  have htl : t.size ≤ n := by rw [size_data, ht]; simp; omega
  have HT := hid ht
  have H1 := hid h1
  have U1 := hid ((Upd.drewN (fun k => k = g) w nq).trans u1)
  clear ht h1 u1
  go_wp2_with fail
  refine (up_high t w1 (by omega)).mono ?_
  rintro e w2 ⟨rfl, hb⟩
  rw [HT.out]
  have hv : leV (l.take n) < 256 ^ n := by
    have h1 := leV_lt (l.take n)
    have h2 : (256 : Nat) ^ (l.take n).length ≤ 256 ^ n := Nat.pow_le_pow_right (by omega) (by simp; omega)
    omega
  have hv2 : leV (l.take n) < 4294967296 := by
    have h2 : (256 : Nat) ^ n ≤ 256 ^ 4 := Nat.pow_le_pow_right (by omega) hn4
    have h3 : (256 : Nat) ^ 4 = 4294967296 := by decide
    omega
  obtain ⟨V, HV⟩ : ∃ V, Hid (V = leV (l.take n)) := ⟨_, rfl⟩
  rw [← HV.out] at hv2 ⊢
  have HB := hid hb
  clear hb hv
  go_wp2
  go_ret
  have hz := U1.out.size
  exact ⟨by rw [HV.out]; rfl, H1.out.kept (Upd.of_below (S := fun _ => False) HB.out) (fun h => h), U1.out.trans (Upd.of_below HB.out)⟩

end Go.Proofs.Ytjnipfangjnpcaa
