/- The calls of package pack that put, on. -/
import Derived.Test.YtjnipfangjnpcaaPackA
namespace Go.Proofs.Ytjnipfangjnpcaa
open Go.RowKit Go.Proofs

/-- what is there already may be stored again -/
theorem setCell_same {w : World} {a : Addr} {v : Value} (h : w.cell? a = some v) : w.setCell a v = w := by
  unfold World.cell? at h
  obtain ⟨heap, tape, drawn, os, output⟩ := w
  simp only [World.setCell, World.mk.injEq, and_true]
  apply Array.ext
  · simp
  · intro i h1 h2
    rw [Array.getElem_modify]
    split
    · rename_i hi
      subst hi
      have hg : heap[a.block]? = some heap[a.block] := Array.getElem?_eq_getElem h2
      simp only [hg] at h
      split at h
      · rename_i c e f heq
        have heq' := Option.some.inj heq
        rw [heq']
        split at h
        · cases h
        · rename_i hs
          simp only [hs]
          congr 1
          apply Array.ext
          · simp
          · intro j h3 h4
            simp only [Bool.false_eq_true, if_false]
            rw [Array.getElem_setIfInBounds h4]
            split
            · rename_i hj
              subst hj
              rw [Array.getElem?_eq_getElem h4] at h
              exact (Option.some.inj h).symm
            · rfl
      · cases h
    · rfl

set_option maxHeartbeats 400000 in
theorem pk_fits1 (n : Int) (w : World) (h0 : 0 ≤ n) (hn : n < 256) :
    Calls Try.prog 91 #[.int .i64 1, .int .i64 n] w fun r w' => r = .returned (.int .i64 0) ∧ w = w' := by
  have hd : decide (n < 0) = false := by simp; omega
  have hs : (n / 256 != 0) = false := by simp; omega
  go_enter Try.func91, Try.ntmps91
  go_wp2
  go_ret
  exact ⟨rfl, rfl⟩

set_option maxHeartbeats 400000 in
theorem pk_fits2 (n : Int) (w : World) (h0 : 0 ≤ n) (hn : n < 65536) :
    Calls Try.prog 91 #[.int .i64 2, .int .i64 n] w fun r w' => r = .returned (.int .i64 0) ∧ w = w' := by
  have hd : decide (n < 0) = false := by simp; omega
  have hs : (n / 65536 != 0) = false := by simp; omega
  go_enter Try.func91, Try.ntmps91
  go_wp2
  go_ret
  exact ⟨rfl, rfl⟩

set_option maxHeartbeats 400000 in
theorem pk_fits4 (n : Int) (w : World) (h0 : 0 ≤ n) (hn : n < 4294967296) :
    Calls Try.prog 91 #[.int .i64 4, .int .i64 n] w fun r w' => r = .returned (.int .i64 0) ∧ w = w' := by
  have hd : decide (n < 0) = false := by simp; omega
  have hs : (n / 4294967296 != 0) = false := by simp; omega
  go_enter Try.func91, Try.ntmps91
  go_wp2
  go_ret
  exact ⟨rfl, rfl⟩

/-- sizes that occur, and what fits -/
def fitsB (s : Nat) (n : Int) : Prop := 0 ≤ n ∧ ((s = 1 ∧ n < 256) ∨ (s = 2 ∧ n < 65536) ∨ (s = 4 ∧ n < 4294967296))

theorem pk_fits (s : Nat) (n : Int) (w : World) (h : fitsB s n) :
    Calls Try.prog 91 #[.int .i64 s, .int .i64 n] w fun r w' => r = .returned (.int .i64 0) ∧ w = w' := by
  obtain ⟨h0, ⟨rfl, h⟩ | ⟨rfl, h⟩ | ⟨rfl, h⟩⟩ := h
  · exact pk_fits1 n w h0 h
  · exact pk_fits2 n w h0 h
  · exact pk_fits4 n w h0 h

theorem fitsB.zero {s : Nat} {n : Int} (h : fitsB s n) : fitsB s 0 := by
  unfold fitsB at *
  omega

/-- no error, and none comes: nothing turns -/
theorem pk_fail0 (g : Nat) (w : World) (hc : w.cell? ⟨g, 0, none⟩ = some (.int .i64 0)) (hf : w.frozen? ⟨g, 0, none⟩ = false) :
    Calls Try.prog 90 #[.pointer (some ⟨g,0,none⟩), .int .i64 0] w fun r w' => r = .returned (.bool false) ∧ w = w' := by
  refine (pk_fail g 0 0 w hc hf).mono fun r w' h => ?_
  simp only [if_true, setCell_same hc] at h
  exact h

/-- numbers as bytes, one behind the other -/
def words (s : Nat) (l : List Nat) : List UInt8 := l.flatMap (leB s)

theorem words_length (s : Nat) (l : List Nat) : (words s l).length = s * l.length := by
  induction l with
  | nil => simp [words]
  | cons x l ih => rw [words, List.flatMap_cons, List.length_append, leB_length]; rw [words] at ih; rw [ih]; simp [Nat.mul_add]; omega

theorem words_snoc (s : Nat) (l : List Nat) (k : Nat) (h : k < l.length) : words s (l.take (k + 1)) = words s (l.take k) ++ leB s l[k] := by
  rw [List.take_succ_eq_append_getElem h, words, List.flatMap_append]
  simp [words]

set_option maxRecDepth 20000 in
set_option maxHeartbeats 400000 in
theorem pk_words (g : Nat) (bs : List UInt8) (a : Option Addr) (b c : Nat) (l : List Nat) (w : World) (hp : PkAt w g 0 bs a) (hl : l.length ≤ 1000) (hn : bs.length ≤ 60000)
    (hcell : ∀ j (h : j < l.length), w.cell? ⟨b, j, none⟩ = some (.int .u64 (l[j] : Nat))) (hb : b < w.heap.size) (hne : ¬ ownS g a b) :
    Calls Try.prog 120 #[.pointer (some ⟨g,0,none⟩), .slice (some ⟨b, 0, none⟩) l.length c] w fun r w' =>
      ∃ a', r = .returned (.tuple #[]) ∧ PkAt w' g 0 (bs ++ words 8 l) a' ∧ Upd (ownS g a) w (ownS g a') w' := by
  have HC := hid hcell
  have c0 := hp.c0
  clear hcell
  go_enter Try.func120, Try.ntmps120
  go_wp2
  go_loopw [18] (fun i wr => ∃ (k : Nat) (a' : Option Addr), k ≤ l.length ∧ i = .int .i64 k ∧ PkAt wr g 0 (bs ++ words 8 (l.take k)) a' ∧ Upd (ownS g a) w (ownS g a') wr) (fun i _ => l.length - (intOf i).toNat)
  case atStart => exact ⟨0, a, by omega, rfl, by simpa [words] using hp, Upd.refl _ _⟩
  case round =>
    obtain ⟨k, a1, hk, rfl, hpk, hu⟩ := hrel
    by_cases hlt : k < l.length
    · have hcx : wr.cell? ⟨b, k, none⟩ = some (.int .u64 (l[k] : Nat)) := by rw [hu.cell hb hne]; exact HC.out k hlt
      have hw : (bs ++ words 8 (l.take k)).length + 8 ≤ Big := by
        rw [List.length_append, words_length, List.length_take]; unfold Big; omega
      have hs := words_snoc 8 l k hlt
      have H1 := hid hpk
      have H2 := hid hu
      have H3 := hid hw
      have H4 := hid hs
      clear hpk hu hw hs
      go_wp2_with (go_at_call 119; refine (pk_low _ _ _ _ _ 8 _ H1.out H3.out).mono ?_; rintro e w1 ⟨a2, rfl, hp2, hu2⟩)
      go_roundw
      case rel => exact ⟨k + 1, a2, by omega, by go_num, by rw [H4.out, ← List.append_assoc]; exact hp2, H2.out.trans hu2⟩
      case measure => simp [intOf]; omega
    · have hk2 : k = l.length := by omega
      have H1 := hid hpk
      have H2 := hid hu
      clear hpk hu
      go_wp2
      go_end0
      refine ⟨a1, rfl, ?_, H2.out⟩
      have := H1.out
      rw [hk2, List.take_length] at this
      exact this

set_option maxRecDepth 20000 in
set_option maxHeartbeats 400000 in
theorem pk_small (g : Nat) (bs : List UInt8) (a : Option Addr) (s : Nat) (b c : Nat) (l : List Nat) (w : World) (hp : PkAt w g 0 bs a) (hs : fitsB s 0) (hfit : ∀ x ∈ l, fitsB s (x : Nat)) (hl : l.length ≤ 1000) (hn : bs.length ≤ 60000)
    (hcell : ∀ j (h : j < l.length), w.cell? ⟨b, j, none⟩ = some (.int .i64 (l[j] : Nat))) (hb : b < w.heap.size) (hne : ¬ ownS g a b) :
    Calls Try.prog 121 #[.pointer (some ⟨g,0,none⟩), .int .i64 s, .slice (some ⟨b, 0, none⟩) l.length c] w fun r w' =>
      ∃ a', r = .returned (.tuple #[]) ∧ PkAt w' g 0 (bs ++ words s l) a' ∧ Upd (ownS g a) w (ownS g a') w' := by
  have HC := hid hcell
  have c0 := hp.c0
  have f0 := hp.f0
  have HF := hid hfit
  have hs4 : s ≤ 4 := by unfold fitsB at hs; omega
  have HS := hid hs
  clear hcell hfit hs
  go_enter Try.func121, Try.ntmps121
  go_wp2_with fail
  go_quiet ((first | (go_at_call 91; exact quiet_eq (pk_fits _ _ _ HS.out)) | (go_at_call 90; exact quiet_eq (pk_fail0 _ _ (by go_simp) (by go_simp)))))
  go_wp2
  go_loopw [20] (fun i wr => ∃ (k : Nat) (a' : Option Addr), k ≤ l.length ∧ i = .int .i64 k ∧ PkAt wr g 0 (bs ++ words s (l.take k)) a' ∧ Upd (ownS g a) w (ownS g a') wr) (fun i _ => l.length - (intOf i).toNat)
  case atStart => exact ⟨0, a, by omega, rfl, by simpa [words] using hp.kept (Upd.drewN (fun _ => False) w nq) (fun _ _ h => h), Upd.drewN _ _ _⟩
  case round =>
    obtain ⟨k, a1, hk, rfl, hpk, hu⟩ := hrel
    by_cases hlt : k < l.length
    · have hcx : wr.cell? ⟨b, k, none⟩ = some (.int .i64 (l[k] : Nat)) := by rw [hu.cell hb hne]; exact HC.out k hlt
      have hw : (bs ++ words s (l.take k)).length + s ≤ Big := by
        rw [List.length_append, words_length, List.length_take]
        have : s * min k l.length ≤ 4 * 1000 := Nat.mul_le_mul hs4 (by omega)
        unfold Big; omega
      have hs2 := words_snoc s l k hlt
      have c0r := hpk.c0
      have f0r := hpk.f0
      have hfk := HF.out l[k] (List.getElem_mem hlt)
      have H1 := hid hpk
      have H2 := hid hu
      have H3 := hid hw
      have H4 := hid hs2
      have hwr : IntKind.u64.wrap ((l[k] : Nat) : Int) = ((l[k] : Nat) : Int) := IntWalk.u64_in _ (by unfold fitsB at hfk; omega)
      have H5 := hid hfk
      clear hpk hu hw hs2 hfk
      go_wp2_with fail
      go_quiet ((first | (go_at_call 91; exact quiet_eq (pk_fits _ _ _ H5.out)) | (go_at_call 90; exact quiet_eq (pk_fail0 _ _ (by go_simp) (by go_simp)))))
      go_wp2_with (go_at_call 119; refine (pk_low _ _ _ _ _ s _ (H1.out.kept (Upd.drewN (fun _ => False) wr nq) (fun _ _ h => h)) H3.out).mono ?_; rintro e w1 ⟨a2, rfl, hp2, hu2⟩)
      go_roundw
      case rel => exact ⟨k + 1, a2, by omega, by go_num, by rw [H4.out, ← List.append_assoc]; exact hp2, H2.out.trans ((Upd.drewN _ _ _).trans hu2)⟩
      case measure => simp [intOf]; omega
    · have hk2 : k = l.length := by omega
      have H1 := hid hpk
      have H2 := hid hu
      clear hpk hu
      go_wp2
      go_end0
      refine ⟨a1, rfl, ?_, H2.out⟩
      have := H1.out
      rw [hk2, List.take_length] at this
      exact this

theorem zeros_leB (n : Nat) : leB n 0 = List.replicate n 0 := by
  induction n with
  | zero => rfl
  | succ n ih => simp [leB, ih, List.replicate_succ]

set_option maxRecDepth 20000 in
set_option maxHeartbeats 400000 in
theorem pk_fill (g : Nat) (bs : List UInt8) (a : Option Addr) (n : Nat) (w : World) (hp : PkAt w g 0 bs a) (hl : bs.length ≤ n) (hn : n ≤ 60000) :
    Calls Try.prog 103 #[.pointer (some ⟨g,0,none⟩), .int .i64 n] w fun r w' =>
      ∃ a', r = .returned (.tuple #[]) ∧ PkAt w' g 0 (bs ++ List.replicate (n - bs.length) 0) a' ∧ Upd (ownS g a) w (ownS g a') w' := by
  have H1 := hid hp
  obtain ⟨c0, f0, f1, _, cp, c1, hown⟩ := hp
  have hd : decide ((60000 : Int) < n) = false := by simp; omega
  have hd2 : decide ((n : Int) < bs.length) = false := by simp; omega
  clear hown
  have hlow : bs.length + (n - bs.length) ≤ Big := by unfold Big; omega
  have HK := hid hlow
  clear hlow
  go_enter Try.func103, Try.ntmps103
  go_wp2_with (first | (go_at_call 90; refine (pk_fail0 _ _ (by assumption) (by assumption)).mono ?_; rintro e w1 ⟨rfl, rfl⟩))
  rw [show ((n : Int) - (bs.length : Int)) = ((n - bs.length : Nat) : Int) from by omega]
  go_wp2_with (go_at_call 119; refine (pk_low g 0 bs a 0 (n - bs.length) _ H1.out HK.out).mono ?_; rintro e w1 ⟨a2, rfl, hp2, hu2⟩)
  go_end0
  rw [zeros_leB] at hp2
  exact ⟨a2, rfl, hp2, hu2⟩

/-- the bytes of a row, as a text -/
theorem conv_own {P : Program} {w : World} {src e dst : TypeId} (hs : P.underlying src = some (.slice e)) (he : P.underlying e = some (.int .u8)) (hd : P.underlying dst = some .string)
    {B c : Nat} {a : Option Addr} {bs : List UInt8} (h : w.ownsRow B e 1 (.slice a bs.length c) bs.length (bs.map bval)) : (Go.convert src dst (.slice a bs.length c)).run P w = .ok (.string ⟨bs.toArray⟩) w := by
  rcases h.2 with ⟨h1, h2⟩ | ⟨g, cap, cur, h1, _⟩
  · simp only [Value.slice.injEq] at h1
    obtain ⟨rfl, _, rfl⟩ := h1
    have hb : bs = [] := List.eq_nil_of_length_eq_zero h2
    subst hb
    exact run_convert_bytes_nil w src e hs he 0 0 dst hd
  · simp only [Value.slice.injEq] at h1
    obtain ⟨rfl, _, rfl⟩ := h1
    refine run_convert_bytes_back w src dst e ⟨g, 0, none⟩ c bs hs he hd fun j hj => ?_
    refine h.cells (g := g) rfl j _ ?_
    simp [hj, bval]

set_option maxRecDepth 20000 in
set_option maxHeartbeats 400000 in
theorem pk_done (g : Nat) (bs : List UInt8) (a : Option Addr) (w : World) (hp : PkAt w g 0 bs a) :
    Calls Try.prog 104 #[.pointer (some ⟨g,0,none⟩)] w fun r w' =>
      ∃ s : ByteArray, s.data.toList = bs ∧ r = .returned (.tuple #[.string s, .int .i64 0]) ∧ w = w' := by
  obtain ⟨c0, f0, f1, _, cp, c1, hown⟩ := hp
  have hconv := conv_own (P := Try.prog) Try.underlying148 Try.underlying5 Try.underlying9 hown
  clear hown
  go_enter Try.func104, Try.ntmps104
  go_wp2
  go_ret2
  exact ⟨⟨bs.toArray⟩, rfl, rfl, rfl⟩

end Go.Proofs.Ytjnipfangjnpcaa
