/- A log that is written, on: Append, Flush. -/
import Derived.Test.YtjnipfangjnpcaaWalB
namespace Go.Proofs.Ytjnipfangjnpcaa
open Go.RowKit Go.Proofs Go.Maps

/-- records, one behind the other, up to the first that is refused -/
def logPuts (from_ n gen : Nat) (used rec : Nat) (now : Nat → Option (List UInt8)) : List (List UInt8) → Nat × Nat × Nat × (Nat → Option (List UInt8))
  | [] => (0, used, rec, now)
  | l :: r => if (logPut from_ n gen used rec now l).1 ≠ 0 then logPut from_ n gen used rec now l else
      logPuts from_ n gen (logPut from_ n gen used rec now l).2.1 (logPut from_ n gen used rec now l).2.2.1 (logPut from_ n gen used rec now l).2.2.2 r

theorem logPut_rec (from_ n gen : Nat) (used rec : Nat) (now : Nat → Option (List UInt8)) (l : List UInt8) : (logPut from_ n gen used rec now l).2.2.1 ≤ rec + 1 := by
  unfold logPut
  split
  · simp
  · split <;> simp

/-- texts in a row -/
def StrsAt (w : World) (b off : Nat) (ss : List ByteArray) : Prop := ∀ j (h : j < ss.length), w.cell? ⟨b, off + j, none⟩ = some (.string ss[j])

set_option maxRecDepth 20000 in
set_option maxHeartbeats 1600000 in
theorem log_append (gl g N from_ n gen used rec : Nat) (now : Nat → Option (List UInt8)) (bn bl : Nat) (a : Option Addr) (m : Nat) (b off c : Nat) (ss : List ByteArray) (w : World) (h : LgAt w gl g N from_ n gen used rec now bn bl a m)
    (hs : ∀ s ∈ ss, s.size ≤ 100000) (hr : rec + ss.length < 65536) (hm : m + 500 * ss.length < 1000000) (hn : n ≤ 4096) (hc : StrsAt w b off ss) (hb : b < w.heap.size) (hbS : ¬ lgS gl g bn bl a b) :
    Calls Try.prog 9 #[.pointer (some ⟨gl, 0, none⟩), .slice (some ⟨b, off, none⟩) ss.length c] w fun r w' =>
      ∃ a' m', r = .returned (.int .i64 ((logPuts from_ n gen used rec now (ss.map (·.data.toList))).1 : Nat)) ∧
        LgAt w' gl g N from_ n gen (logPuts from_ n gen used rec now (ss.map (·.data.toList))).2.1 (logPuts from_ n gen used rec now (ss.map (·.data.toList))).2.2.1 (logPuts from_ n gen used rec now (ss.map (·.data.toList))).2.2.2 bn bl a' m' ∧
        m' ≤ m + 500 * ss.length ∧ Upd (lgS gl g bn bl a) w (lgS gl g bn bl a') w' := by
  have H := hid h
  have l0 := h.l0
  have l6 := h.l6
  have HC := hid hc
  have HS := hid hs
  have hlen : ss.length ≤ 1000000 := by omega
  obtain ⟨R, hR⟩ : ∃ R, R = logPuts from_ n gen used rec now (ss.map (·.data.toList)) := ⟨_, rfl⟩
  rw [← hR]
  have HR := hid hR
  clear h hc hs hR
  go_enter Try.func9, Try.ntmps9
  go_wp2_with (go_at_call 27; refine (wal_may gl g w l0 l6).mono ?_; rintro e w1 ⟨rfl, rfl⟩)
  go_loopw [16] (fun i wr => ∃ (k : Nat) (a' : Option Addr) (m' used' rec' : Nat) (now' : Nat → Option (List UInt8)), k ≤ ss.length ∧ i = .int .i64 k ∧ m' ≤ m + 500 * k ∧ rec' ≤ rec + k ∧ R = logPuts from_ n gen used' rec' now' ((ss.drop k).map (·.data.toList)) ∧ LgAt wr gl g N from_ n gen used' rec' now' bn bl a' m' ∧ Upd (lgS gl g bn bl a) w (lgS gl g bn bl a') wr) (fun i _ => ss.length - (intOf i).toNat)
  case atStart => exact ⟨0, a, m, used, rec, now, by omega, rfl, by omega, by omega, HR.out, H.out, Upd.refl _ _⟩
  case round =>
    obtain ⟨k, a1, m1, us, re, nw, hk, rfl, hm1, hre, hR, hl, hu⟩ := hrel
    by_cases hlt : k < ss.length
    · have hcx : wr.cell? ⟨b, off + k, none⟩ = some (.string ss[k]) := by rw [hu.cell hb hbS]; exact HC.out k hlt
      have hsk := HS.out _ (List.getElem_mem hlt)
      obtain ⟨t, ht⟩ : ∃ t, t = ss[k] := ⟨_, rfl⟩
      rw [← ht] at hcx hsk
      have hdrop : (ss.drop k).map (·.data.toList) = t.data.toList :: (ss.drop (k + 1)).map (·.data.toList) := by rw [List.drop_eq_getElem_cons hlt, List.map_cons, ht]
      rw [hdrop] at hR
      have HRR := hid hR
      have HL := hid hl
      have HU := hid hu
      have hpr := logPut_rec from_ n gen us re nw t.data.toList
      obtain ⟨P, hP⟩ : ∃ P, P = logPut from_ n gen us re nw t.data.toList := ⟨_, rfl⟩
      rw [← hP] at hpr
      have HP := hid hP
      clear hR hl hu hdrop ht hP
      by_cases he : P.1 = 0
      · have hne : (((P.1 : Nat) : Int) != 0) = false := by simp [he]
        have HE := hid he
        clear he
        go_wp2_with (go_at_call 28; refine (log_append1 gl g N from_ n gen us re nw bn bl a1 m1 t wr HL.out hsk (by omega) (by omega) hn).mono ?_; rw [← HP.out]; rintro e w1 ⟨a2, m2, rfl, hl2, hm2, hu2⟩)
        go_roundw
        case rel =>
          refine ⟨k + 1, a2, m2, _, _, _, by omega, by go_num, by omega, by omega, ?_, hl2, HU.out.trans hu2⟩
          rw [HRR.out, logPuts, ← HP.out, if_neg (by rw [HE.out]; simp)]
        case measure => simp [intOf]; omega
      · have hne : (((P.1 : Nat) : Int) != 0) = true := by simp [he]
        have HE := hid he
        clear he
        go_wp2_with (go_at_call 28; refine (log_append1 gl g N from_ n gen us re nw bn bl a1 m1 t wr HL.out hsk (by omega) (by omega) hn).mono ?_; rw [← HP.out]; rintro e w1 ⟨a2, m2, rfl, hl2, hm2, hu2⟩)
        go_ret
        have hRP : R = P := by rw [HRR.out, logPuts, ← HP.out, if_pos HE.out]
        rw [hRP]
        exact ⟨a2, m2, rfl, hl2, by omega, HU.out.trans hu2⟩
    · obtain rfl : k = ss.length := by omega
      rw [List.drop_length] at hR
      have HRR := hid hR
      have HL := hid hl
      have HU := hid hu
      clear hR hl hu
      go_wp2
      go_ret
      rw [HRR.out]
      exact ⟨a1, m1, rfl, HL.out, hm1, HU.out⟩

/-- no records: nothing turns -/
theorem log_append_none (gl g : Nat) (sa : Option Addr) (c : Nat) (w : World) (l0 : w.cell? ⟨gl, 0, none⟩ = some (.pointer (some ⟨g, 0, none⟩))) (l6 : w.cell? ⟨gl, 6, none⟩ = some (.int .i64 0)) :
    Calls Try.prog 9 #[.pointer (some ⟨gl, 0, none⟩), .slice sa 0 c] w fun r w' => r = .returned (.int .i64 0) ∧ w = w' := by
  go_enter Try.func9, Try.ntmps9
  go_wp2_with (go_at_call 27; refine (wal_may gl g w l0 l6).mono ?_; rintro e w1 ⟨rfl, rfl⟩)
  refine wp_loop_rounds 1 ?_
  rw [rounds_succ]
  go_wp2
  go_ret
  exact ⟨rfl, rfl⟩

set_option maxRecDepth 20000 in
set_option maxHeartbeats 1600000 in
theorem log_flush (gl g N from_ n gen used rec : Nat) (now : Nat → Option (List UInt8)) (bn bl : Nat) (a : Option Addr) (m : Nat) (w : World) (h : LgAt w gl g N from_ n gen used rec now bn bl a m) (hm : m ≤ Big) :
    Calls Try.prog 10 #[.pointer (some ⟨gl, 0, none⟩)] w fun r w' =>
      r = .returned (.int .i64 0) ∧ LgAt w' gl g N from_ n gen used rec now bn bl none 0 ∧ Upd (lgS gl g bn bl a) w (lgS gl g bn bl none) w' := by
  have H := hid h
  have l0 := h.l0
  have l6 := h.l6
  clear h
  go_enter Try.func10, Try.ntmps10
  go_wp2_with (first | (go_at_call 27; refine (wal_may gl g w l0 l6).mono ?_; rintro e w1 ⟨rfl, rfl⟩) | (go_at_call 30; refine (dev_flush g N now bn bl a m w H.out.dk hm).mono ?_; rintro e w2 ⟨rfl, hd2, hu2⟩; have HL2 := hid (H.out.disk hu2 hd2); have HU2 := hid hu2; clear hd2 hu2 l0 l6) | (go_at_call 29; refine (wal_fail gl _ HL2.out.l6 HL2.out.f6).mono ?_; rintro e w3 ⟨rfl, rfl⟩))
  go_ret
  exact ⟨rfl, HL2.out, (HU2.out.wide (T := lgS gl g bn bl a) (fun k hk => Or.inr hk)).less (fun k hk => by
    rcases hk with h1 | h1
    · exact Or.inl (Or.inl h1)
    · exact Or.inr h1)⟩

end Go.Proofs.Ytjnipfangjnpcaa
