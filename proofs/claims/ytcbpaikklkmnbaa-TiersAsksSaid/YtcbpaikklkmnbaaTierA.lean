/- Plain calls of the tiers' layers: names and the grid. -/
import Derived.Test.YtcbpaikklkmnbaaBase
import Derived.Test.YtcbpaikklkmnbaaChecked
import Derived.StillTailTactics
namespace Go.Proofs.Ytcbpaikklkmnbaa
open Go.RowKit Go.Proofs

theorem within_any (n m : Int) (w : World) : Calls Try.prog 62 #[.int .i64 n, .int .i64 m] w fun e w' => e = .returned (.bool (decide (1 ≤ n) && decide (n ≤ m))) ∧ w = w' := by
  go_enter Try.func62, Try.ntmps62
  go_wp2
  all_goals (go_ret; exact ⟨by simp [*] <;> omega, rfl⟩)

/-- may a byte stand in a name? -/
def letB (c : Int) : Bool := (decide (97 ≤ c) && decide (c ≤ 122)) || (decide (48 ≤ c) && decide (c ≤ 57)) || c == 46 || c == 95 || c == 45

theorem letter_any (c : Int) (w : World) : Calls Try.prog 74 #[.int .u8 c] w fun e w' => e = .returned (.bool (letB c)) ∧ w = w' := by
  unfold letB
  go_enter Try.func74, Try.ntmps74
  go_wp2
  all_goals (go_ret; refine ⟨congrArg (fun b => Ending.returned (Value.bool b)) ?_, rfl⟩)
  all_goals (first | rfl | (rw [Bool.eq_iff_iff]; simp; done) | (rw [Bool.eq_iff_iff]; simp; omega))

/-- is a text a name? -/
def validB (s : ByteArray) : Bool := decide (1 ≤ s.size) && decide (s.size ≤ 15) && s.data.toList.all (fun c => letB c.toNat)

theorem on_any (t e : Int) (w : World) : Calls Try.prog 39 #[.int .i64 t, .int .i64 e] w fun r w' => r = .returned (.bool (decide (1 ≤ e) && decide (t.tmod e = 0))) ∧ w = w' := by
  go_enter Try.func39, Try.ntmps39
  go_wp2
  all_goals (go_ret; refine ⟨congrArg (fun b => Ending.returned (Value.bool b)) ?_, rfl⟩)
  all_goals (first | rfl | (rw [Bool.eq_iff_iff]; simp; done) | (rw [Bool.eq_iff_iff]; simp; omega))

theorem divides_any (a b : Int) (w : World) : Calls Try.prog 95 #[.int .i64 a, .int .i64 b] w fun r w' => r = .returned (.bool (decide (1 ≤ a) && decide (b.tmod a = 0))) ∧ w = w' := by
  go_enter Try.func95, Try.ntmps95
  go_wp2
  all_goals (go_ret; refine ⟨congrArg (fun b => Ending.returned (Value.bool b)) ?_, rfl⟩)
  all_goals (first | rfl | (rw [Bool.eq_iff_iff]; simp; done) | (rw [Bool.eq_iff_iff]; simp; omega))

def floorI (t e : Int) : Int := if t.tmod e < 0 then t - t.tmod e - e else t - t.tmod e

theorem tmod_bound (t e : Int) (he : 1 ≤ e) (h : -4398046511104 ≤ t) (h2 : t ≤ 4398046511104) : -e < t.tmod e ∧ t.tmod e < e ∧ -4398046511104 ≤ t - t.tmod e ∧ t - t.tmod e ≤ 4398046511104 := by
  have h1 := Int.tmod_lt_of_pos t (show 0 < e by omega)
  by_cases h0 : 0 ≤ t
  · have h3 := Int.tmod_nonneg e h0
    have h4 : t.tmod e ≤ t := by
      rw [Int.tmod_eq_emod_of_nonneg h0]
      have := Int.mul_ediv_add_emod t e
      have h5 : 0 ≤ t / e := Int.ediv_nonneg h0 (by omega)
      have h6 : 0 ≤ e * (t / e) := Int.mul_nonneg (by omega) h5
      omega
    omega
  · have e1 : t.tmod e = -((-t).tmod e) := by rw [Int.neg_tmod]; omega
    have h3 := Int.tmod_nonneg e (show 0 ≤ -t by omega)
    have h7 := Int.tmod_lt_of_pos (-t) (show 0 < e by omega)
    have h4 : (-t).tmod e ≤ -t := by
      rw [Int.tmod_eq_emod_of_nonneg (by omega)]
      have := Int.mul_ediv_add_emod (-t) e
      have h5 : 0 ≤ (-t) / e := Int.ediv_nonneg (by omega) (by omega)
      have h6 : 0 ≤ e * ((-t) / e) := Int.mul_nonneg (by omega) h5
      omega
    omega

theorem floor_any (t e : Int) (w : World) (he : 1 ≤ e) (he2 : e ≤ 1099511627776) (h : -4398046511104 ≤ t) (h2 : t ≤ 4398046511104) :
    Calls Try.prog 67 #[.int .i64 t, .int .i64 e] w fun r w' => r = .returned (.int .i64 (floorI t e)) ∧ w = w' := by
  have hb := tmod_bound t e he h h2
  unfold floorI
  obtain ⟨b1, b2, b3, b4⟩ := hb
  have k1 : wrap64 (t - t.tmod e) = t - t.tmod e := IntWalk.wrap64_in _ (by omega)
  have k2 : wrap64 (t - t.tmod e - e) = t - t.tmod e - e := IntWalk.wrap64_in _ (by omega)
  go_enter Try.func67, Try.ntmps67
  go_wp2
  all_goals (go_ret; refine ⟨congrArg (fun n => Ending.returned (Value.int .i64 n)) ?_, rfl⟩; try simp only [k1, k2] at *)
  all_goals (first | (split <;> omega) | omega | rfl)

theorem back_any (n k e : Int) (w : World) (he : 1 ≤ e) (he2 : e ≤ 1099511627776) (h : 0 ≤ n) (h2 : n ≤ 1099511627776) (hk : 0 ≤ k) (hk2 : k ≤ 1099511627776) :
    Calls Try.prog 73 #[.int .i64 n, .int .i64 k, .int .i64 e] w fun r w' => r = .returned (.int .i64 (max (floorI (n - k) e) 0)) ∧ w = w' := by
  go_enter Try.func73, Try.ntmps73
  go_wp2_with (go_at_call 67; refine (floor_any (n - k) e w he he2 (by omega) (by omega)).mono ?_; rintro r w1 ⟨rfl, rfl⟩)
  all_goals (go_ret; refine ⟨congrArg (fun n => Ending.returned (Value.int .i64 n)) ?_, rfl⟩; omega)

/-- a tier of a policy -/
structure Ti where
  n : ByteArray
  e : Int
  k : Int
  s : Int
instance : Inhabited Ti := ⟨⟨ByteArray.empty, 0, 0, 0⟩⟩

/-- tiers in a row of memory -/
structure TisAt (w : World) (b o : Nat) (P : List Ti) : Prop where
  n : ∀ j, j < P.length → w.cell? ⟨b, o + j * 4, none⟩ = some (.string (P.getD j default).n)
  e : ∀ j, j < P.length → w.cell? ⟨b, o + j * 4 + 1, none⟩ = some (.int .i64 (P.getD j default).e)
  k : ∀ j, j < P.length → w.cell? ⟨b, o + j * 4 + 2, none⟩ = some (.int .i64 (P.getD j default).k)
  s : ∀ j, j < P.length → w.cell? ⟨b, o + j * 4 + 3, none⟩ = some (.int .i64 (P.getD j default).s)

theorem validB_of {s : ByteArray} (h1 : 1 ≤ s.size) (h2 : s.size ≤ 15) (h : ∀ c ∈ s.data.toList.take s.size, letB c.toNat = true) : validB s = true := by
  unfold validB
  have e : s.data.toList.take s.size = s.data.toList := List.take_of_length_le (by show s.data.toList.length ≤ s.data.size; simp)
  rw [e] at h
  rw [List.all_eq_true.2 h, decide_eq_true h1, decide_eq_true h2]
  rfl

theorem validB_not {s : ByteArray} (h : s.size < 1 ∨ 15 < s.size ∨ ∃ c ∈ s.data.toList, letB c.toNat = false) : validB s = false := by
  cases hv : validB s with
  | false => rfl
  | true =>
    unfold validB at hv
    simp only [Bool.and_eq_true, decide_eq_true_eq, List.all_eq_true] at hv
    rcases h with h | h | ⟨c, hc, h⟩
    · omega
    · omega
    · rw [hv.2 c hc] at h
      cases h

/-- a name in a row of one -/
theorem valid_one (b o c : Nat) (s : ByteArray) (w : World) (hc : w.cell? ⟨b, o, none⟩ = some (.string s)) :
    Calls Try.prog 48 #[.slice (some ⟨b, o, none⟩) 1 c] w fun r w' => r = .returned (.bool (validB s)) ∧ w = w' := by
  go_enter Try.func48, Try.ntmps48
  go_wp2
  go_loopw [8] (fun i wr => ∃ k : Nat, k ≤ 1 ∧ i = .int .i64 k ∧ w = wr ∧ Hid (k = 1 → validB s = true)) (fun i _ => 1 - (intOf i).toNat)
  case atStart => exact ⟨0, by omega, by first | trivial | rfl, by first | trivial | rfl, fun h => by omega⟩
  case round =>
    obtain ⟨k, hk, rfl, rfl, hv⟩ := hrel
    by_cases hk1 : k = 1
    · subst hk1
      go_wp2
      go_ret
      rw [hv.out (by first | trivial | rfl)]
      exact ⟨by first | trivial | rfl, by first | trivial | rfl⟩
    · have hk0 : k = 0 := by omega
      subst hk0
      go_wp2
      · go_ret
        rw [validB_not (by omega)]
        exact ⟨by first | trivial | rfl, by first | trivial | rfl⟩
      · rename_i h15
        have hs15 : 1 ≤ s.size ∧ s.size ≤ 15 := by omega
        go_loopw [22] (fun i wr => ∃ j : Nat, j ≤ s.size ∧ i = .int .i64 j ∧ w = wr ∧ Hid (∀ c ∈ s.data.toList.take j, letB c.toNat = true)) (fun i _ => s.size - (intOf i).toNat)
        case atStart => exact ⟨0, by omega, by first | trivial | rfl, by first | trivial | rfl, fun c h => by simp at h⟩
        case round =>
          obtain ⟨j, hj, rfl, rfl, hl⟩ := hrel
          by_cases hjk : j = s.size
          · subst hjk
            go_wp2
            go_roundw
            case rel => exact ⟨1, by omega, by go_num, by first | trivial | rfl, fun _ => validB_of hs15.1 hs15.2 hl.out⟩
            case measure => simp [intOf]
          · have hj2 : j < s.size := by omega
            go_wp2_with fail
            have hget : s[j] = s.data.toList[j]'hj2 := rfl
            refine (letter_any _ w).mono ?_
            rintro e w1 ⟨rfl, rfl⟩
            cases hb : letB ((s[j].toNat : Nat) : Int) with
            | false =>
              go_wp2
              go_ret
              rw [validB_not (Or.inr (Or.inr ⟨s[j], by rw [hget]; exact List.getElem_mem _, hb⟩))]
              exact ⟨by first | trivial | rfl, by first | trivial | rfl⟩
            | true =>
              go_wp2
              go_roundw
              case rel =>
                refine ⟨j + 1, by omega, by go_num, by first | trivial | rfl, fun c hc => ?_⟩
                rw [List.take_succ_eq_append_getElem hj2] at hc
                rcases List.mem_append.1 hc with hc | hc
                · exact hl.out c hc
                · simp at hc
                  rw [hc]
                  exact hb
              case measure => simp [intOf]; omega
      · go_ret
        rw [validB_not (by omega)]
        exact ⟨by first | trivial | rfl, by first | trivial | rfl⟩
end Go.Proofs.Ytcbpaikklkmnbaa
