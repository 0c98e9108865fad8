/- A new disk; texts held against each other. -/
import Derived.Test.YtjnipfangjnpcaaWalE
namespace Go.Proofs.Ytjnipfangjnpcaa
open Go.RowKit Go.Proofs Go.Maps

set_option maxRecDepth 20000 in
theorem dev_new (N : Nat) (w : World) (h1 : 1 ≤ N) (h2 : N ≤ 4096) :
    Calls Try.prog 7 #[.int .i64 N] w fun r w' =>
      ∃ g bn bl, r = .returned (.pointer (some ⟨g, 0, none⟩)) ∧ (∀ k, dkS g bn bl none k → w.heap.size ≤ k) ∧ DkAt w' g N (fun _ => none) bn bl none 0 ∧ Below w.heap.size w w' := by
  have hmm := @run_makeMap Try.prog
  have d1 : decide ((N : Int) < 1) = false := by simp; omega
  have d2 : decide ((4096 : Int) < N) = false := by simp; omega
  go_enter Try.func7, Try.ntmps7
  go_wp2
  go_ret
  refine ⟨w.heap.size + 1 + 1, w.heap.size, w.heap.size + 1, rfl, ?_, ?_, (((Below.refl _ w).alloc (Nat.le_refl _) _).alloc (by simp) _).alloc (by simp; omega) _⟩
  · intro k hk
    rcases hk with rfl | rfl | rfl | hk
    · omega
    · omega
    · omega
    · simp [rowS] at hk
  · have m1 : MapF Try.prog 3 (w.alloc (.map #[] 0)) w.heap.size 0 (fun _ => none) := MapF.made _ _ w
    have m2 : MapF Try.prog 3 ((w.alloc (.map #[] 0)).alloc (.map #[] 0)) (w.heap.size + 1) 0 (fun _ => none) := by
      have := MapF.made Try.prog 3 (w.alloc (.map #[] 0))
      simpa using this
    refine ⟨by go_simp, ⟨0, by go_simp⟩, by go_simp, by go_simp, by go_simp, by go_simp, ⟨0, [], by go_simp, World.ownsRow_nil _ _ _ _, by simp, by simp⟩, by go_simp, by go_simp,
      ⟨0, _, (m1.kept (Upd.alloc (fun _ => False) _ _) (fun h => h)).kept (Upd.alloc (fun _ => False) _ _) (fun h => h), fun i => rfl⟩, ⟨0, _, m2.kept (Upd.alloc (fun _ => False) _ _) (fun h => h)⟩, by omega, by omega, by omega, by simp⟩

/-- SameTexts -/
def sameB (l r : List ByteArray) : Bool := decide (l.map (·.data.toList) = r.map (·.data.toList))

set_option maxRecDepth 20000 in
set_option maxHeartbeats 800000 in
theorem book_same (l r : List ByteArray) (b1 o1 c1 b2 o2 c2 : Nat) (a1 a2 : Option Addr) (w : World) (h1 : l.length ≤ 100000) (heq : l = r) (hc1 : l ≠ [] → a1 = some ⟨b1, o1, none⟩) (hc2 : l ≠ [] → a2 = some ⟨b2, o2, none⟩) (h2 : StrsAt w b1 o1 l) (h3 : StrsAt w b2 o2 l) :
    Calls Try.prog 13 #[.slice a1 l.length c1, .slice a2 l.length c2] w fun e w' => e = .returned (.bool true) ∧ ∃ q, w.drewN q = w' := by
  by_cases h0 : l = []
  · subst h0
    go_enter Try.func13, Try.ntmps13
    go_wp2
    refine wp_loop_rounds 1 ?_
    rw [rounds_succ]
    go_wp2
    go_ret
    exact ⟨rfl, 0, rfl⟩
  · have e1 := hc1 h0
    have e2 := hc2 h0
    subst e1
    subst e2
    have H2 := hid h2
    have H3 := hid h3
    clear h2 h3 hc1 hc2 heq
    go_enter Try.func13, Try.ntmps13
    go_wp2
    go_loopw [5] (fun i wr => ∃ (k q : Nat), k ≤ l.length ∧ i = .int .i64 k ∧ w.drewN q = wr) (fun i _ => l.length - (intOf i).toNat)
    case atStart => exact ⟨0, 0, by omega, rfl, rfl⟩
    case round =>
      obtain ⟨k, q, hk, rfl, rfl⟩ := hrel
      by_cases hlt : k < l.length
      · have x1 : w.cell? ⟨b1, o1 + k, none⟩ = some (.string l[k]) := H2.out k hlt
        have x2 : w.cell? ⟨b2, o2 + k, none⟩ = some (.string l[k]) := H3.out k hlt
        obtain ⟨x, hx⟩ : ∃ x, x = l[k] := ⟨_, rfl⟩
        rw [← hx] at x1 x2
        have hk0 : (0 : Int) ≤ k := by omega
        have hk1 : (k : Int) < l.length := by omega
        clear hx
        go_wp2_with fail
        go_quiet (fail)
        go_wp2
        go_roundw
        case rel => exact ⟨k + 1, _, by omega, by go_num, by first | rfl | (rw [World.drewN_drewN])⟩
        case measure => simp [intOf]; omega
      · go_wp2
        go_ret
        exact ⟨rfl, q, rfl⟩

set_option maxRecDepth 20000 in
theorem book_room (left sz b : Nat) (w : World) (hl : left ≤ 1000000) (hs : sz ≤ 9223372036854775807) (hc : w.cell? ⟨b, 0, none⟩ = some (.int .i64 sz)) :
    Calls Try.prog 23 #[.int .i64 left, .slice (some ⟨b, 0, none⟩) 1 1] w fun e w' => e = .returned (.int .i64 (if sz ≤ left then ((left - sz : Nat) : Int) else -1)) ∧ w = w' := by
  by_cases h : sz ≤ left
  · rw [if_pos h]
    have d1 : decide ((left : Int) < 0) = false := by simp
    have d2 : decide ((left : Int) < sz) = false := by simp; omega
    have e1 : (((left - sz : Nat)) : Int) = (left : Int) - sz := by omega
    rw [e1]
    clear e1
    go_enter Try.func23, Try.ntmps23
    go_wp2
    refine wp_loop_rounds 2 ?_
    rw [rounds_succ]
    go_wp2
    rw [rounds_succ]
    go_wp2
    go_ret
    exact ⟨rfl, rfl⟩
  · rw [if_neg h]
    have d1 : decide ((left : Int) < 0) = false := by simp
    have d2 : decide ((left : Int) < sz) = true := by simp; omega
    go_enter Try.func23, Try.ntmps23
    go_wp2
    refine wp_loop_rounds 1 ?_
    rw [rounds_succ]
    go_wp2
    go_ret
    exact ⟨rfl, rfl⟩

/-- all bytes of some texts -/
def total (l : List ByteArray) : Nat := (l.map (·.size)).sum

theorem total_take (l : List ByteArray) (k : Nat) (h : k < l.length) : total (l.take (k + 1)) = total (l.take k) + l[k].size := by
  unfold total
  rw [List.take_succ_eq_append_getElem h, List.map_append, List.sum_append]
  simp only [List.map_cons, List.map_nil, List.sum_cons, List.sum_nil, Nat.add_zero]

theorem total_mono (l : List ByteArray) (k : Nat) : total (l.take k) ≤ total l := by
  unfold total
  conv => rhs; rw [← List.take_append_drop k l, List.map_append, List.sum_append]
  exact Nat.le_add_right _ _

theorem total_mem (l : List ByteArray) (x : ByteArray) (h : x ∈ l) : x.size ≤ total l := by
  induction l with
  | nil => simp at h
  | cons y l ih =>
    simp only [List.mem_cons] at h
    simp only [total, List.map_cons, List.sum_cons] at ih ⊢
    rcases h with rfl | h
    · omega
    · have := ih h; omega

def ShortPost (few room : Nat) (l : List ByteArray) (w : World) (e : Ending) (w' : World) : Prop :=
  ∃ b : Bool, e = .returned (.bool b) ∧ (b = true → l.length ≤ few ∧ total l ≤ room) ∧ Below w.heap.size w w'

set_option maxRecDepth 20000 in
set_option maxHeartbeats 800000 in
theorem book_short (few room : Nat) (l : List ByteArray) (b o c : Nat) (a : Option Addr) (w : World) (h0 : few ≤ 1000) (h1 : room ≤ 1000000) (hl : l.length ≤ 9223372036854775807) (hs : ∀ x ∈ l, x.size ≤ 9223372036854775807) (hc1 : l ≠ [] → a = some ⟨b, o, none⟩) (h2 : StrsAt w b o l) (hb : l ≠ [] → b < w.heap.size) :
    Calls Try.prog 5 #[.int .i64 few, .int .i64 room, .slice a l.length c] w (ShortPost few room l w) := by
  by_cases q : few < l.length
  · have hd : decide ((few : Int) < l.length) = true := by simp; omega
    clear hc1 h2 hb hs
    go_enter Try.func5, Try.ntmps5
    go_wp2
    go_ret
    exact ⟨false, rfl, by simp, Below.refl _ _⟩
  have hd : decide ((few : Int) < l.length) = false := by simp; omega
  by_cases hne : l = []
  · subst hne
    have hd2 : decide ((0 : Int) ≤ room) = true := by simp
    clear hc1 h2 hb hs
    go_enter Try.func5, Try.ntmps5
    go_wp2
    refine wp_loop_rounds 1 ?_
    rw [rounds_succ]
    go_wp2
    go_ret
    exact ⟨true, by first | rfl | (simp), fun _ => ⟨by simp, by simp [total]⟩, Below.refl _ _⟩
  have e1 := hc1 hne
  have hbw := hb hne
  subst e1
  have H2 := hid h2
  have HS := hid hs
  clear h2 hs hc1 hb hne
  go_enter Try.func5, Try.ntmps5
  go_wp2
  go_loopw [1, 7] (fun r i wr => ∃ (k : Nat) (rm : Int), k ≤ l.length ∧ i = .int .i64 k ∧ r = .int .i64 rm ∧ rm ≤ room ∧ -1 ≤ rm ∧ Hid (0 ≤ rm → rm = room - total (l.take k)) ∧ Hid (rm < 0 → room < total (l.take k)) ∧ Below w.heap.size w wr) (fun _ i _ => l.length - (intOf i).toNat)
  case atStart => exact ⟨0, room, by omega, rfl, rfl, by omega, by omega, fun _ => by simp [total], fun h => by omega, Below.refl _ _⟩
  case round =>
    obtain ⟨k, rm, hk, rfl, rfl, hr1, hr2, hr3, hr4, hbl⟩ := hrel
    by_cases hlt : k < l.length
    · by_cases hneg : rm < 0
      · have hd3 : decide ((0 : Int) ≤ rm) = false := by simp; omega
        have hfin : room < total l := by have := total_mono l k; have := hr4.out hneg; omega
        have HF := hid hfin
        clear hfin
        go_wp2
        go_ret
        exact ⟨false, rfl, by simp, hbl⟩
      · obtain ⟨rn, rfl⟩ : ∃ rn : Nat, rm = rn := ⟨rm.toNat, by omega⟩
        have x1 : wr.cell? ⟨b, o + k, none⟩ = some (.string l[k]) := by rw [(bcell hbl).1 b (o + k) hbw]; exact H2.out k hlt
        have hx9 := HS.out _ (List.getElem_mem hlt)
        have htk := total_take l k hlt
        obtain ⟨x, hx⟩ : ∃ x, x = l[k] := ⟨_, rfl⟩
        rw [← hx] at x1 hx9 htk
        have hd3 : decide ((0 : Int) ≤ rn) = true := by simp
        have HT := hid htk
        have HB := hid hbl
        have hz := hbl.size
        clear hx htk hbl
        go_wp2_with (go_at_call 23; refine (book_room rn x.size wr.heap.size _ (by omega) (by omega) (by go_simp)).mono ?_; rintro e w2 ⟨rfl, rfl⟩)
        all_goals
          go_roundw
          case rel =>
            refine ⟨k + 1, _, by omega, by go_num, rfl, ?_, ?_, ?_, ?_, HB.out.alloc HB.out.size _⟩
            · split <;> omega
            · split <;> omega
            · intro h
              have := hr3.out (by omega)
              have := HT.out
              split at h <;> split <;> omega
            · intro h
              have := hr3.out (by omega)
              have := HT.out
              split at h <;> omega
          case measure => simp [intOf]; omega
    · obtain rfl : k = l.length := by omega
      rw [List.take_length] at hr3 hr4
      by_cases hneg : rm < 0
      · have hd3 : decide ((0 : Int) ≤ rm) = false := by simp; omega
        go_wp2
        go_ret
        exact ⟨false, rfl, by simp, hbl⟩
      · have hd3 : decide ((0 : Int) ≤ rm) = true := by simp; omega
        go_wp2
        go_ret
        exact ⟨true, rfl, fun _ => ⟨by omega, by have := hr3.out (by omega); omega⟩, hbl⟩

end Go.Proofs.Ytjnipfangjnpcaa
