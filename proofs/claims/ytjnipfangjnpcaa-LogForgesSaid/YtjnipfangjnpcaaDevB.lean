/- The calls of package dev, on. -/
import Derived.Test.YtjnipfangjnpcaaDevA
namespace Go.Proofs.Ytjnipfangjnpcaa
open Go.RowKit Go.Proofs Go.Maps

theorem zero_str (w : World) : (zeroValue 9).run Try.prog w = .ok (.string ⟨#[]⟩) w := by kernel_rfl

/-- what a block holds -/
def dget (now : Nat → Option (List UInt8)) (i : Nat) : List UInt8 := (now i).getD (List.replicate 256 0)

set_option maxRecDepth 20000 in
set_option maxHeartbeats 1600000 in
theorem dev_read (g N : Nat) (now : Nat → Option (List UInt8)) (bn bl : Nat) (a : Option Addr) (m i : Nat) (w : World) (h : DkAt w g N now bn bl a m) (hi : i < N) (hN : N ≤ 4096) :
    Calls Try.prog 31 #[.pointer (some ⟨g, 0, none⟩), .int .i64 i] w fun r w' =>
      ∃ s : ByteArray, s.data.toList = dget now i ∧ r = .returned (.tuple #[.string s, .int .i64 0]) ∧ Below w.heap.size w w' := by
  have c0 := h.c0
  have c5 := h.c5
  have c6 := h.c6
  have hd : decide ((i : Int) < 0) = false := by simp
  have hd2 : decide ((N : Int) ≤ i) = false := by simp; omega
  obtain ⟨n1, fm, mm, hfm⟩ := h.mn
  have hlook := (run_look key_int (Try.underlying76) mm (zero_str w) (key := .int .i64 i) (keyOf_int_mk Try.underlying3 (WalkArith.wf_i64 (by omega)))).1
  rw [hfm i] at hlook
  clear h mm hfm
  unfold dget
  cases hv : now i with
  | none =>
    rw [hv] at hlook
    simp only [Option.map_none, Option.getD_none, Option.isSome_none] at hlook
    clear hv
    go_enter Try.func31, Try.ntmps31
    go_wp2_with (first | (go_at_call 52; refine (off_any g w c0).mono ?_; rintro e w1 ⟨rfl, rfl⟩) | (go_at_call 55; refine (str_repeat0 w).mono ?_; rintro e w1 ⟨s, hs, rfl, hb⟩; have HS := hid hs; clear hs))
    go_ret2
    exact ⟨s, HS.out, rfl, hb⟩
  | some l =>
    rw [hv] at hlook
    simp only [Option.map_some, Option.getD_some, Option.isSome_some, sval] at hlook
    clear hv
    obtain ⟨s, hs⟩ : ∃ s : ByteArray, s = ⟨l.toArray⟩ := ⟨_, rfl⟩
    rw [← hs] at hlook
    have HS := hid hs
    clear hs
    go_enter Try.func31, Try.ntmps31
    go_wp2_with (first | (go_at_call 52; refine (off_any g w c0).mono ?_; rintro e w1 ⟨rfl, rfl⟩))
    go_ret2
    exact ⟨s, by rw [HS.out]; rfl, rfl, Below.refl _ _⟩

theorem dev_read_at (g N : Nat) (now : Nat → Option (List UInt8)) (bn bl : Nat) (a : Option Addr) (m i : Nat) (q : Int) (w : World) (h : DkAt w g N now bn bl a m) (hi : i < N) (hN : N ≤ 4096) (hq : q = (i : Nat)) :
    Calls Try.prog 31 #[.pointer (some ⟨g, 0, none⟩), .int .i64 q] w fun r w' =>
      ∃ s : ByteArray, s.data.toList = dget now i ∧ r = .returned (.tuple #[.string s, .int .i64 0]) ∧ Below w.heap.size w w' := by
  subst hq
  exact dev_read g N now bn bl a m i w h hi hN

theorem DkAt.below {w w' : World} {g N : Nat} {now : Nat → Option (List UInt8)} {bn bl : Nat} {a : Option Addr} {m : Nat} (h : DkAt w g N now bn bl a m) (hb : Below w.heap.size w w') : DkAt w' g N now bn bl a m :=
  h.kept (Upd.of_below_at hb) (fun k hk e => by have := h.lt k hk; omega)

theorem writeCells_at (l : List (Nat × List UInt8)) (k : Nat) (h : k < l.length) : (writeCells l)[2 * k]? = some (.int .i64 (l[k].1 : Nat)) ∧ (writeCells l)[2 * k + 1]? = some (sval l[k].2) := by
  induction l generalizing k with
  | nil => simp at h
  | cons p l ih =>
    cases k with
    | zero => simp [writeCells]
    | succ k =>
      have := ih k (by simpa using h)
      simp only [writeCells, List.flatMap_cons] at this ⊢
      rw [show 2 * (k + 1) = 2 * k + 2 by omega, show 2 * k + 2 + 1 = (2 * k + 1) + 2 by omega]
      simpa using this

/-- nothing waits any more -/
theorem DkAt.emptied {w : World} {g N : Nat} {now : Nat → Option (List UInt8)} {bn bl : Nat} {a : Option Addr} {m : Nat} (h : DkAt w g N now bn bl a m) : DkAt (w.setCell ⟨g, 8, none⟩ (.slice none 0 0)) g N now bn bl none 0 := by
  have hu : Upd (fun k => k = g) w (fun k => k = g) (w.setCell ⟨g, 8, none⟩ (.slice none 0 0)) := Upd.setCell (S := fun k => k = g) w rfl _
  obtain ⟨n, c1⟩ := h.c1
  obtain ⟨_, _, c8, _⟩ := h.c8
  obtain ⟨n1, f1, m1, m2⟩ := h.mn
  obtain ⟨n2, f2, m3⟩ := h.ml
  have a0 := h.c0
  have a2 := h.c2
  have a5 := h.c5
  have a6 := h.c6
  have a7 := h.c7
  have b1 := h.f1
  have b8 := h.f8
  exact ⟨by go_simp, ⟨n, by go_simp⟩, by go_simp, by go_simp, by go_simp, by go_simp, ⟨0, [], by go_simp, World.ownsRow_nil _ _ _ _, by simp, by simp⟩, by go_simp, by go_simp,
    ⟨n1, f1, m1.kept hu h.d2, m2⟩, ⟨n2, f2, m3.kept hu h.d3⟩, h.d1, h.d2, h.d3, by simp⟩

theorem noRow {P : Program} {K : TypeId} {w : World} {b n : Nat} {f : Value → Option Value} (hm : MapF P K w b n f) {B : Nat} {e : TypeId} {size q c r : Nat} {a : Option Addr} {xs : List Value} (ho : w.ownsRow B e size (.slice a q c) r xs) : ¬ rowS a b := by
  intro hk
  obtain ⟨es, ck, hm1, _⟩ := hm
  obtain ⟨_, q⟩ := ho
  rcases q with ⟨q, _⟩ | ⟨g', cap, cur, q1, _, q3, _⟩
  · simp only [Value.slice.injEq] at q
    rw [q.1] at hk
    simp [rowS] at hk
  · simp only [Value.slice.injEq] at q1
    rw [q1.1] at hk
    simp [rowS] at hk
    subst hk
    rw [hm1] at q3
    cases q3

/-- what is last is another -/
theorem DkAt.lasts {w w' : World} {g N : Nat} {now : Nat → Option (List UInt8)} {bn bl : Nat} {a : Option Addr} {m n : Nat} {f : Value → Option Value} (h : DkAt w g N now bn bl a m) (u : Upd (fun k => k = bl) w (fun k => k = bl) w') (hm : MapF Try.prog 3 w' bl n f) : DkAt w' g N now bn bl a m := by
  have hg := h.lt g (Or.inl rfl)
  have hs : ¬ g = bl := fun e => h.d3 e.symm
  have C := fun o => u.cell hg hs o
  have F := fun o => u.frozen hg hs o
  obtain ⟨n', c1⟩ := h.c1
  obtain ⟨c, l, c8, ho, hl, hl2⟩ := h.c8
  obtain ⟨n1, f1, m1, m2⟩ := h.mn
  obtain ⟨n2, f2, m3⟩ := h.ml
  exact ⟨by rw [C]; exact h.c0, ⟨n', by rw [C]; exact c1⟩, by rw [C]; exact h.c2, by rw [C]; exact h.c5, by rw [C]; exact h.c6, by rw [C]; exact h.c7,
    ⟨c, l, by rw [C]; exact c8, own_kept ho u (fun k hk e => noRow m3 ho (e ▸ hk)), hl, hl2⟩, by rw [F]; exact h.f1, by rw [F]; exact h.f8,
    ⟨n1, f1, m1.kept u h.d1, m2⟩, ⟨n, f, hm⟩, h.d1, h.d2, h.d3, h.d4⟩

set_option maxRecDepth 20000 in
set_option maxHeartbeats 1600000 in
theorem dev_flush (g N : Nat) (now : Nat → Option (List UInt8)) (bn bl : Nat) (a : Option Addr) (m : Nat) (w : World) (h : DkAt w g N now bn bl a m) (hm : m ≤ Big) :
    Calls Try.prog 30 #[.pointer (some ⟨g, 0, none⟩)] w fun r w' =>
      r = .returned (.int .i64 0) ∧ DkAt w' g N now bn bl none 0 ∧ Upd (dkS g bn bl a) w (dkS g bn bl none) w' := by
  have H := hid h
  have c0 := h.c0
  have c2 := h.c2
  obtain ⟨n, c1⟩ := h.c1
  have f1 := h.f1
  obtain ⟨c, l, c8, ho, hl, hlen⟩ := h.c8
  have c7 := h.c7
  have hL : l.length ≤ 1073741824 := by unfold Big at hm; omega
  have HO := hid ho
  have HLL := hid hl
  rcases ho.2 with ⟨q, hl0⟩ | ⟨gr, cap, cur, q, _⟩
  · simp only [Value.slice.injEq] at q
    obtain ⟨rfl, _, rfl⟩ := q
    rw [hl0] at c8
    have f8 := h.f8
    clear h ho hl c7 hlen HO HLL hL hl0
    have HD0 := hid (H.out.tick (wrap64 (n + 1)))
    go_enter Try.func30, Try.ntmps30
    go_wp2_with (first | (go_at_call 52; refine (off_any g w c0).mono ?_; rintro e w1 ⟨rfl, rfl⟩) | (go_at_call 53; refine (goes_any g n w c2 c1 f1).mono ?_; rintro e w1 ⟨rfl, rfl⟩))
    refine wp_loop_rounds 1 ?_
    rw [rounds_succ]
    go_wp2
    go_ret
    refine ⟨rfl, HD0.out.emptied, ?_⟩
    exact (Upd.setCell w (Or.inl rfl) _).trans (Upd.setCell _ (Or.inl rfl) _)
  · simp only [Value.slice.injEq] at q
    obtain ⟨rfl, _, rfl⟩ := q
    clear h ho hl
    go_enter Try.func30, Try.ntmps30
    go_wp2_with (first | (go_at_call 52; refine (off_any g w c0).mono ?_; rintro e w1 ⟨rfl, rfl⟩) | (go_at_call 53; refine (goes_any g n w c2 c1 f1).mono ?_; rintro e w1 ⟨rfl, rfl⟩))
    have HD0 := hid (H.out.tick (wrap64 (n + 1)))
    have HU0 : Hid (Upd (dkS g bn bl (some ⟨gr, 0, none⟩)) w (dkS g bn bl (some ⟨gr, 0, none⟩)) (w.setCell ⟨g, 1, none⟩ (.int .i64 (wrap64 (n + 1))))) := Upd.setCell w (Or.inl rfl) _
    have e7 : (w.setCell ⟨g, 1, none⟩ (.int .i64 (wrap64 (n + 1)))).cell? ⟨g, 7, none⟩ = some (.map (some bl)) := by go_simp
    have HO0 := hid (own_kept HO.out (Upd.setCell (S := fun k => k = g) w rfl (p := ⟨g, 1, none⟩) (.int .i64 (wrap64 (n + 1)))) (fun k hk e => H.out.d4 (by rw [← e]; exact hk)))
    generalize w.setCell ⟨g, 1, none⟩ (.int .i64 (wrap64 (n + 1))) = W at HD0 HU0 HO0 e7 ⊢
    clear c0 c1 c2 f1 c8 c7 HO
    have hgr : gr ≠ bl := by
      intro e
      subst e
      obtain ⟨n2, f2, ⟨es, ck, hm1, _⟩⟩ := HD0.out.ml
      obtain ⟨_, q⟩ := HO0.out
      rcases q with ⟨q, _⟩ | ⟨g', cap', cur', q1, _, q3, _⟩
      · simp at q
      · simp only [Value.slice.injEq, Option.some.injEq, Addr.mk.injEq] at q1
        rw [← q1.1.1, hm1] at q3
        cases q3
    go_loopw [25] (fun i wr => ∃ (k : Nat) (n2 : Nat) (f2 : Value → Option Value), k ≤ l.length ∧ i = .int .i64 k ∧ Upd (fun j => j = bl) W (fun j => j = bl) wr ∧ MapF Try.prog 3 wr bl n2 f2) (fun i _ => l.length - (intOf i).toNat)
    case atStart => obtain ⟨n2, f2, m3⟩ := HD0.out.ml; exact ⟨0, n2, f2, by omega, rfl, Upd.refl _ _, m3⟩
    case round =>
      obtain ⟨k, n2, f2, hk, rfl, hu, hml⟩ := hrel
      have hg0 := HD0.out.lt g (Or.inl rfl)
      by_cases hlt : k < l.length
      · have hrow : gr < W.heap.size := (HO0.out.lt gr rfl).2
        have A := writeCells_at l k hlt
        have x0 : wr.cell? ⟨gr, k * 2, none⟩ = some (.int .i64 (l[k].1 : Nat)) := by
          rw [hu.cell hrow hgr, show k * 2 = 2 * k by omega]
          have := HO0.out.cells (g := gr) rfl (2 * k) _ A.1
          rwa [show (⟨gr, 0, none⟩ : Addr).add (2 * k) = ⟨gr, 2 * k, none⟩ by unfold Addr.add; split <;> simp_all] at this
        have x1 : wr.cell? ⟨gr, k * 2 + 1, none⟩ = some (.string ⟨l[k].2.toArray⟩) := by
          rw [hu.cell hrow hgr, show k * 2 + 1 = 2 * k + 1 by omega]
          have := HO0.out.cells (g := gr) rfl (2 * k + 1) _ A.2
          rwa [show (⟨gr, 0, none⟩ : Addr).add (2 * k + 1) = ⟨gr, 2 * k + 1, none⟩ by unfold Addr.add; split <;> simp_all] at this
        have hk4 := HLL.out _ (List.getElem_mem hlt)
        obtain ⟨q, hq⟩ : ∃ q, q = l[k].1 := ⟨_, rfl⟩
        obtain ⟨t, ht⟩ : ∃ t : ByteArray, t = ⟨l[k].2.toArray⟩ := ⟨_, rfl⟩
        rw [← hq] at x0 hk4
        rw [← ht] at x1
        have y7 : wr.cell? ⟨g, 7, none⟩ = some (.map (some bl)) := by rw [hu.cell hg0 (fun e => HD0.out.d3 e.symm)]; exact e7
        have hlr : bl < wr.heap.size := hml.lt
        have hgw : g < wr.heap.size := Nat.lt_of_lt_of_le hg0 hu.size
        obtain ⟨w3, hrun, hm3, hu3⟩ := run_update key_int (Try.underlying76) (w := (wr.alloc (.cells #[.int .i64 q, .string t] 111)).drew) (hml.kept ((Upd.alloc (fun _ => False) wr _).trans (Upd.drew _ _)) (fun h => h)) (key := .int .i64 q) (val := .string t) (keyOf_int_mk Try.underlying3 (WalkArith.wf_i64 (by omega)))
        have HM3 := hid hm3
        have HU3 := hid hu3
        have HU := hid hu
        clear hq ht hu hm3 hu3 A hml
        have z0 : w3.cell? ⟨wr.heap.size, 0, none⟩ = some (.int .i64 q) := by rw [HU3.out.cell (by simp) (fun e => by omega)]; go_simp
        have z1 : w3.cell? ⟨wr.heap.size, 1, none⟩ = some (.string t) := by rw [HU3.out.cell (by simp) (fun e => by omega)]; go_simp
        have z7 : w3.cell? ⟨g, 7, none⟩ = some (.map (some bl)) := by rw [HU3.out.cell (by simp; omega) (fun e => HD0.out.d3 e.symm)]; go_simp
        go_wp2
        go_region_held3 (fun w' => w'.cell? ⟨g, 7, none⟩ = some (.map (some bl)) ∧ w'.cell? ⟨wr.heap.size, 0, none⟩ = some (.int .i64 q) ∧ w'.cell? ⟨wr.heap.size, 1, none⟩ = some (.string t)) (first | go_keep | exact ⟨z7, z0, z1⟩) (fail)
        all_goals
          go_wp2
          go_roundw
          case rel => exact ⟨k + 1, _, _, by omega, by go_num, HU.out.trans (((Upd.alloc _ wr _).trans (Upd.drew _ _)).trans HU3.out), HM3.out⟩
          case measure => simp [intOf]; omega
      · have hdw : DkAt wr g N now bn bl (some ⟨gr, 0, none⟩) m := HD0.out.lasts hu hml
        have HW := hid hdw
        have g8 : ∃ u, wr.cell? ⟨g, 8, none⟩ = some u := by obtain ⟨_, _, h8, _⟩ := hdw.c8; exact ⟨_, h8⟩
        obtain ⟨u8, g8⟩ := g8
        have gf8 := hdw.f8
        have HU := hid hu
        clear hdw hu hml
        go_wp2
        go_ret
        refine ⟨rfl, HW.out.emptied, ?_⟩
        have u1 : Upd (dkS g bn bl (some ⟨gr, 0, none⟩)) W (dkS g bn bl (some ⟨gr, 0, none⟩)) wr := (HU.out.wide (T := dkS g bn bl (some ⟨gr, 0, none⟩)) (fun k hk => Or.inr (Or.inr (Or.inl hk)))).less (fun k hk => Or.inl hk)
        refine (HU0.out.trans (u1.trans (Upd.setCell wr (Or.inl rfl) _))).less (fun k hk => ?_)
        rcases hk with h1 | h1 | h1 | h1
        · exact Or.inl h1
        · exact Or.inr (Or.inl h1)
        · exact Or.inr (Or.inr (Or.inl h1))
        · simp [rowS] at h1

end Go.Proofs.Ytjnipfangjnpcaa
