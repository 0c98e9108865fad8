/- The calls of package dev. -/
import Derived.Test.YtjnipfangjnpcaaPackC
import Derived.Test.YtjnipfangjnpcaaMaps
import Derived.Test.YtjnipfangjnpcaaLib
import Derived.Deep.RegionHeld3
import Derived.Deep.AppendLies
import Derived.Deep.RegionLaw
namespace Go.Proofs.Ytjnipfangjnpcaa
open Go.RowKit Go.Proofs Go.Maps

theorem slt_writes : SlT Try.prog 77 111 (.agg #[.int .i64 0, .string ⟨#[]⟩]) 2 24 := ⟨Try.underlying77, info_parts (by kernel_rfl), rfl, by decide⟩

theorem key_int : Keyed Try.prog 3 := int_keyed Try.underlying3

/-- the blocks of a disk -/
def dkS (g bn bl : Nat) (a : Option Addr) (k : Nat) : Prop := k = g ∨ k = bn ∨ k = bl ∨ rowS a k

/-- writes as cells -/
def writeCells (l : List (Nat × List UInt8)) : List Value := l.flatMap fun p => [.int .i64 (p.1 : Nat), sval p.2]

/-- a disk with power, in block g: how many blocks, what each holds -/
structure DkAt (w : World) (g : Nat) (N : Nat) (now : Nat → Option (List UInt8)) (bn bl : Nat) (a : Option Addr) (m : Nat) : Prop where
  c0 : w.cell? ⟨g, 0, none⟩ = some (.bool true)
  c1 : ∃ n : Int, w.cell? ⟨g, 1, none⟩ = some (.int .i64 n)
  c2 : w.cell? ⟨g, 2, none⟩ = some (.bool false)
  c5 : w.cell? ⟨g, 5, none⟩ = some (.int .i64 N)
  c6 : w.cell? ⟨g, 6, none⟩ = some (.map (some bn))
  c7 : w.cell? ⟨g, 7, none⟩ = some (.map (some bl))
  c8 : ∃ (c : Nat) (l : List (Nat × List UInt8)), w.cell? ⟨g, 8, none⟩ = some (.slice a l.length c) ∧ w.ownsRow 0 111 2 (.slice a l.length c) l.length (writeCells l) ∧ (∀ p ∈ l, p.1 < 4096) ∧ l.length ≤ m
  f1 : w.frozen? ⟨g, 1, none⟩ = false
  f8 : w.frozen? ⟨g, 8, none⟩ = false
  mn : ∃ n f, MapF Try.prog 3 w bn n f ∧ ∀ i : Nat, f (.int .i64 (i : Nat)) = (now i).map sval
  ml : ∃ n f, MapF Try.prog 3 w bl n f
  d1 : bn ≠ bl
  d2 : bn ≠ g
  d3 : bl ≠ g
  d4 : a.map (·.block) ≠ some g

theorem off_any (g : Nat) (w : World) (c0 : w.cell? ⟨g, 0, none⟩ = some (.bool true)) :
    Calls Try.prog 52 #[.pointer (some ⟨g, 0, none⟩)] w fun r w' => r = .returned (.bool false) ∧ w = w' := by
  go_enter Try.func52, Try.ntmps52
  go_wp2
  go_ret
  exact ⟨rfl, rfl⟩

theorem goes_any (g : Nat) (n : Int) (w : World) (c2 : w.cell? ⟨g, 2, none⟩ = some (.bool false)) (c1 : w.cell? ⟨g, 1, none⟩ = some (.int .i64 n)) (f1 : w.frozen? ⟨g, 1, none⟩ = false) :
    Calls Try.prog 53 #[.pointer (some ⟨g, 0, none⟩)] w fun r w' => r = .returned (.bool false) ∧ w.setCell ⟨g, 1, none⟩ (.int .i64 (wrap64 (n + 1))) = w' := by
  go_enter Try.func53, Try.ntmps53
  go_wp2
  go_ret
  exact ⟨rfl, rfl⟩

theorem DkAt.lt {w : World} {g N : Nat} {now : Nat → Option (List UInt8)} {bn bl : Nat} {a : Option Addr} {m : Nat} (h : DkAt w g N now bn bl a m) : ∀ k, dkS g bn bl a k → k < w.heap.size := by
  intro k hk
  rcases hk with rfl | rfl | rfl | hk
  · exact cell_lt h.c0
  · obtain ⟨n, f, h1, _⟩ := h.mn
    exact h1.lt
  · obtain ⟨n, f, h1⟩ := h.ml
    exact h1.lt
  · obtain ⟨c, l, _, h2, _⟩ := h.c8
    exact (h2.lt k (by rw [ownBlock_slice]; exact hk)).2

/-- what is owned stays so where its row stays -/
theorem own_kept {S S' : Nat → Prop} {w w' : World} {B : Nat} {e : TypeId} {size n c m : Nat} {a : Option Addr} {xs : List Value} (h : w.ownsRow B e size (.slice a n c) m xs) (u : Upd S w S' w') (hn : ∀ k, rowS a k → ¬ S k) : w'.ownsRow B e size (.slice a n c) m xs := by
  obtain ⟨p, q⟩ := h
  refine ⟨p, ?_⟩
  rcases q with q | ⟨g', cap, cur, q1, q2, q3, q4⟩
  · exact Or.inl q
  · refine Or.inr ⟨g', cap, cur, q1, q2, ?_, q4⟩
    simp at q1
    rw [u.block g' (Array.getElem?_eq_some_iff.1 q3).1 (hn g' (by rw [q1.1]; rfl))]
    exact q3

theorem DkAt.kept {S S' : Nat → Prop} {w w' : World} {g N : Nat} {now : Nat → Option (List UInt8)} {bn bl : Nat} {a : Option Addr} {m : Nat} (h : DkAt w g N now bn bl a m) (u : Upd S w S' w') (hn : ∀ k, dkS g bn bl a k → ¬ S k) : DkAt w' g N now bn bl a m := by
  have hg := h.lt g (Or.inl rfl)
  have hs := hn g (Or.inl rfl)
  have C := fun o => u.cell hg hs o
  have F := fun o => u.frozen hg hs o
  obtain ⟨n, c1⟩ := h.c1
  obtain ⟨c, l, c8, ho, hl⟩ := h.c8
  obtain ⟨n1, f1, m1, m2⟩ := h.mn
  obtain ⟨n2, f2, m3⟩ := h.ml
  exact ⟨by rw [C]; exact h.c0, ⟨n, by rw [C]; exact c1⟩, by rw [C]; exact h.c2, by rw [C]; exact h.c5, by rw [C]; exact h.c6, by rw [C]; exact h.c7,
    ⟨c, l, by rw [C]; exact c8, own_kept ho u (fun k hk => hn k (Or.inr (Or.inr (Or.inr hk)))), hl⟩, by rw [F]; exact h.f1, by rw [F]; exact h.f8,
    ⟨n1, f1, m1.kept u (hn bn (Or.inr (Or.inl rfl))), m2⟩, ⟨n2, f2, m3.kept u (hn bl (Or.inr (Or.inr (Or.inl rfl))))⟩, h.d1, h.d2, h.d3, h.d4⟩

theorem DkAt.tick {w : World} {g N : Nat} {now : Nat → Option (List UInt8)} {bn bl : Nat} {a : Option Addr} {m : Nat} (h : DkAt w g N now bn bl a m) (q : Int) : DkAt (w.setCell ⟨g, 1, none⟩ (.int .i64 q)) g N now bn bl a m := by
  have hu : Upd (fun k => k = g) w (fun k => k = g) (w.setCell ⟨g, 1, none⟩ (.int .i64 q)) := Upd.setCell (S := fun k => k = g) w rfl _
  obtain ⟨n, c1⟩ := h.c1
  obtain ⟨c, l, c8, ho, hl⟩ := h.c8
  obtain ⟨n1, f1, m1, m2⟩ := h.mn
  obtain ⟨n2, f2, m3⟩ := h.ml
  have a0 := h.c0
  have a2 := h.c2
  have a5 := h.c5
  have a6 := h.c6
  have a7 := h.c7
  have b1 := h.f1
  have b8 := h.f8
  have hd4 := h.d4
  exact ⟨by go_simp, ⟨q, by go_simp⟩, by go_simp, by go_simp, by go_simp, by go_simp, ⟨c, l, by go_simp, own_kept ho hu (fun k hk e => hd4 (by rw [← e]; exact hk)), hl⟩, by go_simp, by go_simp,
    ⟨n1, f1, m1.kept hu h.d2, m2⟩, ⟨n2, f2, m3.kept hu h.d3⟩, h.d1, h.d2, h.d3, h.d4⟩

/-- one block is written -/
def dput (now : Nat → Option (List UInt8)) (i : Nat) (l : List UInt8) : Nat → Option (List UInt8) := fun k => if k = i then some l else now k

theorem DkAt.put {w w3 : World} {g N : Nat} {now : Nat → Option (List UInt8)} {bn bl : Nat} {a : Option Addr} {m n : Nat} {f : Value → Option Value} (h : DkAt w g N now bn bl a m) (hu : Upd (fun k => k = bn) w (fun k => k = bn) w3)
    (i : Nat) (s : ByteArray) (hm : MapF Try.prog 3 w3 bn n (fset f (.int .i64 i) (.string s))) (hf : ∀ i : Nat, f (.int .i64 (i : Nat)) = (now i).map sval) : DkAt w3 g N (dput now i s.data.toList) bn bl a m := by
  have hg := h.lt g (Or.inl rfl)
  have hs : ¬ g = bn := fun e => h.d2 e.symm
  have C := fun o => hu.cell hg hs o
  have F := fun o => hu.frozen hg hs o
  obtain ⟨n', c1⟩ := h.c1
  obtain ⟨c, l, c8, ho, hl, hl2⟩ := h.c8
  obtain ⟨n2, f2, m3⟩ := h.ml
  refine ⟨by rw [C]; exact h.c0, ⟨n', by rw [C]; exact c1⟩, by rw [C]; exact h.c2, by rw [C]; exact h.c5, by rw [C]; exact h.c6, by rw [C]; exact h.c7,
    ⟨c, l, by rw [C]; exact c8, own_kept ho hu ?_, hl, hl2⟩, by rw [F]; exact h.f1, by rw [F]; exact h.f8,
    ⟨n, _, hm, ?_⟩, ⟨n2, f2, m3.kept hu (fun e => h.d1 e.symm)⟩, h.d1, h.d2, h.d3, h.d4⟩
  · intro k hk e
    subst e
    obtain ⟨n1, f1, ⟨es, ck, hm1, _⟩, _⟩ := h.mn
    obtain ⟨_, q⟩ := ho
    rcases q with ⟨q, _⟩ | ⟨g', cap, cur, q1, _, q3, _⟩
    · simp only [Value.slice.injEq] at q
      rw [q.1] at hk
      simp [rowS] at hk
    · simp only [Value.slice.injEq] at q1
      rw [q1.1] at hk
      simp [rowS] at hk
      subst hk
      rw [hm1] at q3
      cases q3
  · intro j
    unfold dput
    by_cases hj : j = i
    · subst hj
      rw [fset_same, if_pos rfl]
      simp [sval]
    · rw [if_neg hj, fset_other _ _ _ _ (by simp; omega)]
      exact hf j

theorem DkAt.wait {w w4 : World} {g N : Nat} {now : Nat → Option (List UInt8)} {bn bl : Nat} {a a2 : Option Addr} {m c n cap : Nat} {l : List (Nat × List UInt8)} (h : DkAt w g N now bn bl a m) (hl : ∀ p ∈ l, p.1 < 4096) (hl2 : l.length ≤ m)
    (hu : Upd (rowS a) w (rowS a2) w4) (i : Nat) (s : ByteArray) (hi : i < 4096) (hown : w4.ownsRow 0 111 2 (.slice a2 n cap) n (writeCells l ++ [.int .i64 i, .string s])) (hn : n = l.length + 1)
    (ho : w.ownsRow 0 111 2 (.slice a l.length c) l.length (writeCells l)) :
    DkAt (w4.setCell ⟨g, 8, none⟩ (.slice a2 n cap)) g N now bn bl a2 (m + 1) ∧ Upd (dkS g bn bl a) w (dkS g bn bl a2) (w4.setCell ⟨g, 8, none⟩ (.slice a2 n cap)) := by
  subst hn
  have hg := h.lt g (Or.inl rfl)
  have hgs : ¬ rowS a g := h.d4
  have C := fun o => hu.cell hg hgs o
  have F := fun o => hu.frozen hg hgs o
  have a2g : ¬ rowS a2 g := fun e => by rcases hu.own g e with e | e; exact hgs e; omega
  have noMap : ∀ b n f, MapF Try.prog 3 w b n f → ¬ rowS a b := by
    intro b n f hm hk
    obtain ⟨es, ck, hm1, _⟩ := hm
    obtain ⟨_, q⟩ := ho
    rcases q with ⟨q, _⟩ | ⟨g', cap, cur, q1, _, q3, _⟩
    · simp only [Value.slice.injEq] at q
      rw [q.1] at hk
      simp [rowS] at hk
    · simp only [Value.slice.injEq] at q1
      rw [q1.1] at hk
      simp [rowS] at hk
      subst hk
      rw [hm1] at q3
      cases q3
  have hset : Upd (fun k => k = g) w4 (fun k => k = g) (w4.setCell ⟨g, 8, none⟩ (.slice a2 (l.length + 1) cap)) := Upd.setCell (S := fun k => k = g) w4 rfl _
  obtain ⟨n', c1⟩ := h.c1
  obtain ⟨n1, f1, m1, m2⟩ := h.mn
  obtain ⟨n2, f2, m3⟩ := h.ml
  obtain ⟨_, _, c8, _⟩ := h.c8
  have a0 : w4.cell? ⟨g, 0, none⟩ = _ := (C 0).trans h.c0
  have a1 : w4.cell? ⟨g, 1, none⟩ = _ := (C 1).trans c1
  have a2' : w4.cell? ⟨g, 2, none⟩ = _ := (C 2).trans h.c2
  have a5 : w4.cell? ⟨g, 5, none⟩ = _ := (C 5).trans h.c5
  have a6 : w4.cell? ⟨g, 6, none⟩ = _ := (C 6).trans h.c6
  have a7 : w4.cell? ⟨g, 7, none⟩ = _ := (C 7).trans h.c7
  have a8 : w4.cell? ⟨g, 8, none⟩ = _ := (C 8).trans c8
  have b1 : w4.frozen? ⟨g, 1, none⟩ = _ := (F 1).trans h.f1
  have b8 : w4.frozen? ⟨g, 8, none⟩ = _ := (F 8).trans h.f8
  clear C F
  refine ⟨⟨by go_simp, ⟨n', by go_simp⟩, by go_simp, by go_simp, by go_simp, by go_simp, ⟨cap, l ++ [(i, s.data.toList)], by go_simp, ?_, ?_, by simp; omega⟩, by go_simp, by go_simp,
    ⟨n1, f1, (m1.kept hu (noMap _ _ _ m1)).kept hset h.d2, m2⟩, ⟨n2, f2, (m3.kept hu (noMap _ _ _ m3)).kept hset h.d3⟩, h.d1, h.d2, h.d3, a2g⟩, ?_⟩
  · have e1 : writeCells (l ++ [(i, s.data.toList)]) = writeCells l ++ [.int .i64 i, .string s] := by simp [writeCells, sval]
    rw [e1, List.length_append]
    exact own_kept hown hset (fun k hk e => a2g (by rw [← e]; exact hk))
  · intro p hp
    simp only [List.mem_append, List.mem_singleton] at hp
    rcases hp with hp | rfl
    · exact hl p hp
    · exact hi
  · have u1 : Upd (dkS g bn bl a) w (dkS g bn bl a2) w4 := (hu.wide (T := dkS g bn bl a) (fun k hk => Or.inr (Or.inr (Or.inr hk)))).less (fun k hk => by
      rcases hk with h1 | h1 | h1 | h1
      · exact Or.inl (Or.inl h1)
      · exact Or.inl (Or.inr (Or.inl h1))
      · exact Or.inl (Or.inr (Or.inr (Or.inl h1)))
      · exact Or.inr h1)
    exact u1.trans (Upd.setCell w4 (Or.inl rfl) _)

set_option maxRecDepth 20000 in
set_option maxHeartbeats 1600000 in
theorem dev_write (g N : Nat) (now : Nat → Option (List UInt8)) (bn bl : Nat) (a : Option Addr) (m i : Nat) (s : ByteArray) (w : World) (h : DkAt w g N now bn bl a m) (hm : m < Big) (hi : i < N) (hN : N ≤ 4096) (hs : s.size = 256) :
    Calls Try.prog 51 #[.pointer (some ⟨g, 0, none⟩), .int .i64 i, .string s] w fun r w' =>
      ∃ a', r = .returned (.int .i64 0) ∧ DkAt w' g N (dput now i s.data.toList) bn bl a' (m + 1) ∧ Upd (dkS g bn bl a) w (dkS g bn bl a') w' := by
  have H := hid h
  have c0 := h.c0
  have c2 := h.c2
  have c5 := h.c5
  obtain ⟨n, c1⟩ := h.c1
  have f1 := h.f1
  clear h
  have hl : s.size ≤ Big := by rw [hs]; unfold Big; omega
  have hs1 : (((s.size : Nat) : Int) != 256) = false := by simp [hs]
  have hd : decide ((i : Int) < 0) = false := by simp
  have hd2 : decide ((N : Int) ≤ i) = false := by simp; omega
  have HS := hid hs
  clear hs
  go_enter Try.func51, Try.ntmps51
  go_wp2_with (first | (go_at_call 52; refine (off_any g w c0).mono ?_; rintro e w1 ⟨rfl, rfl⟩) | (go_at_call 53; refine (goes_any g n w c2 c1 f1).mono ?_; rintro e w1 ⟨rfl, rfl⟩) | (go_at_call 79; refine (str_clone s _ hl).mono ?_; rintro e w1 ⟨rfl, hb⟩))
  have H1 := (H.out.tick (wrap64 (n + 1))).kept (Upd.of_below (S := fun _ => False) hb) (fun _ _ h => h)
  have U1 : Upd (dkS g bn bl a) w (dkS g bn bl a) w1 := (Upd.setCell w (Or.inl rfl) _).trans (Upd.of_below hb)
  have HU1 := hid U1
  have HD1 := hid H1
  obtain ⟨n1, fm, mm, hfm⟩ := H1.mn
  have c6 := H1.c6
  have hg1 := H1.lt g (Or.inl rfl)
  have hbn1 := H1.lt bn (Or.inr (Or.inl rfl))
  clear c0 c2 c5 c1 f1 hb hd hd2 hs1 H1 U1
  obtain ⟨w3, hrun, hm3, hu3⟩ := run_update key_int (Try.underlying76) (w := (w1.alloc (.cells #[.int .i64 i, .string s] 111)).drew) (mm.kept ((Upd.alloc (fun _ => False) w1 _).trans (Upd.drew _ _)) (fun h => h)) (key := .int .i64 i) (val := .string s) (keyOf_int_mk Try.underlying3 (WalkArith.wf_i64 (by omega)))
  have HM3 := hid hm3
  have HU3 := hid hu3
  have HF := hid hfm
  clear hm3 hu3 hfm mm
  have hbn9 : w1.heap.size < w3.heap.size := by have := HU3.out.size; simp at this; omega
  have k6 : w3.cell? ⟨g, 6, none⟩ = some (.map (some bn)) := by rw [HU3.out.cell (by simp; omega) (fun e => H.out.d2 e.symm)]; go_simp
  have k1 : w3.cell? ⟨w1.heap.size, 1, none⟩ = some (.string s) := by rw [HU3.out.cell (by simp) (fun e => by omega)]; go_simp
  go_region_held3 (fun w' => w'.cell? ⟨g, 6, none⟩ = some (.map (some bn)) ∧ w'.cell? ⟨w1.heap.size, 1, none⟩ = some (.string s)) (first | go_keep | exact ⟨k6, k1⟩) (fail)
  have HA : Hid (Upd (fun k => k = bn) w1 (fun k => k = bn) w3) := ((Upd.alloc _ w1 _).trans (Upd.drew _ _)).trans HU3.out
  have HD3 : Hid (DkAt w3 g N (dput now i s.data.toList) bn bl a m) := HD1.out.put HA.out i s HM3.out HF.out
  obtain ⟨c, l, c8, ho, hl, hlen⟩ := HD3.out.c8
  have f8 := HD3.out.f8
  have t0 : w3.cell? ⟨w1.heap.size, 0, none⟩ = some (.int .i64 i) := by rw [HU3.out.cell (by simp) (fun e => by omega)]; go_simp
  have hg3 := HD3.out.lt g (Or.inl rfl)
  have hd4 := HD3.out.d4
  have HL := hid hl
  have HO := hid ho
  have hlen2 : l.length < Big := by omega
  clear hl ho
  go_wp2
  go_region_law (refine step_app1 slt_writes w3 (by rfl) _ _ (by rfl) a l.length c _ (by rfl) HO.out #[.int .i64 i, .string s] (by rfl) (by rfl) (by intro u hu; simp at hu; rcases hu with rfl | rfl <;> rfl) (by unfold Big at hlen2; unfold maxLen; omega) (by unfold Big at hlen2; omega) ?_; intro a2 cap2 w4 hown4 hu4; have k8 : w4.cell? ⟨g, 8, none⟩ = some (.slice a l.length c) := (hu4.cell hg3 hd4 8).trans c8; have fr8 : w4.frozen? ⟨g, 8, none⟩ = false := (hu4.frozen hg3 hd4 8).trans f8)
  all_goals
    have HR := hid (DkAt.wait HD3.out HL.out hlen hu4 i s (by omega) hown4 rfl HO.out)
    have HUU := hid ((HU1.out.trans ((HA.out.wide (T := dkS g bn bl a) (fun k hk => Or.inr (Or.inl hk))).less (fun k hk => Or.inl hk))).trans HR.out.2)
    clear hown4 hu4
    go_wp2
    go_ret
    exact ⟨a2, rfl, HR.out.1, HUU.out⟩

theorem dev_write_at (g N : Nat) (now : Nat → Option (List UInt8)) (bn bl : Nat) (a : Option Addr) (m i : Nat) (q : Int) (s : ByteArray) (w : World) (h : DkAt w g N now bn bl a m) (hm : m < Big) (hi : i < N) (hN : N ≤ 4096) (hs : s.size = 256) (hq : q = (i : Nat)) :
    Calls Try.prog 51 #[.pointer (some ⟨g, 0, none⟩), .int .i64 q, .string s] w fun r w' =>
      ∃ a', r = .returned (.int .i64 0) ∧ DkAt w' g N (dput now i s.data.toList) bn bl a' (m + 1) ∧ Upd (dkS g bn bl a) w (dkS g bn bl a') w' := by
  subst hq
  exact dev_write g N now bn bl a m i s w h hm hi hN hs

end Go.Proofs.Ytjnipfangjnpcaa
