/- A log that is written: what its calls leave in memory. -/
import Derived.Test.YtjnipfangjnpcaaWalA
import Derived.Test.YtjnipfangjnpcaaDevB
namespace Go.Proofs.Ytjnipfangjnpcaa
open Go.RowKit Go.Proofs Go.Maps

/-- the blocks of a log and its disk -/
def lgS (gl g bn bl : Nat) (a : Option Addr) (k : Nat) : Prop := k = gl ∨ dkS g bn bl a k

/-- a log in block gl over a disk in block g -/
structure LgAt (w : World) (gl g N : Nat) (from_ n gen used rec : Nat) (now : Nat → Option (List UInt8)) (bn bl : Nat) (a : Option Addr) (m : Nat) : Prop where
  l0 : w.cell? ⟨gl, 0, none⟩ = some (.pointer (some ⟨g, 0, none⟩))
  l1 : w.cell? ⟨gl, 1, none⟩ = some (.int .i64 from_)
  l2 : w.cell? ⟨gl, 2, none⟩ = some (.int .i64 n)
  l3 : w.cell? ⟨gl, 3, none⟩ = some (.int .u64 gen)
  l4 : w.cell? ⟨gl, 4, none⟩ = some (.int .i64 used)
  l5 : w.cell? ⟨gl, 5, none⟩ = some (.int .i64 rec)
  l6 : w.cell? ⟨gl, 6, none⟩ = some (.int .i64 0)
  f4 : w.frozen? ⟨gl, 4, none⟩ = false
  f5 : w.frozen? ⟨gl, 5, none⟩ = false
  f6 : w.frozen? ⟨gl, 6, none⟩ = false
  dk : DkAt w g N now bn bl a m
  ne : ¬ dkS g bn bl a gl
  un : used ≤ n
  fn : from_ + n ≤ N
  nN : N ≤ 4096

theorem wal_right (g n gen : Nat) (w : World) (h1 : 1 ≤ n) (h2 : n ≤ 4096) (h3 : 0 < gen) :
    Calls Try.prog 26 #[.pointer (some ⟨g, 0, none⟩), .int .i64 n, .int .u64 gen] w fun r w' => r = .returned (.bool true) ∧ w = w' := by
  have d1 : decide ((0 : Int) < gen) = true := by simp; omega
  have d2 : decide ((1 : Int) ≤ n) = true := by simp; omega
  have d3 : decide ((n : Int) ≤ 4096) = true := by simp; omega
  go_enter Try.func26, Try.ntmps26
  go_wp2
  go_ret
  exact ⟨by simp, rfl⟩

theorem wal_new (g N from_ n gen : Nat) (now : Nat → Option (List UInt8)) (bn bl : Nat) (a : Option Addr) (m : Nat) (w : World) (h : DkAt w g N now bn bl a m) (h1 : 1 ≤ n) (h3 : 0 < gen) (h4 : from_ + n ≤ N) (h5 : N ≤ 4096) :
    Calls Try.prog 8 #[.pointer (some ⟨g, 0, none⟩), .int .i64 from_, .int .i64 n, .int .u64 gen] w fun r w' =>
      r = .returned (.tuple #[.pointer (some ⟨w.heap.size, 0, none⟩), .int .i64 0]) ∧ LgAt w' w.heap.size g N from_ n gen 0 0 now bn bl a m ∧ Upd (dkS g bn bl a) w (dkS g bn bl a) w' ∧ w.heap.size < w'.heap.size := by
  have H := hid h
  clear h
  go_enter Try.func8, Try.ntmps8
  go_wp2_with (go_at_call 26; refine (wal_right g n gen w h1 (by omega) h3).mono ?_; rintro e w1 ⟨rfl, rfl⟩)
  go_ret2
  refine ⟨rfl, ⟨by go_simp, by go_simp, by go_simp, by go_simp, by go_simp, by go_simp, by go_simp, by go_simp, by go_simp, by go_simp, H.out.kept (Upd.alloc (fun _ => False) w _) (fun _ _ h => h), ?_, by omega, h4, h5⟩, Upd.alloc _ _ _, by simp⟩
  intro hk
  have := H.out.lt _ hk
  omega

theorem wal_may (gl g : Nat) (w : World) (l0 : w.cell? ⟨gl, 0, none⟩ = some (.pointer (some ⟨g, 0, none⟩))) (l6 : w.cell? ⟨gl, 6, none⟩ = some (.int .i64 0)) :
    Calls Try.prog 27 #[.pointer (some ⟨gl, 0, none⟩)] w fun r w' => r = .returned (.int .i64 0) ∧ w = w' := by
  go_enter Try.func27, Try.ntmps27
  go_wp2
  go_ret
  exact ⟨rfl, rfl⟩

theorem wal_fail (gl : Nat) (w : World) (l6 : w.cell? ⟨gl, 6, none⟩ = some (.int .i64 0)) (f6 : w.frozen? ⟨gl, 6, none⟩ = false) :
    Calls Try.prog 29 #[.pointer (some ⟨gl, 0, none⟩), .int .i64 0] w fun r w' => r = .returned (.int .i64 0) ∧ w = w' := by
  have hs := setCell_same l6
  go_enter Try.func29, Try.ntmps29
  go_wp2
  go_ret
  exact ⟨rfl, rfl⟩

theorem wal_left (gl n used : Nat) (w : World) (l2 : w.cell? ⟨gl, 2, none⟩ = some (.int .i64 n)) (l4 : w.cell? ⟨gl, 4, none⟩ = some (.int .i64 used)) (h : used ≤ n) (hn : n ≤ 4096) :
    Calls Try.prog 24 #[.pointer (some ⟨gl, 0, none⟩)] w fun r w' => r = .returned (.int .i64 (n - used : Nat)) ∧ ∃ q, w.drewN q = w' := by
  have hw : (((n - used : Nat)) : Int) = (n : Int) - used := by omega
  rw [hw]
  clear hw
  go_enter Try.func24, Try.ntmps24
  go_wp2_with fail
  go_quiet (fail)
  go_wp2
  go_ret
  exact ⟨by first | rfl | (simp [IntWalk.i64_in]), nq, rfl⟩

theorem wal_len (gl rec : Nat) (w : World) (l5 : w.cell? ⟨gl, 5, none⟩ = some (.int .i64 rec)) :
    Calls Try.prog 12 #[.pointer (some ⟨gl, 0, none⟩)] w fun r w' => r = .returned (.int .i64 rec) ∧ w = w' := by
  go_enter Try.func12, Try.ntmps12
  go_wp2
  go_ret
  exact ⟨rfl, rfl⟩

/-- blocks are written one behind the other -/
def dputs (now : Nat → Option (List UInt8)) (i : Nat) : List (List UInt8) → Nat → Option (List UInt8)
  | [] => now
  | b :: l => dputs (dput now i b) (i + 1) l

theorem dputs_snoc (now : Nat → Option (List UInt8)) (i : Nat) (l : List (List UInt8)) (b : List UInt8) : dputs now i (l ++ [b]) = dput (dputs now i l) (i + l.length) b := by
  induction l generalizing now i with
  | nil => rfl
  | cons x l ih =>
    simp only [List.cons_append, dputs, ih, List.length_cons]
    rw [show i + 1 + l.length = i + (l.length + 1) by omega]

theorem blockB_length (gen number place of : Nat) (part : List UInt8) (h : part.length ≤ 224) : (blockB gen number place of part).length = 256 := by
  simp [blockB, headB_length]
  omega

theorem layB_get (gen number : Nat) (l : List UInt8) (k : Nat) (h : k < (layB gen number l).length) : (layB gen number l)[k] = blockB gen number k (blocksN l.length) ((l.drop (k * 224)).take 224) := by
  simp [layB]

theorem layB_256 (gen number : Nat) (l : List UInt8) (k : Nat) (h : k < (layB gen number l).length) : ((layB gen number l)[k]).length = 256 := by
  rw [layB_get]
  exact blockB_length _ _ _ _ _ (by simp; omega)

/-- the log's cells stay where its block stays -/
theorem LgAt.kept {S S' : Nat → Prop} {w w' : World} {gl g N from_ n gen used rec : Nat} {now : Nat → Option (List UInt8)} {bn bl : Nat} {a : Option Addr} {m : Nat} (h : LgAt w gl g N from_ n gen used rec now bn bl a m) (u : Upd S w S' w') (hn : ∀ k, lgS gl g bn bl a k → ¬ S k) : LgAt w' gl g N from_ n gen used rec now bn bl a m := by
  have hg := cell_lt h.l0
  have hs := hn gl (Or.inl rfl)
  have C := fun o => u.cell hg hs o
  have F := fun o => u.frozen hg hs o
  exact ⟨by rw [C]; exact h.l0, by rw [C]; exact h.l1, by rw [C]; exact h.l2, by rw [C]; exact h.l3, by rw [C]; exact h.l4, by rw [C]; exact h.l5, by rw [C]; exact h.l6, by rw [F]; exact h.f4, by rw [F]; exact h.f5, by rw [F]; exact h.f6,
    h.dk.kept u (fun k hk => hn k (Or.inr hk)), h.ne, h.un, h.fn, h.nN⟩

/-- the disk is another one -/
theorem LgAt.disk {w w' : World} {gl g N from_ n gen used rec : Nat} {now now' : Nat → Option (List UInt8)} {bn bl : Nat} {a a' : Option Addr} {m m' : Nat} (h : LgAt w gl g N from_ n gen used rec now bn bl a m) (u : Upd (dkS g bn bl a) w (dkS g bn bl a') w') (hd : DkAt w' g N now' bn bl a' m') : LgAt w' gl g N from_ n gen used rec now' bn bl a' m' := by
  have hg := cell_lt h.l0
  have C := fun o => u.cell hg h.ne o
  have F := fun o => u.frozen hg h.ne o
  exact ⟨by rw [C]; exact h.l0, by rw [C]; exact h.l1, by rw [C]; exact h.l2, by rw [C]; exact h.l3, by rw [C]; exact h.l4, by rw [C]; exact h.l5, by rw [C]; exact h.l6, by rw [F]; exact h.f4, by rw [F]; exact h.f5, by rw [F]; exact h.f6,
    hd, fun e => by rcases u.own gl e with e | e; exact h.ne e; omega, h.un, h.fn, h.nN⟩

theorem LgAt.set4 {w : World} {gl g N from_ n gen used rec : Nat} {now : Nat → Option (List UInt8)} {bn bl : Nat} {a : Option Addr} {m : Nat} (h : LgAt w gl g N from_ n gen used rec now bn bl a m) (v : Nat) (hv : v ≤ n) : LgAt (w.setCell ⟨gl, 4, none⟩ (.int .i64 v)) gl g N from_ n gen v rec now bn bl a m := by
  have hu : Upd (fun k => k = gl) w (fun k => k = gl) (w.setCell ⟨gl, 4, none⟩ (.int .i64 v)) := Upd.setCell (S := fun k => k = gl) w rfl _
  obtain ⟨l0, l1, l2, l3, l4, l5, l6, f4, f5, f6, dk, ne, un, fn, nN⟩ := h
  exact ⟨by go_simp, by go_simp, by go_simp, by go_simp, by go_simp, by go_simp, by go_simp, by go_simp, by go_simp, by go_simp, dk.kept hu (fun k hk e => ne (by rw [← e]; exact hk)), ne, hv, fn, nN⟩

theorem LgAt.set5 {w : World} {gl g N from_ n gen used rec : Nat} {now : Nat → Option (List UInt8)} {bn bl : Nat} {a : Option Addr} {m : Nat} (h : LgAt w gl g N from_ n gen used rec now bn bl a m) (v : Nat) : LgAt (w.setCell ⟨gl, 5, none⟩ (.int .i64 v)) gl g N from_ n gen used v now bn bl a m := by
  have hu : Upd (fun k => k = gl) w (fun k => k = gl) (w.setCell ⟨gl, 5, none⟩ (.int .i64 v)) := Upd.setCell (S := fun k => k = gl) w rfl _
  obtain ⟨l0, l1, l2, l3, l4, l5, l6, f4, f5, f6, dk, ne, un, fn, nN⟩ := h
  exact ⟨by go_simp, by go_simp, by go_simp, by go_simp, by go_simp, by go_simp, by go_simp, by go_simp, by go_simp, by go_simp, dk.kept hu (fun k hk e => ne (by rw [← e]; exact hk)), ne, un, fn, nN⟩

/-- what a record does to a log: the error, the blocks used, the records, the disk -/
def logPut (from_ n gen : Nat) (used rec : Nat) (now : Nat → Option (List UInt8)) (l : List UInt8) : Nat × Nat × Nat × (Nat → Option (List UInt8)) :=
  if 3000 < l.length then (2, used, rec, now) else if n - used < blocksN l.length then (20, used, rec, now) else (0, used + blocksN l.length, rec + 1, dputs now (from_ + used) (layB gen rec l))

set_option maxRecDepth 20000 in
set_option maxHeartbeats 1600000 in
theorem log_append1 (gl g N from_ n gen used rec : Nat) (now : Nat → Option (List UInt8)) (bn bl : Nat) (a : Option Addr) (m : Nat) (s : ByteArray) (w : World) (h : LgAt w gl g N from_ n gen used rec now bn bl a m)
    (hs : s.size ≤ 100000) (hr : rec < 65536) (hm : m < 1000000) (hn : n ≤ 4096) :
    Calls Try.prog 28 #[.pointer (some ⟨gl, 0, none⟩), .string s] w fun r w' =>
      ∃ a' m', r = .returned (.int .i64 ((logPut from_ n gen used rec now s.data.toList).1 : Nat)) ∧
        LgAt w' gl g N from_ n gen (logPut from_ n gen used rec now s.data.toList).2.1 (logPut from_ n gen used rec now s.data.toList).2.2.1 (logPut from_ n gen used rec now s.data.toList).2.2.2 bn bl a' m' ∧
        m' ≤ m + 500 ∧ Upd (lgS gl g bn bl a) w (lgS gl g bn bl a') w' := by
  have hsz : s.data.toList.length = s.size := rfl
  obtain ⟨B, hB⟩ : ∃ B, B = layB gen rec s.data.toList := ⟨_, rfl⟩
  have hBl : B.length = blocksN s.size := by rw [hB, layB_length, hsz]
  have hB5 : B.length ≤ 500 := by rw [hBl]; exact blocksN_le _ _ (by omega) (by omega)
  have H := hid h
  obtain ⟨l0, l1, l2, l3, l4, l5, l6, f4, f5, f6, dk, ne, un, fn, nN⟩ := h
  have hglt := cell_lt l0
  have HB := hid hB
  have HBl := hid hBl
  clear hB hBl dk ne
  go_enter Try.func28, Try.ntmps28
  go_wp2_with fail
  go_region_held3 (fun w' => w'.cell? ⟨gl, 3, none⟩ = some (.int .u64 gen) ∧ w'.cell? ⟨gl, 5, none⟩ = some (.int .i64 rec)) (first | go_keep) (first | (go_at_call 50; refine (wal_lay gen rec s _ (by omega) hs).mono ?_; rintro e w1 ⟨al, cl, rfl, ho1, hb1⟩; have z3 : w1.cell? ⟨gl, 3, none⟩ = some (.int .u64 gen) := ((bcell hb1).1 gl 3 hglt).trans l3; have z5 : w1.cell? ⟨gl, 5, none⟩ = some (.int .i64 rec) := ((bcell hb1).1 gl 5 hglt).trans l5))
  rw [← HB.out] at ho1 ⊢
  have H1 := hid (H.out.kept ((Upd.drew (fun _ => False) w).trans (Upd.of_below hb1)) (fun _ _ h => h))
  have U1 : Hid (Upd (lgS gl g bn bl a) w (lgS gl g bn bl a) w1) := (Upd.drew _ w).trans (Upd.of_below hb1)
  obtain ⟨l0, l1, l2, l3, l4, l5, l6, f4, f5, f6, dk, ne, un, fn, nN⟩ := H1.out
  have HO := hid ho1
  have hz1 : w.heap.size ≤ w1.heap.size := hb1.size
  clear z3 z5 hb1 dk ne
  by_cases q1 : 3000 < s.size
  · have hd1 : decide ((3000 : Int) < s.size) = true := by simp; omega
    have hpost : logPut from_ n gen used rec now s.data.toList = (2, used, rec, now) := by unfold logPut; rw [if_pos (by rw [hsz]; exact q1)]
    have HP := hid hpost
    clear hpost hsz ho1
    go_wp2
    go_ret
    exact ⟨a, m, by rw [HP.out]; rfl, by rw [HP.out]; exact H1.out, by omega, U1.out⟩
  · have hd1 : decide ((3000 : Int) < s.size) = false := by simp; omega
    by_cases q2 : n - used < B.length
    · have hd2 : decide (((n - used : Nat) : Int) < B.length) = true := by simp; omega
      have hpost : logPut from_ n gen used rec now s.data.toList = (20, used, rec, now) := by
        unfold logPut
        rw [if_neg (by rw [hsz]; exact q1), if_pos (by rw [hsz, ← HBl.out]; exact q2)]
      have HP := hid hpost
      clear hpost hsz ho1
      go_wp2_with (go_at_call 24; refine (wal_left gl n used w1 l2 l4 un hn).mono ?_; rintro e w2 ⟨rfl, q, rfl⟩)
      go_ret
      exact ⟨a, m, by rw [HP.out]; rfl, by rw [HP.out]; exact H1.out.kept (Upd.drewN (fun _ => False) w1 q) (fun _ _ h => h), by omega, U1.out.trans (Upd.drewN _ _ _)⟩
    · have hd2 : decide (((n - used : Nat) : Int) < B.length) = false := by simp; omega
      have hpost : logPut from_ n gen used rec now s.data.toList = (0, used + B.length, rec + 1, dputs now (from_ + used) B) := by
        unfold logPut
        rw [if_neg (by rw [hsz]; exact q1), if_neg (by rw [hsz, ← HBl.out]; exact q2), hsz, ← HBl.out, ← HB.out]
      have HP := hid hpost
      clear hpost hsz
      have hal : ∃ gr, al = some ⟨gr, 0, none⟩ := by
        rcases ho1.2 with ⟨q, hq⟩ | ⟨gr, cap, cur, q, _⟩
        · have := blocksN_pos s.size
          rw [← HBl.out] at this
          omega
        · simp only [Value.slice.injEq] at q
          exact ⟨gr, q.1⟩
      obtain ⟨gr, rfl⟩ := hal
      clear ho1
      go_wp2_with (go_at_call 24; refine (wal_left gl n used w1 l2 l4 un hn).mono ?_; rintro e w2 ⟨rfl, q, rfl⟩)
      have H2 := hid (H1.out.kept (Upd.drewN (fun _ => False) w1 q) (fun _ _ h => h))
      have U2 := hid (U1.out.trans (Upd.drewN _ w1 q))
      have HO2 : Hid ((w1.drewN q).ownsRow w.drew.heap.size 9 1 (.slice (some ⟨gr, 0, none⟩) B.length cl) B.length (B.map sval)) := HO.out
      have hz2 : w.heap.size ≤ (w1.drewN q).heap.size := hz1
      generalize w1.drewN q = W at H2 U2 HO2 hz2 ⊢
      clear H1 U1 HO l0 l1 l2 l3 l4 l5 l6 f4 f5 f6 hz1
      have hgr : w.heap.size ≤ gr ∧ gr < W.heap.size := HO2.out.lt gr rfl
      have hgS : ¬ lgS gl g bn bl a gr := fun e => by
        rcases e with e | e
        · omega
        · have := H.out.dk.lt _ e; omega
      have hdn : used + B.length ≤ n := by omega
      go_loopw [31] (fun i wr => ∃ (k : Nat) (a' : Option Addr), k ≤ B.length ∧ i = .int .i64 k ∧ LgAt wr gl g N from_ n gen (used + k) rec (dputs now (from_ + used) (B.take k)) bn bl a' (m + k) ∧ Upd (lgS gl g bn bl a) W (lgS gl g bn bl a') wr) (fun i _ => B.length - (intOf i).toNat)
      case atStart => exact ⟨0, a, by omega, rfl, H2.out, Upd.refl _ _⟩
      case round =>
        obtain ⟨k, a1, hk, rfl, hl, hu⟩ := hrel
        by_cases hlt : k < B.length
        · have hb256 : B[k].length = 256 := by
            have := HB.out
            subst this
            exact layB_256 gen rec s.data.toList k hlt
          have hc : wr.cell? ⟨gr, k, none⟩ = some (.string ⟨B[k].toArray⟩) := by
            rw [hu.cell hgr.2 hgS]
            have := HO2.out.cells (g := gr) rfl k (sval B[k]) (by simp [hlt])
            rwa [show (⟨gr, 0, none⟩ : Addr).add k = ⟨gr, k, none⟩ by unfold Addr.add; split <;> simp_all] at this
          obtain ⟨t, ht⟩ : ∃ t : ByteArray, t = ⟨B[k].toArray⟩ := ⟨_, rfl⟩
          rw [← ht] at hc
          have htl : t.data.toList = B[k] := by rw [ht]
          have hts : t.size = 256 := by rw [size_data, htl, hb256]
          have hts2 := hid hts
          have HT := hid htl
          have HL := hid hl
          have HU := hid hu
          obtain ⟨l0, l1, l2, l3, l4, l5, l6, f4, f5, f6, dk, ne, un1, _, _⟩ := hl
          have hgl := cell_lt l0
          have hne := hid ne
          clear ht hts htl hb256 hu dk ne
          go_wp2_with fail
          go_region_held3 (fun w' => w'.cell? ⟨gl, 0, none⟩ = some (.pointer (some ⟨g, 0, none⟩)) ∧ w'.cell? ⟨gl, 1, none⟩ = some (.int .i64 from_) ∧ w'.cell? ⟨gl, 4, none⟩ = some (.int .i64 (used + k : Nat))) (first | go_keep) (first | (go_at_call 51; (with_reducible refine (dev_write_at g N _ bn bl a1 (m + k) (from_ + (used + k)) _ t _ (HL.out.dk.kept (Upd.drew (fun _ => False) wr) (fun _ _ h => h)) (by unfold Big; omega) (by omega) nN hts2.out ?_).mono ?_); (first | omega | (rw [IntWalk.i64_in _ (by omega)]; omega)); rintro e w2 ⟨a2, rfl, hd2, hu2⟩; have z0 : w2.cell? ⟨gl, 0, none⟩ = some (.pointer (some ⟨g, 0, none⟩)) := (hu2.cell hgl hne.out 0).trans l0; have z1 : w2.cell? ⟨gl, 1, none⟩ = some (.int .i64 from_) := (hu2.cell hgl hne.out 1).trans l1; have z4 : w2.cell? ⟨gl, 4, none⟩ = some (.int .i64 (used + k : Nat)) := (hu2.cell hgl hne.out 4).trans l4))
          all_goals
            have HL2 := hid ((HL.out.kept (Upd.drew (fun _ => False) wr) (fun _ _ h => h)).disk hu2 hd2)
            have HU2 : Hid (Upd (lgS gl g bn bl a1) wr (lgS gl g bn bl a2) w2) := ((((Upd.drew (dkS g bn bl a1) wr).trans hu2).wide (T := lgS gl g bn bl a1) (fun k hk => Or.inr hk)).less (fun k hk => by
              rcases hk with h1 | h1
              · exact Or.inl (Or.inl h1)
              · exact Or.inr h1))
            have x4 : w2.frozen? ⟨gl, 4, none⟩ = false := HL2.out.f4
            clear hd2 hu2
            go_wp2
            go_roundw
            case rel =>
              have e1 : (((used + k : Nat) : Int) + 1) = ((used + (k + 1) : Nat) : Int) := by omega
              refine ⟨k + 1, a2, by omega, by go_num, ?_, ?_⟩
              · have h5 := HL2.out.set4 (used + (k + 1)) (by omega)
                rw [HT.out] at h5
                rw [List.take_succ_eq_append_getElem hlt, dputs_snoc, List.length_take, Nat.min_eq_left hk, Nat.add_assoc]
                first | exact h5 | (rw [e1]; exact h5)
              · exact HU.out.trans (HU2.out.trans (Upd.setCell w2 (Or.inl rfl) _))
            case measure => simp [intOf]; omega
        · obtain rfl : k = B.length := by omega
          have HL := hid hl
          have HU := hid hu
          obtain ⟨l0, l1, l2, l3, l4, l5, l6, f4, f5, f6, dk, ne, un1, _, _⟩ := hl
          clear hu dk ne
          go_wp2
          go_ret
          refine ⟨a1, m + B.length, by rw [HP.out]; rfl, ?_, by omega, U2.out.trans (HU.out.trans (Upd.setCell wr (Or.inl rfl) _))⟩
          have h5 := HL.out.set5 (rec + 1)
          rw [List.take_length] at h5
          rw [HP.out]
          exact h5

end Go.Proofs.Ytjnipfangjnpcaa
