/- The calls of package pack that put: what each leaves in memory. -/
import Derived.Test.YtjnipfangjnpcaaBase
import Derived.Test.YtjnipfangjnpcaaChecked
namespace Go.Proofs.Ytjnipfangjnpcaa
open Go.RowKit Go.Proofs

theorem slt_bytes : SlT Try.prog 148 5 (.int .u8 0) 1 1 := ⟨Try.underlying148, info_parts (by kernel_rfl), rfl, by decide⟩

/-- the packer in block g: its error e, its bytes bs, in the row at a -/
structure PkAt (w : World) (g : Nat) (e : Int) (bs : List UInt8) (a : Option Addr) : Prop where
  c0 : w.cell? ⟨g, 0, none⟩ = some (.int .i64 e)
  f0 : w.frozen? ⟨g, 0, none⟩ = false
  f1 : w.frozen? ⟨g, 1, none⟩ = false
  ne : a.map (·.block) ≠ some g
  c1 : ∃ c, w.cell? ⟨g, 1, none⟩ = some (.slice a bs.length c) ∧ w.ownsRow 0 5 1 (.slice a bs.length c) bs.length (bs.map bval)

theorem PkAt.lt {w : World} {g : Nat} {e : Int} {bs : List UInt8} {a : Option Addr} (h : PkAt w g e bs a) : ∀ k, ownS g a k → k < w.heap.size := by
  intro k hk
  obtain ⟨c, h1, h2⟩ := h.c1
  rcases hk with rfl | hk
  · exact cell_lt h.c0
  · exact (h2.lt k (by rw [ownBlock_slice]; exact hk)).2

/-- the packer stays where its blocks stay -/
theorem PkAt.kept {S S' : Nat → Prop} {w w' : World} {g : Nat} {e : Int} {bs : List UInt8} {a : Option Addr} (h : PkAt w g e bs a) (u : Upd S w S' w') (hn : ∀ k, ownS g a k → ¬ S k) : PkAt w' g e bs a := by
  obtain ⟨c, h1, h2⟩ := h.c1
  have hl := h.lt
  refine ⟨?_, ?_, ?_, h.ne, c, ?_, ?_⟩
  · rw [u.cell (hl g (Or.inl rfl)) (hn g (Or.inl rfl))]; exact h.c0
  · rw [u.frozen (hl g (Or.inl rfl)) (hn g (Or.inl rfl))]; exact h.f0
  · rw [u.frozen (hl g (Or.inl rfl)) (hn g (Or.inl rfl))]; exact h.f1
  · rw [u.cell (hl g (Or.inl rfl)) (hn g (Or.inl rfl))]; exact h1
  · obtain ⟨p, q⟩ := h2
    refine ⟨p, ?_⟩
    rcases q with q | ⟨g', cap, cur, q1, q2, q3, q4⟩
    · exact Or.inl q
    · refine Or.inr ⟨g', cap, cur, q1, q2, ?_, q4⟩
      simp at q1
      rw [u.block g' (Array.getElem?_eq_some_iff.1 q3).1 (hn g' (Or.inr (by rw [q1.1]; rfl)))]
      exact q3

/-- the row grew: the packer has it -/
theorem PkAt.grow {w w1 : World} {g : Nat} {e : Int} {bs more : List UInt8} {a : Option Addr} (h : PkAt w g e bs a) {a' : Option Addr} (hu : Upd (rowS a) w (rowS a') w1) {n c : Nat} {xs : List Value}
    (ho : w1.ownsRow 0 5 1 (.slice a' n c) n xs) (hn : n = (bs ++ more).length) (hx : xs = (bs ++ more).map bval) :
    PkAt (w1.setCell ⟨g, 1, none⟩ (.slice a' n c)) g e (bs ++ more) a' ∧ Upd (ownS g a) w (ownS g a') (w1.setCell ⟨g, 1, none⟩ (.slice a' n c)) := by
  subst hn
  subst hx
  obtain ⟨c', h1, h2⟩ := h.c1
  have hlt := cell_lt h.c0
  have d0 : w1.cell? ⟨g, 0, none⟩ = some (.int .i64 e) := by rw [hu.cell hlt h.ne, h.c0]
  have d1 : w1.cell? ⟨g, 1, none⟩ = some (.slice a bs.length c') := by rw [hu.cell hlt h.ne, h1]
  have e0 : w1.frozen? ⟨g, 0, none⟩ = false := by rw [hu.frozen hlt h.ne, h.f0]
  have e1 : w1.frozen? ⟨g, 1, none⟩ = false := by rw [hu.frozen hlt h.ne, h.f1]
  have hne : a'.map (·.block) ≠ some g := by
    intro e
    rcases hu.own g e with h3 | h3
    · exact h.ne h3
    · omega
  refine ⟨⟨by go_simp, by go_simp, by go_simp, hne, c, by go_simp, ?_⟩, ?_⟩
  · obtain ⟨p, q⟩ := ho
    refine ⟨p, ?_⟩
    rcases q with q | ⟨g', cap, cur, q1, q2, q3, q4⟩
    · exact Or.inl q
    · refine Or.inr ⟨g', cap, cur, q1, q2, ?_, q4⟩
      simp at q1
      rw [Below.heap_setCell _ _ _ _ (fun e => hne (by rw [q1.1]; simpa using e))]
      exact q3
  · refine Upd.trans ?_ (Upd.setCell _ (Or.inl rfl) _)
    exact (hu.wide (T := ownS g a) (fun k hk => Or.inr hk)).less (fun k hk => by
      rcases hk with rfl | hk
      · exact Or.inl (Or.inl rfl)
      · exact Or.inr hk)

theorem PkAt.free {w w1 : World} {g : Nat} {e : Int} {bs : List UInt8} {a a' : Option Addr} (h : PkAt w g e bs a) (hu : Upd (rowS a) w (rowS a') w1) :
    (∃ u, w1.cell? ⟨g, 1, none⟩ = some u) ∧ w1.frozen? ⟨g, 1, none⟩ = false := by
  obtain ⟨c', h1, h2⟩ := h.c1
  have hlt := cell_lt h.c0
  exact ⟨⟨_, by rw [hu.cell hlt h.ne, h1]⟩, by rw [hu.frozen hlt h.ne, h.f1]⟩

set_option maxHeartbeats 400000 in
theorem pk_fail (g : Nat) (t e : Int) (w : World) (hc : w.cell? ⟨g, 0, none⟩ = some (.int .i64 t)) (hf : w.frozen? ⟨g, 0, none⟩ = false) :
    Calls Try.prog 90 #[.pointer (some ⟨g,0,none⟩), .int .i64 e] w fun r w' =>
      r = .returned (.bool ((if t = 0 then e else t) != 0)) ∧ (if t = 0 then w.setCell ⟨g,0,none⟩ (.int .i64 e) else w) = w' := by
  by_cases h : t = 0
  · subst h
    go_enter Try.func90, Try.ntmps90
    go_wp2
    go_ret
    exact ⟨rfl, rfl⟩
  · rw [if_neg h, if_neg h]
    have h2 : (t == 0) = false := by simpa using h
    go_enter Try.func90, Try.ntmps90
    go_wp2
    go_ret
    exact ⟨by simp, rfl⟩

set_option maxRecDepth 20000 in
set_option maxHeartbeats 400000 in
theorem pk_low (g : Nat) (e : Int) (bs : List UInt8) (a : Option Addr) (v : Nat) (n : Nat) (w : World) (hp : PkAt w g e bs a) (hn : bs.length + n ≤ Big) :
    Calls Try.prog 119 #[.pointer (some ⟨g,0,none⟩), .int .u64 v, .int .i64 n] w fun r w' =>
      ∃ a', r = .returned (.tuple #[]) ∧ PkAt w' g e (bs ++ leB n v) a' ∧ Upd (ownS g a) w (ownS g a') w' := by
  have hn2 : n ≤ 1073741824 := by unfold Big at hn; omega
  go_enter Try.func119, Try.ntmps119
  go_wp2
  go_loopw [1, 7] (fun x i wr => ∃ (k : Nat) (a' : Option Addr), k ≤ n ∧ i = .int .i64 k ∧ x = .int .u64 (sh8 v k : Nat) ∧ PkAt wr g e (bs ++ leB k v) a' ∧ Upd (ownS g a) w (ownS g a') wr) (fun _ i _ => n - (intOf i).toNat)
  case atStart => exact ⟨0, a, by omega, rfl, rfl, by simpa [leB] using hp, Upd.refl _ _⟩
  case round =>
    obtain ⟨k, a1, hk, rfl, rfl, hpk, hu⟩ := hrel
    have HP := hid hpk
    obtain ⟨c0', f0', f1', hne, cp, c1', hown'⟩ := hpk
    have hlen : (bs ++ leB k v).length = bs.length + k := by rw [List.length_append, leB_length]
    obtain ⟨L, HL⟩ : ∃ L, Hid (L = (bs ++ leB k v).length) := ⟨_, rfl⟩
    rw [← HL.out] at c1' hown'
    have hL : L ≤ Big := by rw [HL.out, hlen]; omega
    have hlt := cell_lt c0'
    clear hlen hne
    go_wp2_with (at_builtin; refine wpList_app1 slt_bytes wr rfl _ _ rfl 0 a1 L _ _ rfl hown' #[bval (UInt8.ofNat (sh8 v k))] rfl rfl ?c2 ?c3 ?c4 ?c5 ?_)
    case c2 => rfl
    case c3 => unfold Big at hL; unfold maxLen; omega
    case c4 => unfold Big at hL; omega
    case c5 => omega
    · intro a2 cap' w1 hown1 hu1
      have R := HP.out.grow (more := [UInt8.ofNat (sh8 v k)]) hu1 hown1 (by rw [HL.out]; simp [leB_length]; omega) (by simp)
      obtain ⟨⟨u, d1⟩, e1⟩ := HP.out.free hu1
      rw [List.append_assoc, ← leB_snoc] at R
      have RR := hid R
      have HU := hid hu
      have hk2 : k < n := by assumption
      clear hown' hown1 hu1 hu R c0' c1' f0' f1'
      go_wp2
      go_roundw
      case rel => exact ⟨k + 1, a2, by omega, by go_num, rfl, RR.out.1, HU.out.trans RR.out.2⟩
      case measure => simp [intOf]; omega
    · have : k = n := by omega
      subst this
      go_end0
      exact ⟨a1, rfl, HP.out, hu⟩

end Go.Proofs.Ytjnipfangjnpcaa
