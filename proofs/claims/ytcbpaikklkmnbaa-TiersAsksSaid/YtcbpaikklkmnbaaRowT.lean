/- What comes in: policies, samples, records and steps in memory. -/
import Derived.Test.YtcbpaikklkmnbaaLawT
import Derived.ProofKit
import Derived.Deep.Slices
namespace Go.Proofs.Ytcbpaikklkmnbaa
open Go.ChangeShapes Go.WideShapes Go.ChangeAt Go.RowKit

theorem list_of {α : Type} [Inhabited α] {Q : Nat → α → Prop} {n : Nat} (h : ∀ j, j < n → ∃ x, Q j x) : ∃ l : List α, l.length = n ∧ ∀ j, j < n → Q j (l.getD j default) := by
  classical
  refine ⟨(List.range n).map (fun j => if hj : j < n then Classical.choose (h j hj) else default), by simp, fun j hj => ?_⟩
  rw [List.getD_eq_getElem?_getD, List.getElem?_map, List.getElem?_range hj]
  simp only [Option.map_some, Option.getD_some, hj, dif_pos]
  exact Classical.choose_spec (h j hj)

theorem one_of {cs : List Value} {k c : Nat} {v : Value} (h : (cs.drop k).take c = [v]) (hc : c = 1) : cs[k]? = some v := by
  subst hc
  have h1 := congrArg (fun l => l[0]?) h
  simpa [List.getElem?_take, List.getElem?_drop] using h1

/-- a slice of structs -/
theorem structs_open {H : Type} {enc : TypeId × Value → H} {W : World} {t e : TypeId} {fs : Array Field} {C fuel : Nat} {cs : List Value} {x : DataW H × List MemPlace}
    (ht : Try.prog.underlying t = some (.slice e)) (he : Try.prog.underlying e = some (.struct fs)) (hC : Try.prog.cellsOf e = C) (hC0 : 0 < C) (h : DataW.trod enc Try.prog W 0 (fun _ => true) true fuel t cs = some x) :
    ∃ (sa : Option Addr) (b o len cap : Nat), cs = [.slice sa len cap] ∧ len ≤ cap ∧ (len ≠ 0 → sa = some ⟨b, o, none⟩) ∧
      ∀ i, i < len → ∃ cs' : List Value, (∀ k, k < C → W.cell? ⟨b, o + i * C + k, none⟩ = cs'[k]?) ∧
        ∃ n, ∀ (j : Nat) (f : Field), fs[j]? = some f → ∃ y, DataW.trod enc Try.prog W 0 (fun _ => true) true n f.type ((cs'.drop f.offset).take (Try.prog.cellsOf f.type)) = some y := by
  rcases Go.Deep.open_slice ht h with ⟨rfl, _⟩ | ⟨a, len, cap, m, n, D, Pl, rfl, _, hl, _, hm, _, hi⟩
  · exact ⟨none, 0, 0, 0, 0, rfl, Nat.le_refl _, fun h => absurd rfl h, fun i h => by omega⟩
  · simp only [if_true] at hm
    have key : ∀ i, i < len → ∃ cs' : List Value, cs'.length = C ∧ (∀ k, k < C → W.cell? ((a.add (i * C)).add k) = cs'[k]?) ∧ ∃ n, ∀ (j : Nat) (f : Field), fs[j]? = some f → ∃ y, DataW.trod enc Try.prog W 0 (fun _ => true) true n f.type ((cs'.drop f.offset).take (Try.prog.cellsOf f.type)) = some y := by
      intro i hil
      obtain ⟨cs', hc, htr⟩ := hi i (by omega)
      rw [hC] at hc
      obtain ⟨_, hlen, hat⟩ := World.cells?_some hc
      obtain ⟨ys, n', _, _, _, hyl, hf⟩ := DataW.trod_struct he htr
      refine ⟨cs', hlen, hat, n', fun j f hj => ?_⟩
      have hjl : j < fs.size := (Array.getElem?_eq_some_iff.1 hj).1
      exact ⟨ys[j]'(by omega), (hf j f hj).trans (List.getElem?_eq_getElem (by omega))⟩
    by_cases hl0 : len = 0
    · subst hl0
      exact ⟨some a, 0, 0, 0, cap, rfl, hl, fun h => absurd rfl h, fun i h => by omega⟩
    · obtain ⟨b, o, spot⟩ := a
      have hspot : spot = none := by
        obtain ⟨cs', hlen, hat, _⟩ := key 0 (by omega)
        have h0 := hat 0 hC0
        rw [List.getElem?_eq_getElem (by omega)] at h0
        simpa [Addr.add] using World.cell?_spot h0
      subst hspot
      refine ⟨some ⟨b, o, none⟩, b, o, len, cap, rfl, hl, fun _ => rfl, fun i hil => ?_⟩
      obtain ⟨cs', _, hat, hn⟩ := key i hil
      refine ⟨cs', fun k hk => ?_, hn⟩
      rw [← hat k hk, addO, addO]

theorem tis_open {H : Type} {enc : TypeId × Value → H} {W : World} {fuel : Nat} {cs : List Value} {x : DataW H × List MemPlace} (h : DataW.trod enc Try.prog W 0 (fun _ => true) true fuel 39 cs = some x) :
    ∃ (a : Option Addr) (b o c : Nat) (P : List Ti), cs = [.slice a P.length c] ∧ P.length ≤ c ∧ (P ≠ [] → a = some ⟨b, o, none⟩) ∧ TisAt W b o P := by
  obtain ⟨a, b, o, n, c, rfl, hc, ha, hi⟩ := structs_open Try.underlying39 Try.underlying63 (show Try.prog.cellsOf 63 = 4 by kernel_rfl) (by omega) h
  obtain ⟨P, hl, hP⟩ := list_of (α := Ti) (Q := fun j x => W.cell? ⟨b, o + j * 4, none⟩ = some (.string x.n) ∧ W.cell? ⟨b, o + j * 4 + 1, none⟩ = some (.int .i64 x.e) ∧ W.cell? ⟨b, o + j * 4 + 2, none⟩ = some (.int .i64 x.k) ∧ W.cell? ⟨b, o + j * 4 + 3, none⟩ = some (.int .i64 x.s)) (fun j hj => by
    obtain ⟨cs', hat, m, hf⟩ := hi j hj
    obtain ⟨y0, h0⟩ := hf 0 _ rfl
    obtain ⟨y1, h1⟩ := hf 1 _ rfl
    obtain ⟨y2, h2⟩ := hf 2 _ rfl
    obtain ⟨y3, h3⟩ := hf 3 _ rfl
    obtain ⟨s, e0, _⟩ := DataW.trod_string Try.underlying9 h0
    obtain ⟨n1, e1, _⟩ := DataW.trod_int Try.underlying3 h1
    obtain ⟨n2, e2, _⟩ := DataW.trod_int Try.underlying3 h2
    obtain ⟨n3, e3, _⟩ := DataW.trod_int Try.underlying3 h3
    exact ⟨⟨s, n1, n2, n3⟩, (hat 0 (by omega)).trans (one_of (k := 0) e0 string_cells), (hat 1 (by omega)).trans (one_of (k := 1) e1 int_cells), (hat 2 (by omega)).trans (one_of (k := 2) e2 int_cells), (hat 3 (by omega)).trans (one_of (k := 3) e3 int_cells)⟩)
  subst hl
  exact ⟨a, b, o, c, P, rfl, hc, fun h => ha (fun h0 => h (List.length_eq_zero_iff.1 h0)), ⟨fun j hj => (hP j hj).1, fun j hj => (hP j hj).2.1, fun j hj => (hP j hj).2.2.1, fun j hj => (hP j hj).2.2.2⟩⟩

theorem sas_open {H : Type} {enc : TypeId × Value → H} {W : World} {fuel : Nat} {cs : List Value} {x : DataW H × List MemPlace} (h : DataW.trod enc Try.prog W 0 (fun _ => true) true fuel 48 cs = some x) :
    ∃ (a : Option Addr) (b o c : Nat) (S : List Sa), cs = [.slice a S.length c] ∧ (S ≠ [] → a = some ⟨b, o, none⟩) ∧ SasAt W b o S := by
  obtain ⟨a, b, o, n, c, rfl, hc, ha, hi⟩ := structs_open Try.underlying48 Try.underlying93 (show Try.prog.cellsOf 93 = 3 by kernel_rfl) (by omega) h
  obtain ⟨S, hl, hP⟩ := list_of (α := Sa) (Q := fun j x => W.cell? ⟨b, o + j * 3, none⟩ = some (.string x.n) ∧ W.cell? ⟨b, o + j * 3 + 1, none⟩ = some (.int .i64 x.t) ∧ W.cell? ⟨b, o + j * 3 + 2, none⟩ = some (.int .i64 x.v)) (fun j hj => by
    obtain ⟨cs', hat, m, hf⟩ := hi j hj
    obtain ⟨y0, h0⟩ := hf 0 _ rfl
    obtain ⟨y1, h1⟩ := hf 1 _ rfl
    obtain ⟨y2, h2⟩ := hf 2 _ rfl
    obtain ⟨s, e0, _⟩ := DataW.trod_string Try.underlying9 h0
    obtain ⟨n1, e1, _⟩ := DataW.trod_int Try.underlying3 h1
    obtain ⟨n2, e2, _⟩ := DataW.trod_int Try.underlying3 h2
    exact ⟨⟨s, n1, n2⟩, (hat 0 (by omega)).trans (one_of (k := 0) e0 string_cells), (hat 1 (by omega)).trans (one_of (k := 1) e1 int_cells), (hat 2 (by omega)).trans (one_of (k := 2) e2 int_cells)⟩)
  subst hl
  exact ⟨a, b, o, c, S, rfl, fun h => ha (fun h0 => h (List.length_eq_zero_iff.1 h0)), ⟨fun j hj => (hP j hj).1, fun j hj => (hP j hj).2.1, fun j hj => (hP j hj).2.2⟩⟩

theorem recs_open {H : Type} {enc : TypeId × Value → H} {W : World} {fuel : Nat} {cs : List Value} {x : DataW H × List MemPlace} (h : DataW.trod enc Try.prog W 0 (fun _ => true) true fuel 49 cs = some x) :
    ∃ (a : Option Addr) (b o n c : Nat), cs = [.slice a n c] ∧ (n ≠ 0 → a = some ⟨b, o, none⟩) ∧ ∀ j, j < n → ∃ s, W.cell? ⟨b, o + j * 7, none⟩ = some (.string s) := by
  obtain ⟨a, b, o, n, c, rfl, hc, ha, hi⟩ := structs_open Try.underlying49 Try.underlying61 (show Try.prog.cellsOf 61 = 7 by kernel_rfl) (by omega) h
  refine ⟨a, b, o, n, c, rfl, ha, fun j hj => ?_⟩
  obtain ⟨cs', hat, m, hf⟩ := hi j hj
  obtain ⟨y0, h0⟩ := hf 0 _ rfl
  obtain ⟨s, e0, _⟩ := DataW.trod_string Try.underlying9 h0
  exact ⟨s, (hat 0 (by omega)).trans (one_of (k := 0) e0 string_cells)⟩

theorem sas_cells : Try.prog.cellsOf 48 = 1 := by kernel_rfl
theorem recs_cells : Try.prog.cellsOf 49 = 1 := by kernel_rfl

theorem ops_open {H : Type} {enc : TypeId × Value → H} {W : World} {fuel : Nat} {cs : List Value} {x : DataW H × List MemPlace} (h : DataW.trod enc Try.prog W 0 (fun _ => true) true fuel 42 cs = some x) :
    ∃ (a : Option Addr) (b o c : Nat) (L : List Opn), cs = [.slice a L.length c] ∧ (L ≠ [] → a = some ⟨b, o, none⟩) ∧ OpsAt W b o L := by
  obtain ⟨a, b, o, n, c, rfl, hc, ha, hi⟩ := structs_open Try.underlying42 Try.underlying51 (show Try.prog.cellsOf 51 = 4 by kernel_rfl) (by omega) h
  obtain ⟨L, hl, hP⟩ := list_of (α := Opn) (Q := fun j x => W.cell? ⟨b, o + j * 4, none⟩ = some (.int .i64 x.kind) ∧ W.cell? ⟨b, o + j * 4 + 1, none⟩ = some (.int .i64 x.n) ∧ W.cell? ⟨b, o + j * 4 + 2, none⟩ = some (.slice x.sa x.S.length x.sc) ∧ W.cell? ⟨b, o + j * 4 + 3, none⟩ = some (.slice x.ra x.rn x.rc) ∧ OpAt W x) (fun j hj => by
    obtain ⟨cs', hat, m, hf⟩ := hi j hj
    obtain ⟨y0, h0⟩ := hf 0 _ rfl
    obtain ⟨y1, h1⟩ := hf 1 _ rfl
    obtain ⟨y2, h2⟩ := hf 2 _ rfl
    obtain ⟨y3, h3⟩ := hf 3 _ rfl
    obtain ⟨n0, e0, _⟩ := DataW.trod_int Try.underlying3 h0
    obtain ⟨n1, e1, _⟩ := DataW.trod_int Try.underlying3 h1
    obtain ⟨sa, sb, so, sc, S, e2, hsa, hS⟩ := sas_open h2
    obtain ⟨ra, rb, ro, rn, rc, e3, hra, hR⟩ := recs_open h3
    exact ⟨⟨n0, n1, sa, sb, so, sc, S, ra, rb, ro, rc, rn⟩, (hat 0 (by omega)).trans (one_of (k := 0) e0 int_cells), (hat 1 (by omega)).trans (one_of (k := 1) e1 int_cells), (hat 2 (by omega)).trans (one_of (k := 2) e2 sas_cells), (hat 3 (by omega)).trans (one_of (k := 3) e3 recs_cells), ⟨hsa, hS, hra, hR⟩⟩)
  subst hl
  exact ⟨a, b, o, c, L, rfl, fun h => ha (fun h0 => h (List.length_eq_zero_iff.1 h0)), ⟨fun j hj => (hP j hj).1, fun j hj => (hP j hj).2.1, fun j hj => (hP j hj).2.2.1, fun j hj => (hP j hj).2.2.2.1, fun j hj => (hP j hj).2.2.2.2⟩⟩

theorem tiers_cells : Try.prog.cellsOf 39 = 1 := by kernel_rfl

set_option maxRecDepth 100000 in
theorem policy_open {H : Type} {enc : TypeId × Value → H} {W : World} {r : Reach} {b0 : Nat} {v : Value} {d : DataW H} {p : List MemPlace} (hv : Value.okWide Try.prog W r b0 41 v) (h : DataW.Trod enc Try.prog W 0 (fun _ => true) true 41 v d p) :
    ∃ (pn : ByteArray) (a : Option Addr) (b o c : Nat) (P : List Ti), v = poV pn a P.length c ∧ P.length ≤ c ∧ (P ≠ [] → a = some ⟨b, o, none⟩) ∧ TisAt W b o P := by
  obtain ⟨cs, rfl, hsz⟩ := okWide_struct Try.underlying41 hv
  have hsz2 : cs.size = 2 := hsz.trans (show Try.prog.cellsOf 41 = 2 by kernel_rfl)
  obtain ⟨fuel, hf⟩ := h
  obtain ⟨ys, n, _, _, _, hyl, hg⟩ := DataW.trod_struct Try.underlying41 hf
  obtain ⟨l⟩ := cs
  match l, hsz2 with
  | [v0, v1], _ =>
    have hyl2 : ys.length = 2 := hyl
    match ys, hyl2 with
    | [y0, y1], _ =>
      have g0 := hg 0 _ rfl
      have g1 := hg 1 _ rfl
      obtain ⟨s, e0, _⟩ := DataW.trod_string Try.underlying9 g0
      obtain ⟨a, b, o, c, P, e1, hc, ha, hT⟩ := tis_open g1
      have q0 : [v0, v1][0]? = some (.string s) := one_of (k := 0) e0 string_cells
      have q1 : [v0, v1][1]? = some (.slice a P.length c) := one_of (k := 1) e1 tiers_cells
      replace q0 : v0 = .string s := Option.some.inj q0
      replace q1 : v1 = .slice a P.length c := Option.some.inj q1
      subst q0
      subst q1
      exact ⟨s, a, b, o, c, P, rfl, hc, ha, hT⟩

end Go.Proofs.Ytcbpaikklkmnbaa
