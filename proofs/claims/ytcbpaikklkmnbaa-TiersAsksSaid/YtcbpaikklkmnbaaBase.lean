/- Words for what the calls of this seat leave in memory: small lemmas over worlds, no program. -/
import Derived.WalkKit
import Derived.WalkSpells
import Derived.WalkLawsBesides
import Derived.Deep.Draws
import Derived.Deep.QuietTactic
import Derived.BigQuiet
import Derived.Maps.AppendAt
import Derived.Lib.Strings
namespace Go.Proofs.Ytcbpaikklkmnbaa
open Go.RowKit Go.Proofs

theorem hid {p : Prop} (h : p) : Hid p := h

/-- a bound that no walk may open -/
def Big : Nat := 1073741824

/-- a byte as a value -/
def bval (b : UInt8) : Value := .int .u8 b.toNat

theorem bval_one (l : List UInt8) : ∀ u ∈ l.map bval, u.oneCell' = true := by
  intro u hu
  obtain ⟨_, _, rfl⟩ := List.mem_map.1 hu
  rfl

theorem bcell {W w1 : World} {B : Nat} (hb : Below B W w1) : (∀ b o, b < B → w1.cell? ⟨b, o, none⟩ = W.cell? ⟨b, o, none⟩) ∧ (∀ b o, b < B → w1.frozen? ⟨b, o, none⟩ = W.frozen? ⟨b, o, none⟩) :=
  ⟨fun b o h => hb.cell (p := ⟨b, o, none⟩) h, fun b o h => hb.frozen (p := ⟨b, o, none⟩) h⟩

theorem gcell {w w' : World} {row : Option Nat} (hg : w.grownBy w' row) {b : Nat} (hb : b < w.heap.size) (hr : row ≠ some b) :
    (∀ o, w'.cell? ⟨b, o, none⟩ = w.cell? ⟨b, o, none⟩) ∧ (∀ o, w'.frozen? ⟨b, o, none⟩ = w.frozen? ⟨b, o, none⟩) :=
  ⟨fun _ => World.cell?_of_block (hg.block b hb (fun e => hr e.symm)), fun _ => World.frozen?_of_block (hg.block b hb (fun e => hr e.symm))⟩

/-- a row that is owned from B on does not lie below B -/
theorem own_ne {w : World} {B : Nat} {e : TypeId} {size : Nat} {v : Value} {n : Nat} {xs : List Value} (h : w.ownsRow B e size v n xs) {b : Nat} (hb : b < B) : v.ownBlock ≠ some b := by
  intro e
  have := (h.lt b e).1
  omega

theorem cell_lt {w : World} {b o : Nat} {v : Value} (h : w.cell? ⟨b, o, none⟩ = some v) : b < w.heap.size := World.block_lt_of_cell? w ⟨b, o, none⟩ h

theorem below_drewN {B : Nat} {a w : World} (h : Below B a w) (n : Nat) : Below B a (w.drewN n) := h.trans ⟨rfl, rfl, rfl, Nat.le_refl _, fun _ _ => rfl⟩

/-- a call that turns nothing, inside a region that draws its order -/
theorem quiet_eq {P : Program} {f : FuncId} {args : Array Value} {w : World} {n : Nat} {v : Value}
    (h : Calls P f args (w.drewN n) fun e w' => e = .returned v ∧ w.drewN n = w') : Calls P f args (w.drewN n) fun e w'' => e = .returned v ∧ ∃ m, w'' = w.drewN m :=
  h.mono fun _ _ ⟨he, hm⟩ => ⟨he, n, hm.symm⟩

/-- a slice type's row of the program's tables -/
structure SlT (P : Program) (t e : TypeId) (z : Value) (size bytes : Nat) : Prop where
  und : P.underlying t = some (.slice e)
  inf : ∃ i, P.info? e = some i ∧ i.zero = some z ∧ i.size = size ∧ i.bytes = bytes
  zs : z.cells.size = size
  pos : 0 < size

theorem slice_of_own {w : World} {B : Nat} {e : TypeId} {size : Nat} {v : Value} {n : Nat} {xs : List Value} (h : w.ownsRow B e size v n xs) : ∃ a c, v = .slice a n c := by
  rcases h.2 with ⟨hv, rfl⟩ | ⟨g, cap, cur, hv, _⟩
  · exact ⟨_, _, hv⟩
  · exact ⟨_, _, hv⟩

/-- from w to w': only the blocks of S are written; what is owned behind it (S') was owned, or is new -/
structure Upd (S : Nat → Prop) (w : World) (S' : Nat → Prop) (w' : World) : Prop where
  os : w'.os = w.os
  tape : w'.tape = w.tape
  output : w'.output = w.output
  size : w.heap.size ≤ w'.heap.size
  block : ∀ k, k < w.heap.size → ¬ S k → w'.heap[k]? = w.heap[k]?
  own : ∀ k, S' k → S k ∨ w.heap.size ≤ k

theorem Upd.refl (S : Nat → Prop) (w : World) : Upd S w S w := ⟨rfl, rfl, rfl, Nat.le_refl _, fun _ _ _ => rfl, fun _ h => Or.inl h⟩

theorem Upd.trans {S S1 S2 : Nat → Prop} {w w1 w2 : World} (h : Upd S w S1 w1) (k : Upd S1 w1 S2 w2) : Upd S w S2 w2 where
  os := k.os.trans h.os
  tape := k.tape.trans h.tape
  output := k.output.trans h.output
  size := Nat.le_trans h.size k.size
  block := fun i hi hn => (k.block i (Nat.lt_of_lt_of_le hi h.size) (fun e => by rcases h.own i e with h1 | h1; exact hn h1; omega)).trans (h.block i hi hn)
  own := fun i hi => by
    rcases k.own i hi with h1 | h1
    · exact h.own i h1
    · exact Or.inr (Nat.le_trans h.size h1)

theorem Upd.cell {S S' : Nat → Prop} {w w' : World} (h : Upd S w S' w') {b : Nat} (hb : b < w.heap.size) (hn : ¬ S b) (o : Nat) : w'.cell? ⟨b, o, none⟩ = w.cell? ⟨b, o, none⟩ :=
  World.cell?_of_block (h.block b hb hn)

theorem Upd.frozen {S S' : Nat → Prop} {w w' : World} (h : Upd S w S' w') {b : Nat} (hb : b < w.heap.size) (hn : ¬ S b) (o : Nat) : w'.frozen? ⟨b, o, none⟩ = w.frozen? ⟨b, o, none⟩ :=
  World.frozen?_of_block (h.block b hb hn)

/-- what is owned is new: nothing that was there has turned -/
theorem Upd.below {S S' : Nat → Prop} {w w' : World} (h : Upd S w S' w') {B : Nat} (hB : B ≤ w.heap.size) (hn : ∀ k, S k → B ≤ k) : Below B w w' :=
  ⟨h.os, h.tape, h.output, h.size, fun k hk => h.block k (by omega) (fun e => by have := hn k e; omega)⟩

theorem Upd.alloc (S : Nat → Prop) (w : World) (o : Obj) : Upd S w S (w.alloc o) :=
  ⟨rfl, rfl, rfl, by simp, fun k hk _ => Below.heap_alloc w o k hk, fun _ h => Or.inl h⟩

theorem Upd.drewN (S : Nat → Prop) (w : World) (n : Nat) : Upd S w S (w.drewN n) :=
  ⟨rfl, rfl, rfl, Nat.le_refl _, fun _ _ _ => rfl, fun _ h => Or.inl h⟩

theorem Upd.drew (S : Nat → Prop) (w : World) : Upd S w S w.drew :=
  ⟨rfl, rfl, rfl, Nat.le_refl _, fun _ _ _ => rfl, fun _ h => Or.inl h⟩

theorem Upd.setCell {S : Nat → Prop} (w : World) {p : Addr} (h : S p.block) (u : Value) : Upd S w S (w.setCell p u) :=
  ⟨rfl, rfl, rfl, by simp [World.setCell], fun k _ hn => Below.heap_setCell w p u k (fun e => hn (by rw [e]; exact h)), fun _ h => Or.inl h⟩

theorem Upd.grown {S S' : Nat → Prop} {w w' : World} {row : Option Nat} (hg : w.grownBy w' row) (hr : ∀ k, row = some k → S k) (hS : ∀ k, S' k → S k ∨ w.heap.size ≤ k) : Upd S w S' w' :=
  ⟨hg.os, hg.tape, hg.output, hg.size, fun k hk hn => hg.block k hk (fun e => hn (hr k e.symm)), hS⟩

theorem Upd.of_below {S : Nat → Prop} {w w' : World} (h : Below w.heap.size w w') : Upd S w S w' :=
  ⟨h.os, h.tape, h.output, h.size, fun k hk _ => h.block k hk, fun _ h => Or.inl h⟩

theorem Upd.of_below_at {B : Nat} {w w' : World} (h : Below B w w') : Upd (fun k => B ≤ k) w (fun k => B ≤ k) w' :=
  ⟨h.os, h.tape, h.output, h.size, fun k _ hn => h.block k (by omega), fun _ h => Or.inl h⟩

/-- more may be owned -/
theorem Upd.wide {S S' T : Nat → Prop} {w w' : World} (h : Upd S w S' w') (hT : ∀ k, S k → T k) : Upd T w (fun k => T k ∨ S' k) w' :=
  ⟨h.os, h.tape, h.output, h.size, fun k hk hn => h.block k hk (fun e => hn (hT k e)), fun k hk => by
    rcases hk with h1 | h1
    · exact Or.inl h1
    · rcases h.own k h1 with h2 | h2
      · exact Or.inl (hT k h2)
      · exact Or.inr h2⟩

/-- less is owned behind it -/
theorem Upd.less {S S' T : Nat → Prop} {w w' : World} (h : Upd S w S' w') (hT : ∀ k, T k → S' k) : Upd S w T w' :=
  ⟨h.os, h.tape, h.output, h.size, h.block, fun k hk => h.own k (hT k hk)⟩

/-- a block, and that of a slice -/
def ownS (g : Nat) (a : Option Addr) (k : Nat) : Prop := k = g ∨ a.map (·.block) = some k

theorem ownBlock_slice (a : Option Addr) (n c : Nat) : (Value.slice a n c).ownBlock = a.map (·.block) := by cases a <;> rfl

/-- the row of a slice -/
def rowS (a : Option Addr) (k : Nat) : Prop := a.map (·.block) = some k

theorem Upd.of_row {w w' : World} {a a' : Option Addr} {n c n' c' : Nat} (hg : w.grownBy w' (Value.slice a n c).ownBlock)
    (h : (Value.slice a' n' c').ownBlock = (Value.slice a n c).ownBlock ∨ (Value.slice a' n' c').ownBlock = some w.heap.size) : Upd (rowS a) w (rowS a') w' := by
  rw [ownBlock_slice] at hg
  rw [ownBlock_slice, ownBlock_slice] at h
  refine Upd.grown hg (fun k hk => hk) (fun k hk => ?_)
  unfold rowS at *
  rcases h with h | h
  · exact Or.inl (h ▸ hk)
  · rw [h] at hk
    exact Or.inr (by simp at hk; omega)

/-- append: of m elements that lie at an address -/
theorem wpList_app {P : Program} {t e : TypeId} {z : Value} {size bytes : Nat} (T : SlT P t e z size bytes) (w : World) {ops : Array Oper} {rest : List Oper} {o : Oper} {a : Act} {Q : Exit → Act → World → Prop} (hgd : o.guard = none) (s x : Operand)
    (ho : o.op = .call { callee := .builtin .append, args := #[s, x], argTypes := #[t, t] })
    (base : Nat) (sa : Option Addr) (n cap : Nat) (xs : List Value) (hs : a.eval s = .slice sa n cap) (hown : w.ownsRow base e size (.slice sa n cap) n xs)
    (ad : Addr) (m c : Nat) (news : List Value) (hx : a.eval x = .slice (some ad) m c) (hl : news.length = m * size) (hnews : ∀ j u, news[j]? = some u → w.cell? (ad.add j) = some u) (h1 : ∀ u ∈ news, u.oneCell' = true)
    (h63 : n + m ≤ maxLen) (hbytes : (n + m) * bytes ≤ 140737488355328) (hbase : base ≤ w.heap.size)
    (h : ∀ sa' cap' w', w'.ownsRow base e size (.slice sa' (n + m) cap') (n + m) (xs ++ news) → Upd (rowS sa) w (rowS sa') w' → wpList P ops Q rest (a.put o.dst (.slice sa' (n + m) cap')) w') : wpList P ops Q (o :: rest) a w := by
  obtain ⟨i, hi, hz, hz1, hz2⟩ := T.inf
  refine wpList_append_own_at w hgd s x t ho base e i z size bytes T.und hi hz hz1 hz2 T.zs T.pos _ n xs hs hown ad m c news hx hl hnews h1 h63 hbytes hbase ?_
  intro v' w' h2 h3 _ h5
  obtain ⟨a', c', rfl⟩ := slice_of_own h2
  exact h a' c' w' h2 (Upd.of_row h3 h5)

/-- append of one element that was laid just ahead in a block of its own -/
theorem wpList_app1 {P : Program} {t e : TypeId} {z : Value} {size bytes : Nat} (T : SlT P t e z size bytes) (w : World) {ops : Array Oper} {rest : List Oper} {o : Oper} {a : Act} {Q : Exit → Act → World → Prop} (hgd : o.guard = none) (s x : Operand)
    (ho : o.op = .call { callee := .builtin .append, args := #[s, x], argTypes := #[t, t] })
    (base : Nat) (sa : Option Addr) (n cap : Nat) (xs : List Value) (hs : a.eval s = .slice sa n cap) (hown : w.ownsRow base e size (.slice sa n cap) n xs)
    (cs : Array Value) (hx : a.eval x = .slice (some ⟨w.heap.size, 0, none⟩) 1 1) (hl : cs.size = size) (h1 : ∀ u ∈ cs.toList, u.oneCell' = true)
    (h63 : n + 1 ≤ maxLen) (hbytes : (n + 1) * bytes ≤ 140737488355328) (hbase : base ≤ w.heap.size)
    (h : ∀ sa' cap' w', w'.ownsRow base e size (.slice sa' (n + 1) cap') (n + 1) (xs ++ cs.toList) → Upd (rowS sa) w (rowS sa') w' → wpList P ops Q rest (a.put o.dst (.slice sa' (n + 1) cap')) w') : wpList P ops Q (o :: rest) a (w.alloc (.cells cs e)) := by
  refine wpList_app T (w.alloc (.cells cs e)) hgd s x ho base sa n cap xs hs (hown.alloc _) ⟨w.heap.size, 0, none⟩ 1 1 cs.toList hx (by simpa using hl) ?_ h1 h63 hbytes (by simp; omega) ?_
  · intro j u hu
    rw [show (⟨w.heap.size, 0, none⟩ : Addr).add j = ⟨w.heap.size, j, none⟩ by unfold Addr.add; split <;> simp_all]
    rw [cell_of_row (w.alloc (.cells cs e)) w.heap.size j cs e (0, 0) (heap_alloc_new w _)]
    simpa using hu
  · intro sa' cap' w' h2 h3
    exact h sa' cap' w' h2 ((Upd.alloc _ w _).trans h3)

/-- the same inside a region that draws its order -/
theorem step_app1 {P : Program} {t e : TypeId} {z : Value} {size bytes : Nat} (T : SlT P t e z size bytes) (w : World) {ops : Array Oper} {o : Oper} {a : Act} {K : Act → World → Prop} {Q : Exit → Act → World → Prop} {E : Prop} (hgd : o.guard = none) (s x : Operand)
    (ho : o.op = .call { callee := .builtin .append, args := #[s, x], argTypes := #[t, t] })
    (sa : Option Addr) (n cap : Nat) (xs : List Value) (hs : a.eval s = .slice sa n cap) (hown : w.ownsRow 0 e size (.slice sa n cap) n xs)
    (cs : Array Value) (hx : a.eval x = .slice (some ⟨w.heap.size, 0, none⟩) 1 1) (hl : cs.size = size) (h1 : ∀ u ∈ cs.toList, u.oneCell' = true)
    (h63 : n + 1 ≤ maxLen) (hbytes : (n + 1) * bytes ≤ 140737488355328)
    (h : ∀ sa' cap' w', w'.ownsRow 0 e size (.slice sa' (n + 1) cap') (n + 1) (xs ++ cs.toList) → Upd (rowS sa) w (rowS sa') w' → K (a.put o.dst (.slice sa' (n + 1) cap')) w') :
    if Region.wanted o (yielded ops a.tmps) = true then Oper.wp P o a (w.alloc (.cells cs e)).drew K Q else E := by
  have hw : Region.wanted o (yielded ops a.tmps) = true := by simp [Region.wanted, hgd]
  rw [if_pos hw]
  obtain ⟨i, hi, hz, hz1, hz2⟩ := T.inf
  have hnews : ∀ j u, cs.toList[j]? = some u → (w.alloc (.cells cs e)).drew.cell? ((⟨w.heap.size, 0, none⟩ : Addr).add j) = some u := by
    intro j u hu
    rw [show (⟨w.heap.size, 0, none⟩ : Addr).add j = ⟨w.heap.size, j, none⟩ by unfold Addr.add; split <;> simp_all]
    have := cell_of_row (w.alloc (.cells cs e)) w.heap.size j cs e (0, 0) (heap_alloc_new w _)
    show (w.alloc (.cells cs e)).cell? _ = _
    rw [this]
    simpa using hu
  obtain ⟨v', w', hr, h2, h3, _, h5⟩ := run_append_own_at (P := P) (w.alloc (.cells cs e)).drew 0 t o.type e i z size bytes T.und hi hz hz1 hz2 T.zs T.pos (.slice sa n cap) n xs (hown.alloc _) ⟨w.heap.size, 0, none⟩ 1 1 cs.toList (by simpa using hl) hnews h1 h63 hbytes (Nat.zero_le _)
  unfold Oper.wp execOp
  simp only [ho, resolve, invoke, builtin, Sem.run_bind, Sem.run_pure, Result.andThen_ok, List.map_toArray, List.map_cons, List.map_nil, hs, hx, hr]
  obtain ⟨a', c', rfl⟩ := slice_of_own h2
  exact h a' c' w' h2 (((Upd.alloc _ w _).trans (Upd.drew _ _)).trans (Upd.of_row h3 h5))

/-- n bytes of a number, the lowest first -/
def leB : Nat → Nat → List UInt8
  | 0, _ => []
  | n + 1, v => UInt8.ofNat v :: leB n (v / 256)

/-- a number without its k lowest bytes -/
def sh8 : Nat → Nat → Nat
  | v, 0 => v
  | v, k + 1 => sh8 v k / 256

theorem sh8_head (v k : Nat) : sh8 (v / 256) k = sh8 v k / 256 := by
  induction k with
  | zero => rfl
  | succ k ih => simp [sh8, ih]

theorem leB_length (n v : Nat) : (leB n v).length = n := by
  induction n generalizing v with
  | zero => rfl
  | succ n ih => simp [leB, ih]

theorem leB_snoc (n v : Nat) : leB (n + 1) v = leB n v ++ [UInt8.ofNat (sh8 v n)] := by
  induction n generalizing v with
  | zero => rfl
  | succ n ih =>
    rw [leB, ih, sh8_head, leB]
    rfl

theorem size_data (s : ByteArray) : s.size = s.data.toList.length := rfl

theorem append_data (s t : ByteArray) : (s ++ t).data.toList = s.data.toList ++ t.data.toList := by simp

/-- a text as a value -/
def sval (l : List UInt8) : Value := .string ⟨l.toArray⟩

theorem sval_of (s : ByteArray) : Value.string s = sval s.data.toList := by simp [sval]

theorem sval_one (l : List (List UInt8)) : ∀ u ∈ l.map sval, u.oneCell' = true := by
  intro u hu
  obtain ⟨_, _, rfl⟩ := List.mem_map.1 hu
  rfl

/-- what is owned stays so while only what is new turns -/
theorem own_below {w w2 : World} {B : Nat} {e : TypeId} {size : Nat} {v : Value} {n : Nat} {xs : List Value} (h : w.ownsRow B e size v n xs) (hb : Below w.heap.size w w2) : w2.ownsRow B e size v n xs :=
  h.kept (row := none) ⟨hb.os, hb.tape, hb.output, hb.size, fun j hj _ => hb.block j hj⟩ (by cases v.ownBlock <;> simp)

theorem cell_alloc_at (w : World) (cs : Array Value) (T : TypeId) (B j : Nat) (hB : B = w.heap.size) : (w.alloc (.cells cs T)).cell? ⟨B, j, none⟩ = cs[j]? := by
  subst hB
  rw [cell_of_row (w.alloc (.cells cs T)) w.heap.size j cs T (0, 0) (heap_alloc_new w _)]

theorem cells_new (w : World) (k : IntKind) (l : List Nat) (T : TypeId) (B : Nat) (hB : B = w.heap.size) :
    ∀ j (h : j < l.length), (w.alloc (.cells (l.map (fun x => Value.int k (x : Nat))).toArray T)).cell? ⟨B, j, none⟩ = some (.int k (l[j] : Nat)) := by
  intro j h
  rw [cell_alloc_at w _ T B j hB]
  simp [h]

end Go.Proofs.Ytcbpaikklkmnbaa
