/- What the law looks at first: Small, Some, Few, Light; and SameRecords, Web. -/
import Derived.Test.YtcbpaikklkmnbaaTierZ
namespace Go.Proofs.Ytcbpaikklkmnbaa
open Go.RowKit Go.Proofs
set_option maxRecDepth 20000
set_option maxHeartbeats 1600000

theorem book_small (pn : ByteArray) (a : Option Addr) (b o c : Nat) (P : List Ti) (w : World) (ha : P ≠ [] → a = some ⟨b, o, none⟩) (hT : TisAt w b o P) :
    Calls Try.prog 14 #[poV pn a P.length c] w fun e w' => ∃ v : Bool, e = .returned (.bool v) ∧ (v = true → P.length ≤ 10) ∧ Below w.heap.size w w' := by
  have HA := hid ha
  have HT := hid hT
  clear ha hT
  go_enter Try.func14, Try.ntmps14
  go_wp2_with fail
  go_loopw [3] (fun i wr => ∃ k : Nat, k ≤ 12 ∧ i = .int .i64 k ∧ wr.cell? ⟨w.heap.size, 0, none⟩ = some (.string pn) ∧ wr.cell? ⟨w.heap.size, 1, none⟩ = some (.slice a P.length c) ∧ Below w.heap.size w wr) (fun i _ => 12 - (intOf i).toNat)
  case atStart => exact ⟨0, by omega, by first | trivial | rfl, by go_simp, by go_simp, below_al (Below.refl _ _) _⟩
  case round =>
    obtain ⟨k, hk, rfl, c0, c1, hB⟩ := hrel
    have HB := hid hB
    clear hB
    have hend : ∀ v : Bool, (v = (decide ((P.length : Int) ≤ 10) && decide ((pn.size : Int) ≤ 60))) → (v = true → P.length ≤ 10) := by
      intro v h1 h2
      rw [h1] at h2
      simp only [Bool.and_eq_true, decide_eq_true_eq] at h2
      omega
    have HE := hid hend
    clear hend
    by_cases hk1 : k < P.length
    · have hd1 : decide ((k : Int) < P.length) = true := by simp; omega
      by_cases hk2 : k < 12
      · have hd2 : decide ((k : Int) < 12) = true := by simp; omega
        obtain rfl := HA.out (by intro h; rw [h] at hk1; simp at hk1)
        obtain ⟨s, hs⟩ : ∃ s, s = (P.getD k default).n := ⟨_, rfl⟩
        have hbl : b < w.heap.size := cell_lt (HT.out.n k hk1)
        have cn := ((bcell HB.out).1 _ _ hbl).trans (HT.out.n k hk1)
        rw [← hs] at cn
        clear hs
        by_cases h60 : 60 < s.size
        · have hd3 : decide ((60 : Int) < s.size) = true := by simp; omega
          go_wp2
          go_ret
          first | exact ⟨false, rfl, (fun h => by cases h), HB.out⟩ | exact ⟨rfl, HB.out⟩ | exact HB.out | exact Or.inl ⟨rfl, HB.out⟩ | exact ⟨rfl, (fun h => by cases h), HB.out⟩ | exact ⟨Or.inl rfl, HB.out⟩
        · have hd3 : decide ((60 : Int) < s.size) = false := by simp; omega
          go_wp2
          go_roundw
          case rel => exact ⟨k + 1, by omega, by go_num, c0, c1, HB.out⟩
          case measure => simp [intOf]; omega
      · have hd2 : decide ((k : Int) < 12) = false := by simp; omega
        have hd4 : decide ((P.length : Int) ≤ 10) = false := by simp; omega
        go_wp2
        go_ret
        first | exact ⟨false, rfl, (fun h => by cases h), HB.out⟩ | exact ⟨rfl, HB.out⟩ | exact HB.out | exact Or.inl ⟨rfl, HB.out⟩ | exact ⟨rfl, (fun h => by cases h), HB.out⟩ | exact ⟨Or.inl rfl, HB.out⟩
    · have hd1 : decide ((k : Int) < P.length) = false := by simp; omega
      by_cases h10 : P.length ≤ 10
      · have hd4 : decide ((P.length : Int) ≤ 10) = true := by simp; omega
        go_wp2
        go_ret
        first | exact ⟨_, rfl, fun _ => h10, HB.out⟩ | exact ⟨⟨_, rfl⟩, HB.out⟩
      · have hd4 : decide ((P.length : Int) ≤ 10) = false := by simp; omega
        go_wp2
        go_ret
        first | exact ⟨false, rfl, (fun h => by cases h), HB.out⟩ | exact ⟨rfl, HB.out⟩ | exact HB.out | exact Or.inl ⟨rfl, HB.out⟩ | exact ⟨rfl, (fun h => by cases h), HB.out⟩ | exact ⟨Or.inl rfl, HB.out⟩

theorem book_some (a : Option Addr) (b o c n : Nat) (w : World) (ha : n ≠ 0 → a = some ⟨b, o, none⟩) (hN : ∀ j, j < n → ∃ s, w.cell? ⟨b, o + j * 3, none⟩ = some (.string s)) :
    Calls Try.prog 33 #[.int .i64 20, .slice a n c] w fun e w' => ∃ v : Bool, e = .returned (.bool v) ∧ w = w' := by
  have HA := hid ha
  have HT := hid hN
  clear ha hN
  go_enter Try.func33, Try.ntmps33
  go_wp2_with fail
  go_loopw [5] (fun i wr => ∃ k : Nat, k ≤ 20 ∧ i = .int .i64 k ∧ w = wr) (fun i _ => 20 - (intOf i).toNat)
  case atStart => exact ⟨0, by omega, by first | trivial | rfl, by first | trivial | rfl⟩
  case round =>
    obtain ⟨k, hk, rfl, rfl⟩ := hrel
    by_cases hk1 : k < n
    · have hd1 : decide ((k : Int) < n) = true := by simp; omega
      by_cases hk2 : k < 20
      · have hd2 : decide ((k : Int) < 20) = true := by simp; omega
        obtain rfl := HA.out (by omega)
        obtain ⟨s, cn⟩ := HT.out k hk1
        by_cases h60 : 60 < s.size
        · have hd3 : decide ((60 : Int) < s.size) = true := by simp; omega
          go_wp2
          go_ret
          first | exact ⟨false, rfl, rfl⟩ | exact ⟨Or.inl rfl, rfl⟩ | exact ⟨Or.inl rfl, trivial⟩ | exact Or.inl rfl | exact Or.inl ⟨rfl, rfl⟩ | rfl | exact ⟨_, rfl⟩ | trivial
        · have hd3 : decide ((60 : Int) < s.size) = false := by simp; omega
          go_wp2
          go_roundw
          case rel => exact ⟨k + 1, by omega, by go_num, by first | trivial | rfl⟩
          case measure => simp [intOf]; omega
      · have hd2 : decide ((k : Int) < 20) = false := by simp; omega
        go_wp2
        go_ret
        exact ⟨_, by first | trivial | rfl, by first | trivial | rfl⟩
    · have hd1 : decide ((k : Int) < n) = false := by simp; omega
      go_wp2
      go_ret
      exact ⟨_, by first | trivial | rfl, by first | trivial | rfl⟩

theorem book_few (a : Option Addr) (b o c n : Nat) (w : World) (ha : n ≠ 0 → a = some ⟨b, o, none⟩) (hN : ∀ j, j < n → ∃ s, w.cell? ⟨b, o + j * 7, none⟩ = some (.string s)) :
    Calls Try.prog 34 #[.int .i64 20, .slice a n c] w fun e w' => ∃ v : Bool, e = .returned (.bool v) ∧ w = w' := by
  have HA := hid ha
  have HT := hid hN
  clear ha hN
  go_enter Try.func34, Try.ntmps34
  go_wp2_with fail
  go_loopw [5] (fun i wr => ∃ k : Nat, k ≤ 20 ∧ i = .int .i64 k ∧ w = wr) (fun i _ => 20 - (intOf i).toNat)
  case atStart => exact ⟨0, by omega, by first | trivial | rfl, by first | trivial | rfl⟩
  case round =>
    obtain ⟨k, hk, rfl, rfl⟩ := hrel
    by_cases hk1 : k < n
    · have hd1 : decide ((k : Int) < n) = true := by simp; omega
      by_cases hk2 : k < 20
      · have hd2 : decide ((k : Int) < 20) = true := by simp; omega
        obtain rfl := HA.out (by omega)
        obtain ⟨s, cn⟩ := HT.out k hk1
        by_cases h60 : 60 < s.size
        · have hd3 : decide ((60 : Int) < s.size) = true := by simp; omega
          go_wp2
          go_ret
          first | exact ⟨false, rfl, rfl⟩ | exact ⟨Or.inl rfl, rfl⟩ | exact ⟨Or.inl rfl, trivial⟩ | exact Or.inl rfl | exact Or.inl ⟨rfl, rfl⟩ | rfl | exact ⟨_, rfl⟩ | trivial
        · have hd3 : decide ((60 : Int) < s.size) = false := by simp; omega
          go_wp2
          go_roundw
          case rel => exact ⟨k + 1, by omega, by go_num, by first | trivial | rfl⟩
          case measure => simp [intOf]; omega
      · have hd2 : decide ((k : Int) < 20) = false := by simp; omega
        go_wp2
        go_ret
        exact ⟨_, by first | trivial | rfl, by first | trivial | rfl⟩
    · have hd1 : decide ((k : Int) < n) = false := by simp; omega
      go_wp2
      go_ret
      exact ⟨_, by first | trivial | rfl, by first | trivial | rfl⟩

/-- a step of the law -/
structure Opn where
  kind : Int
  n : Int
  sa : Option Addr
  sb : Nat
  so : Nat
  sc : Nat
  S : List Sa
  ra : Option Addr
  rb : Nat
  ro : Nat
  rc : Nat
  rn : Nat
instance : Inhabited Opn := ⟨⟨0, 0, none, 0, 0, 0, [], none, 0, 0, 0, 0⟩⟩

/-- what a step's lists have -/
structure OpAt (w : World) (x : Opn) : Prop where
  sa : x.S ≠ [] → x.sa = some ⟨x.sb, x.so, none⟩
  ss : SasAt w x.sb x.so x.S
  ra : x.rn ≠ 0 → x.ra = some ⟨x.rb, x.ro, none⟩
  rs : ∀ j, j < x.rn → ∃ s, w.cell? ⟨x.rb, x.ro + j * 7, none⟩ = some (.string s)

/-- steps in a row of memory -/
structure OpsAt (w : World) (b o : Nat) (L : List Opn) : Prop where
  c0 : ∀ j, j < L.length → w.cell? ⟨b, o + j * 4, none⟩ = some (.int .i64 (L.getD j default).kind)
  c1 : ∀ j, j < L.length → w.cell? ⟨b, o + j * 4 + 1, none⟩ = some (.int .i64 (L.getD j default).n)
  c2 : ∀ j, j < L.length → w.cell? ⟨b, o + j * 4 + 2, none⟩ = some (.slice (L.getD j default).sa (L.getD j default).S.length (L.getD j default).sc)
  c3 : ∀ j, j < L.length → w.cell? ⟨b, o + j * 4 + 3, none⟩ = some (.slice (L.getD j default).ra (L.getD j default).rn (L.getD j default).rc)
  op : ∀ j, j < L.length → OpAt w (L.getD j default)

theorem law_light (a : Option Addr) (b o c : Nat) (L : List Opn) (w : World) (ha : L ≠ [] → a = some ⟨b, o, none⟩) (hT : OpsAt w b o L) :
    Calls Try.prog 15 #[.slice a L.length c] w fun e w' => ∃ v : Bool, e = .returned (.bool v) ∧ (v = true → L.length ≤ 50) ∧ w = w' := by
  have HA := hid ha
  have HT := hid hT
  clear ha hT
  go_enter Try.func15, Try.ntmps15
  go_wp2_with fail
  go_loopw [3] (fun i wr => ∃ k : Nat, k ≤ 200 ∧ i = .int .i64 k ∧ w = wr) (fun i _ => 200 - (intOf i).toNat)
  case atStart => exact ⟨0, by omega, by first | trivial | rfl, by first | trivial | rfl⟩
  case round =>
    obtain ⟨k, hk, rfl, rfl⟩ := hrel
    by_cases hk1 : k < L.length
    · have hd1 : decide ((k : Int) < L.length) = true := by simp; omega
      by_cases hk2 : k < 200
      · have hd2 : decide ((k : Int) < 200) = true := by simp; omega
        obtain rfl := HA.out (by intro h; rw [h] at hk1; simp at hk1)
        obtain ⟨x, hx⟩ : ∃ x, x = L.getD k default := ⟨_, rfl⟩
        have c2 := HT.out.c2 k hk1
        have c3 := HT.out.c3 k hk1
        have hop := HT.out.op k hk1
        rw [← hx] at c2 c3 hop
        have HO := hid hop
        clear hx hop
        go_wp2_with fail
        refine (book_some x.sa x.sb x.so x.sc x.S.length w (fun h => HO.out.sa (fun h0 => h (by rw [h0]; rfl))) (fun j hj => ⟨_, HO.out.ss.n j hj⟩)).mono ?_
        rintro y w1 ⟨v, rfl, rfl⟩
        cases v with
        | false =>
          go_wp2
          go_ret
          exact ⟨false, by first | trivial | rfl, fun h => (by cases h), by first | trivial | rfl⟩
        | true =>
          go_wp2_with fail
          refine (book_few x.ra x.rb x.ro x.rc x.rn w HO.out.ra HO.out.rs).mono ?_
          rintro y w1 ⟨v, rfl, rfl⟩
          cases v with
          | false =>
            go_wp2
            go_ret
            exact ⟨false, by first | trivial | rfl, fun h => (by cases h), by first | trivial | rfl⟩
          | true =>
            go_wp2
            go_roundw
            case rel => exact ⟨k + 1, by omega, by go_num, by first | trivial | rfl⟩
            case measure => simp [intOf]; omega
      · have hd2 : decide ((k : Int) < 200) = false := by simp; omega
        have hd4 : decide ((L.length : Int) ≤ 50) = false := by simp; omega
        go_wp2
        go_ret
        exact ⟨false, by first | trivial | rfl, fun h => (by cases h), by first | trivial | rfl⟩
    · have hd1 : decide ((k : Int) < L.length) = false := by simp; omega
      by_cases h50 : L.length ≤ 50
      · have hd4 : decide ((L.length : Int) ≤ 50) = true := by simp; omega
        go_wp2
        go_ret
        exact ⟨true, by first | trivial | rfl, fun _ => h50, by first | trivial | rfl⟩
      · have hd4 : decide ((L.length : Int) ≤ 50) = false := by simp; omega
        go_wp2
        go_ret
        exact ⟨false, by first | trivial | rfl, fun h => (by cases h), by first | trivial | rfl⟩

end Go.Proofs.Ytcbpaikklkmnbaa
