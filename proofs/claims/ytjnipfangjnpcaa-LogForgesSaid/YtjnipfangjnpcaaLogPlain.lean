/- What is read of a log is what was appended: plain lists, no program. -/
import Derived.Test.YtjnipfangjnpcaaWalE
namespace Go.Proofs.Ytjnipfangjnpcaa
open Go.RowKit Go.Proofs

theorem leV_leB (n v : Nat) (h : v < 256 ^ n) : leV (leB n v) = v := by
  induction n generalizing v with
  | zero => simp [leB, leV]; simp at h; omega
  | succ n ih =>
    rw [Nat.pow_succ] at h
    simp only [leB, leV]
    rw [ih (v / 256) (by omega), UInt8.toNat_ofNat']
    omega

theorem at_place (A M C : List UInt8) (p n : Nat) (hA : A.length = p) (hM : M.length = n) : ((A ++ M ++ C).drop p).take n = M := by
  subst hA
  subst hM
  rw [List.append_assoc, List.drop_left, List.take_left]

theorem head_of (gen number place of bytes : Nat) (C : List UInt8) (h : of < 65536) : field (headB gen number place of bytes ++ C) 18 2 = of := by
  unfold field
  have e : headB gen number place of bytes ++ C = ([87, 76, 79, 71] ++ leB 8 gen ++ leB 4 number ++ leB 2 place) ++ leB 2 of ++ (leB 2 bytes ++ List.replicate 10 0 ++ C) := by simp [headB, words, List.append_assoc]
  rw [e, at_place _ _ _ 18 2 (by simp [leB_length]) (by simp [leB_length]), leV_leB 2 of (by omega)]

theorem head_bytes (gen number place of bytes : Nat) (C : List UInt8) (h : bytes < 65536) : field (headB gen number place of bytes ++ C) 20 2 = bytes := by
  unfold field
  have e : headB gen number place of bytes ++ C = ([87, 76, 79, 71] ++ leB 8 gen ++ leB 4 number ++ leB 2 place ++ leB 2 of) ++ leB 2 bytes ++ (List.replicate 10 0 ++ C) := by simp [headB, words, List.append_assoc]
  rw [e, at_place _ _ _ 20 2 (by simp [leB_length]) (by simp [leB_length]), leV_leB 2 bytes (by omega)]

theorem block_gen (gen number place of : Nat) (part : List UInt8) : ((blockB gen number place of part).drop 4).take 8 = leB 8 gen := by
  have e : blockB gen number place of part = [87, 76, 79, 71] ++ leB 8 gen ++ (leB 4 number ++ leB 2 place ++ leB 2 of ++ leB 2 part.length ++ List.replicate 10 0 ++ part ++ List.replicate (224 - part.length) 0) := by
    simp [blockB, headB, words, List.append_assoc]
  rw [e, at_place _ _ _ 4 8 (by simp) (by simp [leB_length])]

theorem leB8_inj (a b : Nat) (ha : a < 18446744073709551616) (hb : b < 18446744073709551616) (h : leB 8 a = leB 8 b) : a = b := by
  have h1 := leV_leB 8 a (by have : (256 : Nat) ^ 8 = 18446744073709551616 := by decide
                             omega)
  have h2 := leV_leB 8 b (by have : (256 : Nat) ^ 8 = 18446744073709551616 := by decide
                             omega)
  rw [← h1, ← h2, h]

/-- the body of a block -/
theorem block_body (gen number place of : Nat) (part : List UInt8) : (blockB gen number place of part).drop 32 = part ++ List.replicate (224 - part.length) 0 := by
  unfold blockB
  rw [List.append_assoc, List.drop_left' (headB_length _ _ _ _ _)]

theorem bodies (r : List UInt8) (m : Nat) (h : m ≤ blocksN r.length) :
    (List.range m).flatMap (fun k => ((r.drop (k * 224)).take 224) ++ List.replicate (224 - ((r.drop (k * 224)).take 224).length) (0 : UInt8)) = r.take (m * 224) ++ List.replicate (m * 224 - r.length) 0 := by
  induction m with
  | zero => simp
  | succ m ih =>
    have hat := blocksN_at r.length m (by omega)
    rw [List.range_succ, List.flatMap_append, ih (by omega)]
    simp only [List.flatMap_cons, List.flatMap_nil, List.append_nil]
    have e1 : m * 224 - r.length = 0 := by omega
    rw [e1]
    simp only [List.replicate_zero, List.append_nil]
    rw [← List.append_assoc]
    have e2 : r.take (m * 224) ++ (r.drop (m * 224)).take 224 = r.take ((m + 1) * 224) := by
      rw [show (m + 1) * 224 = m * 224 + 224 by omega, List.take_add]
    rw [e2]
    congr 2
    simp only [List.length_take, List.length_drop]
    omega

theorem layB_bodies (gen number : Nat) (r : List UInt8) : (layB gen number r).flatMap (fun b => b.drop 32) = r ++ List.replicate (blocksN r.length * 224 - r.length) 0 := by
  unfold layB
  rw [List.flatMap_map]
  simp only [block_body]
  rw [bodies r _ (Nat.le_refl _)]
  congr 1
  apply List.take_of_length_le
  unfold blocksN
  split <;> omega

/-- what was laid is found -/
theorem whole_lay (gen num : Nat) (r : List UInt8) (rest : List (List UInt8)) (h : r.length ≤ 3000) : wholeB gen num (layB gen num r ++ rest) = some (r, blocksN r.length) := by
  have hp := blocksN_pos r.length
  have hle : blocksN r.length ≤ 14 := blocksN_le _ _ (by omega) (by omega)
  have hlen := layB_length gen num r
  have hhead : (layB gen num r ++ rest).headD [] = blockB gen num 0 (blocksN r.length) ((r.drop (0 * 224)).take 224) := by
    have h0 : 0 < (layB gen num r).length := by omega
    rw [← layB_get gen num r 0 h0]
    rw [List.headD_eq_head?_getD, List.head?_append, List.head?_eq_getElem?, List.getElem?_eq_getElem h0]
    rfl
  have hlast : ((layB gen num r ++ rest).drop (blocksN r.length - 1)).headD [] = blockB gen num (blocksN r.length - 1) (blocksN r.length) ((r.drop ((blocksN r.length - 1) * 224)).take 224) := by
    have h0 : blocksN r.length - 1 < (layB gen num r).length := by omega
    rw [List.drop_append_of_le_length (by omega), List.drop_eq_getElem_cons h0, ← layB_get gen num r _ h0]
    rfl
  have hf1 : field ((layB gen num r ++ rest).headD []) 18 2 = blocksN r.length := by
    rw [hhead]
    unfold blockB
    rw [List.append_assoc]
    exact head_of _ _ _ _ _ _ (by omega)
  have hn : ((r.drop ((blocksN r.length - 1) * 224)).take 224).length = r.length - (blocksN r.length - 1) * 224 := by
    have hat := blocksN_at r.length (blocksN r.length - 1) (by omega)
    have : r.length ≤ blocksN r.length * 224 := by unfold blocksN; split <;> omega
    simp only [List.length_take, List.length_drop]
    omega
  have hf2 : field (((layB gen num r ++ rest).drop (blocksN r.length - 1)).headD []) 20 2 = r.length - (blocksN r.length - 1) * 224 := by
    rw [hlast, ← hn]
    unfold blockB
    rw [List.append_assoc]
    exact head_bytes _ _ _ _ _ _ (by simp; omega)
  have hat := blocksN_at r.length (blocksN r.length - 1) (by omega)
  have hup : r.length ≤ blocksN r.length * 224 := by unfold blocksN; split <;> omega
  have htake : (layB gen num r ++ rest).take (blocksN r.length) = layB gen num r := by rw [← hlen, List.take_left]
  unfold wholeB
  simp only
  rw [hf1, hf2, htake, layB_bodies]
  have hcut : (r ++ List.replicate (blocksN r.length * 224 - r.length) (0 : UInt8)).take ((r ++ List.replicate (blocksN r.length * 224 - r.length) (0 : UInt8)).length - 224 + (r.length - (blocksN r.length - 1) * 224)) = r := by
    have e : (r ++ List.replicate (blocksN r.length * 224 - r.length) (0 : UInt8)).length - 224 + (r.length - (blocksN r.length - 1) * 224) = r.length := by
      simp only [List.length_append, List.length_replicate]
      omega
    rw [e, List.take_left]
  rw [hcut, if_neg (by simp [hlen]; omega), if_neg (by omega), if_neg (by omega), if_pos rfl]

/-- a block of another generation begins nothing -/
theorem whole_other (gen num : Nat) (b : List UInt8) (rest : List (List UInt8)) (h : (b.drop 4).take 8 ≠ leB 8 gen) : wholeB gen num (b :: rest) = none := by
  cases hO : wholeB gen num (b :: rest) with
  | none => rfl
  | some o =>
    obtain ⟨s, k⟩ := o
    obtain ⟨h1, _, _, h4⟩ := wholeB_pos hO
    exfalso
    obtain ⟨k, rfl⟩ : ∃ j, k = j + 1 := ⟨k - 1, by omega⟩
    rw [List.take_succ_cons] at h4
    have h0 : 0 < (layB gen num s).length := by rw [h4]; simp
    have h5 := layB_get gen num s 0 h0
    have h6 : (layB gen num s)[0] = b := by simp [h4]
    rw [h6] at h5
    exact h (by rw [h5]; exact block_gen _ _ _ _ _)

/-- records laid one behind the other -/
def laid (gen : Nat) : Nat → List (List UInt8) → List (List UInt8)
  | _, [] => []
  | j, r :: L => layB gen j r ++ laid gen (j + 1) L

theorem readAll_laid (gen : Nat) (L : List (List UInt8)) : ∀ (j f : Nat) (rest : List (List UInt8)), (∀ r ∈ L, r.length ≤ 3000) → (∀ b ∈ rest, (b.drop 4).take 8 ≠ leB 8 gen) → (laid gen j L ++ rest).length ≤ f → readAll gen f j (laid gen j L ++ rest) = L := by
  induction L with
  | nil =>
    intro j f rest _ hr _
    simp only [laid, List.nil_append]
    cases f with
    | zero => rfl
    | succ f =>
      unfold readAll
      cases rest with
      | nil => simp
      | cons b rest =>
        rw [if_neg (by simp), whole_other gen j b rest (hr b (by simp))]
  | cons r L ih =>
    intro j f rest hL hr hf
    have hlen := layB_length gen j r
    have hp := blocksN_pos r.length
    simp only [laid, List.append_assoc] at hf ⊢
    cases f with
    | zero => simp only [List.length_append] at hf; omega
    | succ f =>
      unfold readAll
      rw [if_neg (by intro e; have := congrArg List.length e; simp only [List.length_append, List.length_nil] at this; omega), whole_lay gen j r _ (hL r (by simp))]
      simp only
      rw [← hlen, List.drop_left, ih (j + 1) f rest (fun x hx => hL x (by simp [hx])) hr (by simp only [List.length_append] at hf ⊢; omega)]

theorem dputs_append (now : Nat → Option (List UInt8)) (i : Nat) (A B : List (List UInt8)) : dputs now i (A ++ B) = dputs (dputs now i A) (i + A.length) B := by
  induction A generalizing now i with
  | nil => rfl
  | cons x A ih =>
    simp only [List.cons_append, dputs, ih, List.length_cons]
    rw [show i + 1 + A.length = i + (A.length + 1) by omega]

theorem dputs_get (l : List (List UInt8)) : ∀ (now : Nat → Option (List UInt8)) (i j : Nat), dget (dputs now i l) j = if i ≤ j then (match l[j - i]? with | some b => b | none => dget now j) else dget now j := by
  induction l with
  | nil => intro now i j; simp [dputs]
  | cons b l ih =>
    intro now i j
    simp only [dputs]
    rw [ih]
    by_cases h1 : i ≤ j
    · rw [if_pos h1]
      by_cases h2 : i = j
      · subst h2
        rw [if_neg (by omega)]
        unfold dget dput
        rw [if_pos rfl]
        simp
      · rw [if_pos (by omega), show j - i = (j - (i + 1)) + 1 by omega, List.getElem?_cons_succ]
        cases l[j - (i + 1)]? with
        | some _ => rfl
        | none => show dget (dput now i b) j = dget now j
                  unfold dget dput
                  rw [if_neg (by omega)]
    · rw [if_neg h1, if_neg (by omega)]
      unfold dget dput
      rw [if_neg (by omega)]

theorem disk_laid (now : Nat → Option (List UInt8)) (from_ n : Nat) (l : List (List UInt8)) (h : l.length ≤ n) : diskBlocks (dputs now from_ l) from_ n = l ++ (diskBlocks now from_ n).drop l.length := by
  apply List.ext_getElem?
  intro j
  by_cases hj : j < n
  · rw [diskBlocks, List.getElem?_map, List.getElem?_range hj, Option.map_some, dputs_get, if_pos (by omega), Nat.add_sub_cancel_left]
    by_cases hl : j < l.length
    · rw [List.getElem?_append_left hl, List.getElem?_eq_getElem hl]
    · rw [List.getElem?_append_right (by omega), List.getElem?_eq_none (by omega), List.getElem?_drop, show l.length + (j - l.length) = j by omega, diskBlocks, List.getElem?_map, List.getElem?_range hj]
      rfl
  · rw [List.getElem?_eq_none (by simp [diskBlocks]; omega), List.getElem?_eq_none (by simp [diskBlocks]; omega)]

/-- what appends do -/
theorem logPuts_spec (from_ n gen : Nat) (L : List (List UInt8)) : ∀ (used rec : Nat) (now : Nat → Option (List UInt8)), (∀ r ∈ L, r.length ≤ 3000) → used ≤ n →
    ∃ k, k ≤ L.length ∧ (logPuts from_ n gen used rec now L).2.2.1 = rec + k ∧ (logPuts from_ n gen used rec now L).2.1 = used + (laid gen rec (L.take k)).length ∧ used + (laid gen rec (L.take k)).length ≤ n ∧
      (logPuts from_ n gen used rec now L).2.2.2 = dputs now (from_ + used) (laid gen rec (L.take k)) ∧ ((logPuts from_ n gen used rec now L).1 = 0 ∧ k = L.length ∨ (logPuts from_ n gen used rec now L).1 = 20) := by
  induction L with
  | nil =>
    intro used rec now _ hu
    exact ⟨0, by simp, by simp [logPuts], by simp [logPuts, laid], by simpa [laid] using hu, by simp [logPuts, laid, dputs], Or.inl ⟨by simp [logPuts], rfl⟩⟩
  | cons r L ih =>
    intro used rec now hL hu
    have hr := hL r (by simp)
    by_cases hsp : n - used < blocksN r.length
    · have e : logPut from_ n gen used rec now r = (20, used, rec, now) := by
        unfold logPut
        rw [if_neg (by omega), if_pos hsp]
      refine ⟨0, by simp, ?_, ?_, by simpa [laid] using hu, ?_, Or.inr ?_⟩ <;> simp [logPuts, e, laid, dputs]
    · have e : logPut from_ n gen used rec now r = (0, used + blocksN r.length, rec + 1, dputs now (from_ + used) (layB gen rec r)) := by
        unfold logPut
        rw [if_neg (by omega), if_neg hsp]
      obtain ⟨k, h1, h2, h3, h4, h5, h6⟩ := ih (used + blocksN r.length) (rec + 1) (dputs now (from_ + used) (layB gen rec r)) (fun x hx => hL x (by simp [hx])) (by omega)
      have e2 : logPuts from_ n gen used rec now (r :: L) = logPuts from_ n gen (used + blocksN r.length) (rec + 1) (dputs now (from_ + used) (layB gen rec r)) L := by
        rw [logPuts, e]
        simp
      have hlen := layB_length gen rec r
      rw [e2]
      refine ⟨k + 1, by simpa using h1, by rw [h2]; omega, ?_, ?_, ?_, ?_⟩
      · rw [h3]; simp only [List.take_succ_cons, laid, List.length_append, hlen]; omega
      · simp only [List.take_succ_cons, laid, List.length_append, hlen]; omega
      · rw [h5]
        simp only [List.take_succ_cons, laid]
        rw [dputs_append, hlen, Nat.add_assoc]
      · rcases h6 with ⟨h6, h7⟩ | h6
        · exact Or.inl ⟨h6, by simp [h7]⟩
        · exact Or.inr h6

/-- a block that is whole and of another generation -/
def Other (gen : Nat) (b : List UInt8) : Prop := b.length = 256 ∧ (b.drop 4).take 8 ≠ leB 8 gen

theorem other_dputs {gen : Nat} (l : List (List UInt8)) (now : Nat → Option (List UInt8)) (i : Nat) (h : ∀ j, Other gen (dget now j)) (hl : ∀ b ∈ l, Other gen b) : ∀ j, Other gen (dget (dputs now i l) j) := by
  intro j
  rw [dputs_get]
  split
  · split
    · rename_i b hb
      exact hl b (List.mem_of_getElem? hb)
    · exact h j
  · exact h j

theorem other_lay {gen gen' num : Nat} (r : List UInt8) (hg : gen < 18446744073709551616) (hg' : gen' < 18446744073709551616) (hne : gen' ≠ gen) : ∀ b ∈ layB gen' num r, Other gen b := by
  intro b hb
  obtain ⟨k, hk, rfl⟩ := List.getElem_of_mem hb
  refine ⟨layB_256 _ _ _ _ hk, ?_⟩
  rw [layB_get, block_gen]
  intro e
  exact hne (leB8_inj _ _ hg' hg e)

theorem other_puts {gen gen' from_ n : Nat} (hg : gen < 18446744073709551616) (hg' : gen' < 18446744073709551616) (hne : gen' ≠ gen) (L : List (List UInt8)) : ∀ (used rec : Nat) (now : Nat → Option (List UInt8)), (∀ j, Other gen (dget now j)) →
    ∀ j, Other gen (dget (logPuts from_ n gen' used rec now L).2.2.2 j) := by
  have one : ∀ (used rec : Nat) (now : Nat → Option (List UInt8)) (r : List UInt8), (∀ j, Other gen (dget now j)) → ∀ j, Other gen (dget (logPut from_ n gen' used rec now r).2.2.2 j) := by
    intro used rec now r h
    unfold logPut
    split
    · exact h
    · split
      · exact h
      · exact other_dputs _ _ _ h (other_lay r hg hg' hne)
  induction L with
  | nil => intro used rec now h; simpa [logPuts] using h
  | cons r L ih =>
    intro used rec now h
    rw [logPuts]
    split
    · exact one used rec now r h
    · exact ih _ _ _ (one used rec now r h)

/-- what is read behind appends: the first ones, each as it was -/
theorem read_back (from_ n gen : Nat) (now : Nat → Option (List UInt8)) (L : List (List UInt8)) (hL : ∀ r ∈ L, r.length ≤ 3000) (h : ∀ j, Other gen (dget now j)) :
    readAll gen n 0 (diskBlocks (logPuts from_ n gen 0 0 now L).2.2.2 from_ n) = L.take (logPuts from_ n gen 0 0 now L).2.2.1 ∧ (logPuts from_ n gen 0 0 now L).2.2.1 ≤ L.length := by
  obtain ⟨k, h1, h2, h3, h4, h5, _⟩ := logPuts_spec from_ n gen L 0 0 now hL (by omega)
  rw [h2, h5, Nat.zero_add]
  refine ⟨?_, h1⟩
  simp only [Nat.zero_add, Nat.add_zero] at h4 ⊢
  rw [disk_laid _ _ _ _ h4, readAll_laid gen (L.take k) 0 n _ (fun r hr => hL r (List.mem_of_mem_take hr))]
  · intro b hb
    have hb2 := List.mem_of_mem_drop hb
    simp only [diskBlocks, List.mem_map] at hb2
    obtain ⟨j, _, rfl⟩ := hb2
    exact (h _).2
  · simp only [List.length_append, List.length_drop, diskBlocks, List.length_map, List.length_range]
    omega

/-- nothing of a generation is there: nothing is read -/
theorem read_none (from_ n gen : Nat) (now : Nat → Option (List UInt8)) (h : ∀ j, Other gen (dget now j)) : readAll gen n 0 (diskBlocks now from_ n) = [] := by
  have := readAll_laid gen [] 0 n (diskBlocks now from_ n) (by simp) (by
    intro b hb
    simp only [diskBlocks, List.mem_map] at hb
    obtain ⟨j, _, rfl⟩ := hb
    exact (h _).2) (by simp [laid, diskBlocks])
  simpa [laid] using this

theorem other_zero (gen : Nat) (hg : gen < 18446744073709551616) (h0 : gen ≠ 0) : ∀ j, Other gen (dget (fun _ => none) j) := by
  intro j
  refine ⟨by unfold dget; rw [Option.getD_none, List.length_replicate], ?_⟩
  have e : ((dget (fun _ => none) j).drop 4).take 8 = leB 8 0 := by
    rw [zeros_leB]
    unfold dget
    rw [Option.getD_none, List.drop_replicate, List.take_replicate]
    rfl
  rw [e]
  intro e2
  exact h0 (leB8_inj _ _ (by omega) hg e2).symm

end Go.Proofs.Ytjnipfangjnpcaa
