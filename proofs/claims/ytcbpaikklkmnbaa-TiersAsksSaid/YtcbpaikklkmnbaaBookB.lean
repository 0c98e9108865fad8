/- Two lists of records that are alike; the policy of the first call. -/
import Derived.Test.YtcbpaikklkmnbaaBookA
import Derived.Laws.StructEq
namespace Go.Proofs.Ytcbpaikklkmnbaa
open Go.RowKit Go.Proofs
set_option maxRecDepth 20000
set_option maxHeartbeats 1600000

theorem eq_agg (x : Ag) (w : World) : (Op.equalIn 9999 59 (agV x) (agV x)).run Try.prog w = .ok true w := by
  have u3 := Try.underlying3
  have a3 := Try.isAgg3
  have z3 := Try.sizeOf3
  have u4 := Try.underlying23
  have a4 := Try.isAgg23
  have z4 := Try.sizeOf23
  have hS : Try.prog.underlying 59 = some (.struct (Try.prog.fieldsOf 59)) := by kernel_rfl
  rw [show (9999 : Nat) = 9998 + 1 from rfl, run_equalIn_agg w 9998 59 _ _ hS (by kernel_rfl)]
  simp only [Program.fieldsOf, Try.underlying59]
  go_simp

theorem eq_rec (r : Rc) (w : World) : (Op.equalIn 10000 61 (rcVal r) (rcVal r)).run Try.prog w = .ok true w := by
  have u3 := Try.underlying3
  have a3 := Try.isAgg3
  have z3 := Try.sizeOf3
  have u4 := Try.underlying9
  have a4 := Try.isAgg9
  have z4 := Try.sizeOf9
  have a5 := Try.isAgg59
  have z5 := Try.sizeOf59
  have he := fun w => eq_agg r.a w
  have hS : Try.prog.underlying 61 = some (.struct (Try.prog.fieldsOf 61)) := by kernel_rfl
  rw [show (10000 : Nat) = 9999 + 1 from rfl, run_equalIn_agg w 9999 61 _ _ hS (by kernel_rfl)]
  simp only [Program.fieldsOf, Try.underlying61]
  go_simp

theorem same_recs (a1 a2 : Option Addr) (g1 g2 c1 c2 : Nat) (S : List Rc) (w : World) (h1 : S ≠ [] → a1 = some ⟨g1, 0, none⟩) (h2 : S ≠ [] → a2 = some ⟨g2, 0, none⟩) (r1 : RowR w g1 S) (r2 : RowR w g2 S) (hS : S.length ≤ 1000000) :
    Calls Try.prog 22 #[.slice a1 S.length c1, .slice a2 S.length c2] w fun e w' => e = .returned (.bool true) ∧ Below w.heap.size w w' := by
  have H1 := hid h1
  have H2 := hid h2
  have R1 := hid r1
  have R2 := hid r2
  clear h1 h2 r1 r2
  go_enter Try.func22, Try.ntmps22
  go_wp2_with fail
  go_loopw [5] (fun i wr => ∃ k : Nat, k ≤ S.length ∧ i = .int .i64 k ∧ Below w.heap.size w wr) (fun i _ => S.length - (intOf i).toNat)
  case atStart => exact ⟨0, by omega, by first | trivial | rfl, Below.refl _ _⟩
  case round =>
    obtain ⟨k, hk, rfl, hB⟩ := hrel
    have HB := hid hB
    clear hB
    by_cases hkn : k = S.length
    · have hd : decide ((k : Int) < S.length) = false := by simp; omega
      go_wp2
      go_ret
      exact ⟨by first | trivial | rfl, HB.out⟩
    · have hk2 : k < S.length := by omega
      have hd : decide ((k : Int) < S.length) = true := by simp; omega
      have hne : S ≠ [] := by intro h; rw [h] at hk2; simp at hk2
      obtain rfl := H1.out hne
      obtain rfl := H2.out hne
      obtain ⟨r, hr⟩ : ∃ r, r = S[k] := ⟨_, rfl⟩
      have e1 := (R1.out.at hk2).below HB.out (R1.out.lt hk2)
      have e2 := (R2.out.at hk2).below HB.out (R2.out.lt hk2)
      rw [← hr] at e1 e2
      have he := fun w => eq_rec r w
      obtain ⟨x0, x1, x2, x3, x4, x5, x6⟩ := e1
      obtain ⟨y0, y1, y2, y3, y4, y5, y6⟩ := e2
      have HK2 := hid hk2
      clear hne hr
      go_wp2_with fail
      first
      | go_region_held3 (fun w' => w'.cell? ⟨g1, k * 7, none⟩ = some (.string r.s) ∧ w'.cell? ⟨g1, k * 7 + 1, none⟩ = some (.int .i64 r.t) ∧ w'.cell? ⟨g1, k * 7 + 2, none⟩ = some (.int .i64 r.a.c) ∧ w'.cell? ⟨g1, k * 7 + 3, none⟩ = some (.int .i64 r.a.h) ∧ w'.cell? ⟨g1, k * 7 + 4, none⟩ = some (.int .u64 r.a.l) ∧ w'.cell? ⟨g1, k * 7 + 5, none⟩ = some (.int .i64 r.a.a) ∧ w'.cell? ⟨g1, k * 7 + 6, none⟩ = some (.int .i64 r.a.b) ∧ w'.cell? ⟨g2, k * 7, none⟩ = some (.string r.s) ∧ w'.cell? ⟨g2, k * 7 + 1, none⟩ = some (.int .i64 r.t) ∧ w'.cell? ⟨g2, k * 7 + 2, none⟩ = some (.int .i64 r.a.c) ∧ w'.cell? ⟨g2, k * 7 + 3, none⟩ = some (.int .i64 r.a.h) ∧ w'.cell? ⟨g2, k * 7 + 4, none⟩ = some (.int .u64 r.a.l) ∧ w'.cell? ⟨g2, k * 7 + 5, none⟩ = some (.int .i64 r.a.a) ∧ w'.cell? ⟨g2, k * 7 + 6, none⟩ = some (.int .i64 r.a.b)) (first | go_keep) (first | fail)
      | fail
      all_goals
        have HB2 : Hid (Below w.heap.size w wr.drew) := below_drewN HB.out 1
        go_wp2
        go_roundw
        case rel => exact ⟨k + 1, HK2.out, by go_num, HB2.out⟩
        case measure => have := HK2.out; simp [intOf]; omega

/-- the tiers of the first call -/
def webP : List Ti := [⟨⟨#[114, 97, 119]⟩, 1, 100, 2⟩, ⟨⟨#[116, 101, 110, 115]⟩, 10, 1000, 1⟩]

theorem law_web (w : World) : Calls Try.prog 35 #[] w fun e w' => ∃ b : Nat, e = .returned (poV ⟨#[119, 101, 98]⟩ (some ⟨b, 0, none⟩) 2 2) ∧ TisAt w' b 0 webP ∧ b < w'.heap.size ∧ Below w.heap.size w w' := by
  go_enter Try.func35, Try.ntmps35
  go_wp2
  have hW : Below w.heap.size w ((w.alloc (.cells #[.string ⟨#[119, 101, 98]⟩, .slice (some ⟨w.heap.size + 1, 0, none⟩) 2 2] 41)).alloc (.cells #[.string ⟨#[114, 97, 119]⟩, .int .i64 1, .int .i64 100, .int .i64 2, .string ⟨#[116, 101, 110, 115]⟩, .int .i64 10, .int .i64 1000, .int .i64 1] 63)) := below_al (below_al (Below.refl _ _) _) _
  have s0 : ((w.alloc (.cells #[.string ⟨#[119, 101, 98]⟩, .slice (some ⟨w.heap.size + 1, 0, none⟩) 2 2] 41)).alloc (.cells #[.string ⟨#[114, 97, 119]⟩, .int .i64 1, .int .i64 100, .int .i64 2, .string ⟨#[116, 101, 110, 115]⟩, .int .i64 10, .int .i64 1000, .int .i64 1] 63)).cell? ⟨w.heap.size, 0, none⟩ = some (.string ⟨#[119, 101, 98]⟩) := by go_simp
  have s1 : ((w.alloc (.cells #[.string ⟨#[119, 101, 98]⟩, .slice (some ⟨w.heap.size + 1, 0, none⟩) 2 2] 41)).alloc (.cells #[.string ⟨#[114, 97, 119]⟩, .int .i64 1, .int .i64 100, .int .i64 2, .string ⟨#[116, 101, 110, 115]⟩, .int .i64 10, .int .i64 1000, .int .i64 1] 63)).cell? ⟨w.heap.size, 1, none⟩ = some (.slice (some ⟨w.heap.size + 1, 0, none⟩) 2 2) := by go_simp
  have hc : ∀ j, ((w.alloc (.cells #[.string ⟨#[119, 101, 98]⟩, .slice (some ⟨w.heap.size + 1, 0, none⟩) 2 2] 41)).alloc (.cells #[.string ⟨#[114, 97, 119]⟩, .int .i64 1, .int .i64 100, .int .i64 2, .string ⟨#[116, 101, 110, 115]⟩, .int .i64 10, .int .i64 1000, .int .i64 1] 63)).cell? ⟨w.heap.size + 1, j, none⟩ = _ := fun j => cell_alloc_at _ _ _ (w.heap.size + 1) j (by simp)
  have hT : TisAt ((w.alloc (.cells #[.string ⟨#[119, 101, 98]⟩, .slice (some ⟨w.heap.size + 1, 0, none⟩) 2 2] 41)).alloc (.cells #[.string ⟨#[114, 97, 119]⟩, .int .i64 1, .int .i64 100, .int .i64 2, .string ⟨#[116, 101, 110, 115]⟩, .int .i64 10, .int .i64 1000, .int .i64 1] 63)) (w.heap.size + 1) 0 webP := by
    refine ⟨fun j hj => ?_, fun j hj => ?_, fun j hj => ?_, fun j hj => ?_⟩
    all_goals
      have hj2 : j < 2 := hj
      rcases (show j = 0 ∨ j = 1 by omega) with rfl | rfl
      · rw [hc]; rfl
      · rw [hc]; rfl
  have hsz : w.heap.size + 1 < ((w.alloc (.cells #[.string ⟨#[119, 101, 98]⟩, .slice (some ⟨w.heap.size + 1, 0, none⟩) 2 2] 41)).alloc (.cells #[.string ⟨#[114, 97, 119]⟩, .int .i64 1, .int .i64 100, .int .i64 2, .string ⟨#[116, 101, 110, 115]⟩, .int .i64 10, .int .i64 1000, .int .i64 1] 63)).heap.size := by simp
  generalize ((w.alloc (.cells #[.string ⟨#[119, 101, 98]⟩, .slice (some ⟨w.heap.size + 1, 0, none⟩) 2 2] 41)).alloc (.cells #[.string ⟨#[114, 97, 119]⟩, .int .i64 1, .int .i64 100, .int .i64 2, .string ⟨#[116, 101, 110, 115]⟩, .int .i64 10, .int .i64 1000, .int .i64 1] 63)) = W at *
  have HW := hid hW
  have HT := hid hT
  clear hW hT hc
  simp [bodyPost, results, Try.results35, go_sem, s0, s1]
  exact ⟨HT.out, hsz, HW.out⟩

end Go.Proofs.Ytcbpaikklkmnbaa
