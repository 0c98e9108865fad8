/- The first call of the law, whose answer the document fixes. -/
import Derived.Test.YtcbpaikklkmnbaaBookB
namespace Go.Proofs.Ytcbpaikklkmnbaa
open Go.RowKit Go.Proofs
set_option maxRecDepth 20000
set_option maxHeartbeats 1600000

def nameA : ByteArray := ⟨#[97]⟩
def smA : List Sa := [⟨nameA, 21, 4⟩, ⟨nameA, 25, 6⟩]
def recA : List Rc := [⟨nameA, 21, ⟨1, 0, 4, 4, 4⟩⟩, ⟨nameA, 25, ⟨1, 0, 6, 6, 6⟩⟩]
def recB : List Rc := [⟨nameA, 20, ⟨2, 0, 10, 4, 6⟩⟩]

theorem web_new : newB ⟨#[119, 101, 98]⟩ webP 25 = true := by kernel_rfl
theorem web_check : checkB ⟨#[119, 101, 98]⟩ webP = true := by kernel_rfl
theorem web_takes : ∀ x ∈ smA, takesI 25 webP x.n x.t = 0 := by
  intro x hx
  simp only [smA, List.mem_cons, List.not_mem_nil, or_false] at hx
  rcases hx with rfl | rfl <;> kernel_rfl
theorem web_puts0 : putsF 25 webP smA 0 [] = recA := by kernel_rfl
theorem web_puts1 : putsF 25 webP smA 1 [] = recB := by kernel_rfl
theorem web_cover : coverI 25 webP 20 = 0 := by kernel_rfl
theorem web_ask : askB nameA 20 30 = true := by kernel_rfl
theorem web_sorted : recA.Pairwise RLt := by
  refine List.Pairwise.cons ?_ (List.Pairwise.cons (fun _ h => by simp at h) List.Pairwise.nil)
  intro x hx
  simp only [List.mem_cons, List.not_mem_nil, or_false] at hx
  subst hx
  exact Or.inr ⟨rfl, by show (21 : Int) < 25; omega⟩
theorem web_filter : recA.filter (inQ nameA 20 30) = recA := by kernel_rfl
theorem web_len : sumL (fun j => putsF 25 webP smA j []) 2 = 3 := by kernel_rfl

theorem web_call {w : World} {b : Nat} (hT : TisAt w b 0 webP) (hb : b < w.heap.size) :
    Calls Try.prog 17 #[poV ⟨#[119, 101, 98]⟩ (some ⟨b, 0, none⟩) 2 2, .int .i64 25, .slice none 0 0] w fun e w' =>
      ∃ t b' c' B la cl, e = .returned (.tuple #[.pointer (some ⟨t, 0, none⟩), .int .i64 0]) ∧ TsAt w' w.heap.size t 25 ⟨#[119, 101, 98]⟩ b' c' webP B (fun _ => []) webP.length la cl ∧ Below w.heap.size w w' := by
  refine (tiers_new ⟨#[119, 101, 98]⟩ (some ⟨b, 0, none⟩) b 0 2 webP 25 w (fun _ => ⟨rfl, hb⟩) hT (by decide) (by decide)).mono ?_
  rintro e w' (⟨h, _⟩ | ⟨_, h⟩)
  · rw [web_new] at h
    cases h
  · exact h

theorem web_good : GoodP webP := check_good web_check

theorem web_put {w : World} {H t b c : Nat} {B : Nat → Nat × Nat} {la : Option Addr} {cl sb : Nat} (h : TsAt w H t 25 ⟨#[119, 101, 98]⟩ b c webP B (fun _ => []) webP.length la cl) (hS : SasAt w sb 0 smA) :
    Calls Try.prog 18 #[.pointer (some ⟨t, 0, none⟩), .slice (some ⟨sb, 0, none⟩) 2 2] w fun e w' => e = .returned (.int .i64 0) ∧ TsAt w' H t 25 ⟨#[119, 101, 98]⟩ b c webP B (fun j => putsF 25 webP smA j []) webP.length la cl ∧ Upd (mapS B webP.length) w (mapS B webP.length) w' := by
  refine (tiers_put h web_good (by omega) (by omega) (fun j _ => ⟨fun r hr => by simp at hr, fun r hr => by simp at hr⟩) smA (some ⟨sb, 0, none⟩) sb 0 2 (fun _ => rfl) hS).mono ?_
  rintro e w' ⟨n, T', rfl, hT, hu, (⟨_, h1 | h1 | ⟨x, hx, h1⟩, _⟩ | ⟨rfl, _, _, h1⟩)⟩
  · cases h1
  · exact absurd h1 (by decide)
  · exact absurd (web_takes x hx) h1
  · exact ⟨rfl, hT.same h1, hu⟩

theorem web_len_of {w : World} {H t b c : Nat} {B : Nat → Nat × Nat} {la : Option Addr} {cl : Nat} (h : TsAt w H t 25 ⟨#[119, 101, 98]⟩ b c webP B (fun j => putsF 25 webP smA j []) webP.length la cl) :
    Calls Try.prog 37 #[.pointer (some ⟨t, 0, none⟩)] w fun e w' => e = .returned (.int .i64 3) ∧ w = w' := by
  have hl : ∀ j, j < webP.length → (putsF 25 webP smA j []).length ≤ 100000 := by
    intro j hj
    have hj2 : j < 2 := hj
    rcases (show j = 0 ∨ j = 1 by omega) with rfl | rfl
    · rw [web_puts0]; decide
    · rw [web_puts1]; decide
  have hc := tiers_len h web_good hl
  have e : sumL (fun j => putsF 25 webP smA j []) webP.length = 3 := web_len
  rw [e] at hc
  exact hc

theorem web_asks {w : World} {H t b c : Nat} {B : Nat → Nat × Nat} {la : Option Addr} {cl : Nat} (h : TsAt w H t 25 ⟨#[119, 101, 98]⟩ b c webP B (fun j => putsF 25 webP smA j []) webP.length la cl) :
    Calls Try.prog 20 #[.pointer (some ⟨t, 0, none⟩), .string ⟨#[97]⟩, .int .i64 20, .int .i64 30] w fun e w' =>
      ∃ g cc : Nat, e = .returned (.tuple #[anV 0 (some ⟨g, 0, none⟩) 2 cc, .int .i64 0]) ∧ RowR w' g recA ∧ Below w.heap.size w w' := by
  have hl : ∀ j, j < webP.length → (putsF 25 webP smA j []).length ≤ 100000 := by
    intro j hj
    have hj2 : j < 2 := hj
    rcases (show j = 0 ∨ j = 1 by omega) with rfl | rfl
    · rw [web_puts0]; decide
    · rw [web_puts1]; decide
  refine (tiers_ask h web_good (by omega) (by omega) hl ⟨#[97]⟩ 20 30).mono ?_
  rintro e w' ⟨hb, (⟨h1, _⟩ | ⟨_, a, n, cc, r, S, rfl, hn, hp, hs, hr⟩)⟩
  · have h2 : askB nameA 20 30 = false := h1
    rw [web_ask] at h2
    cases h2
  · rw [web_cover] at hp ⊢
    have hp2 : S.Perm recA := by rw [← web_puts0]; exact hp
    have hS : S = recA := sorted_one hp2 hs web_sorted
    subst hS
    have hf : recA.filter (inQ ⟨#[97]⟩ 20 30) = recA := web_filter
    rw [hf] at hn hr
    have ha := hr.ad (by decide)
    subst hn
    subst ha
    exact ⟨r, cc, rfl, hr.row, hb⟩

theorem one_six : agOne 6 = ⟨1, 0, 6, 6, 6⟩ := by kernel_rfl

theorem of_six (B : Nat) (w0 w1 : World) (T : TypeId) (hB : B = w0.heap.size) (hw : w1 = w0.alloc (.cells #[.int .i64 6] T)) :
    Calls Try.prog 36 #[.slice (some ⟨B, 0, none⟩) 1 1] w1 fun e w' => e = .returned (.agg #[.int .i64 1, .int .i64 0, .int .u64 6, .int .i64 6, .int .i64 6]) ∧ Below w1.heap.size w1 w' := by
  have h := of_new B 6 w0 w1 T hB hw
  rw [one_six] at h
  exact h

theorem eq_six (w : World) : (Op.equalIn 10000 59 (.agg #[.int .i64 1, .int .i64 0, .int .u64 6, .int .i64 6, .int .i64 6]) (.agg #[.int .i64 1, .int .i64 0, .int .u64 6, .int .i64 6, .int .i64 6])).run Try.prog w = .ok true w := by
  have u3 := Try.underlying3
  have a3 := Try.isAgg3
  have z3 := Try.sizeOf3
  have u4 := Try.underlying23
  have a4 := Try.isAgg23
  have z4 := Try.sizeOf23
  have hS : Try.prog.underlying 59 = some (.struct (Try.prog.fieldsOf 59)) := by kernel_rfl
  rw [show (10000 : Nat) = 9999 + 1 from rfl, run_equalIn_agg w 9999 59 _ _ hS (by kernel_rfl)]
  simp only [Program.fieldsOf, Try.underlying59]
  go_simp

theorem law_alive (w : World) : Calls Try.prog 16 #[] w fun e w' => e = .returned (.bool true) ∧ Below w.heap.size w w' := by
  go_enter Try.func16, Try.ntmps16
  go_wp2_with fail
  refine (law_web w).mono ?_
  rintro e w1 ⟨b, rfl, hT1, hb1, hB1⟩
  have HB1 := hid hB1
  have HT1 := hid hT1
  clear hB1 hT1
  go_wp2_with fail
  refine (web_call HT1.out hb1).mono ?_
  rintro e w2 ⟨t, b', c', B, la, cl, rfl, hT2, hB2⟩
  have HT2 := hid hT2
  have HB2 : Hid (Below w.heap.size w w2) := HB1.out.trans (hB2.mono HB1.out.size)
  clear hT2 hB2
  go_wp2_with fail
  have hB3 : Below w2.heap.size w2 (w2.alloc (.cells #[.string ⟨#[97]⟩, .int .i64 21, .int .i64 4, .string ⟨#[97]⟩, .int .i64 25, .int .i64 6] 93)) := below_al (Below.refl _ _) _
  have hS3 : SasAt (w2.alloc (.cells #[.string ⟨#[97]⟩, .int .i64 21, .int .i64 4, .string ⟨#[97]⟩, .int .i64 25, .int .i64 6] 93)) w2.heap.size 0 smA := by
    have hc := (blk_at (heap_alloc_new w2 (.cells #[.string ⟨#[97]⟩, .int .i64 21, .int .i64 4, .string ⟨#[97]⟩, .int .i64 25, .int .i64 6] 93))).1
    refine ⟨fun j hj => ?_, fun j hj => ?_, fun j hj => ?_⟩
    all_goals
      have hj2 : j < 2 := hj
      rcases (show j = 0 ∨ j = 1 by omega) with rfl | rfl
      · rw [hc]; rfl
      · rw [hc]; rfl
  have hp := web_put (HT2.out.below hB3) hS3
  have HP := hid hp
  have HB3 : Hid (Below w.heap.size w (w2.alloc (.cells #[.string ⟨#[97]⟩, .int .i64 21, .int .i64 4, .string ⟨#[97]⟩, .int .i64 25, .int .i64 6] 93))) := HB2.out.trans (hB3.mono HB2.out.size)
  have HT3 := hid (HT2.out.below hB3)
  clear hB3 hS3 hp
  refine HP.out.mono ?_
  rintro e w3 ⟨rfl, hT3, hu3⟩
  have HT4 := hid hT3
  have HB4 : Hid (Below w.heap.size w w3) := by
    refine HB3.out.trans (hu3.below HB3.out.size (fun k hk => ?_))
    obtain ⟨j, hj, rfl⟩ := hk
    have h1 := (HT3.out.lo2 j hj).2
    have h2 := HT3.out.lo.2.1
    have h3 := HB1.out.size
    omega
  clear hT3 hu3 HP
  go_wp2_with fail
  refine (web_asks HT4.out).mono ?_
  rintro e w4 ⟨g, cc, rfl, hrow, hB5⟩
  have HT5 := hid (HT4.out.below hB5)
  have HR5 := hid hrow
  have HB5 : Hid (Below w.heap.size w w4) := HB4.out.trans (hB5.mono HB4.out.size)
  clear hrow hB5
  go_wp2_with fail
  have hB6 : Below w4.heap.size w4 (w4.alloc (.cells #[.int .i64 0, .slice (some ⟨g, 0, none⟩) 2 cc] 55)) := below_al (Below.refl _ _) _
  have hc6 := (blk_at (heap_alloc_new w4 (.cells #[.int .i64 0, .slice (some ⟨g, 0, none⟩) 2 cc] 55))).1
  have y0 := hc6 0
  have y1 := hc6 1
  have hg4 : g < w4.heap.size := HR5.out.lt (j := 0) (by decide)
  have hl0 : w4.heap.size < (w4.alloc (.cells #[.int .i64 0, .slice (some ⟨g, 0, none⟩) 2 cc] 55)).heap.size := by simp
  generalize w4.alloc (.cells #[.int .i64 0, .slice (some ⟨g, 0, none⟩) 2 cc] 55) = W at *
  have HTW := hid (HT5.out.below hB6)
  have HBW : Hid (Below w.heap.size w W) := HB5.out.trans (hB6.mono HB5.out.size)
  have hrW := HR5.out.below hB6 hg4
  have hlg : g < W.heap.size := Nat.lt_of_lt_of_le hg4 hB6.size
  obtain ⟨_, y2, _, _, _, _, _⟩ := hrW.at (j := 0) (by decide)
  obtain ⟨_, _, y3, y4, y5, y6, y7⟩ := hrW.at (j := 1) (by decide)
  replace y2 : W.cell? ⟨g, 1, none⟩ = some (.int .i64 21) := y2
  replace y3 : W.cell? ⟨g, 9, none⟩ = some (.int .i64 1) := y3
  replace y4 : W.cell? ⟨g, 10, none⟩ = some (.int .i64 0) := y4
  replace y5 : W.cell? ⟨g, 11, none⟩ = some (.int .u64 6) := y5
  replace y6 : W.cell? ⟨g, 12, none⟩ = some (.int .i64 6) := y6
  replace y7 : W.cell? ⟨g, 13, none⟩ = some (.int .i64 6) := y7
  have y8 := HTW.out.rc.c0
  have hlt := cell_lt y8
  have he := fun w => eq_six w
  clear hB6 hc6 hrW
  first
  | go_region_held3 (fun w' => w'.cell? ⟨w4.heap.size, 0, none⟩ = some (.int .i64 0) ∧ w'.cell? ⟨w4.heap.size, 1, none⟩ = some (.slice (some ⟨g, 0, none⟩) 2 cc) ∧ w'.cell? ⟨g, 1, none⟩ = some (.int .i64 21) ∧ w'.cell? ⟨g, 9, none⟩ = some (.int .i64 1) ∧ w'.cell? ⟨g, 10, none⟩ = some (.int .i64 0) ∧ w'.cell? ⟨g, 11, none⟩ = some (.int .u64 6) ∧ w'.cell? ⟨g, 12, none⟩ = some (.int .i64 6) ∧ w'.cell? ⟨g, 13, none⟩ = some (.int .i64 6) ∧ w'.cell? ⟨t, 0, none⟩ = some (.int .i64 25)) (first | go_keep) (first
      | (go_at_call 36; refine (of_six _ W.drew _ 3 (by simp) rfl).mono ?_; rintro y w5 ⟨rfl, hb7⟩; have hb70 : Below W.heap.size W w5 := ((below_drewN (Below.refl W.heap.size W) 1).alloc (Nat.le_refl _) _).trans (hb7.mono (by simp)); have HT7 := hid (HTW.out.below hb70); have HB7 : Hid (Below w.heap.size w w5) := HBW.out.trans (hb70.mono HBW.out.size); have z0 : w5.cell? ⟨w4.heap.size, 0, none⟩ = _ := ((bcell hb70).1 _ 0 (by exact hl0)).trans y0; have z1 : w5.cell? ⟨w4.heap.size, 1, none⟩ = _ := ((bcell hb70).1 _ 1 (by exact hl0)).trans y1; have z2 : w5.cell? ⟨g, 1, none⟩ = _ := ((bcell hb70).1 _ 1 (by exact hlg)).trans y2; have z3 : w5.cell? ⟨g, 9, none⟩ = _ := ((bcell hb70).1 _ 9 (by exact hlg)).trans y3; have z4 : w5.cell? ⟨g, 10, none⟩ = _ := ((bcell hb70).1 _ 10 (by exact hlg)).trans y4; have z5 : w5.cell? ⟨g, 11, none⟩ = _ := ((bcell hb70).1 _ 11 (by exact hlg)).trans y5; have z6 : w5.cell? ⟨g, 12, none⟩ = _ := ((bcell hb70).1 _ 12 (by exact hlg)).trans y6; have z7 : w5.cell? ⟨g, 13, none⟩ = _ := ((bcell hb70).1 _ 13 (by exact hlg)).trans y7; have z8 : w5.cell? ⟨t, 0, none⟩ = _ := ((bcell hb70).1 _ 0 (by exact hlt)).trans y8;  clear hb7 hb70)
      | (go_at_call 37; refine (web_len_of HT7.out).mono ?_; rintro y w6 ⟨rfl, rfl⟩))
  | fail
  all_goals
    go_wp2
    go_ret
    exact ⟨by first | trivial | rfl, HB7.out⟩

end Go.Proofs.Ytcbpaikklkmnbaa
