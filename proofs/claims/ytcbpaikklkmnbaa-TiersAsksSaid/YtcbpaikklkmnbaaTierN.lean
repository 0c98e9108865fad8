/- Records are sorted. -/
import Derived.Test.YtcbpaikklkmnbaaTierQ
import Derived.Test.YtcbpaikklkmnbaaSorts
import Derived.Shelf.SlSortCmp.NoneTotal
namespace Go.Proofs.Ytcbpaikklkmnbaa
open Go.RowKit Go.Proofs Go.Shelf Go.Lib Go.Sort


theorem ltOf_rec (x y : Rc) : ltOf cmpR x y = true ↔ RLt x y := by
  unfold ltOf
  rw [decide_eq_true_iff]
  exact cmpR_neg x y

theorem swo_rec : SWO (ltOf cmpR) where
  irrefl x := by
    cases h : ltOf cmpR x x with
    | false => rfl
    | true => exact absurd ((ltOf_rec x x).1 h) (RLt.irrefl x)
  trans x y z h1 h2 := (ltOf_rec x z).2 (RLt.trans ((ltOf_rec x y).1 h1) ((ltOf_rec y z).1 h2))
  ntrans x y z h1 h2 := by
    cases h : ltOf cmpR x z with
    | false => rfl
    | true =>
      refine absurd ((ltOf_rec x z).1 h) (RLt.ntrans (y := y) (fun k => ?_) (fun k => ?_))
      · rw [(ltOf_rec x y).2 k] at h1; cases h1
      · rw [(ltOf_rec y z).2 k] at h2; cases h2

theorem cmp_lays (blk off size : Nat) (w : World) : CmpLays Try.prog 102 #[] rcEnc 7 cmpR blk off size w := fun _ _ _ _ x y => name_compare x y _

/-- slices.SortFunc over records -/
theorem sort_recs (blk off cap : Nat) (d : Array Rc) (w : World) (hH : HoldsK rcEnc 7 w blk off d) (hblk : blk < w.heap.size) (hsz : d.size < 4611686018427387904) :
    Calls Try.prog 101 #[.slice (some ⟨blk, off, none⟩) d.size cap, .func (.func 102) #[] #[]] w fun e w' =>
      e = .returned (.tuple #[]) ∧ ∃ d' n os, PermIn 0 d.size d d' ∧ SortedIn (ltOf cmpR) 0 d.size d' ∧ w' = sortWorldK rcEnc 7 w blk off n d' os :=
  AnyQ.slices_SortFunc Try.sortL 7 Try.isAgg61 Try.sizeOf61 rcEnc (fun _ => rfl) (fun x v hv => by simp [rcEnc] at hv; rcases hv with rfl | rfl | rfl | rfl | rfl | rfl | rfl <;> rfl) cmpR swo_rec 102 #[] blk off cap d w (enters_of Try.func102 (by kernel_rfl) rfl) (cmp_lays blk off d.size w) hH hblk hsz

theorem sorted_list {d d' : Array Rc} (hp : PermIn 0 d.size d d') (hs : SortedIn (ltOf cmpR) 0 d.size d') (hn : (d.toList.map rcKey).Nodup) : d'.toList.Perm d.toList ∧ d'.toList.Pairwise RLt := by
  obtain ⟨h1, _, h3⟩ := hp
  have hperm : d'.toList.Perm d.toList := by
    have e1 : d'.extract 0 d.size = d' := by rw [← h1]; simp
    have e2 : d.extract 0 d.size = d := by simp
    rwa [e1, e2] at h3
  refine ⟨hperm, ?_⟩
  have hn' : (d'.toList.map rcKey).Nodup := (hperm.map rcKey).nodup_iff.2 hn
  rw [List.pairwise_iff_getElem]
  intro i j hi hj hij
  have hi' : i < d'.size := by simpa using hi
  have hj' : j < d'.size := by simpa using hj
  have h5 := hs i j (Nat.zero_le _) hij (by omega)
  rw [getElem!_pos d' i hi', getElem!_pos d' j hj'] at h5
  have h6 : ¬ RLt d'[j] d'[i] := fun k => by rw [(ltOf_rec _ _).2 k] at h5; cases h5
  rcases RLt.tri d'[i] d'[j] with h | ⟨ha, hb⟩ | h
  · simpa using h
  · exfalso
    have hs1 := toList_inj ha
    have hk : rcKey d'[i] = rcKey d'[j] := by simp [rcKey, hs1, hb]
    rw [List.nodup_iff_pairwise_ne, List.pairwise_iff_getElem] at hn'
    exact hn' i j (by simpa using hi) (by simpa using hj) hij (by simpa using hk)
  · exact absurd h h6

end Go.Proofs.Ytcbpaikklkmnbaa
