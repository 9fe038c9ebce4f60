/- DiskClone: for every input the law returns true, and its argument reads as before; no condition. -/
import Derived.Test.YtofocdigbcdfaaaD12
import Derived.Test.YtofocdigbcdfaaaArgs
namespace Go.Proofs.Ytofocdigbcdfaaa
open Go.ChangeShapes Go.WideShapes Go.ChangeAt Go.RowKit Go.Joins Go.Deep Mem Disk

theorem clone_over : Rows.diskCloneRow.holds Try.pinned (OpenSpec.ofChange Rows.diskCloneSpec) :=
  OpenClaim.holds_of_wide 8 Try.f8 rfl rfl rfl rfl rfl rfl rfl ⟨rfl, rfl, rfl, rfl, rfl⟩ rfl rfl rfl rfl rfl (by kernel_rfl) Try.func8 (by kernel_rfl)
    (of_decide_eq_true (by kernel_rfl)) (by unfold Func.isWrapper; first | (rw [if_pos (by decide +kernel)]; kernel_rfl) | (rw [if_neg (by decide +kernel)]; exact ⟨rfl, rfl⟩))
    (fun os started H enc _ => lifted_law (C := Try.checked) (s := Rows.diskCloneSpec) (T := 24) (B := 4) own_knob started (by kernel_rfl) Try.func8 laid_out (by kernel_rfl) (of_decide_eq_true (by kernel_rfl)) Try.underlying4 rfl rfl rfl (fun _ => rfl)
      (ChangeSpec.witness6 (enc := enc) (C := Try.checked) false ⟨#[], #[.agg #[.int .i64 0, .slice none 0 0, .slice none 0 0]], []⟩ 8 (by kernel_rfl) (by kernel_rfl) (by kernel_rfl) (by kernel_rfl))
      (fun W base v d p hv ht hlt => by
        obtain ⟨cap, A, B, ca, cb, l, m, rfl, hl, hm, hA, hB⟩ := two_of hv ht hlt
        exact clone_law cap A B _ _ ca cb l m rfl rfl hl hm W hA hB))

/-- DiskClone, for every input. -/
theorem clone_proved : Rows.DiskCloneSaid := clone_over
#print axioms clone_proved
end Go.Proofs.Ytofocdigbcdfaaa
