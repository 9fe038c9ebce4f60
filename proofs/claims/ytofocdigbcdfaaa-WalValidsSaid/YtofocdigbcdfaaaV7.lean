/- The contract of the document's named. -/
import Derived.Test.YtofocdigbcdfaaaV5
namespace Go.Proofs.Ytofocdigbcdfaaa
open Go.RowKit Mem
section
variable {w : World} {A B : Option Addr} {n m c e : Nat} {wall client seq home outcome aw al an : Int} {image : ByteArray}

set_option maxRecDepth 100000 in
set_option maxHeartbeats 1000000 in
theorem named_1 : Calls Try.prog 53 #[.agg ((Rc.mk 1 wall client seq home outcome aw al an image).cells A B n m c e)] w fun y w' => y = .returned (.agg ((Rc.mk 1 wall 0 0 0 0 0 0 0 ⟨#[]⟩).cells none none 0 0 0 0)) ∧ Below w.heap.size w w' := by
  have hw2 : ∀ o o', Below w.heap.size w ((w.alloc o).alloc o') := fun o o' => ((Below.refl _ _).alloc (Nat.le_refl _) o).alloc (by simp) o'
  unfold Rc.cells
  go_enter Try.func53, Try.ntmps53
  go_wp2_with fail
  refine bodyPost_ret (v := .agg #[.int .i64 1, .int .u64 wall, .int .u32 0, .int .u32 0, .int .u32 0, .int .i64 0, .int .u64 0, .int .u32 0, .int .u32 0, .slice none 0 0, .slice none 0 0, .string ⟨#[]⟩]) ?_ rfl ⟨rfl, hw2 _ _⟩
  have hres : Try.f53.results = #[.cell 2 46] := by kernel_rfl
  simp only [results, hres]
  go_simp

set_option maxRecDepth 100000 in
set_option maxHeartbeats 1000000 in
theorem named_2 : Calls Try.prog 53 #[.agg ((Rc.mk 2 wall client seq home outcome aw al an image).cells A B n m c e)] w fun y w' => y = .returned (.agg ((Rc.mk 2 0 client seq home 0 aw al an ⟨#[]⟩).cells A B n m c e)) ∧ Below w.heap.size w w' := by
  have hw2 : ∀ o o', Below w.heap.size w ((w.alloc o).alloc o') := fun o o' => ((Below.refl _ _).alloc (Nat.le_refl _) o).alloc (by simp) o'
  unfold Rc.cells
  go_enter Try.func53, Try.ntmps53
  go_wp2_with fail
  refine bodyPost_ret (v := .agg #[.int .i64 2, .int .u64 0, .int .u32 client, .int .u32 seq, .int .u32 home, .int .i64 0, .int .u64 aw, .int .u32 al, .int .u32 an, .slice A n c, .slice B m e, .string ⟨#[]⟩]) ?_ rfl ⟨rfl, hw2 _ _⟩
  have hres : Try.f53.results = #[.cell 2 46] := by kernel_rfl
  simp only [results, hres]
  go_simp

set_option maxRecDepth 100000 in
set_option maxHeartbeats 1000000 in
theorem named_3 : Calls Try.prog 53 #[.agg ((Rc.mk 3 wall client seq home outcome aw al an image).cells A B n m c e)] w fun y w' => y = .returned (.agg ((Rc.mk 3 0 client seq home outcome aw al an ⟨#[]⟩).cells none none 0 0 0 0)) ∧ Below w.heap.size w w' := by
  have hw2 : ∀ o o', Below w.heap.size w ((w.alloc o).alloc o') := fun o o' => ((Below.refl _ _).alloc (Nat.le_refl _) o).alloc (by simp) o'
  unfold Rc.cells
  go_enter Try.func53, Try.ntmps53
  go_wp2_with fail
  refine bodyPost_ret (v := .agg #[.int .i64 3, .int .u64 0, .int .u32 client, .int .u32 seq, .int .u32 home, .int .i64 outcome, .int .u64 aw, .int .u32 al, .int .u32 an, .slice none 0 0, .slice none 0 0, .string ⟨#[]⟩]) ?_ rfl ⟨rfl, hw2 _ _⟩
  have hres : Try.f53.results = #[.cell 2 46] := by kernel_rfl
  simp only [results, hres]
  go_simp

set_option maxRecDepth 100000 in
set_option maxHeartbeats 1000000 in
theorem named_4 : Calls Try.prog 53 #[.agg ((Rc.mk 4 wall client seq home outcome aw al an image).cells A B n m c e)] w fun y w' => y = .returned (.agg ((Rc.mk 4 0 0 0 0 0 aw al an ⟨#[]⟩).cells none none 0 0 0 0)) ∧ Below w.heap.size w w' := by
  have hw2 : ∀ o o', Below w.heap.size w ((w.alloc o).alloc o') := fun o o' => ((Below.refl _ _).alloc (Nat.le_refl _) o).alloc (by simp) o'
  unfold Rc.cells
  go_enter Try.func53, Try.ntmps53
  go_wp2_with fail
  refine bodyPost_ret (v := .agg #[.int .i64 4, .int .u64 0, .int .u32 0, .int .u32 0, .int .u32 0, .int .i64 0, .int .u64 aw, .int .u32 al, .int .u32 an, .slice none 0 0, .slice none 0 0, .string ⟨#[]⟩]) ?_ rfl ⟨rfl, hw2 _ _⟩
  have hres : Try.f53.results = #[.cell 2 46] := by kernel_rfl
  simp only [results, hres]
  go_simp

set_option maxRecDepth 100000 in
set_option maxHeartbeats 1000000 in
theorem named_5 : Calls Try.prog 53 #[.agg ((Rc.mk 5 wall client seq home outcome aw al an image).cells A B n m c e)] w fun y w' => y = .returned (.agg ((Rc.mk 5 0 0 0 0 0 0 0 0 image).cells none none 0 0 0 0)) ∧ Below w.heap.size w w' := by
  have hw2 : ∀ o o', Below w.heap.size w ((w.alloc o).alloc o') := fun o o' => ((Below.refl _ _).alloc (Nat.le_refl _) o).alloc (by simp) o'
  unfold Rc.cells
  go_enter Try.func53, Try.ntmps53
  go_wp2_with fail
  refine bodyPost_ret (v := .agg #[.int .i64 5, .int .u64 0, .int .u32 0, .int .u32 0, .int .u32 0, .int .i64 0, .int .u64 0, .int .u32 0, .int .u32 0, .slice none 0 0, .slice none 0 0, .string image]) ?_ rfl ⟨rfl, hw2 _ _⟩
  have hres : Try.f53.results = #[.cell 2 46] := by kernel_rfl
  simp only [results, hres]
  go_simp

set_option maxRecDepth 100000 in
set_option maxHeartbeats 1000000 in
theorem named_no {kind : Int} (h1 : kind ≠ 1) (h2 : kind ≠ 2) (h3 : kind ≠ 3) (h4 : kind ≠ 4) (h5 : kind ≠ 5) : Calls Try.prog 53 #[.agg ((Rc.mk kind wall client seq home outcome aw al an image).cells A B n m c e)] w fun y w' => y = .returned (.agg ((Rc.mk 0 0 0 0 0 0 0 0 0 ⟨#[]⟩).cells none none 0 0 0 0)) ∧ Below w.heap.size w w' := by
  have b1 : (kind == 1) = false := beq_eq_false_iff_ne.2 h1
  have b2 : (kind == 2) = false := beq_eq_false_iff_ne.2 h2
  have b3 : (kind == 3) = false := beq_eq_false_iff_ne.2 h3
  have b4 : (kind == 4) = false := beq_eq_false_iff_ne.2 h4
  have b5 : (kind == 5) = false := beq_eq_false_iff_ne.2 h5
  clear h1 h2 h3 h4 h5
  have hw2 : ∀ o o', Below w.heap.size w ((w.alloc o).alloc o') := fun o o' => ((Below.refl _ _).alloc (Nat.le_refl _) o).alloc (by simp) o'
  unfold Rc.cells
  go_enter Try.func53, Try.ntmps53
  go_wp2_with fail
  refine bodyPost_ret (v := .agg #[.int .i64 0, .int .u64 0, .int .u32 0, .int .u32 0, .int .u32 0, .int .i64 0, .int .u64 0, .int .u32 0, .int .u32 0, .slice none 0 0, .slice none 0 0, .string ⟨#[]⟩]) ?_ rfl ⟨rfl, hw2 _ _⟩
  have hres : Try.f53.results = #[.cell 2 46] := by kernel_rfl
  simp only [results, hres]
  go_simp
end
end Go.Proofs.Ytofocdigbcdfaaa
