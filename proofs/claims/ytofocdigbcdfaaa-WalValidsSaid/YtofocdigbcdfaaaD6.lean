/- Contract of Clone. -/
import Derived.Test.YtofocdigbcdfaaaD5
namespace Go.Proofs.Ytofocdigbcdfaaa
open Go.RowKit Mem Disk
section
variable {w w' : World} {d : Nat} {D : Dk} {F : Nat → Prop} {A0 A1 : Option Addr} {c0 c1 : Nat}

theorem heap3_old (w : World) (a b c : Obj) (k : Nat) (h : k < w.heap.size) : (((w.alloc a).alloc b).alloc c).drew.heap[k]? = w.heap[k]? :=
  (Below.heap_alloc _ c k (by simp; omega)).trans ((Below.heap_alloc _ b k (by simp; omega)).trans (Below.heap_alloc _ a k h))
theorem heap3_last (w : World) (a b c : Obj) : (((w.alloc a).alloc b).alloc c).drew.heap[w.heap.size + 1 + 1]? = some c := by
  have := heap_alloc_new ((w.alloc a).alloc b) c
  rw [World.size_alloc, World.size_alloc] at this
  exact this
theorem heap3_first (w : World) (a b c : Obj) : (((w.alloc a).alloc b).alloc c).drew.heap[w.heap.size]? = some a :=
  (Below.heap_alloc _ c _ (by simp; omega)).trans ((Below.heap_alloc _ b _ (by simp)).trans (heap_alloc_new w a))

theorem clone_step {n0 c0 n1 c1 : Nat} {b0 b1 : List UInt8} {w w2 : World} {a b c : Obj} {A1 : Option Addr} (h1 : Bts 5 w A1 n1 c1 b1)
    (_hb2 : Bts 5 w2 (some ⟨w.heap.size + 1 + 1, 0, none⟩) n0 c0 b0) (ho2 : Only (· = w.heap.size + 1 + 1) (((w.alloc a).alloc b).alloc c).drew w2) :
    w2.heap[w.heap.size]? = some a ∧ Bts 5 w2 A1 n1 c1 b1 ∧ w.heap.size + 2 < w2.heap.size ∧ Below w.heap.size w w2 := by
  have hsz : w.heap.size + 3 ≤ w2.heap.size := by have := ho2.size; simpa using this
  have hold : ∀ k, k < w.heap.size → w2.heap[k]? = w.heap[k]? := fun k hk =>
    (ho2.block k (by simp; omega) (by omega)).trans (heap3_old w a b c k hk)
  exact ⟨(ho2.block _ (by simp; omega) (by omega)).trans (heap3_first w a b c), h1.kept (fun k hk => hold k (h1.lt k hk)), by omega, ⟨ho2.os, ho2.tape, ho2.output, by omega, hold⟩⟩

theorem heap2_old (w : World) (a b : Obj) (k : Nat) (h : k < w.heap.size) : ((w.alloc a).alloc b).drew.heap[k]? = w.heap[k]? :=
  (Below.heap_alloc _ b k (by simp; omega)).trans (Below.heap_alloc _ a k h)
theorem heap2_last (w : World) (a b : Obj) (n : Nat) (hn : n = w.heap.size + 1) : ((w.alloc a).alloc b).drew.heap[n]? = some b := by
  have := heap_alloc_new (w.alloc a) b
  rw [World.size_alloc] at this
  rw [hn]; exact this

theorem clone_end (hI : DkIn w d D A0 A1 c0 c1) {w2 w4 : World} {a b : Obj}
    (hrow2 : w2.heap[w.heap.size]? = some (.cells #[.int .i64 D.room, .slice (some ⟨w.heap.size + 1 + 1, 0, none⟩) D.a.b.length D.a.b.length, .int .i64 D.a.s, .slice A1 D.b.b.length c1, .int .i64 D.b.s] 75))
    (hb2 : Bts 5 w2 (some ⟨w.heap.size + 1 + 1, 0, none⟩) D.a.b.length D.a.b.length D.a.b) (hsz2 : w.heap.size + 2 < w2.heap.size) (hbel2 : Below w.heap.size w w2)
    (hb4 : Bts 5 w4 (some ⟨w2.heap.size + 1, 0, none⟩) D.b.b.length D.b.b.length D.b.b)
    (ho4 : Only (· = w2.heap.size + 1) (((w2.setCell ⟨w.heap.size, 3, none⟩ (.slice (some ⟨w2.heap.size + 1, 0, none⟩) D.b.b.length D.b.b.length)).alloc a).alloc b).drew w4) :
    Goes w w.heap.size (fun _ => False) D w4 := by
  have hold : ∀ k, k < w2.heap.size → w4.heap[k]? = (w2.setCell ⟨w.heap.size, 3, none⟩ (.slice (some ⟨w2.heap.size + 1, 0, none⟩) D.b.b.length D.b.b.length)).heap[k]? := fun k hk =>
    (ho4.block k (by simp; omega) (by omega)).trans (heap2_old _ a b k (by simpa using hk))
  have hsz4 : w2.heap.size + 2 ≤ w4.heap.size := by have := ho4.size; simpa using this
  refine ⟨own w.heap.size (some ⟨w.heap.size + 1 + 1, 0, none⟩) (some ⟨w2.heap.size + 1, 0, none⟩), ⟨_, _, D.a.b.length, D.b.b.length, ⟨hI.ok, ?_, ?_, hb4, ?_⟩, rfl⟩, ⟨ho4.os.trans hbel2.os, ho4.tape.trans hbel2.tape, ho4.output.trans hbel2.output, by omega, ?_⟩, ?_⟩
  · rw [hold _ (by omega), row_set hrow2]; simp [dkRow]
  · exact hb2.kept fun k hk => by
      rw [blk_some] at hk
      have hk' : k = w.heap.size + 1 + 1 := hk
      exact (hold k (by omega)).trans (other (by simp; omega))
  · intro k hk hk'
    rw [blk_some] at hk hk'
    have h1 : k = w.heap.size + 1 + 1 := hk
    have h2 : k = w2.heap.size + 1 := hk'
    omega
  · intro k hk _
    exact ((hold k (by omega)).trans (other (by simp; omega))).trans (hbel2.block k hk)
  · rintro k (rfl | hk | hk)
    · exact .inr (Nat.le_refl _)
    · rw [blk_some] at hk; have h1 : k = w.heap.size + 1 + 1 := hk; exact .inr (by omega)
    · rw [blk_some] at hk; have h1 : k = w2.heap.size + 1 := hk; exact .inr (by omega)

set_option maxRecDepth 100000 in
set_option maxHeartbeats 1000000 in
theorem clone_any (h : Dsk w d D F) :
    Calls Try.prog 26 #[.pointer (some ⟨d, 0, none⟩)] w fun e w' => e = .returned (.pointer (some ⟨w.heap.size, 0, none⟩)) ∧ Goes w w.heap.size (fun _ => False) D w' := by
  obtain ⟨A0, A1, c0, c1, hI, rfl⟩ := h
  obtain ⟨q0, q1, q2, q3, q4, fz⟩ := hI.cells
  have hd := hI.lt
  have f1 := hI.ok.fit; have f2 := hI.ok.top
  obtain ⟨i5, hi0, hz0, hz1, hz2⟩ := info_parts info5
  have i0 : ∀ w, (Instr.index 73 (.agg #[Value.slice A0 D.a.b.length c0, Value.int IntKind.i64 ↑D.a.s, Value.slice A1 D.b.b.length c1, Value.int IntKind.i64 ↑D.b.s]) (.int .i64 0)).run Try.prog w = .ok (.agg #[Value.slice A0 D.a.b.length c0, Value.int IntKind.i64 ↑D.a.s]) w := fun _ => by kernel_rfl
  have i1 : ∀ w, (Instr.index 73 (.agg #[Value.slice A0 D.a.b.length c0, Value.int IntKind.i64 ↑D.a.s, Value.slice A1 D.b.b.length c1, Value.int IntKind.i64 ↑D.b.s]) (.int .i64 1)).run Try.prog w = .ok (.agg #[Value.slice A1 D.b.b.length c1, Value.int IntKind.i64 ↑D.b.s]) w := fun _ => by kernel_rfl
  have m0 := run_make_bts (P := Try.prog) (E := 5) 70 i5 Try.underlying70 hi0 hz0 hz1 hz2 D.a.b.length (by omega)
  have m1 := run_make_bts (P := Try.prog) (E := 5) 70 i5 Try.underlying70 hi0 hz0 hz1 hz2 D.b.b.length (by omega)
  go_enter Try.func26, Try.ntmps26
  go_wp2
  refine wp_loop_rounds 3 ?_
  rw [rounds_succ]
  go_wp2
  go_region_law (refine step_copy_bts (by rfl) _ _ _ (by rfl) i5 Try.underlying70 hi0 hz1 (by rfl) (hI.b0.kept (fun k hk => heap3_old _ _ _ _ k (hI.b0.lt k hk))) (w.heap.size + 1 + 1) _ (heap3_last _ _ _ _) (size_madeCells _ _) D.a.b.length ⟨Nat.le_refl _, by rw [size_madeCells]; exact Nat.le_refl _⟩ (by rfl) ?_; intro w2 hb2 ho2)
  all_goals
    obtain ⟨hrow2, hbb2, hsz2, hbel2⟩ := clone_step hI.b1 hb2 ho2
    clear ho2
    obtain ⟨rc, rf⟩ := cellsAt hrow2
    have rc3 : w2.cell? ⟨w.heap.size, 3, none⟩ = some (.slice A1 D.b.b.length c1) := rc 3
    have rf3 := rf 3
    have hsz3 : w.heap.size < w2.heap.size := by omega
    have HR := Lib.hid hrow2
    clear rc hrow2 rf
    go_wp2
    rw [rounds_succ]
    go_wp2
    go_region_law (refine step_copy_bts (by rfl) _ _ _ (by rfl) i5 Try.underlying70 hi0 hz1 (by rfl) (hbb2.kept (fun k hk => (heap2_old _ _ _ k (by have := hI.b1.lt k hk; simp; omega)).trans (other (by have := hI.b1.lt k hk; simp; omega)))) (w2.heap.size + 1) _ (heap2_last _ _ _ _ (by simp)) (size_madeCells _ _) D.b.b.length ⟨Nat.le_refl _, by rw [size_madeCells]; exact Nat.le_refl _⟩ (by rfl) ?_; intro w4 hb4 ho4)
    all_goals
      have hG := clone_end hI HR.out hb2 hsz2 hbel2 hb4 ho4
      clear hb4 ho4
      go_wp2
      rw [rounds_succ]
      go_wp2
      go_ret
      exact ⟨rfl, hG⟩
end
end Go.Proofs.Ytofocdigbcdfaaa
