/- DiskCrash: for every input the law returns true, and its argument reads as before; no condition. -/
import Derived.Test.YtofocdigbcdfaaaD11
import Derived.Test.YtofocdigbcdfaaaArgs
namespace Go.Proofs.Ytofocdigbcdfaaa
open Go.ChangeShapes Go.WideShapes Go.ChangeAt Go.RowKit Go.Joins Go.Deep Mem Disk

theorem cells56 : Try.prog.cellsOf 56 = 4 := by kernel_rfl

/-- The walk's argument out of the row's. -/
theorem crashed_of {H : Type} {enc : TypeId × Value → H} {w : World} {base : Nat} {v : Value} {d : DataW H} {p : List MemPlace} (hv : Value.okWide Try.prog w .any base 56 v) (h : DataW.Trod enc Try.prog w 0 (fun _ => true) true 56 v d p) (hlt : ∀ x ∈ p, x.block < w.heap.size) :
    ∃ cap k0 k1 A ca l, v = .agg #[.int .i64 cap, .slice A l.length ca, .int .i64 k0, .int .i64 k1] ∧ l.length ≤ 9223372036854775807 ∧ Steps w A l := by
  obtain ⟨c0, c1, c2, c3, y0, y1, y2, y3, n, rfl, rfl, rfl, t0, t1, t2, t3⟩ := open_agg4 Try.underlying56 (by kernel_rfl) cells56 hv h
  obtain ⟨cap, e0, rfl, _⟩ := DataW.trod_int Try.underlying3 t0
  obtain ⟨k0, e2, rfl, _⟩ := DataW.trod_int Try.underlying3 t2
  obtain ⟨k1, e3, rfl, _⟩ := DataW.trod_int Try.underlying3 t3
  simp only [List.cons.injEq, and_true] at e0 e2 e3
  subst e0; subst e2; subst e3
  obtain ⟨A, ca, l, rfl, hl, hA⟩ := steps_of t1 (fun x hx => hlt x (by simp [hx]))
  exact ⟨cap, k0, k1, A, ca, l, rfl, hl, hA⟩

theorem crash_over : Rows.diskCrashRow.holds Try.pinned (OpenSpec.ofChange Rows.diskCrashSpec) :=
  OpenClaim.holds_of_wide 6 Try.f6 rfl rfl rfl rfl rfl rfl rfl ⟨rfl, rfl, rfl, rfl, rfl⟩ rfl rfl rfl rfl rfl (by kernel_rfl) Try.func6 (by kernel_rfl)
    (of_decide_eq_true (by kernel_rfl)) (by unfold Func.isWrapper; first | (rw [if_pos (by decide +kernel)]; kernel_rfl) | (rw [if_neg (by decide +kernel)]; exact ⟨rfl, rfl⟩))
    (fun os started H enc _ => lifted_law (C := Try.checked) (s := Rows.diskCrashSpec) (T := 56) (B := 4) own_knob started (by kernel_rfl) Try.func6 laid_out (by kernel_rfl) (of_decide_eq_true (by kernel_rfl)) Try.underlying4 rfl rfl rfl (fun _ => rfl)
      (ChangeSpec.witness6 (enc := enc) (C := Try.checked) false ⟨#[], #[.agg #[.int .i64 0, .slice none 0 0, .int .i64 0, .int .i64 0]], []⟩ 8 (by kernel_rfl) (by kernel_rfl) (by kernel_rfl) (by kernel_rfl))
      (fun W base v d p hv ht hlt => by
        obtain ⟨cap, k0, k1, A, ca, l, rfl, hl, hA⟩ := crashed_of hv ht hlt
        exact crash_law cap k0 k1 A _ ca l rfl hl W hA))

/-- DiskCrash, for every input. -/
theorem crash_proved : Rows.DiskCrashSaid := crash_over
#print axioms crash_proved
end Go.Proofs.Ytofocdigbcdfaaa
