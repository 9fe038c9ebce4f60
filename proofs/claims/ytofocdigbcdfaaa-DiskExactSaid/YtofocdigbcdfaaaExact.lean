/- DiskExact: for every input the law returns true, and its argument reads as before; no condition. -/
import Derived.Test.YtofocdigbcdfaaaR10
import Derived.Test.YtofocdigbcdfaaaArgs
namespace Go.Proofs.Ytofocdigbcdfaaa
open Go.ChangeShapes Go.WideShapes Go.ChangeAt Go.RowKit Go.Joins Go.Deep Mem Disk

section
variable {H : Type} {enc : TypeId × Value → H} {w : World}

/-- A slice of steps, read; its numbers lie within a word. -/
theorem steps_in {fuel : Nat} {v : Value} {x : DataW H × List MemPlace} (h : DataW.trod enc Try.prog w 0 (fun _ => true) true fuel 22 [v] = some x) (_hlt : ∀ p ∈ x.2, p.block < w.heap.size) :
    ∃ A c l, v = .slice A l.length c ∧ l.length ≤ 9223372036854775807 ∧ Steps w A l ∧ ∀ st ∈ l, Within st := by
  rcases open_slice_fields Try.underlying22 Try.underlying29 (by kernel_rfl) (by rw [cells29]; rfl) h with ⟨h1, h2⟩ | ⟨a, len, cap, m, D, Pl, hcs, _, hl, hm, hmm, hx, hi⟩
  · obtain rfl : v = .slice none 0 0 := by simpa using h1
    exact ⟨none, 0, [], rfl, by simp, ⟨fun k hk => absurd hk (by simp)⟩, by simp⟩
  · obtain rfl : v = .slice (some a) len cap := by simpa using hcs
    simp only [if_true] at hmm
    subst hmm
    rcases Nat.eq_zero_or_pos m with h0 | h0
    · exact ⟨some a, m, [], by simp; omega, by simp, ⟨fun k hk => absurd hk (by simp)⟩, by simp⟩
    obtain ⟨b, off, rfl⟩ : ∃ b o, a = ⟨b, o, none⟩ := by
      obtain ⟨ys, n, _, _, _, hf⟩ := hi 0 h0
      obtain ⟨v0, y0, k0, _, t0⟩ := hf 0 _ rfl
      exact addr_plain (v := v0) (by simpa using k0)
    have each : ∀ i, ∃ st : St, i < m → Within st ∧ b < w.heap.size ∧
        w.cell? ⟨b, off + i * 6, none⟩ = some (.int .i64 st.kind) ∧ w.cell? ⟨b, off + i * 6 + 1, none⟩ = some (.int .i64 st.on) ∧ w.cell? ⟨b, off + i * 6 + 2, none⟩ = some (.int .i64 st.slot) ∧
        w.cell? ⟨b, off + i * 6 + 3, none⟩ = some (.int .i64 st.n) ∧ w.cell? ⟨b, off + i * 6 + 4, none⟩ = some (.int .i64 st.m) ∧ w.cell? ⟨b, off + i * 6 + 5, none⟩ = some (.string st.s) := by
      intro i
      by_cases hi' : i < m
      · obtain ⟨ys, n, _, _, _, hf⟩ := hi i hi'
        obtain ⟨v0, y0, k0, _, t0⟩ := hf 0 _ rfl
        obtain ⟨v1, y1, k1, _, t1⟩ := hf 1 _ rfl
        obtain ⟨v2, y2, k2, _, t2⟩ := hf 2 _ rfl
        obtain ⟨v3, y3, k3, _, t3⟩ := hf 3 _ rfl
        obtain ⟨v4, y4, k4, _, t4⟩ := hf 4 _ rfl
        obtain ⟨v5, y5, k5, _, t5⟩ := hf 5 _ rfl
        obtain ⟨x0, e0, _⟩ := DataW.trod_int Try.underlying3 t0
        obtain ⟨x1, e1, _⟩ := DataW.trod_int Try.underlying3 t1
        obtain ⟨x2, e2, _⟩ := DataW.trod_int Try.underlying3 t2
        obtain ⟨x3, e3, _, b3⟩ := DataW.trod_int Try.underlying3 t3
        obtain ⟨x4, e4, _, b4⟩ := DataW.trod_int Try.underlying3 t4
        obtain ⟨x5, e5, _⟩ := DataW.trod_string Try.underlying9 t5
        simp only [List.cons.injEq, and_true] at e0 e1 e2 e3 e4 e5
        subst e0; subst e1; subst e2; subst e3; subst e4; subst e5
        rw [addr_add] at k0 k1 k2 k3 k4 k5
        refine ⟨⟨x0, x1, x2, x3, x4, x5⟩, fun _ => ⟨⟨bounds_i64 b3, bounds_i64 b4⟩, World.block_lt_of_cell? w _ k0, k0, k1, k2, k3, k4, k5⟩⟩
      · exact ⟨⟨0, 0, 0, 0, 0, ByteArray.empty⟩, fun h => absurd h hi'⟩
    obtain ⟨f, hf⟩ := Classical.axiomOfChoice each
    refine ⟨some ⟨b, off, none⟩, m, (List.range len).map f, by simp, by simp; unfold maxLen at hm; omega, ⟨fun k hk => ⟨b, off, rfl, ?_⟩⟩, ?_⟩
    · have hk' : k < len := by simpa using hk
      have := (hf k (by omega)).2
      simpa using this
    · intro st hst
      obtain ⟨k, hk, rfl⟩ := List.mem_map.1 hst
      exact (hf k (by have := List.mem_range.1 hk; omega)).1
end

theorem exact_over : Rows.diskExactRow.holds Try.pinned (OpenSpec.ofChange Rows.diskExactSpec) :=
  OpenClaim.holds_of_wide 7 Try.f7 rfl rfl rfl rfl rfl rfl rfl ⟨rfl, rfl, rfl, rfl, rfl⟩ rfl rfl rfl rfl rfl (by kernel_rfl) Try.func7 (by kernel_rfl)
    (of_decide_eq_true (by kernel_rfl)) (by unfold Func.isWrapper; first | (rw [if_pos (by decide +kernel)]; kernel_rfl) | (rw [if_neg (by decide +kernel)]; exact ⟨rfl, rfl⟩))
    (fun os started H enc _ => lifted_law (C := Try.checked) (s := Rows.diskExactSpec) (T := 22) (B := 4) own_knob started (by kernel_rfl) Try.func7 laid_out (by kernel_rfl) (of_decide_eq_true (by kernel_rfl)) Try.underlying4 rfl rfl rfl (fun _ => rfl)
      (ChangeSpec.witness6 (enc := enc) (C := Try.checked) false ⟨#[], #[.slice none 0 0], []⟩ 7 (by kernel_rfl) (by kernel_rfl) (by kernel_rfl) (by kernel_rfl))
      (fun W base v d p hv ht hlt => by
        obtain ⟨a0, n0, c0, rfl⟩ := okWide_slice Try.underlying22 hv
        obtain ⟨fuel, ht⟩ := ht
        have ht' : DataW.trod enc Try.checked.prog W 0 (fun _ => true) true fuel 22 [.slice a0 n0 c0] = some (d, p) := ht
        obtain ⟨A, c, l, he, hl, hA, hb⟩ := steps_in ht' hlt
        rw [he]
        exact exact_law A _ c l rfl hl W hA hb))

/-- DiskExact, for every input. -/
theorem exact_proved : Rows.DiskExactSaid := exact_over
#print axioms exact_proved
end Go.Proofs.Ytofocdigbcdfaaa
