/- The arguments of the disk's statements, read out of the row: numbers and slices of steps. -/
import Derived.Test.YtofocdigbcdfaaaD8
import Derived.Test.YtofocdigbcdfaaaLaw
namespace Go.Proofs.Ytofocdigbcdfaaa
open Go.ChangeShapes Go.WideShapes Go.ChangeAt Go.RowKit Go.Joins Go.Deep Mem Disk

section
variable {H : Type} {enc : TypeId × Value → H} {w : World}

theorem addr_add (b o n : Nat) : (⟨b, o, none⟩ : Addr).add n = ⟨b, o + n, none⟩ := by unfold Addr.add; split <;> simp_all
theorem addr_plain {w : World} {a : Addr} {v : Value} (h : w.cell? (a.add 0) = some v) : ∃ b o, a = ⟨b, o, none⟩ := by
  obtain ⟨b, o, s⟩ := a
  cases s with
  | none => exact ⟨b, o, rfl⟩
  | some s =>
    exfalso
    have e : (⟨b, o, some s⟩ : Addr).add 0 = ⟨b, o, some s⟩ := rfl
    rw [e] at h
    simp only [World.cell?] at h
    split at h <;> simp_all

theorem cells24 : Try.prog.cellsOf 24 = 3 := by kernel_rfl
theorem cells29 : Try.prog.cellsOf 29 = 6 := by kernel_rfl

/-- A slice of steps, read. -/
theorem steps_of {fuel : Nat} {v : Value} {x : DataW H × List MemPlace} (h : DataW.trod enc Try.prog w 0 (fun _ => true) true fuel 22 [v] = some x) (_hlt : ∀ p ∈ x.2, p.block < w.heap.size) :
    ∃ A c l, v = .slice A l.length c ∧ l.length ≤ 9223372036854775807 ∧ Steps w A l := by
  rcases open_slice_fields Try.underlying22 Try.underlying29 (by kernel_rfl) (by rw [cells29]; rfl) h with ⟨h1, h2⟩ | ⟨a, len, cap, m, D, Pl, hcs, _, hl, hm, hmm, hx, hi⟩
  · obtain rfl : v = .slice none 0 0 := by simpa using h1
    exact ⟨none, 0, [], rfl, by simp, ⟨fun k hk => absurd hk (by simp)⟩⟩
  · obtain rfl : v = .slice (some a) len cap := by simpa using hcs
    simp only [if_true] at hmm
    subst hmm
    rcases Nat.eq_zero_or_pos m with h0 | h0
    · exact ⟨some a, m, [], by simp; omega, by simp, ⟨fun k hk => absurd hk (by simp)⟩⟩
    obtain ⟨b, off, rfl⟩ : ∃ b o, a = ⟨b, o, none⟩ := by
      obtain ⟨ys, n, _, _, _, hf⟩ := hi 0 h0
      obtain ⟨v0, y0, k0, _, t0⟩ := hf 0 _ rfl
      exact addr_plain (v := v0) (by simpa using k0)
    have each : ∀ i, ∃ st : St, i < m → b < w.heap.size ∧
        w.cell? ⟨b, off + i * 6, none⟩ = some (.int .i64 st.kind) ∧ w.cell? ⟨b, off + i * 6 + 1, none⟩ = some (.int .i64 st.on) ∧ w.cell? ⟨b, off + i * 6 + 2, none⟩ = some (.int .i64 st.slot) ∧
        w.cell? ⟨b, off + i * 6 + 3, none⟩ = some (.int .i64 st.n) ∧ w.cell? ⟨b, off + i * 6 + 4, none⟩ = some (.int .i64 st.m) ∧ w.cell? ⟨b, off + i * 6 + 5, none⟩ = some (.string st.s) := by
      intro i
      by_cases hi' : i < m
      · obtain ⟨ys, n, _, _, _, hf⟩ := hi i hi'
        obtain ⟨v0, y0, k0, _, t0⟩ := hf 0 _ rfl
        obtain ⟨v1, y1, k1, _, t1⟩ := hf 1 _ rfl
        obtain ⟨v2, y2, k2, _, t2⟩ := hf 2 _ rfl
        obtain ⟨v3, y3, k3, _, t3⟩ := hf 3 _ rfl
        obtain ⟨v4, y4, k4, _, t4⟩ := hf 4 _ rfl
        obtain ⟨v5, y5, k5, _, t5⟩ := hf 5 _ rfl
        obtain ⟨x0, e0, _⟩ := DataW.trod_int Try.underlying3 t0
        obtain ⟨x1, e1, _⟩ := DataW.trod_int Try.underlying3 t1
        obtain ⟨x2, e2, _⟩ := DataW.trod_int Try.underlying3 t2
        obtain ⟨x3, e3, _⟩ := DataW.trod_int Try.underlying3 t3
        obtain ⟨x4, e4, _⟩ := DataW.trod_int Try.underlying3 t4
        obtain ⟨x5, e5, _⟩ := DataW.trod_string Try.underlying9 t5
        simp only [List.cons.injEq, and_true] at e0 e1 e2 e3 e4 e5
        subst e0; subst e1; subst e2; subst e3; subst e4; subst e5
        rw [addr_add] at k0 k1 k2 k3 k4 k5
        refine ⟨⟨x0, x1, x2, x3, x4, x5⟩, fun _ => ⟨World.block_lt_of_cell? w _ k0, k0, k1, k2, k3, k4, k5⟩⟩
      · exact ⟨⟨0, 0, 0, 0, 0, ByteArray.empty⟩, fun h => absurd h hi'⟩
    obtain ⟨f, hf⟩ := Classical.axiomOfChoice each
    refine ⟨some ⟨b, off, none⟩, m, (List.range len).map f, by simp, by simp; unfold maxLen at hm; omega, ⟨fun k hk => ⟨b, off, rfl, ?_⟩⟩⟩
    have hk' : k < len := by simpa using hk
    have := hf k (by omega)
    simpa using this

/-- The walk's argument out of the row's. -/
theorem two_of {base : Nat} {v : Value} {d : DataW H} {p : List MemPlace} (hv : Value.okWide Try.prog w .any base 24 v) (h : DataW.Trod enc Try.prog w 0 (fun _ => true) true 24 v d p) (hlt : ∀ x ∈ p, x.block < w.heap.size) :
    ∃ cap A B ca cb l m, v = .agg #[.int .i64 cap, .slice A l.length ca, .slice B m.length cb] ∧ l.length ≤ 9223372036854775807 ∧ m.length ≤ 9223372036854775807 ∧ Steps w A l ∧ Steps w B m := by
  obtain ⟨c0, c1, c2, y0, y1, y2, n, rfl, rfl, rfl, t0, t1, t2⟩ := open_agg3 Try.underlying24 (by kernel_rfl) cells24 hv h
  obtain ⟨cap, e0, rfl, _⟩ := DataW.trod_int Try.underlying3 t0
  simp only [List.cons.injEq, and_true] at e0
  subst e0
  obtain ⟨A, ca, l, rfl, hl, hA⟩ := steps_of t1 (fun x hx => hlt x (by simp [hx]))
  obtain ⟨B, cb, m, rfl, hm, hB⟩ := steps_of t2 (fun x hx => hlt x (by simp [hx]))
  exact ⟨cap, A, B, ca, cb, l, m, rfl, hl, hm, hA, hB⟩
end

end Go.Proofs.Ytofocdigbcdfaaa
