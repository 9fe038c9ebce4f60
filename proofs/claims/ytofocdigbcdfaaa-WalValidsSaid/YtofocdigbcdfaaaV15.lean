/- A record as an argument, read out of the row. -/
import Derived.Test.YtofocdigbcdfaaaV14
import Derived.Test.YtofocdigbcdfaaaLaw
import Derived.SizedLaws
namespace Go.Proofs.Ytofocdigbcdfaaa
open Go.ChangeShapes Go.WideShapes Go.ChangeAt Go.RowKit Go.Joins Go.Deep Mem

section
variable {H : Type} {enc : TypeId × Value → H} {w : World}

theorem raddr_add (b o n : Nat) : (⟨b, o, none⟩ : Addr).add n = ⟨b, o + n, none⟩ := by unfold Addr.add; split <;> simp_all
theorem raddr_plain {w : World} {a : Addr} {v : Value} (h : w.cell? (a.add 0) = some v) : ∃ b o, a = ⟨b, o, none⟩ := by
  obtain ⟨b, o, s⟩ := a
  cases s with
  | none => exact ⟨b, o, rfl⟩
  | some s =>
    exfalso
    have e : (⟨b, o, some s⟩ : Addr).add 0 = ⟨b, o, some s⟩ := rfl
    rw [e] at h
    simp only [World.cell?] at h
    split at h <;> simp_all

theorem cells84 : Try.prog.cellsOf 84 = 2 := by kernel_rfl
theorem cells86 : Try.prog.cellsOf 86 = 3 := by kernel_rfl
theorem cells46 : Try.prog.cellsOf 46 = 12 := by kernel_rfl
theorem bytes84 : Try.prog.bytesOf 84 = 32 := by kernel_rfl
theorem bytes86 : Try.prog.bytesOf 86 = 40 := by kernel_rfl

/-- A slice of spans, read. -/
theorem spans_of {fuel : Nat} {v : Value} {x : DataW H × List MemPlace} (h : DataW.trod enc Try.prog w 0 (fun _ => true) true fuel 43 [v] = some x) :
    ∃ A n c l, v = .slice A n c ∧ l.length = n ∧ Spans w A l ∧ (∀ b, (∀ k ∈ x.1.weights Try.prog 43, k ≤ b) → n * 32 ≤ b) := by
  rcases open_slice_fields Try.underlying43 Try.underlying84 (by kernel_rfl) (by rw [cells84]; rfl) h with ⟨h1, h2⟩ | ⟨a, len, cap, m, D, Pl, hcs, _, hl, hm, hmm, hx, hi⟩
  · obtain rfl : v = .slice none 0 0 := by simpa using h1
    exact ⟨none, 0, 0, [], rfl, rfl, ⟨fun k hk => absurd hk (by simp)⟩, fun b _ => by omega⟩
  · obtain rfl : v = .slice (some a) len cap := by simpa using hcs
    simp only [if_true] at hmm
    subst hmm
    have hwt : ∀ b, (∀ k ∈ x.1.weights Try.prog 43, k ≤ b) → len * 32 ≤ b := by
      intro b hb
      have := hb (m * 32) (by rw [hx]; simp [DataW.weights, Try.underlying43, bytes84]; left; omega)
      omega
    rcases Nat.eq_zero_or_pos m with h0 | h0
    · exact ⟨some a, len, m, [], rfl, by simp; omega, ⟨fun k hk => absurd hk (by simp)⟩, hwt⟩
    obtain ⟨b, off, rfl⟩ : ∃ b o, a = ⟨b, o, none⟩ := by
      obtain ⟨ys, n, _, _, _, hf⟩ := hi 0 h0
      obtain ⟨v0, y0, k0, _, t0⟩ := hf 0 _ rfl
      exact raddr_plain (v := v0) (by simpa using k0)
    have each : ∀ i, ∃ s : Sp, i < m → b < w.heap.size ∧ w.cell? ⟨b, off + i * 2, none⟩ = some (.string s.lo) ∧ w.cell? ⟨b, off + i * 2 + 1, none⟩ = some (.string s.hi) := by
      intro i
      by_cases hi' : i < m
      · obtain ⟨ys, n, _, _, _, hf⟩ := hi i hi'
        obtain ⟨v0, y0, k0, _, t0⟩ := hf 0 _ rfl
        obtain ⟨v1, y1, k1, _, t1⟩ := hf 1 _ rfl
        obtain ⟨x0, e0, _⟩ := DataW.trod_string Try.underlying9 t0
        obtain ⟨x1, e1, _⟩ := DataW.trod_string Try.underlying9 t1
        simp only [List.cons.injEq, and_true] at e0 e1
        subst e0; subst e1
        rw [raddr_add] at k0 k1
        exact ⟨⟨x0, x1⟩, fun _ => ⟨World.block_lt_of_cell? w _ k0, k0, k1⟩⟩
      · exact ⟨⟨ByteArray.empty, ByteArray.empty⟩, fun h => absurd h hi'⟩
    obtain ⟨f, hf⟩ := Classical.axiomOfChoice each
    refine ⟨some ⟨b, off, none⟩, len, m, (List.range len).map f, rfl, by simp, ⟨fun k hk => ⟨b, off, rfl, ?_⟩⟩, hwt⟩
    have hk' : k < len := by simpa using hk
    have := hf k (by omega)
    simpa using this

/-- A slice of writes, read. -/
theorem writes_of {fuel : Nat} {v : Value} {x : DataW H × List MemPlace} (h : DataW.trod enc Try.prog w 0 (fun _ => true) true fuel 44 [v] = some x) :
    ∃ A n c l, v = .slice A n c ∧ l.length = n ∧ Writes w A l ∧ (∀ b, (∀ k ∈ x.1.weights Try.prog 44, k ≤ b) → n * 40 ≤ b) := by
  rcases open_slice_fields Try.underlying44 Try.underlying86 (by kernel_rfl) (by rw [cells86]; rfl) h with ⟨h1, h2⟩ | ⟨a, len, cap, m, D, Pl, hcs, _, hl, hm, hmm, hx, hi⟩
  · obtain rfl : v = .slice none 0 0 := by simpa using h1
    exact ⟨none, 0, 0, [], rfl, rfl, ⟨fun k hk => absurd hk (by simp)⟩, fun b _ => by omega⟩
  · obtain rfl : v = .slice (some a) len cap := by simpa using hcs
    simp only [if_true] at hmm
    subst hmm
    have hwt : ∀ b, (∀ k ∈ x.1.weights Try.prog 44, k ≤ b) → len * 40 ≤ b := by
      intro b hb
      have := hb (m * 40) (by rw [hx]; simp [DataW.weights, Try.underlying44, bytes86]; left; omega)
      omega
    rcases Nat.eq_zero_or_pos m with h0 | h0
    · exact ⟨some a, len, m, [], rfl, by simp; omega, ⟨fun k hk => absurd hk (by simp)⟩, hwt⟩
    obtain ⟨b, off, rfl⟩ : ∃ b o, a = ⟨b, o, none⟩ := by
      obtain ⟨ys, n, _, _, _, hf⟩ := hi 0 h0
      obtain ⟨v0, y0, k0, _, t0⟩ := hf 0 _ rfl
      exact raddr_plain (v := v0) (by simpa using k0)
    have each : ∀ i, ∃ s : Wr, i < m → b < w.heap.size ∧ w.cell? ⟨b, off + i * 3, none⟩ = some (.string s.key) ∧ w.cell? ⟨b, off + i * 3 + 1, none⟩ = some (.bool s.del) ∧ w.cell? ⟨b, off + i * 3 + 2, none⟩ = some (.string s.val) := by
      intro i
      by_cases hi' : i < m
      · obtain ⟨ys, n, _, _, _, hf⟩ := hi i hi'
        obtain ⟨v0, y0, k0, _, t0⟩ := hf 0 _ rfl
        obtain ⟨v1, y1, k1, _, t1⟩ := hf 1 _ rfl
        obtain ⟨v2, y2, k2, _, t2⟩ := hf 2 _ rfl
        obtain ⟨x0, e0, _⟩ := DataW.trod_string Try.underlying9 t0
        obtain ⟨x1, e1, _⟩ := DataW.trod_bool Try.underlying4 t1
        obtain ⟨x2, e2, _⟩ := DataW.trod_string Try.underlying9 t2
        simp only [List.cons.injEq, and_true] at e0 e1 e2
        subst e0; subst e1; subst e2
        rw [raddr_add] at k0 k1 k2
        exact ⟨⟨x0, x1, x2⟩, fun _ => ⟨World.block_lt_of_cell? w _ k0, k0, k1, k2⟩⟩
      · exact ⟨⟨ByteArray.empty, false, ByteArray.empty⟩, fun h => absurd h hi'⟩
    obtain ⟨f, hf⟩ := Classical.axiomOfChoice each
    refine ⟨some ⟨b, off, none⟩, len, m, (List.range len).map f, rfl, by simp, ⟨fun k hk => ⟨b, off, rfl, ?_⟩⟩, hwt⟩
    have hk' : k < len := by simpa using hk
    have := hf k (by omega)
    simpa using this

/-- The numbers of a record are of their kinds. -/
structure Rc.Wide (r : Rc) : Prop where
  kind : -9223372036854775808 ≤ r.kind ∧ r.kind ≤ 9223372036854775807
  wall : 0 ≤ r.wall ∧ r.wall ≤ 18446744073709551615
  client : 0 ≤ r.client ∧ r.client ≤ 4294967295
  seq : 0 ≤ r.seq ∧ r.seq ≤ 4294967295
  home : 0 ≤ r.home ∧ r.home ≤ 4294967295
  outcome : -9223372036854775808 ≤ r.outcome ∧ r.outcome ≤ 9223372036854775807
  aw : 0 ≤ r.aw ∧ r.aw ≤ 18446744073709551615
  al : 0 ≤ r.al ∧ r.al ≤ 4294967295
  an : 0 ≤ r.an ∧ r.an ≤ 4294967295

/-- A record, read off its twelve cells. -/
theorem rec_of {fuel : Nat} {cs : List Value} {x : DataW H × List MemPlace} (h : DataW.trod enc Try.prog w 0 (fun _ => true) true fuel 46 cs = some x) :
    ∃ r A B n m c e ls lw, cs = (Rc.cells r A B n m c e).toList ∧ ls.length = n ∧ lw.length = m ∧ Spans w A ls ∧ Writes w B lw ∧ r.Wide ∧
      (∀ b, (∀ k ∈ x.1.weights Try.prog 46, k ≤ b) → n * 32 ≤ b ∧ m * 40 ≤ b ∧ r.image.size ≤ b) := by
  obtain ⟨xs, n, -, hx, hlen, hsz, hf⟩ := DataW.trod_struct Try.underlying46 h
  rw [cells46] at hlen
  match cs, hlen with
  | [c0, c1, c2, c3, c4, c5, c6, c7, c8, c9, c10, c11], _ =>
  match xs, hsz with
  | [x0, x1, x2, x3, x4, x5, x6, x7, x8], _ =>
  have t0 : DataW.trod enc Try.prog w 0 (fun _ => true) true n 35 (([c0, c1, c2, c3, c4, c5, c6, c7, c8, c9, c10, c11].drop 0).take (Try.prog.cellsOf 35)) = some x0 := hf 0 _ rfl
  have t1 : DataW.trod enc Try.prog w 0 (fun _ => true) true n 36 (([c0, c1, c2, c3, c4, c5, c6, c7, c8, c9, c10, c11].drop 1).take (Try.prog.cellsOf 36)) = some x1 := hf 1 _ rfl
  have t2 : DataW.trod enc Try.prog w 0 (fun _ => true) true n 39 (([c0, c1, c2, c3, c4, c5, c6, c7, c8, c9, c10, c11].drop 2).take (Try.prog.cellsOf 39)) = some x2 := hf 2 _ rfl
  have t3 : DataW.trod enc Try.prog w 0 (fun _ => true) true n 37 (([c0, c1, c2, c3, c4, c5, c6, c7, c8, c9, c10, c11].drop 4).take (Try.prog.cellsOf 37)) = some x3 := hf 3 _ rfl
  have t4 : DataW.trod enc Try.prog w 0 (fun _ => true) true n 40 (([c0, c1, c2, c3, c4, c5, c6, c7, c8, c9, c10, c11].drop 5).take (Try.prog.cellsOf 40)) = some x4 := hf 4 _ rfl
  have t5 : DataW.trod enc Try.prog w 0 (fun _ => true) true n 42 (([c0, c1, c2, c3, c4, c5, c6, c7, c8, c9, c10, c11].drop 6).take (Try.prog.cellsOf 42)) = some x5 := hf 5 _ rfl
  have t6 : DataW.trod enc Try.prog w 0 (fun _ => true) true n 43 (([c0, c1, c2, c3, c4, c5, c6, c7, c8, c9, c10, c11].drop 9).take (Try.prog.cellsOf 43)) = some x6 := hf 6 _ rfl
  have t7 : DataW.trod enc Try.prog w 0 (fun _ => true) true n 44 (([c0, c1, c2, c3, c4, c5, c6, c7, c8, c9, c10, c11].drop 10).take (Try.prog.cellsOf 44)) = some x7 := hf 7 _ rfl
  have t8 : DataW.trod enc Try.prog w 0 (fun _ => true) true n 9 (([c0, c1, c2, c3, c4, c5, c6, c7, c8, c9, c10, c11].drop 11).take (Try.prog.cellsOf 9)) = some x8 := hf 8 _ rfl
  have k35 : Try.prog.cellsOf 35 = 1 := by kernel_rfl
  have k36 : Try.prog.cellsOf 36 = 1 := by kernel_rfl
  have k37 : Try.prog.cellsOf 37 = 1 := by kernel_rfl
  have k39 : Try.prog.cellsOf 39 = 2 := by kernel_rfl
  have k40 : Try.prog.cellsOf 40 = 1 := by kernel_rfl
  have k42 : Try.prog.cellsOf 42 = 3 := by kernel_rfl
  have k43 : Try.prog.cellsOf 43 = 1 := by kernel_rfl
  have k44 : Try.prog.cellsOf 44 = 1 := by kernel_rfl
  have k9 : Try.prog.cellsOf 9 = 1 := by kernel_rfl
  simp only [k35, k36, k37, k39, k40, k42, k43, k44, k9, List.drop_zero, List.drop_succ_cons, List.take_succ_cons, List.take_zero] at t0 t1 t2 t3 t4 t5 t6 t7 t8
  obtain ⟨kind, e0, -, b0⟩ := DataW.trod_int Try.underlying35 t0
  obtain ⟨wall, e1, -, b1⟩ := DataW.trod_int Try.underlying36 t1
  obtain ⟨home, e3, -, b3⟩ := DataW.trod_int Try.underlying37 t3
  obtain ⟨outcome, e4, -, b4⟩ := DataW.trod_int Try.underlying40 t4
  obtain ⟨image, e8, ex8, -⟩ := DataW.trod_string Try.underlying9 t8
  obtain ⟨ys, n2, -, -, -, hs2, hg⟩ := DataW.trod_struct Try.underlying39 t2
  obtain ⟨zs, n5, -, -, -, hs5, hh⟩ := DataW.trod_struct Try.underlying42 t5
  match ys, hs2 with
  | [y0, y1], _ =>
  match zs, hs5 with
  | [z0, z1, z2], _ =>
  have u0 : DataW.trod enc Try.prog w 0 (fun _ => true) true n2 37 (([c2, c3].drop 0).take (Try.prog.cellsOf 37)) = some y0 := hg 0 _ rfl
  have u1 : DataW.trod enc Try.prog w 0 (fun _ => true) true n2 37 (([c2, c3].drop 1).take (Try.prog.cellsOf 37)) = some y1 := hg 1 _ rfl
  have v0 : DataW.trod enc Try.prog w 0 (fun _ => true) true n5 36 (([c6, c7, c8].drop 0).take (Try.prog.cellsOf 36)) = some z0 := hh 0 _ rfl
  have v1 : DataW.trod enc Try.prog w 0 (fun _ => true) true n5 37 (([c6, c7, c8].drop 1).take (Try.prog.cellsOf 37)) = some z1 := hh 1 _ rfl
  have v2 : DataW.trod enc Try.prog w 0 (fun _ => true) true n5 37 (([c6, c7, c8].drop 2).take (Try.prog.cellsOf 37)) = some z2 := hh 2 _ rfl
  simp only [k36, k37, List.drop_zero, List.drop_succ_cons, List.take_succ_cons, List.take_zero] at u0 u1 v0 v1 v2
  obtain ⟨client, f0, -, d0⟩ := DataW.trod_int Try.underlying37 u0
  obtain ⟨seq, f1, -, d1⟩ := DataW.trod_int Try.underlying37 u1
  obtain ⟨aw, g0, -, a0⟩ := DataW.trod_int Try.underlying36 v0
  obtain ⟨al, g1, -, a1⟩ := DataW.trod_int Try.underlying37 v1
  obtain ⟨an, g2, -, a2⟩ := DataW.trod_int Try.underlying37 v2
  obtain ⟨A, nn, c, ls, rfl, hl, hS, hw1⟩ := spans_of t6
  obtain ⟨B, mm, e, lw, rfl, hm, hT, hw2⟩ := writes_of t7
  simp only [List.cons.injEq, and_true] at e0 e1 e3 e4 e8 f0 f1 g0 g1 g2
  subst e0 e1 e3 e4 e8 f0 f1 g0 g1 g2
  refine ⟨⟨kind, wall, client, seq, home, outcome, aw, al, an, image⟩, A, B, nn, mm, c, e, ls, lw, rfl, hl, hm, hS, hT, ⟨bounds_i64 b0, bounds_u64 b1, bounds_u32 d0, bounds_u32 d1, bounds_u32 b3, bounds_i64 b4, bounds_u64 a0, bounds_u32 a1, bounds_u32 a2⟩, fun b hb => ⟨hw1 b fun k hk => hb k ?_, hw2 b fun k hk => hb k ?_, hb _ ?_⟩⟩
  · rw [hx]; simp only [DataW.weights, Try.underlying46, DataW.weightsEach, List.map_cons, List.mem_append]; simp [hk]
  · rw [hx]; simp [DataW.weights, Try.underlying46, DataW.weightsEach, hk]
  · rw [hx]; simp [DataW.weights, Try.underlying46, DataW.weightsEach, ex8]
end
end Go.Proofs.Ytofocdigbcdfaaa
