/- Contracts of Sync and Crash. -/
import Derived.Test.YtofocdigbcdfaaaD3
import Derived.StillTailTactics
namespace Go.Proofs.Ytofocdigbcdfaaa
open Go.RowKit Mem Disk
section
variable {w w' : World} {d : Nat} {D : Dk} {F : Nat → Prop} {A0 A1 : Option Addr} {c0 c1 : Nat}

theorem setCell_drewN (w : World) (n : Nat) (a : Addr) (v : Value) : (w.drewN n).setCell a v = (w.setCell a v).drewN n := rfl

theorem DkIn.sync (h : DkIn w d D A0 A1 c0 c1) :
    DkIn ((w.setCell ⟨d, 2, none⟩ (.int .i64 D.a.b.length)).setCell ⟨d, 4, none⟩ (.int .i64 D.b.b.length)) d D.sync A0 A1 c0 c1 := by
  have n0 := h.b0.ne h.row (by decide)
  have n1 := h.b1.ne h.row (by decide)
  refine ⟨h.ok.sync, ?_, h.b0.kept (fun k hk => (other (n0 k hk)).trans (other (n0 k hk))), h.b1.kept (fun k hk => (other (n1 k hk)).trans (other (n1 k hk))), h.apart⟩
  rw [row_set (row_set h.row)]
  simp [dkRow, Dk.sync, Sl.sync]

theorem Goes.heap {D' : Dk} {w2 : World} (h : Goes w d F D' w') (h1 : w2.heap = w'.heap) (h2 : w2.os = w'.os) (h3 : w2.tape = w'.tape) (h4 : w2.output = w'.output) : Goes w d F D' w2 := by
  obtain ⟨F', g1, g2, g3⟩ := h
  exact ⟨F', g1.kept fun _ _ => by rw [h1], ⟨h2.trans g2.os, h3.trans g2.tape, h4.trans g2.output, by rw [h1]; exact g2.size, fun k hk hs => by rw [h1]; exact g2.block k hk hs⟩, g3⟩

theorem Goes.drewN {D' : Dk} (h : Goes w d F D' w') (n : Nat) : Goes w d F D' (w'.drewN n) := h.heap rfl rfl rfl rfl

theorem Goes.drew {D' : Dk} (h : Goes w d F D' w') : Goes w d F D' w'.drew := by
  obtain ⟨F', h1, h2, h3⟩ := h
  exact ⟨F', h1.kept fun _ _ => rfl, h2.drew, h3⟩

set_option maxHeartbeats 400000 in
theorem sync_any (h : Dsk w d D F) :
    Calls Try.prog 20 #[.pointer (some ⟨d, 0, none⟩)] w fun e w' => e = .returned (.tuple #[]) ∧ Goes w d F D.sync w' := by
  obtain ⟨A0, A1, c0, c1, hI, rfl⟩ := h
  obtain ⟨q0, q1, q2, q3, q4, fz⟩ := hI.cells
  have hG := hI.goes hI.sync ((((Only.refl (own d A0 A1) w)).setCell (p := ⟨d, 2, none⟩) (fun _ => .inl rfl) _).setCell (p := ⟨d, 4, none⟩) (fun _ => .inl rfl) _)
  go_enter Try.func20, Try.ntmps20
  go_wp2
  refine wp_loop_rounds 3 ?_
  rw [rounds_succ]
  go_wp2
  go_region
  go_wp2
  rw [rounds_succ]
  go_wp2
  go_region
  go_wp2
  rw [rounds_succ]
  go_wp2
  go_end0
  exact ⟨rfl, hG.drew.drew⟩

theorem DkIn.crash (h : DkIn w d D A0 A1 c0 c1) (k0 k1 : Int) :
    DkIn ((((((w.setCell ⟨d, 1, none⟩ (.slice A0 (D.a.kept k0) (D.a.kept k0))).setCell ⟨d, 2, none⟩ (.int .i64 D.a.s)).setCell ⟨d, 2, none⟩ (.int .i64 (D.a.kept k0))).setCell ⟨d, 3, none⟩ (.slice A1 (D.b.kept k1) (D.b.kept k1))).setCell ⟨d, 4, none⟩ (.int .i64 D.b.s)).setCell ⟨d, 4, none⟩ (.int .i64 (D.b.kept k1))) d (D.crash k0 k1) A0 A1 (D.a.kept k0) (D.b.kept k1) := by
  have n0 := h.b0.ne h.row (by decide)
  have n1 := h.b1.ne h.row (by decide)
  have e0 := (D.a.kept_le h.ok.sa k0).2
  have e1 := (D.b.kept_le h.ok.sb k1).2
  have l0 : (D.crash k0 k1).a.b.length = D.a.kept k0 := by simp [Dk.crash, Sl.crash]; omega
  have l1 : (D.crash k0 k1).b.b.length = D.b.kept k1 := by simp [Dk.crash, Sl.crash]; omega
  have ho : ∀ k, k ≠ d → ((((((w.setCell ⟨d, 1, none⟩ (.slice A0 (D.a.kept k0) (D.a.kept k0))).setCell ⟨d, 2, none⟩ (.int .i64 D.a.s)).setCell ⟨d, 2, none⟩ (.int .i64 (D.a.kept k0))).setCell ⟨d, 3, none⟩ (.slice A1 (D.b.kept k1) (D.b.kept k1))).setCell ⟨d, 4, none⟩ (.int .i64 D.b.s)).setCell ⟨d, 4, none⟩ (.int .i64 (D.b.kept k1))).heap[k]? = w.heap[k]? := fun k hk =>
    (other hk).trans ((other hk).trans ((other hk).trans ((other hk).trans ((other hk).trans (other hk)))))
  refine ⟨h.ok.crash k0 k1, ?_, ?_, ?_, h.apart⟩
  · rw [row_set (row_set (row_set (row_set (row_set (row_set h.row)))))]
    simp only [dkRow, l0, l1]
    simp [Dk.crash, Sl.crash]
  · have := (h.b0.cut e0).kept (fun k hk => ho k (n0 k hk))
    rw [l0]; exact this
  · have := (h.b1.cut e1).kept (fun k hk => ho k (n1 k hk))
    rw [l1]; exact this

/-- slot.cut at a number that is m. -/
theorem cut_at (d o : Nat) (A : Option Addr) (n c : Nat) (s : Nat) (x : Int) (m : Nat) (hx : x = m) (hm : m ≤ n) (hn : n ≤ c) (hc : c ≤ 9223372036854775807) (hs : s ≤ n) (w : World)
    (q0 : w.cell? ⟨d, o, none⟩ = some (.slice A n c)) (q1 : w.cell? ⟨d, o + 1, none⟩ = some (.int .i64 s)) (f0 : w.frozen? ⟨d, o, none⟩ = false) (f1 : w.frozen? ⟨d, o + 1, none⟩ = false) :
    Calls Try.prog 39 #[.pointer (some ⟨d, o, none⟩), .int .i64 x] w fun e w' => e = .returned (.tuple #[]) ∧
      (w.setCell ⟨d, o, none⟩ (.slice A m m)).setCell ⟨d, o + 1, none⟩ (.int .i64 (min s m : Nat)) = w' := by
  subst hx
  exact cut_any d o A n c s m hm hn hc hs w q0 q1 f0 f1

theorem kept_eq (s : Sl) (k : Int) (h : s.s ≤ s.b.length) : (s.kept k : Int) = s.s + min (max k 0) ((s.b.length : Int) - s.s) := by unfold Sl.kept; omega

set_option maxRecDepth 100000 in
set_option maxHeartbeats 400000 in
theorem crash_any (h : Dsk w d D F) (k0 k1 : Int) :
    Calls Try.prog 24 #[.pointer (some ⟨d, 0, none⟩), .int .i64 k0, .int .i64 k1] w fun e w' => e = .returned (.tuple #[]) ∧ Goes w d F (D.crash k0 k1) w' := by
  obtain ⟨A0, A1, c0, c1, hI, rfl⟩ := h
  obtain ⟨q0, q1, q2, q3, q4, fz⟩ := hI.cells
  have l0 := hI.b0.le; have l1 := hI.b1.le; have t0 := hI.b0.top; have t1 := hI.b1.top
  have s0 := hI.ok.sa; have s1 := hI.ok.sb; have f1 := hI.ok.fit; have f2 := hI.ok.top
  unfold maxLen at t0 t1
  have hk0 := D.a.kept_le s0 k0
  have hk1 := D.b.kept_le s1 k1
  have E0 := Lib.hid (kept_eq D.a k0 s0)
  have E1 := Lib.hid (kept_eq D.b k1 s1)
  have hG := hI.goes (hI.crash k0 k1) ((((((((Only.refl (own d A0 A1) w)).setCell (p := ⟨d, 1, none⟩) (fun _ => .inl rfl) _).setCell (p := ⟨d, 2, none⟩) (fun _ => .inl rfl) _).setCell (p := ⟨d, 2, none⟩) (fun _ => .inl rfl) _).setCell (p := ⟨d, 3, none⟩) (fun _ => .inl rfl) _).setCell (p := ⟨d, 4, none⟩) (fun _ => .inl rfl) _).setCell (p := ⟨d, 4, none⟩) (fun _ => .inl rfl) _)
  have i0 : ∀ w, (Instr.index 57 (.agg #[Value.int IntKind.i64 k0, Value.int IntKind.i64 k1]) (.int .i64 0)).run Try.prog w = .ok (.int .i64 k0) w := fun _ => by kernel_rfl
  have i1 : ∀ w, (Instr.index 57 (.agg #[Value.int IntKind.i64 k0, Value.int IntKind.i64 k1]) (.int .i64 1)).run Try.prog w = .ok (.int .i64 k1) w := fun _ => by kernel_rfl
  go_enter Try.func24, Try.ntmps24
  go_wp2
  refine wp_loop_rounds 3 ?_
  rw [rounds_succ]
  go_wp2_with fail
  go_quiet (fail)
  go_wp2_with (go_at_call 39; refine (cut_at d 1 A0 D.a.b.length c0 D.a.s _ (D.a.kept k0) (by rw [E0.out]; omega) hk0.2 l0 (by omega) s0 _ (by go_simp) (by go_simp) (by go_simp) (by go_simp)).mono ?_; rintro e w' ⟨rfl, rfl⟩)
  all_goals rw [rounds_succ]
  all_goals go_wp2_with fail
  all_goals go_quiet (fail)
  all_goals go_wp2_with (go_at_call 39; refine (cut_at d 3 A1 D.b.b.length c1 D.b.s _ (D.b.kept k1) (by rw [E1.out]; omega) hk1.2 l1 (by omega) s1 _ (by go_simp) (by go_simp) (by go_simp) (by go_simp)).mono ?_; rintro e w' ⟨rfl, rfl⟩)
  all_goals rw [rounds_succ]
  all_goals go_wp2
  all_goals go_end0
  all_goals (refine ⟨rfl, ?_⟩; simp only [setCell_drewN, World.drewN_drewN]; exact hG.drewN _)
end
end Go.Proofs.Ytofocdigbcdfaaa
