/- Contracts of Bytes, Synced and slot.cut. -/
import Derived.Test.YtofocdigbcdfaaaD1
namespace Go.Proofs.Ytofocdigbcdfaaa
open Go.RowKit Mem Disk

theorem wrongB_right {i : Int} (h : right i) : wrongB i = false := by unfold right at h; simp [wrongB]; omega
theorem wrongB_not {i : Int} (h : ¬ right i) : wrongB i = true := by unfold right at h; simp [wrongB]; omega

section
variable {w w' : World} {d : Nat} {D : Dk} {A0 A1 : Option Addr} {c0 c1 : Nat}

theorem wrong_no {i : Int} (h : right i) (w : World) : Calls Try.prog 32 #[.int .i64 i] w fun e w' => e = .returned (.bool false) ∧ w = w' :=
  (wrong_any i w).mono fun _ _ ⟨he, hw⟩ => ⟨by rw [he, wrongB_right h], hw⟩
theorem wrong_yes {i : Int} (h : ¬ right i) (w : World) : Calls Try.prog 32 #[.int .i64 i] w fun e w' => e = .returned (.bool true) ∧ w = w' :=
  (wrong_any i w).mono fun _ _ ⟨he, hw⟩ => ⟨by rw [he, wrongB_not h], hw⟩

set_option maxHeartbeats 400000 in
theorem bytes_any (h : DkIn w d D A0 A1 c0 c1) (i : Int) :
    Calls Try.prog 12 #[.pointer (some ⟨d, 0, none⟩), .int .i64 i] w fun e w' => e = .returned (.string (str (D.bytes i))) ∧ w = w' := by
  obtain ⟨q0, q1, q2, q3, q4, fz⟩ := h.cells
  have k0 := h.b0.toString (P := Try.prog) 70 Try.underlying70 Try.underlying5 9 Try.underlying9
  have k1 := h.b1.toString (P := Try.prog) 70 Try.underlying70 Try.underlying5 9 Try.underlying9
  by_cases hr : right i
  · rcases hr with rfl | rfl
    · go_enter Try.func12, Try.ntmps12
      go_wp2_with (go_at_call 32; refine (wrong_no (.inl rfl) _).mono ?_; rintro e w' ⟨rfl, rfl⟩)
      go_ret
      exact ⟨rfl, rfl⟩
    · go_enter Try.func12, Try.ntmps12
      go_wp2_with (go_at_call 32; refine (wrong_no (.inr rfl) _).mono ?_; rintro e w' ⟨rfl, rfl⟩)
      go_ret
      exact ⟨rfl, rfl⟩
  · have hd : D.bytes i = [] := if_neg hr
    rw [hd]; clear hd
    go_enter Try.func12, Try.ntmps12
    go_wp2_with (go_at_call 32; refine (wrong_yes hr _).mono ?_; rintro e w' ⟨rfl, rfl⟩)
    go_ret
    exact ⟨rfl, rfl⟩

set_option maxHeartbeats 400000 in
theorem synced_any (h : DkIn w d D A0 A1 c0 c1) (i : Int) :
    Calls Try.prog 21 #[.pointer (some ⟨d, 0, none⟩), .int .i64 i] w fun e w' => e = .returned (.int .i64 (D.synced i)) ∧ w = w' := by
  obtain ⟨q0, q1, q2, q3, q4, fz⟩ := h.cells
  by_cases hr : right i
  · rcases hr with rfl | rfl
    · go_enter Try.func21, Try.ntmps21
      go_wp2_with (go_at_call 32; refine (wrong_no (.inl rfl) _).mono ?_; rintro e w' ⟨rfl, rfl⟩)
      go_ret
      exact ⟨rfl, rfl⟩
    · go_enter Try.func21, Try.ntmps21
      go_wp2_with (go_at_call 32; refine (wrong_no (.inr rfl) _).mono ?_; rintro e w' ⟨rfl, rfl⟩)
      go_ret
      exact ⟨rfl, rfl⟩
  · have hd : D.synced i = 0 := if_neg hr
    rw [hd]; clear hd
    go_enter Try.func21, Try.ntmps21
    go_wp2_with (go_at_call 32; refine (wrong_yes hr _).mono ?_; rintro e w' ⟨rfl, rfl⟩)
    go_ret
    exact ⟨rfl, rfl⟩

set_option maxHeartbeats 400000 in
/-- slot.cut: the slot at offset o of block d. -/
theorem cut_any (d o : Nat) (A : Option Addr) (n c : Nat) (s : Nat) (m : Nat) (hm : m ≤ n) (hn : n ≤ c) (_hc : c ≤ 9223372036854775807) (_hs : s ≤ n) (w : World)
    (q0 : w.cell? ⟨d, o, none⟩ = some (.slice A n c)) (q1 : w.cell? ⟨d, o + 1, none⟩ = some (.int .i64 s)) (f0 : w.frozen? ⟨d, o, none⟩ = false) (f1 : w.frozen? ⟨d, o + 1, none⟩ = false) :
    Calls Try.prog 39 #[.pointer (some ⟨d, o, none⟩), .int .i64 m] w fun e w' => e = .returned (.tuple #[]) ∧
      (w.setCell ⟨d, o, none⟩ (.slice A m m)).setCell ⟨d, o + 1, none⟩ (.int .i64 (min s m : Nat)) = w' := by
  go_enter Try.func39, Try.ntmps39
  go_wp2
  all_goals
    go_end0
    refine ⟨rfl, ?_⟩
    first
      | rw [Nat.min_eq_right (by omega)]
      | rw [Nat.min_eq_left (by omega)]

theorem row_set {w : World} {d i : Nat} {cs : Array Value} {T : TypeId} {v : Value} (h : w.heap[d]? = some (.cells cs T (0, 0))) :
    (w.setCell ⟨d, i, none⟩ v).heap[d]? = some (.cells (cs.setIfInBounds i v) T (0, 0)) := heap_setCell_same w d i cs T v h

/-- Slot 0 has turned. -/
theorem DkIn.turn0 (h : DkIn w d D A0 A1 c0 c1) {s : Sl} {A : Option Addr} {c : Nat} {w' : World} (hrow : w'.heap[d]? = some (.cells (dkRow { D with a := s } A A1 c c1) 75 (0, 0)))
    (hb : Bts 5 w' A s.b.length c s.b) (h1 : ∀ k, blk A1 k → w'.heap[k]? = w.heap[k]?) (hap : ∀ k, blk A k → ¬ blk A1 k) (hok : ({ D with a := s } : Dk).ok) : DkIn w' d { D with a := s } A A1 c c1 :=
  ⟨hok, hrow, hb, h.b1.kept h1, hap⟩

/-- Slot 1 has turned. -/
theorem DkIn.turn1 (h : DkIn w d D A0 A1 c0 c1) {s : Sl} {A : Option Addr} {c : Nat} {w' : World} (hrow : w'.heap[d]? = some (.cells (dkRow { D with b := s } A0 A c0 c) 75 (0, 0)))
    (hb : Bts 5 w' A s.b.length c s.b) (h0 : ∀ k, blk A0 k → w'.heap[k]? = w.heap[k]?) (hap : ∀ k, blk A0 k → ¬ blk A k) (hok : ({ D with b := s } : Dk).ok) : DkIn w' d { D with b := s } A0 A c0 c :=
  ⟨hok, hrow, h.b0.kept h0, hb, hap⟩

theorem other {w : World} {p : Addr} {u : Value} {k : Nat} (h : k ≠ p.block) : (w.setCell p u).heap[k]? = w.heap[k]? := Below.heap_setCell w p u k h

theorem DkIn.cut0 (h : DkIn w d D A0 A1 c0 c1) {m : Nat} (hm : m ≤ D.a.b.length) :
    DkIn ((w.setCell ⟨d, 1, none⟩ (.slice A0 m m)).setCell ⟨d, 2, none⟩ (.int .i64 (min D.a.s m : Nat))) d { D with a := D.a.cut m } A0 A1 m c1 := by
  have n0 := h.b0.ne h.row (by decide)
  have n1 := h.b1.ne h.row (by decide)
  have hl : (D.a.cut m).b.length = m := by simp [Sl.cut]; omega
  refine h.turn0 ?_ ?_ (fun k hk => (other (n1 k hk)).trans (other (n1 k hk))) h.apart ?_
  · rw [row_set (row_set h.row)]
    simp [dkRow, hl]
    simp [Sl.cut]
  · have := (h.b0.cut hm).kept (w' := (w.setCell ⟨d, 1, none⟩ (.slice A0 m m)).setCell ⟨d, 2, none⟩ (.int .i64 (min D.a.s m : Nat))) (fun k hk => (other (n0 k hk)).trans (other (n0 k hk)))
    rw [hl]; exact this
  · have := h.ok.trunc 0 m
    unfold Dk.trunc at this
    rw [if_pos ⟨.inl rfl, by omega, by simp [Dk.get]; omega⟩] at this
    simpa [Dk.set, Dk.get] using this

theorem DkIn.cut1 (h : DkIn w d D A0 A1 c0 c1) {m : Nat} (hm : m ≤ D.b.b.length) :
    DkIn ((w.setCell ⟨d, 3, none⟩ (.slice A1 m m)).setCell ⟨d, 4, none⟩ (.int .i64 (min D.b.s m : Nat))) d { D with b := D.b.cut m } A0 A1 c0 m := by
  have n0 := h.b0.ne h.row (by decide)
  have n1 := h.b1.ne h.row (by decide)
  have hl : (D.b.cut m).b.length = m := by simp [Sl.cut]; omega
  refine h.turn1 ?_ ?_ (fun k hk => (other (n0 k hk)).trans (other (n0 k hk))) h.apart ?_
  · rw [row_set (row_set h.row)]
    simp [dkRow, hl]
    simp [Sl.cut]
  · have := (h.b1.cut hm).kept (w' := (w.setCell ⟨d, 3, none⟩ (.slice A1 m m)).setCell ⟨d, 4, none⟩ (.int .i64 (min D.b.s m : Nat))) (fun k hk => (other (n1 k hk)).trans (other (n1 k hk)))
    rw [hl]; exact this
  · have := h.ok.trunc 1 m
    unfold Dk.trunc at this
    rw [if_pos ⟨.inr rfl, by omega, by simp [Dk.get]; omega⟩] at this
    simpa [Dk.set, Dk.get] using this
end
end Go.Proofs.Ytofocdigbcdfaaa
