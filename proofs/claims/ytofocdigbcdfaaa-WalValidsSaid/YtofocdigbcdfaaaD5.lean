/- Contract of Append. -/
import Derived.Test.YtofocdigbcdfaaaD4
import Derived.Deep.RegionLaw
namespace Go.Proofs.Ytofocdigbcdfaaa
open Go.RowKit Mem Disk
section
variable {w w' : World} {d : Nat} {D : Dk} {F : Nat → Prop} {A0 A1 : Option Addr} {c0 c1 : Nat}

theorem info5 : (Try.prog.info? 5).map (fun i => (i.zero, i.size, i.bytes)) = some (some (.int .u8 0), 1, 1) := by kernel_rfl

theorem free_dsk (h : Dsk w d D F) :
    Calls Try.prog 10 #[.pointer (some ⟨d, 0, none⟩)] w fun e w' => e = .returned (.int .i64 D.free) ∧ Below w.heap.size w w' := by
  obtain ⟨A0, A1, c0, c1, hI, rfl⟩ := h
  exact free_any hI

theorem Goes.after {D' : Dk} {w1 : World} (h : Goes w1 d F D' w') (hb : Below w.heap.size w w1) : Goes w d F D' w' := by
  obtain ⟨F', g1, g2, g3⟩ := h
  exact ⟨F', g1, (Only.of_below hb).trans g2 (fun _ _ h => h), fun k hk => (g3 k hk).imp id (fun h => Nat.le_trans hb.size h)⟩

theorem DkIn.app0 (h : DkIn w d D A0 A1 c0 c1) {s : ByteArray} (hs : s.size ≤ D.free) {A' : Option Addr} {c' : Nat} {w2 : World} (hb2 : Bts 5 w2 A' (D.a.b.length + s.size) c' (D.a.b ++ s.data.toList))
    (ho2 : Only (blk A0) w w2) (hA : A' = A0 ∨ A' = some ⟨w.heap.size, 0, none⟩) :
    Goes w d (own d A0 A1) (D.set 0 ⟨(D.get 0).b ++ s.data.toList, (D.get 0).s⟩) (w2.setCell ⟨d, 1, none⟩ (.slice A' (D.a.b.length + s.size : Nat) c')) := by
  have n0 := h.b0.ne h.row (by decide)
  have n1 := h.b1.ne h.row (by decide)
  have hsz : s.data.toList.length = s.size := rfl
  have nd : ∀ k, blk A' k → k ≠ d := by
    rintro k hk rfl
    rcases hA with rfl | rfl
    · exact n0 k hk rfl
    · rw [blk_some] at hk; have := h.lt; simp at hk; omega
  have e : D.set 0 ⟨(D.get 0).b ++ s.data.toList, (D.get 0).s⟩ = { D with a := ⟨D.a.b ++ s.data.toList, D.a.s⟩ } := by simp [Dk.set, Dk.get]
  rw [e]
  have hrow2 : w2.heap[d]? = some (.cells (dkRow D A0 A1 c0 c1) 75 (0, 0)) := (ho2.block d h.lt (fun hk => n0 d hk rfl)).trans h.row
  have hlen : (D.a.b ++ s.data.toList).length = D.a.b.length + s.size := by rw [List.length_append, hsz]
  refine ⟨own d A' A1, ⟨A', A1, c', c1, h.turn0 ?_ ?_ ?_ ?_ ?_, rfl⟩, ?_, ?_⟩
  · rw [row_set hrow2]; simp [dkRow, hlen]
  · have := hb2.kept (w' := w2.setCell ⟨d, 1, none⟩ (.slice A' (D.a.b.length + s.size : Nat) c')) (fun k hk => other (nd k hk))
    rw [hlen]; exact this
  · intro k hk
    exact (other (n1 k hk)).trans (ho2.block k (h.b1.lt k hk) (fun h' => h.apart k h' hk))
  · intro k hk h'
    rcases hA with rfl | rfl
    · exact h.apart k hk h'
    · rw [blk_some] at hk; have := h.b1.lt k h'; simp at hk; omega
  · have := h.ok.app 0 s.data.toList
    unfold Dk.app at this
    rw [if_pos ⟨.inl rfl, by omega⟩, e] at this
    exact this
  · exact (ho2.mono (fun k _ hk => .inr (.inl hk))).setCell (p := ⟨d, 1, none⟩) (fun _ => .inl rfl) _
  · rintro k (rfl | hk | hk)
    · exact .inl (.inl rfl)
    · rcases hA with rfl | rfl
      · exact .inl (.inr (.inl hk))
      · rw [blk_some] at hk; simp at hk; exact .inr (by omega)
    · exact .inl (.inr (.inr hk))

theorem DkIn.app1 (h : DkIn w d D A0 A1 c0 c1) {s : ByteArray} (hs : s.size ≤ D.free) {A' : Option Addr} {c' : Nat} {w2 : World} (hb2 : Bts 5 w2 A' (D.b.b.length + s.size) c' (D.b.b ++ s.data.toList))
    (ho2 : Only (blk A1) w w2) (hA : A' = A1 ∨ A' = some ⟨w.heap.size, 0, none⟩) :
    Goes w d (own d A0 A1) (D.set 1 ⟨(D.get 1).b ++ s.data.toList, (D.get 1).s⟩) (w2.setCell ⟨d, 3, none⟩ (.slice A' (D.b.b.length + s.size : Nat) c')) := by
  have n0 := h.b0.ne h.row (by decide)
  have n1 := h.b1.ne h.row (by decide)
  have hsz : s.data.toList.length = s.size := rfl
  have nd : ∀ k, blk A' k → k ≠ d := by
    rintro k hk rfl
    rcases hA with rfl | rfl
    · exact n1 k hk rfl
    · rw [blk_some] at hk; have := h.lt; simp at hk; omega
  have e : D.set 1 ⟨(D.get 1).b ++ s.data.toList, (D.get 1).s⟩ = { D with b := ⟨D.b.b ++ s.data.toList, D.b.s⟩ } := by simp [Dk.set, Dk.get]
  rw [e]
  have hrow2 : w2.heap[d]? = some (.cells (dkRow D A0 A1 c0 c1) 75 (0, 0)) := (ho2.block d h.lt (fun hk => n1 d hk rfl)).trans h.row
  have hlen : (D.b.b ++ s.data.toList).length = D.b.b.length + s.size := by rw [List.length_append, hsz]
  refine ⟨own d A0 A', ⟨A0, A', c0, c', h.turn1 ?_ ?_ ?_ ?_ ?_, rfl⟩, ?_, ?_⟩
  · rw [row_set hrow2]; simp [dkRow, hlen]
  · have := hb2.kept (w' := w2.setCell ⟨d, 3, none⟩ (.slice A' (D.b.b.length + s.size : Nat) c')) (fun k hk => other (nd k hk))
    rw [hlen]; exact this
  · intro k hk
    exact (other (n0 k hk)).trans (ho2.block k (h.b0.lt k hk) (fun h' => h.apart k hk h'))
  · intro k h' hk
    rcases hA with rfl | rfl
    · exact h.apart k h' hk
    · rw [blk_some] at hk; have := h.b0.lt k h'; simp at hk; omega
  · have := h.ok.app 1 s.data.toList
    unfold Dk.app at this
    rw [if_pos ⟨.inr rfl, by omega⟩, e] at this
    exact this
  · exact (ho2.mono (fun k _ hk => .inr (.inr hk))).setCell (p := ⟨d, 3, none⟩) (fun _ => .inl rfl) _
  · rintro k (rfl | hk | hk)
    · exact .inl (.inl rfl)
    · exact .inl (.inr (.inl hk))
    · rcases hA with rfl | rfl
      · exact .inl (.inr (.inr hk))
      · rw [blk_some] at hk; simp at hk; exact .inr (by omega)

set_option maxRecDepth 100000 in
set_option maxHeartbeats 400000 in
theorem append_any (h : Dsk w d D F) (i : Int) (s : ByteArray) :
    Calls Try.prog 13 #[.pointer (some ⟨d, 0, none⟩), .int .i64 i, .string s] w fun e w' => e = .returned (.int .i64 (D.appE i s.data.toList)) ∧ Goes w d F (D.app i s.data.toList) w' := by
  have hsz : s.data.toList.length = s.size := rfl
  by_cases hr : right i
  · by_cases hf : s.size ≤ D.free
    · have hE : D.appE i s.data.toList = 0 := by unfold Dk.appE; rw [if_pos hr, if_pos (by omega)]
      have hT : D.app i s.data.toList = D.set i ⟨(D.get i).b ++ s.data.toList, (D.get i).s⟩ := by unfold Dk.app; rw [if_pos ⟨hr, by omega⟩]
      rw [hE, hT]; clear hE hT hsz
      have f1 := h.ok.fit; have f2 := h.ok.top
      have f3 : D.free ≤ D.room := Nat.sub_le _ _
      obtain ⟨i0, hi0, hz0, hz1, hz2⟩ := info_parts info5
      rcases hr with rfl | rfl
      · go_enter Try.func13, Try.ntmps13
        go_wp2_with (first | (go_at_call 32; refine (wrong_no (.inl rfl) _).mono ?_; rintro e w' ⟨rfl, rfl⟩) | (go_at_call 10; refine (free_dsk h).mono ?_; rintro e w1 ⟨rfl, hb⟩))
        obtain ⟨A0, A1, c0, c1, hI, hF⟩ := h.below hb
        obtain ⟨q0, q1, q2, q3, q4, fz⟩ := hI.cells
        have nb : ¬ blk A0 d := fun hk => hI.b0.ne hI.row (by decide) d hk rfl
        go_region_law (refine step_append_bts (by rfl) _ _ _ _ (by rfl) i0 Try.underlying70 Try.underlying9 hi0 hz0 hz1 hz2 (by rfl) (hI.b0.kept (fun _ _ => rfl)) s (by rfl) (by omega) ?_; intro A' c' w2 hb2 ho2 hA2; have q1' := (ho2.cell (p := ⟨d, 1, none⟩) hI.lt nb).trans q1; have fz2 : w2.frozen? ⟨d, 1, none⟩ = false := (World.frozen?_of_block (ho2.block d hI.lt nb)).trans (fz 1))
        all_goals go_wp2
        all_goals go_ret
        all_goals (refine ⟨rfl, ?_⟩; subst hF)
        all_goals exact (hI.app0 hf hb2 ⟨ho2.os, ho2.tape, ho2.output, ho2.size, ho2.block⟩ hA2).after hb
      · go_enter Try.func13, Try.ntmps13
        go_wp2_with (first | (go_at_call 32; refine (wrong_no (.inr rfl) _).mono ?_; rintro e w' ⟨rfl, rfl⟩) | (go_at_call 10; refine (free_dsk h).mono ?_; rintro e w1 ⟨rfl, hb⟩))
        obtain ⟨A0, A1, c0, c1, hI, hF⟩ := h.below hb
        obtain ⟨q0, q1, q2, q3, q4, fz⟩ := hI.cells
        have nb : ¬ blk A1 d := fun hk => hI.b1.ne hI.row (by decide) d hk rfl
        go_region_law (refine step_append_bts (by rfl) _ _ _ _ (by rfl) i0 Try.underlying70 Try.underlying9 hi0 hz0 hz1 hz2 (by rfl) (hI.b1.kept (fun _ _ => rfl)) s (by rfl) (by omega) ?_; intro A' c' w2 hb2 ho2 hA2; have q1' := (ho2.cell (p := ⟨d, 3, none⟩) hI.lt nb).trans q3; have fz2 : w2.frozen? ⟨d, 3, none⟩ = false := (World.frozen?_of_block (ho2.block d hI.lt nb)).trans (fz 3))
        all_goals go_wp2
        all_goals go_ret
        all_goals (refine ⟨rfl, ?_⟩; subst hF)
        all_goals exact (hI.app1 hf hb2 ⟨ho2.os, ho2.tape, ho2.output, ho2.size, ho2.block⟩ hA2).after hb
    · have hE : D.appE i s.data.toList = 60 := by unfold Dk.appE; rw [if_pos hr, if_neg (by omega)]
      have hT : D.app i s.data.toList = D := by unfold Dk.app; rw [if_neg (by omega)]
      rw [hE, hT]; clear hE hT hsz
      go_enter Try.func13, Try.ntmps13
      go_wp2_with (first | (go_at_call 32; refine (wrong_no hr _).mono ?_; rintro e w' ⟨rfl, rfl⟩) | (go_at_call 10; refine (free_dsk h).mono ?_; rintro e w1 ⟨rfl, hb⟩))
      go_ret
      exact ⟨rfl, (h.below hb).goes.after hb⟩
  · have hE : D.appE i s.data.toList = 61 := by unfold Dk.appE; rw [if_neg hr]
    have hT : D.app i s.data.toList = D := by unfold Dk.app; rw [if_neg (fun h => hr h.1)]
    rw [hE, hT]; clear hE hT hsz
    go_enter Try.func13, Try.ntmps13
    go_wp2_with (first | (go_at_call 32; refine (wrong_yes hr _).mono ?_; rintro e w' ⟨rfl, rfl⟩))
    go_ret
    exact ⟨rfl, h.goes⟩
end
end Go.Proofs.Ytofocdigbcdfaaa
