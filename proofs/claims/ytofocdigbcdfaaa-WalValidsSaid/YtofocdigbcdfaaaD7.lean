/- Contract of the statements' own act. -/
import Derived.Test.YtofocdigbcdfaaaD6
namespace Go.Proofs.Ytofocdigbcdfaaa
open Go.RowKit Mem Disk
section
variable {w w' : World} {d : Nat} {D : Dk} {F : Nat → Prop}

/-- A step as a value. -/
def stV (st : St) : Value := .agg #[.int .i64 st.kind, .int .i64 st.on, .int .i64 st.slot, .int .i64 st.n, .int .i64 st.m, .string st.s]

set_option maxRecDepth 100000 in
set_option maxHeartbeats 1000000 in
theorem act_any (h : Dsk w d D F) (kind on slot n m : Int) (s : ByteArray) :
    Calls Try.prog 11 #[.pointer (some ⟨d, 0, none⟩), .agg #[.int .i64 kind, .int .i64 on, .int .i64 slot, .int .i64 n, .int .i64 m, .string s]] w fun e w' => e = .returned (.tuple #[]) ∧ Goes w d F (D.act ⟨kind, on, slot, n, m, s⟩) w' := by
  have hB : ∀ o, Below w.heap.size w (w.alloc o) := fun o => (Below.refl _ _).alloc (Nat.le_refl _) o
  have hA : ∀ o, Dsk (w.alloc o) d D F := fun o => h.below (hB o)
  have hG : ∀ o, Goes (w.alloc o) d F D (w.alloc o) := fun o => (hA o).goes
  by_cases h2 : kind = 2
  · subst h2
    have hD : D.act ⟨2, on, slot, n, m, s⟩ = D.app slot s.data.toList := by simp [Dk.act]
    rw [hD]; clear hD
    go_enter Try.func11, Try.ntmps11
    go_wp2_with (first | (go_at_call 13; refine (append_any (hA _) slot s).mono ?_; rintro e w' ⟨rfl, hg⟩))
    go_end0
    exact ⟨rfl, hg.after (hB _)⟩
  by_cases h3 : kind = 3
  · subst h3
    have hD : D.act ⟨3, on, slot, n, m, s⟩ = D.sync := by simp [Dk.act]
    rw [hD]; clear hD
    go_enter Try.func11, Try.ntmps11
    go_wp2_with (first | (go_at_call 20; refine (sync_any (hA _)).mono ?_; rintro e w' ⟨rfl, hg⟩))
    go_end0
    exact ⟨rfl, hg.after (hB _)⟩
  by_cases h6 : kind = 6
  · subst h6
    have hD : D.act ⟨6, on, slot, n, m, s⟩ = D.trunc slot n := by simp [Dk.act]
    rw [hD]; clear hD
    go_enter Try.func11, Try.ntmps11
    go_wp2_with (first | (go_at_call 30; refine (trunc_any (hA _) slot n).mono ?_; rintro e w' ⟨rfl, hg⟩))
    go_end0
    exact ⟨rfl, hg.after (hB _)⟩
  by_cases h7 : kind = 7
  · subst h7
    have hD : D.act ⟨7, on, slot, n, m, s⟩ = D.trunc slot 0 := by simp [Dk.act]
    rw [hD]; clear hD
    go_enter Try.func11, Try.ntmps11
    go_wp2_with (first | (go_at_call 31; refine (remove_any (hA _) slot).mono ?_; rintro e w' ⟨rfl, hg⟩))
    go_end0
    exact ⟨rfl, hg.after (hB _)⟩
  by_cases h10 : kind = 10
  · subst h10
    have hD : D.act ⟨10, on, slot, n, m, s⟩ = D.crash n m := by simp [Dk.act]
    rw [hD]; clear hD
    go_enter Try.func11, Try.ntmps11
    go_wp2_with (first | (go_at_call 24; refine (crash_any (hA _) n m).mono ?_; rintro e w' ⟨rfl, hg⟩))
    go_end0
    exact ⟨rfl, hg.after (hB _)⟩
  · have hD : D.act ⟨kind, on, slot, n, m, s⟩ = D := by simp [Dk.act, h2, h3, h6, h7, h10]
    rw [hD]; clear hD
    go_enter Try.func11, Try.ntmps11
    go_wp2_with fail
    go_end0
    exact ⟨rfl, (hG _).after (hB _)⟩
end
end Go.Proofs.Ytofocdigbcdfaaa
