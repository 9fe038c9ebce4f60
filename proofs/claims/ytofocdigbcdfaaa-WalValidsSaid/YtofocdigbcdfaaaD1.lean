/- Contracts of disk.New, wrong, Used and Free. -/
import Derived.Test.YtofocdigbcdfaaaProg
import Derived.Test.YtofocdigbcdfaaaMem
import Derived.Test.YtofocdigbcdfaaaDisk
import Derived.WalkKit
import Derived.WalkLawsBesides
import Derived.Outline
import Derived.Deep.QuietTactic
import Derived.BigQuiet
import Derived.Deep.RegionHeld3
import Derived.Lib.Hide
namespace Go.Proofs.Ytofocdigbcdfaaa
open Go.RowKit Mem Disk

def wrongB (i : Int) : Bool := decide (i < 0 ∨ 2 ≤ i)

set_option maxHeartbeats 400000 in
theorem wrong_any (i : Int) (w : World) : Calls Try.prog 32 #[.int .i64 i] w fun e w' => e = .returned (.bool (wrongB i)) ∧ w = w' := by
  by_cases h0 : i < 0
  · have hd : wrongB i = true := by simp [wrongB, h0]
    rw [hd]; clear hd
    go_enter Try.func32, Try.ntmps32
    go_wp2
    go_ret
    exact ⟨rfl, rfl⟩
  · by_cases h1 : 2 ≤ i
    · have hd : wrongB i = true := by simp [wrongB, h1]
      rw [hd]; clear hd
      go_enter Try.func32, Try.ntmps32
      go_wp2
      go_ret
      exact ⟨rfl, rfl⟩
    · have hd : wrongB i = false := by simp [wrongB]; omega
      rw [hd]; clear hd
      go_enter Try.func32, Try.ntmps32
      go_wp2
      go_ret
      exact ⟨rfl, rfl⟩

set_option maxHeartbeats 400000 in
theorem new_any (c : Int) (w : World) : Calls Try.prog 9 #[.int .i64 c] w fun e w' => e = .returned (.pointer (some ⟨w.heap.size, 0, none⟩)) ∧ w.alloc (.cells #[.int .i64 (roomOf c), .slice none 0 0, .int .i64 0, .slice none 0 0, .int .i64 0] 75) = w' := by
  go_enter Try.func9, Try.ntmps9
  go_wp2
  all_goals
    go_ret
    refine ⟨rfl, ?_⟩
    first
      | rw [show ((roomOf c : Nat) : Int) = 1048576 from by unfold roomOf; omega]
      | rw [show ((roomOf c : Nat) : Int) = c from by unfold roomOf; omega]
      | rw [show ((roomOf c : Nat) : Int) = 0 from by unfold roomOf; omega]

theorem ret_int {k : IntKind} {a b : Int} (h : a = b) : Ending.returned (.int k a) = .returned (.int k b) := by rw [h]

/-- A disk's five cells. -/
def dkRow (D : Dk) (A0 A1 : Option Addr) (c0 c1 : Nat) : Array Value :=
  #[.int .i64 D.room, .slice A0 D.a.b.length c0, .int .i64 D.a.s, .slice A1 D.b.b.length c1, .int .i64 D.b.s]

/-- The disk D stands in block d (the two addresses and capacities given). -/
structure DkIn (w : World) (d : Nat) (D : Dk) (A0 A1 : Option Addr) (c0 c1 : Nat) : Prop where
  ok : D.ok
  row : w.heap[d]? = some (.cells (dkRow D A0 A1 c0 c1) 75 (0, 0))
  b0 : Bts 5 w A0 D.a.b.length c0 D.a.b
  b1 : Bts 5 w A1 D.b.b.length c1 D.b.b
  apart : ∀ k, blk A0 k → ¬ blk A1 k

section
variable {w w' : World} {d : Nat} {D : Dk} {A0 A1 : Option Addr} {c0 c1 : Nat}

theorem cellsAt {w : World} {d : Nat} {cs : Array Value} {T : TypeId} (h : w.heap[d]? = some (.cells cs T (0, 0))) :
    (∀ i, w.cell? ⟨d, i, none⟩ = cs[i]?) ∧ ∀ i, w.frozen? ⟨d, i, none⟩ = false :=
  ⟨fun i => cell_of_row w d i cs T (0, 0) h, fun i => by simp [World.frozen?, h]⟩

theorem DkIn.cells (h : DkIn w d D A0 A1 c0 c1) :
    w.cell? ⟨d, 0, none⟩ = some (.int .i64 D.room) ∧ w.cell? ⟨d, 1, none⟩ = some (.slice A0 D.a.b.length c0) ∧ w.cell? ⟨d, 2, none⟩ = some (.int .i64 D.a.s) ∧
    w.cell? ⟨d, 3, none⟩ = some (.slice A1 D.b.b.length c1) ∧ w.cell? ⟨d, 4, none⟩ = some (.int .i64 D.b.s) ∧
    (∀ i, w.frozen? ⟨d, i, none⟩ = false) := by
  have hc := (cellsAt h.row).1
  exact ⟨hc 0, hc 1, hc 2, hc 3, hc 4, (cellsAt h.row).2⟩

end

section
variable {w w' : World} {d : Nat} {D : Dk} {A0 A1 : Option Addr} {c0 c1 : Nat}
set_option maxHeartbeats 400000 in
theorem used_any {w : World} {d : Nat} {D : Dk} {A0 A1 : Option Addr} {c0 c1 : Nat} (h : DkIn w d D A0 A1 c0 c1) :
    Calls Try.prog 14 #[.pointer (some ⟨d, 0, none⟩)] w fun e w' => e = .returned (.int .i64 D.used) ∧ Below w.heap.size w w' := by
  obtain ⟨q0, q1, q2, q3, q4, fz⟩ := h.cells
  have h1 := h.ok.fit; have h2 := h.ok.top
  generalize hn0 : D.a.b.length = n0 at *
  generalize hn1 : D.b.b.length = n1 at *
  have i0 : ∀ w, (Instr.index 73 (.agg #[Value.slice A0 n0 c0, Value.int IntKind.i64 ↑D.a.s, Value.slice A1 n1 c1, Value.int IntKind.i64 ↑D.b.s]) (.int .i64 0)).run Try.prog w = .ok (.agg #[Value.slice A0 n0 c0, Value.int IntKind.i64 ↑D.a.s]) w := fun _ => by kernel_rfl
  have i1 : ∀ w, (Instr.index 73 (.agg #[Value.slice A0 n0 c0, Value.int IntKind.i64 ↑D.a.s, Value.slice A1 n1 c1, Value.int IntKind.i64 ↑D.b.s]) (.int .i64 1)).run Try.prog w = .ok (.agg #[Value.slice A1 n1 c1, Value.int IntKind.i64 ↑D.b.s]) w := fun _ => by kernel_rfl
  go_enter Try.func14, Try.ntmps14
  go_wp2
  refine wp_loop_rounds 3 ?_
  rw [rounds_succ]
  go_wp2
  rw [rounds_succ]
  go_wp2
  rw [rounds_succ]
  go_wp2
  go_ret
  refine ⟨ret_int ?_, ((Below.refl _ _).alloc (Nat.le_refl _) _).alloc (by simp) _⟩
  show (n0 : Int) + n1 = D.used
  simp only [Dk.used, hn0, hn1]; omega

theorem DkIn.drew (h : DkIn w d D A0 A1 c0 c1) : DkIn w.drew d D A0 A1 c0 c1 := ⟨h.ok, h.row, h.b0.kept fun _ _ => rfl, h.b1.kept fun _ _ => rfl, h.apart⟩
theorem DkIn.drewN (h : DkIn w d D A0 A1 c0 c1) (n : Nat) : DkIn (w.drewN n) d D A0 A1 c0 c1 := ⟨h.ok, h.row, h.b0.kept fun _ _ => rfl, h.b1.kept fun _ _ => rfl, h.apart⟩
theorem DkIn.lt (h : DkIn w d D A0 A1 c0 c1) : d < w.heap.size := (Array.getElem?_eq_some_iff.1 h.row).1
theorem DkIn.kept (h : DkIn w d D A0 A1 c0 c1) (hd : w'.heap[d]? = w.heap[d]?) (h0 : ∀ k, blk A0 k → w'.heap[k]? = w.heap[k]?) (h1 : ∀ k, blk A1 k → w'.heap[k]? = w.heap[k]?) : DkIn w' d D A0 A1 c0 c1 :=
  ⟨h.ok, hd.trans h.row, h.b0.kept h0, h.b1.kept h1, h.apart⟩
theorem DkIn.below (h : DkIn w d D A0 A1 c0 c1) (hb : Below w.heap.size w w') : DkIn w' d D A0 A1 c0 c1 :=
  h.kept (hb.block _ h.lt) (fun k hk => hb.block k (h.b0.lt k hk)) (fun k hk => hb.block k (h.b1.lt k hk))

theorem below_of_drew {w w' : World} (h : Below w.drew.heap.size w.drew w') : Below w.heap.size w w' := ⟨h.os, h.tape, h.output, h.size, h.block⟩

set_option maxHeartbeats 400000 in
theorem free_any (h : DkIn w d D A0 A1 c0 c1) :
    Calls Try.prog 10 #[.pointer (some ⟨d, 0, none⟩)] w fun e w' => e = .returned (.int .i64 D.free) ∧ Below w.heap.size w w' := by
  obtain ⟨q0, -, -, -, -, -⟩ := h.cells
  have h1 := h.ok.fit; have h2 := h.ok.top
  have hd := h.lt
  have hu : (D.free : Int) = D.room - D.used := by unfold Dk.free Dk.used; omega
  have hu2 : D.used ≤ D.room := h1
  have HU := Lib.hid hu; clear hu h1
  go_enter Try.func10, Try.ntmps10
  go_wp2_with fail
  go_region_held3 (fun w' => w'.cell? ⟨d, 0, none⟩ = some (.int .i64 D.room)) (go_keep)
    (first | (go_at_call 14; refine (used_any h.drew).mono ?_; rintro e w' ⟨rfl, hb⟩; have qq := ((below_of_drew hb).cell (p := ⟨d, 0, none⟩) hd).trans q0))
  go_wp2
  go_ret
  exact ⟨ret_int (by rw [HU.out]; exact IntWalk.i64_in _ (by omega)), below_of_drew hb⟩
end
end Go.Proofs.Ytofocdigbcdfaaa
