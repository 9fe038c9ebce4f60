/- Contracts of roomReads and roomWrites. -/
import Derived.Test.YtofocdigbcdfaaaV10
import Derived.Laws.MakeOwn
namespace Go.Proofs.Ytofocdigbcdfaaa
open Go.RowKit Mem

theorem info84 : (Try.prog.info? 84).map (fun i => (i.zero, i.size, i.bytes)) = some (some (.agg #[.string ⟨#[]⟩, .string ⟨#[]⟩]), 2, 32) := by kernel_rfl
theorem info86 : (Try.prog.info? 86).map (fun i => (i.zero, i.size, i.bytes)) = some (some (.agg #[.string ⟨#[]⟩, .bool false, .string ⟨#[]⟩]), 3, 40) := by kernel_rfl

def spare : ByteArray := { data := #[115, 112, 97, 114, 101] }

/-- The first k spans of l stand at the row's begin. -/
def RdRow (cur : Array Value) (l : List Sp) (k : Nat) : Prop := ∀ j (h : j < l.length), j < k → cur[j * 2]? = some (.string l[j].lo) ∧ cur[j * 2 + 1]? = some (.string l[j].hi)
def WrRow (cur : Array Value) (l : List Wr) (k : Nat) : Prop := ∀ j (h : j < l.length), j < k → cur[j * 3]? = some (.string l[j].key) ∧ cur[j * 3 + 1]? = some (.bool l[j].del) ∧ cur[j * 3 + 2]? = some (.string l[j].val)

theorem rd_step {cur : Array Value} {l : List Sp} {k n : Nat} {lo hi : ByteArray} (h : RdRow cur l k) (hk : k < l.length) (hq : l[k] = ⟨lo, hi⟩) (hz : cur.size = (n + 1) * 2) (hn : k < n) :
    RdRow ((cur.setIfInBounds (k * 2) (.string lo)).setIfInBounds (k * 2 + 1) (.string hi)) l (k + 1) := by
  intro j hj hjk
  rcases Nat.lt_succ_iff_lt_or_eq.1 hjk with h' | h'
  · obtain ⟨a, b⟩ := h j hj h'
    rw [Array.getElem?_setIfInBounds, Array.getElem?_setIfInBounds, if_neg (by omega), Array.getElem?_setIfInBounds, Array.getElem?_setIfInBounds, if_neg (by omega), if_neg (by omega), if_neg (by omega)]
    exact ⟨a, b⟩
  · subst h'
    rw [hq, Array.getElem?_setIfInBounds, if_neg (by omega), Array.getElem?_setIfInBounds, if_pos rfl, if_pos (by omega), Array.getElem?_setIfInBounds, if_pos rfl, if_pos (by simp; omega)]
    exact ⟨rfl, rfl⟩
theorem rd_other {cur : Array Value} {l : List Sp} {n : Nat} {a b : Value} (h : RdRow cur l n) (_hz : cur.size = (n + 1) * 2) :
    RdRow ((cur.setIfInBounds (n * 2) a).setIfInBounds (n * 2 + 1) b) l n := by
  intro j hj h'
  obtain ⟨x, y⟩ := h j hj h'
  rw [Array.getElem?_setIfInBounds, Array.getElem?_setIfInBounds, if_neg (by omega), Array.getElem?_setIfInBounds, Array.getElem?_setIfInBounds, if_neg (by omega), if_neg (by omega), if_neg (by omega)]
  exact ⟨x, y⟩
theorem wr_step {cur : Array Value} {l : List Wr} {k n : Nat} {key val : ByteArray} {del : Bool} (h : WrRow cur l k) (hk : k < l.length) (hq : l[k] = ⟨key, del, val⟩) (hz : cur.size = (n + 1) * 3) (hn : k < n) :
    WrRow (((cur.setIfInBounds (k * 3) (.string key)).setIfInBounds (k * 3 + 1) (.bool del)).setIfInBounds (k * 3 + 2) (.string val)) l (k + 1) := by
  intro j hj hjk
  rcases Nat.lt_succ_iff_lt_or_eq.1 hjk with h' | h'
  · obtain ⟨a, b, c⟩ := h j hj h'
    refine ⟨?_, ?_, ?_⟩ <;> (repeat rw [Array.getElem?_setIfInBounds, if_neg (by omega)]) <;> assumption
  · subst h'
    rw [hq]
    refine ⟨?_, ?_, ?_⟩
    · rw [Array.getElem?_setIfInBounds, if_neg (by omega), Array.getElem?_setIfInBounds, if_neg (by omega), Array.getElem?_setIfInBounds, if_pos rfl, if_pos (by omega)]
    · rw [Array.getElem?_setIfInBounds, if_neg (by omega), Array.getElem?_setIfInBounds, if_pos rfl, if_pos (by simp; omega)]
    · rw [Array.getElem?_setIfInBounds, if_pos rfl, if_pos (by simp; omega)]
theorem wr_other {cur : Array Value} {l : List Wr} {n : Nat} {a b c : Value} (h : WrRow cur l n) (_hz : cur.size = (n + 1) * 3) :
    WrRow (((cur.setIfInBounds (n * 3) a).setIfInBounds (n * 3 + 1) b).setIfInBounds (n * 3 + 2) c) l n := by
  intro j hj h'
  obtain ⟨a, b, c⟩ := h j hj h'
  refine ⟨?_, ?_, ?_⟩ <;> (repeat rw [Array.getElem?_setIfInBounds, if_neg (by omega)]) <;> assumption

/-- A block that holds the spans l and, behind them, the mark; likewise of writes. -/
def RoomR (w : World) (g : Nat) (l : List Sp) : Prop := ∃ cur, w.heap[g]? = some (.cells cur 84 (0, 0)) ∧ cur.size = (l.length + 1) * 2 ∧ RdRow cur l l.length ∧ cur[l.length * 2]? = some (.string spare) ∧ cur[l.length * 2 + 1]? = some (.string ⟨#[]⟩)
def RoomW (w : World) (g : Nat) (l : List Wr) : Prop := ∃ cur, w.heap[g]? = some (.cells cur 86 (0, 0)) ∧ cur.size = (l.length + 1) * 3 ∧ WrRow cur l l.length ∧ cur[l.length * 3]? = some (.string spare) ∧ cur[l.length * 3 + 1]? = some (.bool false) ∧ cur[l.length * 3 + 2]? = some (.string ⟨#[]⟩)

section
variable {w : World} {A : Option Addr} {n c : Nat} {l : List Sp}
set_option maxRecDepth 100000 in
set_option maxHeartbeats 1000000 in
theorem roomReads_any (hs : Spans w A l) (hl : l.length = n) (hn : n ≤ 4398046511103) :
    Calls Try.prog 33 #[.slice A n c] w fun e w' => e = .returned (.slice (some ⟨w.heap.size, 0, none⟩) n (n + 1)) ∧ RoomR w' w.heap.size l ∧ Below w.heap.size w w' := by
  obtain ⟨i0, hi0, hz0, hz1, hz2⟩ := info_parts info84
  have hmk : ∀ w, (Instr.makeSlice 43 (.int .i64 ((n : Int) + 1)) (.int .i64 ((n : Int) + 1))).run Try.prog w = .ok (.slice (some ⟨w.heap.size, 0, none⟩) (n + 1) (n + 1)) (w.alloc (.cells (madeCells #[.string ⟨#[]⟩, .string ⟨#[]⟩] ((n + 1) * 2)) 84)) := by
    intro w
    have hr := run_make (P := Try.prog) w 43 84 i0 _ Try.underlying43 hi0 hz0 .i64 .i64 ((n : Int) + 1) ((n : Int) + 1) (by omega) (by omega) (by rw [hz2]; omega) (by omega)
    rw [hz1] at hr
    simpa [Value.cells] using hr
  have HL := Lib.hid hl
  clear hl hz0 hz1 hz2 hi0
  go_enter Try.func33, Try.ntmps33
  go_wp2_with fail
  go_loopw [4] (fun i wr => ∃ k : Nat, k ≤ n ∧ i = .int .i64 k ∧ (∃ cur, wr.heap[w.heap.size]? = some (.cells cur 84 (0, 0)) ∧ cur.size = (n + 1) * 2 ∧ RdRow cur l k) ∧ Below w.heap.size w wr) (fun i _ => n - (intOf i).toNat)
  case atStart => exact ⟨0, Nat.zero_le _, rfl, ⟨_, heap_alloc_new _ _, by rw [size_madeCells], fun j _ h => absurd h (Nat.not_lt_zero _)⟩, (Below.refl _ _).alloc (Nat.le_refl _) _⟩
  case round =>
    obtain ⟨k, hk, rfl, ⟨cur, hrow, hsz, hrd⟩, hB⟩ := hrel
    have HZ := Lib.hid hsz; have HRD := Lib.hid hrd; clear hsz hrd
    obtain ⟨qc, qf⟩ := cellsAt hrow
    have HROW := Lib.hid hrow; clear hrow
    have hgl : w.heap.size < wr.heap.size := (Array.getElem?_eq_some_iff.1 HROW.out).1
    obtain ⟨v0, hv0⟩ : ∃ v, wr.cell? ⟨w.heap.size, k * 2, none⟩ = some v := ⟨_, (qc _).trans (Array.getElem?_eq_getElem (by rw [HZ.out]; omega))⟩
    have p0 := qf (k * 2)
    obtain ⟨v1, hv1⟩ : ∃ v, wr.cell? ⟨w.heap.size, k * 2 + 1, none⟩ = some v := ⟨_, (qc _).trans (Array.getElem?_eq_getElem (by rw [HZ.out]; omega))⟩
    have p1 := qf (k * 2 + 1)
    clear qc qf
    by_cases hlt : k < n
    · obtain ⟨g, off, rfl, hg, y0, y1⟩ := hs.at_ k (by rw [HL.out]; omega)
      rw [← hB.cell (p := ⟨g, _, none⟩) hg] at y0 y1
      obtain ⟨s, hsq⟩ : ∃ s, l[k]'(by rw [HL.out]; omega) = s := ⟨_, rfl⟩
      rw [hsq] at y0 y1
      have HQ := Lib.hid hsq
      clear hsq
      obtain ⟨lo, hi⟩ := s
      simp only at y0 y1
      go_wp2_with fail
      go_roundw
      case rel => exact ⟨k + 1, by omega, by go_num, ⟨_, row_set (row_set HROW.out), by simp [HZ.out], rd_step HRD.out (by rw [HL.out]; omega) HQ.out HZ.out hlt⟩, ((hB).setCell (Nat.le_refl _) _).setCell (Nat.le_refl _) _⟩
      case measure => simp [intOf]; omega
    · obtain rfl : n = k := by omega
      clear hs
      go_wp2_with fail
      go_ret
      refine ⟨rfl, ⟨_, row_set (row_set HROW.out), by simp [HZ.out, HL.out], ?_, ?_⟩, ((hB).setCell (Nat.le_refl _) _).setCell (Nat.le_refl _) _⟩
      · rw [HL.out]; exact rd_other HRD.out HZ.out
      · rw [HL.out]
        exact ⟨by rw [Array.getElem?_setIfInBounds, if_neg (by omega), Array.getElem?_setIfInBounds, if_pos rfl, if_pos (by rw [HZ.out]; omega)]; rfl, by rw [Array.getElem?_setIfInBounds, if_pos rfl, if_pos (by simp [HZ.out]; omega)]⟩
end

section
variable {w : World} {A : Option Addr} {n c : Nat} {l : List Wr}
set_option maxRecDepth 100000 in
set_option maxHeartbeats 1000000 in
theorem roomWrites_any (hs : Writes w A l) (hl : l.length = n) (hn : n ≤ 4398046511103) :
    Calls Try.prog 34 #[.slice A n c] w fun e w' => e = .returned (.slice (some ⟨w.heap.size, 0, none⟩) n (n + 1)) ∧ RoomW w' w.heap.size l ∧ Below w.heap.size w w' := by
  obtain ⟨i0, hi0, hz0, hz1, hz2⟩ := info_parts info86
  have hmk : ∀ w, (Instr.makeSlice 44 (.int .i64 ((n : Int) + 1)) (.int .i64 ((n : Int) + 1))).run Try.prog w = .ok (.slice (some ⟨w.heap.size, 0, none⟩) (n + 1) (n + 1)) (w.alloc (.cells (madeCells #[.string ⟨#[]⟩, .bool false, .string ⟨#[]⟩] ((n + 1) * 3)) 86)) := by
    intro w
    have hr := run_make (P := Try.prog) w 44 86 i0 _ Try.underlying44 hi0 hz0 .i64 .i64 ((n : Int) + 1) ((n : Int) + 1) (by omega) (by omega) (by rw [hz2]; omega) (by omega)
    rw [hz1] at hr
    simpa [Value.cells] using hr
  have HL := Lib.hid hl
  clear hl hz0 hz1 hz2 hi0
  go_enter Try.func34, Try.ntmps34
  go_wp2_with fail
  go_loopw [4] (fun i wr => ∃ k : Nat, k ≤ n ∧ i = .int .i64 k ∧ (∃ cur, wr.heap[w.heap.size]? = some (.cells cur 86 (0, 0)) ∧ cur.size = (n + 1) * 3 ∧ WrRow cur l k) ∧ Below w.heap.size w wr) (fun i _ => n - (intOf i).toNat)
  case atStart => exact ⟨0, Nat.zero_le _, rfl, ⟨_, heap_alloc_new _ _, by rw [size_madeCells], fun j _ h => absurd h (Nat.not_lt_zero _)⟩, (Below.refl _ _).alloc (Nat.le_refl _) _⟩
  case round =>
    obtain ⟨k, hk, rfl, ⟨cur, hrow, hsz, hrd⟩, hB⟩ := hrel
    have HZ := Lib.hid hsz; have HRD := Lib.hid hrd; clear hsz hrd
    obtain ⟨qc, qf⟩ := cellsAt hrow
    have HROW := Lib.hid hrow; clear hrow
    have hgl : w.heap.size < wr.heap.size := (Array.getElem?_eq_some_iff.1 HROW.out).1
    obtain ⟨v0, hv0⟩ : ∃ v, wr.cell? ⟨w.heap.size, k * 3, none⟩ = some v := ⟨_, (qc _).trans (Array.getElem?_eq_getElem (by rw [HZ.out]; omega))⟩
    have p0 := qf (k * 3)
    obtain ⟨v1, hv1⟩ : ∃ v, wr.cell? ⟨w.heap.size, k * 3 + 1, none⟩ = some v := ⟨_, (qc _).trans (Array.getElem?_eq_getElem (by rw [HZ.out]; omega))⟩
    have p1 := qf (k * 3 + 1)
    obtain ⟨v2, hv2⟩ : ∃ v, wr.cell? ⟨w.heap.size, k * 3 + 2, none⟩ = some v := ⟨_, (qc _).trans (Array.getElem?_eq_getElem (by rw [HZ.out]; omega))⟩
    have p2 := qf (k * 3 + 2)
    clear qc qf
    by_cases hlt : k < n
    · obtain ⟨g, off, rfl, hg, y0, y1, y2⟩ := hs.at_ k (by rw [HL.out]; omega)
      rw [← hB.cell (p := ⟨g, _, none⟩) hg] at y0 y1 y2
      obtain ⟨s, hsq⟩ : ∃ s, l[k]'(by rw [HL.out]; omega) = s := ⟨_, rfl⟩
      rw [hsq] at y0 y1 y2
      have HQ := Lib.hid hsq
      clear hsq
      obtain ⟨key, del, val⟩ := s
      simp only at y0 y1 y2
      go_wp2_with fail
      go_roundw
      case rel => exact ⟨k + 1, by omega, by go_num, ⟨_, row_set (row_set (row_set HROW.out)), by simp [HZ.out], wr_step HRD.out (by rw [HL.out]; omega) HQ.out HZ.out hlt⟩, (((hB).setCell (Nat.le_refl _) _).setCell (Nat.le_refl _) _).setCell (Nat.le_refl _) _⟩
      case measure => simp [intOf]; omega
    · obtain rfl : n = k := by omega
      clear hs
      go_wp2_with fail
      go_ret
      refine ⟨rfl, ⟨_, row_set (row_set (row_set HROW.out)), by simp [HZ.out, HL.out], ?_, ?_⟩, (((hB).setCell (Nat.le_refl _) _).setCell (Nat.le_refl _) _).setCell (Nat.le_refl _) _⟩
      · rw [HL.out]; exact wr_other HRD.out HZ.out
      · rw [HL.out]
        exact ⟨by rw [Array.getElem?_setIfInBounds, if_neg (by omega), Array.getElem?_setIfInBounds, if_neg (by omega), Array.getElem?_setIfInBounds, if_pos rfl, if_pos (by rw [HZ.out]; omega)]; rfl, by rw [Array.getElem?_setIfInBounds, if_neg (by omega), Array.getElem?_setIfInBounds, if_pos rfl, if_pos (by simp [HZ.out]; omega)], by rw [Array.getElem?_setIfInBounds, if_pos rfl, if_pos (by simp [HZ.out]; omega)]⟩
end

end Go.Proofs.Ytofocdigbcdfaaa
