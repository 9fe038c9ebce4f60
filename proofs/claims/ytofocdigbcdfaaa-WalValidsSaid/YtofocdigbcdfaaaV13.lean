/- Contracts of left and over. -/
import Derived.Test.YtofocdigbcdfaaaV12
namespace Go.Proofs.Ytofocdigbcdfaaa
open Go.RowKit Mem

/-- A block whose first cells are the spans l; likewise of writes. -/
def OwnR (w : World) (g : Nat) (l : List Sp) : Prop := ∃ cur, w.heap[g]? = some (.cells cur 84 (0, 0)) ∧ RdRow cur l l.length
def OwnW (w : World) (g : Nat) (l : List Wr) : Prop := ∃ cur, w.heap[g]? = some (.cells cur 86 (0, 0)) ∧ WrRow cur l l.length

section
variable {w w' : World} {g : Nat} {l : List Sp} {m : List Wr}
theorem RoomR.own (h : RoomR w g l) : OwnR w g l := by obtain ⟨cur, h1, _, h2, _⟩ := h; exact ⟨cur, h1, h2⟩
theorem RoomW.own (h : RoomW w g m) : OwnW w g m := by obtain ⟨cur, h1, _, h2, _⟩ := h; exact ⟨cur, h1, h2⟩
theorem OwnR.block (h : OwnR w g l) (hb : w'.heap[g]? = w.heap[g]?) : OwnR w' g l := by
  obtain ⟨cur, h1, h2⟩ := h; exact ⟨cur, hb.trans h1, h2⟩
theorem OwnW.block (h : OwnW w g m) (hb : w'.heap[g]? = w.heap[g]?) : OwnW w' g m := by
  obtain ⟨cur, h1, h2⟩ := h; exact ⟨cur, hb.trans h1, h2⟩
theorem OwnR.lt (h : OwnR w g l) : g < w.heap.size := by obtain ⟨cur, h1, _⟩ := h; exact (Array.getElem?_eq_some_iff.1 h1).1
theorem OwnW.lt (h : OwnW w g m) : g < w.heap.size := by obtain ⟨cur, h1, _⟩ := h; exact (Array.getElem?_eq_some_iff.1 h1).1
theorem OwnR.ne {g' : Nat} (h : OwnR w g l) (h' : OwnW w g' m) : g ≠ g' := by
  rintro rfl
  obtain ⟨cur, h1, _⟩ := h; obtain ⟨cur', h2, _⟩ := h'
  rw [h1] at h2; injection h2 with h2; injection h2 with _ h2; exact absurd h2 (by decide)
theorem OwnR.spans (h : OwnR w g l) : Spans w (some ⟨g, 0, none⟩) l := by
  obtain ⟨cur, h1, h2⟩ := h
  refine ⟨fun k hk => ⟨g, 0, rfl, (Array.getElem?_eq_some_iff.1 h1).1, ?_⟩⟩
  rw [Nat.zero_add, (cellsAt h1).1, (cellsAt h1).1]
  exact h2 k hk hk
theorem OwnW.writes (h : OwnW w g m) : Writes w (some ⟨g, 0, none⟩) m := by
  obtain ⟨cur, h1, h2⟩ := h
  refine ⟨fun k hk => ⟨g, 0, rfl, (Array.getElem?_eq_some_iff.1 h1).1, ?_⟩⟩
  rw [Nat.zero_add, (cellsAt h1).1, (cellsAt h1).1, (cellsAt h1).1]
  exact h2 k hk hk
theorem OwnR.frozen (h : OwnR w g l) (i : Nat) : w.frozen? ⟨g, i, none⟩ = false := by obtain ⟨cur, h1, _⟩ := h; exact (cellsAt h1).2 i
theorem OwnW.frozen (h : OwnW w g m) (i : Nat) : w.frozen? ⟨g, i, none⟩ = false := by obtain ⟨cur, h1, _⟩ := h; exact (cellsAt h1).2 i
theorem OwnW.at_ (h : OwnW w g m) (k : Nat) (hk : k < m.length) : w.cell? ⟨g, k * 3, none⟩ = some (.string m[k].key) ∧ w.cell? ⟨g, k * 3 + 1, none⟩ = some (.bool m[k].del) ∧ w.cell? ⟨g, k * 3 + 2, none⟩ = some (.string m[k].val) := by
  obtain ⟨cur, h1, h2⟩ := h
  rw [(cellsAt h1).1, (cellsAt h1).1, (cellsAt h1).1]; exact h2 k hk hk
theorem OwnR.at_ (h : OwnR w g l) (k : Nat) (hk : k < l.length) : w.cell? ⟨g, k * 2, none⟩ = some (.string l[k].lo) ∧ w.cell? ⟨g, k * 2 + 1, none⟩ = some (.string l[k].hi) := by
  obtain ⟨cur, h1, h2⟩ := h
  rw [(cellsAt h1).1, (cellsAt h1).1]; exact h2 k hk hk
theorem set_in {cur : Array Value} {i j : Nat} {v x : Value} (h : cur[i]? = some x) : (cur.setIfInBounds j v)[i]? = some (if j = i then v else x) := by
  rw [Array.getElem?_setIfInBounds]
  by_cases e : j = i
  · subst e
    have := (Array.getElem?_eq_some_iff.1 h).1
    simp [this]
  · simp [e, h]
theorem OwnW.val (h : OwnW w g m) (k : Nat) (hk : k < m.length) (v : ByteArray) : OwnW (w.setCell ⟨g, k * 3 + 2, none⟩ (.string v)) g (m.set k ⟨m[k].key, m[k].del, v⟩) := by
  obtain ⟨cur, h1, h2⟩ := h
  refine ⟨_, row_set h1, fun j hj hjk => ?_⟩
  rw [List.length_set] at hj
  obtain ⟨a, b, c⟩ := h2 j hj hj
  have f1 : ¬ k * 3 + 2 = j * 3 := by omega
  have f2 : ¬ k * 3 + 2 = j * 3 + 1 := by omega
  have f3 : (k * 3 + 2 = j * 3 + 2) ↔ k = j := by omega
  rw [set_in a, set_in b, set_in c, if_neg f1, if_neg f2]
  by_cases e : k = j
  · rw [if_pos (f3.2 e)]; subst e; simp
  · rw [if_neg (fun h => e (f3.1 h))]; simp [e]
theorem OwnW.key (h : OwnW w g m) (k : Nat) (hk : k < m.length) (v : ByteArray) : OwnW (w.setCell ⟨g, k * 3, none⟩ (.string v)) g (m.set k ⟨v, m[k].del, m[k].val⟩) := by
  obtain ⟨cur, h1, h2⟩ := h
  refine ⟨_, row_set h1, fun j hj hjk => ?_⟩
  rw [List.length_set] at hj
  obtain ⟨a, b, c⟩ := h2 j hj hj
  have f1 : ¬ k * 3 = j * 3 + 1 := by omega
  have f2 : ¬ k * 3 = j * 3 + 2 := by omega
  have f3 : (k * 3 = j * 3) ↔ k = j := by omega
  rw [set_in a, set_in b, set_in c, if_neg f1, if_neg f2]
  by_cases e : k = j
  · rw [if_pos (f3.2 e)]; subst e; simp
  · rw [if_neg (fun h => e (f3.1 h))]; simp [e]
theorem OwnR.put (h : OwnR w g l) (k : Nat) (_hk : k < l.length) (x y : ByteArray) : OwnR ((w.setCell ⟨g, k * 2, none⟩ (.string x)).setCell ⟨g, k * 2 + 1, none⟩ (.string y)) g (l.set k ⟨x, y⟩) := by
  obtain ⟨cur, h1, h2⟩ := h
  refine ⟨_, row_set (row_set h1), fun j hj hjk => ?_⟩
  rw [List.length_set] at hj
  obtain ⟨a, b⟩ := h2 j hj hj
  have f1 : ¬ k * 2 = j * 2 + 1 := by omega
  have f2 : ¬ k * 2 + 1 = j * 2 := by omega
  have f3 : (k * 2 = j * 2) ↔ k = j := by omega
  have f4 : (k * 2 + 1 = j * 2 + 1) ↔ k = j := by omega
  rw [set_in (set_in a), set_in (set_in b), if_neg f1, if_neg f2]
  by_cases e : k = j
  · rw [if_pos (f3.2 e), if_pos (f4.2 e)]; subst e; simp
  · rw [if_neg (fun h => e (f3.1 h)), if_neg (fun h => e (f4.1 h))]; simp [e]
end

section
variable {w : World} {A B : Option Addr} {n m c e g1 g2 : Nat} {ls : List Sp} {lw : List Wr}

set_option maxRecDepth 100000 in
set_option maxHeartbeats 1000000 in
/-- A copy is left as it was made. -/
theorem left_any (r : Rc) (hs : Spans w A ls) (ht : Writes w B lw) (h1 : RoomR w g1 ls) (h2 : RoomW w g2 lw) (hn : ls.length = n) (hm : lw.length = m) (hn1 : n ≤ 4398046511103) (hm1 : m ≤ 4398046511103) :
    Calls Try.prog 18 #[.agg (r.cells (some ⟨g1, 0, none⟩) (some ⟨g2, 0, none⟩) n m (n + 1) (m + 1)), .agg (r.cells A B n m c e)] w fun y w' => y = .returned (.bool true) ∧ Below w.heap.size w w' := by
  have hw2 : ∀ o o', Below w.heap.size w ((w.alloc o).alloc o') := fun o o' => ((Below.refl _ _).alloc (Nat.le_refl _) o).alloc (by simp) o'
  have hC := fun o o' => same_any (w := (w.alloc o).alloc o') (c := n + 1) (e := m + 1) (c' := c) (e' := e) r r (h1.own.spans.below (hw2 o o')) (h2.own.writes.below (hw2 o o')) (hs.below (hw2 o o')) (ht.below (hw2 o o')) hn hm hn hm (by omega) (by omega) (by omega) (by omega) true ⟨fun _ => ⟨by simp [Rc.same], rfl, rfl⟩, fun _ => rfl⟩
  have HC := Lib.hid hC
  have l1 := h1.lt; have l2 := h2.lt
  obtain ⟨cur1, q1, -, -, q3, q4⟩ := h1
  obtain ⟨cur2, p1, -, -, p3, p4, p5⟩ := h2
  rw [hn, ← (cellsAt q1).1] at q3 q4
  rw [hm, ← (cellsAt p1).1] at p3 p4 p5
  have HK : Hid (∀ w', Below w.heap.size w w' → w'.cell? ⟨g1, n * 2, none⟩ = some (.string spare) ∧ w'.cell? ⟨g1, n * 2 + 1, none⟩ = some (.string ⟨#[]⟩) ∧ w'.cell? ⟨g2, m * 3, none⟩ = some (.string spare) ∧ w'.cell? ⟨g2, m * 3 + 1, none⟩ = some (.bool false) ∧ w'.cell? ⟨g2, m * 3 + 2, none⟩ = some (.string ⟨#[]⟩)) := Lib.hid fun w' hb =>
    ⟨(hb.cell (p := ⟨g1, _, none⟩) l1).trans q3, (hb.cell (p := ⟨g1, _, none⟩) l1).trans q4, (hb.cell (p := ⟨g2, _, none⟩) l2).trans p3, (hb.cell (p := ⟨g2, _, none⟩) l2).trans p4, (hb.cell (p := ⟨g2, _, none⟩) l2).trans p5⟩
  clear hC hs ht q1 q3 q4 p1 p3 p4 p5 hn hm
  obtain ⟨kind, wall, client, seq, home, outcome, aw, al, an, image⟩ := r
  unfold Rc.cells at *
  go_enter Try.func18, Try.ntmps18
  go_wp2_with (first | (go_at_call 38; refine (HC.out _ _).mono ?_; rintro y w3 ⟨rfl, hb3⟩; have hbw3 := (hw2 _ _).trans (hb3.mono (by simp; omega)); obtain ⟨k0, k1, k2, k3, k4⟩ := HK.out _ hbw3; unfold spare at k0 k2; have hr := (hb3.block (w.heap.size + 1) (by simp)).trans (two_last w _ _); obtain ⟨qc, -⟩ := cellsAt hr; have z9 := qc 9; have z10 := qc 10; clear qc))
  go_ret
  exact ⟨rfl, hbw3⟩

def OverOf (g1 g2 n m : Nat) (w : World) (y : Ending) (w' : World) : Prop :=
  y = .returned (.tuple #[]) ∧ ∃ ls' lw', ls'.length = n ∧ lw'.length = m ∧ OwnR w' g1 ls' ∧ OwnW w' g2 lw' ∧ Only (fun k => k = g1 ∨ k = g2) w w'

set_option maxRecDepth 100000 in
set_option maxHeartbeats 1000000 in
theorem over_any (r : Rc) (h1 : OwnR w g1 ls) (h2 : OwnW w g2 lw) (hn : ls.length = n) (hm : lw.length = m) (hn1 : n ≤ 4398046511103) (hm1 : m ≤ 4398046511103) :
    Calls Try.prog 19 #[.agg (r.cells (some ⟨g1, 0, none⟩) (some ⟨g2, 0, none⟩) n m c e)] w fun y w' => OverOf g1 g2 n m w y w' := by
  obtain ⟨kind, wall, client, seq, home, outcome, aw, al, an, image⟩ := r
  unfold Rc.cells
  go_enter Try.func19, Try.ntmps19
  have l1 := h1.lt; have l2 := h2.lt
  have hne : g1 ≠ g2 := h1.ne h2
  have HN := Lib.hid hn; have HM := Lib.hid hm; have HNE := Lib.hid hne
  clear hn hm hne
  go_wp2_with fail
  go_loopw [2] (fun i wr => ∃ k : Nat, k ≤ m ∧ i = .int .i64 k ∧ wr.heap[w.heap.size]? = some (.cells #[.int .i64 kind, .int .u64 wall, .int .u32 client, .int .u32 seq, .int .u32 home, .int .i64 outcome, .int .u64 aw, .int .u32 al, .int .u32 an, .slice (some ⟨g1, 0, none⟩) n c, .slice (some ⟨g2, 0, none⟩) m e, .string image] 46 (0, 0)) ∧ OwnR wr g1 ls ∧ (∃ lw', lw'.length = m ∧ OwnW wr g2 lw') ∧ Only (fun k => k = g1 ∨ k = g2) w wr) (fun i _ => m - (intOf i).toNat)
  case atStart => exact ⟨0, Nat.zero_le _, rfl, heap_alloc_new _ _, h1.block (Below.heap_alloc _ _ _ l1), ⟨lw, HM.out, h2.block (Below.heap_alloc _ _ _ l2)⟩, (Only.refl _ _).alloc _⟩
  case round =>
    obtain ⟨k, hk, rfl, hrow, hR, ⟨lw', hlen, hW⟩, hO⟩ := hrel
    have HL := Lib.hid hlen; clear hlen
    obtain ⟨qc, -⟩ := cellsAt hrow
    have z10 := qc 10; have z9 := qc 9
    clear qc
    have HROW := Lib.hid hrow; clear hrow
    by_cases hlt : k < m
    · obtain ⟨y0, y1, y2⟩ := hW.at_ k (by rw [HL.out]; exact hlt)
      obtain ⟨x0, x1, x2⟩ := hW.at_ 0 (by rw [HL.out]; omega)
      rw [Nat.zero_mul] at x0
      have f0 := hW.frozen (k * 3); have f2 := hW.frozen (k * 3 + 2)
      clear x1 x2
      by_cases hk1 : k = 1
      · have hk2 : ((k : Int) == 1) = true := beq_iff_eq.2 (by omega)
        have HK := Lib.hid hk1; clear hk1
        go_wp2_with fail
        go_region
        go_wp2_with fail
        go_roundw
        case rel => exact ⟨k + 1, by omega, by go_num, ((other (by simp; omega)).trans (other (by simp; omega))).trans HROW.out, hR.block ((other HNE.out).trans (other HNE.out)), ⟨_, by rw [List.length_set, List.length_set]; exact HL.out, ((hW.val k (by rw [HL.out]; exact hlt) _).key k (by rw [List.length_set, HL.out]; exact hlt) _).block rfl⟩, ((hO.setCell (fun _ => .inr rfl) _).setCell (fun _ => .inr rfl) _).drew⟩
        case measure => simp [intOf]; omega
      · have hk2 : ((k : Int) == 1) = false := beq_eq_false_iff_ne.2 (by omega)
        have HK := Lib.hid hk1; clear hk1
        go_wp2_with fail
        go_roundw
        case rel => exact ⟨k + 1, by omega, by go_num, (other (by simp; omega)).trans HROW.out, hR.block (other HNE.out), ⟨_, by rw [List.length_set]; exact HL.out, hW.val k (by rw [HL.out]; exact hlt) _⟩, hO.setCell (fun _ => .inr rfl) _⟩
        case measure => simp [intOf]; omega
    · obtain rfl : m = k := by omega
      go_wp2_with fail
      go_loopw [3] (fun i wx => ∃ j : Nat, j ≤ n ∧ i = .int .i64 j ∧ wx.heap[w.heap.size]? = some (.cells #[.int .i64 kind, .int .u64 wall, .int .u32 client, .int .u32 seq, .int .u32 home, .int .i64 outcome, .int .u64 aw, .int .u32 al, .int .u32 an, .slice (some ⟨g1, 0, none⟩) n c, .slice (some ⟨g2, 0, none⟩) m e, .string image] 46 (0, 0)) ∧ OwnW wx g2 lw' ∧ (∃ ls', ls'.length = n ∧ OwnR wx g1 ls') ∧ Only (fun k => k = g1 ∨ k = g2) w wx) (fun i _ => n - (intOf i).toNat)
      case atStart => exact ⟨0, Nat.zero_le _, rfl, HROW.out, hW, ⟨ls, HN.out, hR⟩, hO⟩
      case round =>
        obtain ⟨j, hj, rfl, hrow, hW, ⟨ls', hlen, hR⟩, hO⟩ := hrel
        have HL' := Lib.hid hlen; clear hlen
        obtain ⟨qc, -⟩ := cellsAt hrow
        have z9 := qc 9
        clear qc HROW
        have HROW := Lib.hid hrow; clear hrow
        by_cases hlt : j < n
        · obtain ⟨y0, y1⟩ := hR.at_ j (by rw [HL'.out]; exact hlt)
          have f0 := hR.frozen (j * 2); have f2 := hR.frozen (j * 2 + 1)
          go_wp2_with fail
          go_roundw
          case rel => exact ⟨j + 1, by omega, by go_num, ((other (by simp; omega)).trans (other (by simp; omega))).trans HROW.out, hW.block ((other HNE.out.symm).trans (other HNE.out.symm)), ⟨_, by rw [List.length_set]; exact HL'.out, hR.put j (by rw [HL'.out]; exact hlt) _ _⟩, (hO.setCell (fun _ => .inl rfl) _).setCell (fun _ => .inl rfl) _⟩
          case measure => simp [intOf]; omega
        · obtain rfl : n = j := by omega
          go_wp2_with fail
          go_end0
          exact ⟨rfl, ls', lw', HL'.out, HL.out, hR, hW, hO⟩
end
end Go.Proofs.Ytofocdigbcdfaaa
