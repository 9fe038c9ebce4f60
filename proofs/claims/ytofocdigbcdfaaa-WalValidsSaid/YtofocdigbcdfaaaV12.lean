/- Contracts of copied, left and over. -/
import Derived.Test.YtofocdigbcdfaaaV11
namespace Go.Proofs.Ytofocdigbcdfaaa
open Go.RowKit Mem

/-- A copy of the record r: its lists are the calls' own, each with the mark behind it. -/
def CopyOf (r : Rc) (n m : Nat) (ls : List Sp) (lw : List Wr) (w : World) (y : Ending) (w' : World) : Prop :=
  ∃ g1 g2, y = .returned (.agg (r.cells (some ⟨g1, 0, none⟩) (some ⟨g2, 0, none⟩) n m (n + 1) (m + 1))) ∧ w.heap.size ≤ g1 ∧ w.heap.size ≤ g2 ∧ RoomR w' g1 ls ∧ RoomW w' g2 lw ∧ Below w.heap.size w w'

theorem RoomR.block {w w' : World} {g : Nat} {l : List Sp} (h : RoomR w g l) (hb : w'.heap[g]? = w.heap[g]?) : RoomR w' g l := by
  obtain ⟨cur, h1, h2⟩ := h; exact ⟨cur, hb.trans h1, h2⟩
theorem RoomW.block {w w' : World} {g : Nat} {l : List Wr} (h : RoomW w g l) (hb : w'.heap[g]? = w.heap[g]?) : RoomW w' g l := by
  obtain ⟨cur, h1, h2⟩ := h; exact ⟨cur, hb.trans h1, h2⟩
theorem RoomR.lt {w : World} {g : Nat} {l : List Sp} (h : RoomR w g l) : g < w.heap.size := by
  obtain ⟨cur, h1, _⟩ := h; exact (Array.getElem?_eq_some_iff.1 h1).1
theorem RoomW.lt {w : World} {g : Nat} {l : List Wr} (h : RoomW w g l) : g < w.heap.size := by
  obtain ⟨cur, h1, _⟩ := h; exact (Array.getElem?_eq_some_iff.1 h1).1

theorem two_first (w : World) (a b : Obj) : ((w.alloc a).alloc b).heap[w.heap.size]? = some a := (Below.heap_alloc _ b _ (by simp)).trans (heap_alloc_new w a)
theorem two_last (w : World) (a b : Obj) : ((w.alloc a).alloc b).heap[w.heap.size + 1]? = some b := by
  have := heap_alloc_new (w.alloc a) b
  rwa [World.size_alloc] at this

section
variable {w : World} {A B : Option Addr} {n m c e : Nat} {ls : List Sp} {lw : List Wr}

set_option maxRecDepth 100000 in
set_option maxHeartbeats 1000000 in
theorem copied_any (r : Rc) (hs : Spans w A ls) (ht : Writes w B lw) (hn : ls.length = n) (hm : lw.length = m) (hn1 : n ≤ 4398046511103) (hm1 : m ≤ 4398046511103) :
    Calls Try.prog 15 #[.agg (r.cells A B n m c e)] w fun y w' => CopyOf r n m ls lw w y w' := by
  obtain ⟨kind, wall, client, seq, home, outcome, aw, al, an, image⟩ := r
  have HN := Lib.hid hn; have HM := Lib.hid hm
  clear hn hm
  unfold Rc.cells
  go_enter Try.func15, Try.ntmps15
  have hw2 : ∀ o o', Below w.heap.size w ((w.alloc o).alloc o') := fun o o' => ((Below.refl _ _).alloc (Nat.le_refl _) o).alloc (by simp) o'
  go_wp2_with (first
    | (go_at_call 33; refine (roomReads_any (hs.below (hw2 _ _)) HN.out hn1).mono ?_; rintro y w3 ⟨rfl, hr3, hb3⟩; have hsz3 : w.heap.size + 2 ≤ w3.heap.size := (by have := hb3.size; simpa using this); have hrow3 := (hb3.block w.heap.size (by simp; omega)).trans (two_first w _ _); have hzer3 := (hb3.block (w.heap.size + 1) (by simp)).trans (two_last w _ _); have hbw3 := (hw2 _ _).trans (hb3.mono (by simp; omega)); obtain ⟨qc, qf⟩ := cellsAt hrow3; have z9 := qc 9; have z10 := qc 10; have f9 := qf 9; clear qc qf)
    | (go_at_call 34; refine (roomWrites_any (ht.below (hbw3.setCell (Nat.le_refl _) _)) HM.out hm1).mono ?_; rintro y w5 ⟨rfl, hr5, hb5⟩; have hsz5 : w3.heap.size ≤ w5.heap.size := (by have := hb5.size; simpa using this); have hrow5 : w5.heap[w.heap.size]? = some (.cells #[.int .i64 kind, .int .u64 wall, .int .u32 client, .int .u32 seq, .int .u32 home, .int .i64 outcome, .int .u64 aw, .int .u32 al, .int .u32 an, .slice (some ⟨w.heap.size + 1 + 1, 0, none⟩) n (n + 1), .slice B m e, .string image] 46 (0, 0)) := (hb5.block w.heap.size (by simp; omega)).trans (row_set hrow3); have hzer5 : w5.heap[w.heap.size + 1]? = some (.cells #[.int .i64 0, .int .u64 0, .int .u32 0, .int .u32 0, .int .u32 0, .int .i64 0, .int .u64 0, .int .u32 0, .int .u32 0, .slice none 0 0, .slice none 0 0, .string ⟨#[]⟩] 46 (0, 0)) := (hb5.block (w.heap.size + 1) (by simp; omega)).trans ((other (by first | (simp; done) | (simp; omega))).trans hzer3); have hbw5 := (hbw3.setCell (p := ⟨w.heap.size, 9, none⟩) (Nat.le_refl _) (.slice (some ⟨w.heap.size + 1 + 1, 0, none⟩) n (n + 1))).trans (hb5.mono (by simp; omega)); obtain ⟨qc, qf⟩ := cellsAt hrow5; have e0 := qc 0; have e1 := qc 1; have e2 := qc 2; have e3 := qc 3; have e4 := qc 4; have e5 := qc 5; have e6 := qc 6; have e7 := qc 7; have e8 := qc 8; have e9 := qc 9; have e10 := qc 10; have e11 := qc 11; have k10 := qf 10; clear qc qf; obtain ⟨qc, qf⟩ := cellsAt hzer5; have g0 := qc 0; have g1 := qc 1; have g2 := qc 2; have g3 := qc 3; have g4 := qc 4; have g5 := qc 5; have g6 := qc 6; have g7 := qc 7; have g8 := qc 8; have g9 := qc 9; have g10 := qc 10; have g11 := qc 11; have h0 := qf 0; have h1 := qf 1; have h2 := qf 2; have h3 := qf 3; have h4 := qf 4; have h5 := qf 5; have h6 := qf 6; have h7 := qf 7; have h8 := qf 8; have h9 := qf 9; have h10 := qf 10; have h11 := qf 11; clear qc qf))
  have hr3' : RoomR w3 (w.heap.size + 1 + 1) ls := by simpa using hr3
  have hr5' : RoomW w5 w3.heap.size lw := by simpa using hr5
  have l3 := hr3'.lt
  have hr35 : RoomR w5 (w.heap.size + 1 + 1) ls := hr3'.block ((hb5.block _ (by first | (simp; done) | (simp; omega))).trans (other (by first | (simp; done) | (simp; omega))))
  refine bodyPost_ret (v := .agg #[.int .i64 kind, .int .u64 wall, .int .u32 client, .int .u32 seq, .int .u32 home, .int .i64 outcome, .int .u64 aw, .int .u32 al, .int .u32 an, .slice (some ⟨w.heap.size + 1 + 1, 0, none⟩) n (n + 1), .slice (some ⟨w3.heap.size, 0, none⟩) m (m + 1), .string image]) ?_ rfl ⟨w.heap.size + 1 + 1, w3.heap.size, rfl, by omega, by omega, hr35.block ?_, hr5'.block ?_, ?_⟩
  · have hres : Try.f15.results = #[.cell 2 46] := by kernel_rfl
    simp only [results, hres]
    go_simp
  · repeat (refine (other (by first | (simp; done) | (simp; omega))).trans ?_)
    rfl
  · repeat (refine (other (by first | (simp; done) | (simp; omega))).trans ?_)
    rfl
  · repeat (refine Below.setCell ?_ (by simp) _)
    exact hbw5
end
end Go.Proofs.Ytofocdigbcdfaaa
