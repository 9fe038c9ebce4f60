/- The contract of fits, the other kinds. -/
import Derived.Test.YtofocdigbcdfaaaV3
namespace Go.Proofs.Ytofocdigbcdfaaa
open Go.RowKit Mem
section
variable {w : World} {A B : Option Addr} {n m c e p : Nat} {wall client seq home outcome aw al an : Int} {image : ByteArray}

set_option maxRecDepth 100000 in
set_option maxHeartbeats 1000000 in
theorem fits_4 (hp : w.heap[p]? = some (.cells ((Rc.mk 4 wall client seq home outcome aw al an image).cells A B n m c e) 46 (0, 0))) (b : Bool) (hb : b = true ↔ aw ≠ 18446744073709551615) :
    Calls Try.prog 35 #[.agg ((Rc.mk 4 wall client seq home outcome aw al an image).cells A B n m c e), .pointer (some ⟨p, 0, none⟩)] w fun y w' => y = .returned (.bool b) ∧
      w'.heap[p]? = some (.cells ((Rc.mk 4 wall client seq home outcome 0 0 0 image).cells A B n m c e) 46 (0, 0)) ∧ Only (fun k => k = p) w w' := by
  have hlt : p < w.heap.size := (Array.getElem?_eq_some_iff.1 hp).1
  have hne : p ≠ w.heap.size := by omega
  unfold Rc.cells at *
  obtain ⟨qc, qf⟩ := cellsAt hp
  have q6 : w.cell? ⟨p, 6, none⟩ = some (.int .u64 aw) := qc 6
  have q7 : w.cell? ⟨p, 7, none⟩ = some (.int .u32 al) := qc 7
  have q8 : w.cell? ⟨p, 8, none⟩ = some (.int .u32 an) := qc 8
  have f6 := qf 6; have f7 := qf 7; have f8 := qf 8
  obtain ⟨W, hW⟩ : ∃ W, W = (((w.setCell ⟨p, 6, none⟩ (.int .u64 0)).setCell ⟨p, 7, none⟩ (.int .u32 0)).setCell ⟨p, 8, none⟩ (.int .u32 0)) := ⟨_, rfl⟩
  have hrow : W.heap[p]? = some (.cells #[.int .i64 4, .int .u64 wall, .int .u32 client, .int .u32 seq, .int .u32 home, .int .i64 outcome, .int .u64 0, .int .u32 0, .int .u32 0, .slice A n c, .slice B m e, .string image] 46 (0, 0)) := by
    rw [hW, row_set (row_set (row_set hp))]
    simp
  have hO : Only (fun k => k = p) w W := by
    rw [hW]
    exact ((((Only.refl (fun k => k = p) w).setCell (fun _ => rfl) _).setCell (fun _ => rfl) _).setCell (fun _ => rfl) _)
  have hsz : W.heap.size = w.heap.size := by rw [hW]; simp [World.setCell]
  have HW := Lib.hid hW
  clear qc qf hp hW
  have HB := Lib.hid hb
  clear hb
  go_enter Try.func35, Try.ntmps35
  go_upto_region 15 with fail
  rw [← HW.out]
  have hr5' : (W.alloc (.cells #[.int .i64 4, .int .u64 wall, .int .u32 client, .int .u32 seq, .int .u32 home, .int .i64 outcome, .int .u64 aw, .int .u32 al, .int .u32 an, .slice A n c, .slice B m e, .string image] 46)).heap[w.heap.size]? = some (.cells #[.int .i64 4, .int .u64 wall, .int .u32 client, .int .u32 seq, .int .u32 home, .int .i64 outcome, .int .u64 aw, .int .u32 al, .int .u32 an, .slice A n c, .slice B m e, .string image] 46) := by have := heap_alloc_new W (.cells #[.int .i64 4, .int .u64 wall, .int .u32 client, .int .u32 seq, .int .u32 home, .int .i64 outcome, .int .u64 aw, .int .u32 al, .int .u32 an, .slice A n c, .slice B m e, .string image] 46); rwa [hsz] at this
  have hp5' : (W.alloc (.cells #[.int .i64 4, .int .u64 wall, .int .u32 client, .int .u32 seq, .int .u32 home, .int .i64 outcome, .int .u64 aw, .int .u32 al, .int .u32 an, .slice A n c, .slice B m e, .string image] 46)).heap[p]? = _ := (Below.heap_alloc W _ p (by omega)).trans hrow
  have hO5' := hO.alloc (.cells #[.int .i64 4, .int .u64 wall, .int .u32 client, .int .u32 seq, .int .u32 home, .int .i64 outcome, .int .u64 aw, .int .u32 al, .int .u32 an, .slice A n c, .slice B m e, .string image] 46)
  have hlt5' : w.heap.size < (W.alloc (.cells #[.int .i64 4, .int .u64 wall, .int .u32 client, .int .u32 seq, .int .u32 home, .int .i64 outcome, .int .u64 aw, .int .u32 al, .int .u32 an, .slice A n c, .slice B m e, .string image] 46)).heap.size := by simp [hsz]
  generalize W.alloc (.cells #[.int .i64 4, .int .u64 wall, .int .u32 client, .int .u32 seq, .int .u32 home, .int .i64 outcome, .int .u64 aw, .int .u32 al, .int .u32 an, .slice A n c, .slice B m e, .string image] 46) = w5 at *
  have hr5 := hr5'; have hp5 := hp5'; have hO5 := hO5'; have hlt5 := hlt5'
  clear hr5' hp5' hO5' hlt5' hrow hO HW hsz
  have hplt5 : p < w5.heap.size := by omega
  have x6 : w5.cell? ⟨w.heap.size, 6, none⟩ = some (.int .u64 aw) := (cellsAt hr5).1 6
  have x7 : w5.cell? ⟨w.heap.size, 7, none⟩ = some (.int .u32 al) := (cellsAt hr5).1 7
  have x8 : w5.cell? ⟨w.heap.size, 8, none⟩ = some (.int .u32 an) := (cellsAt hr5).1 8
  by_cases hUd : aw = 18446744073709551615
  · subst hUd
    go_wp2_with (first | (go_at_call 50; refine (usable_any _ al an w5 false (by decide)).mono ?_; rintro y w6 ⟨rfl, hb6⟩))
    go_ret
    exact ⟨ret_b (by rw [Bool.eq_iff_iff, HB.out]; simp), (hb6.block p hplt5).trans hp5, hO5.trans (Only.of_below (S := fun _ => False) hb6) (fun _ _ h => h.elim)⟩
  · go_wp2_with (first | (go_at_call 50; refine (usable_any aw al an w5 true (decide_eq_true hUd)).mono ?_; rintro y w6 ⟨rfl, hb6⟩))
    go_ret
    exact ⟨ret_b (by rw [Bool.eq_iff_iff, HB.out]; simp [hUd]), (hb6.block p hplt5).trans hp5, hO5.trans (Only.of_below (S := fun _ => False) hb6) (fun _ _ h => h.elim)⟩

set_option maxRecDepth 100000 in
set_option maxHeartbeats 1000000 in
theorem fits_5 (hp : w.heap[p]? = some (.cells ((Rc.mk 5 wall client seq home outcome aw al an image).cells A B n m c e) 46 (0, 0))) :
    Calls Try.prog 35 #[.agg ((Rc.mk 5 wall client seq home outcome aw al an image).cells A B n m c e), .pointer (some ⟨p, 0, none⟩)] w fun y w' => y = .returned (.bool (decide ((image.size : Int) ≤ 1048560))) ∧
      w'.heap[p]? = some (.cells ((Rc.mk 5 wall client seq home outcome aw al an ⟨#[]⟩).cells A B n m c e) 46 (0, 0)) ∧ Only (fun k => k = p) w w' := by
  have hlt : p < w.heap.size := (Array.getElem?_eq_some_iff.1 hp).1
  have hne : p ≠ w.heap.size := by omega
  unfold Rc.cells at *
  obtain ⟨qc, qf⟩ := cellsAt hp
  have q11 : w.cell? ⟨p, 11, none⟩ = some (.string image) := qc 11
  have f11 := qf 11
  obtain ⟨W, hW⟩ : ∃ W, W = (w.setCell ⟨p, 11, none⟩ (.string ⟨#[]⟩)) := ⟨_, rfl⟩
  have hrow : W.heap[p]? = some (.cells #[.int .i64 5, .int .u64 wall, .int .u32 client, .int .u32 seq, .int .u32 home, .int .i64 outcome, .int .u64 aw, .int .u32 al, .int .u32 an, .slice A n c, .slice B m e, .string ⟨#[]⟩] 46 (0, 0)) := by
    rw [hW, row_set hp]
    simp
  have hO : Only (fun k => k = p) w W := by
    rw [hW]
    exact ((Only.refl (fun k => k = p) w).setCell (fun _ => rfl) _)
  have hsz : W.heap.size = w.heap.size := by rw [hW]; simp [World.setCell]
  have HW := Lib.hid hW
  clear qc qf hp hW
  go_enter Try.func35, Try.ntmps35
  go_upto_region 18 with fail
  rw [← HW.out]
  have hr5' : (W.alloc (.cells #[.int .i64 5, .int .u64 wall, .int .u32 client, .int .u32 seq, .int .u32 home, .int .i64 outcome, .int .u64 aw, .int .u32 al, .int .u32 an, .slice A n c, .slice B m e, .string image] 46)).heap[w.heap.size]? = some (.cells #[.int .i64 5, .int .u64 wall, .int .u32 client, .int .u32 seq, .int .u32 home, .int .i64 outcome, .int .u64 aw, .int .u32 al, .int .u32 an, .slice A n c, .slice B m e, .string image] 46) := by have := heap_alloc_new W (.cells #[.int .i64 5, .int .u64 wall, .int .u32 client, .int .u32 seq, .int .u32 home, .int .i64 outcome, .int .u64 aw, .int .u32 al, .int .u32 an, .slice A n c, .slice B m e, .string image] 46); rwa [hsz] at this
  have hp5' : (W.alloc (.cells #[.int .i64 5, .int .u64 wall, .int .u32 client, .int .u32 seq, .int .u32 home, .int .i64 outcome, .int .u64 aw, .int .u32 al, .int .u32 an, .slice A n c, .slice B m e, .string image] 46)).heap[p]? = _ := (Below.heap_alloc W _ p (by omega)).trans hrow
  have hO5' := hO.alloc (.cells #[.int .i64 5, .int .u64 wall, .int .u32 client, .int .u32 seq, .int .u32 home, .int .i64 outcome, .int .u64 aw, .int .u32 al, .int .u32 an, .slice A n c, .slice B m e, .string image] 46)
  have hlt5' : w.heap.size < (W.alloc (.cells #[.int .i64 5, .int .u64 wall, .int .u32 client, .int .u32 seq, .int .u32 home, .int .i64 outcome, .int .u64 aw, .int .u32 al, .int .u32 an, .slice A n c, .slice B m e, .string image] 46)).heap.size := by simp [hsz]
  generalize W.alloc (.cells #[.int .i64 5, .int .u64 wall, .int .u32 client, .int .u32 seq, .int .u32 home, .int .i64 outcome, .int .u64 aw, .int .u32 al, .int .u32 an, .slice A n c, .slice B m e, .string image] 46) = w5 at *
  have hr5 := hr5'; have hp5 := hp5'; have hO5 := hO5'; have hlt5 := hlt5'
  clear hr5' hp5' hO5' hlt5' hrow hO HW hsz
  have hplt5 : p < w5.heap.size := by omega
  have x11 : w5.cell? ⟨w.heap.size, 11, none⟩ = some (.string image) := (cellsAt hr5).1 11
  go_wp2_with fail
  go_ret
  exact ⟨rfl, hp5, hO5⟩

set_option maxRecDepth 100000 in
set_option maxHeartbeats 1000000 in
theorem fits_3 (hp : w.heap[p]? = some (.cells ((Rc.mk 3 wall client seq home outcome aw al an image).cells A B n m c e) 46 (0, 0))) (b : Bool) (hb : b = true ↔ if outcome = 2 then 0 < seq ∧ aw = 0 ∧ al = 0 ∧ an = 0 else 0 < seq ∧ outcome = 1 ∧ aw ≠ 18446744073709551615) :
    Calls Try.prog 35 #[.agg ((Rc.mk 3 wall client seq home outcome aw al an image).cells A B n m c e), .pointer (some ⟨p, 0, none⟩)] w fun y w' => y = .returned (.bool b) ∧
      w'.heap[p]? = some (.cells ((Rc.mk 3 wall 0 0 0 0 0 0 0 image).cells A B n m c e) 46 (0, 0)) ∧ Only (fun k => k = p) w w' := by
  have hlt : p < w.heap.size := (Array.getElem?_eq_some_iff.1 hp).1
  have hne : p ≠ w.heap.size := by omega
  unfold Rc.cells at *
  obtain ⟨qc, qf⟩ := cellsAt hp
  have q2 : w.cell? ⟨p, 2, none⟩ = some (.int .u32 client) := qc 2
  have q3 : w.cell? ⟨p, 3, none⟩ = some (.int .u32 seq) := qc 3
  have q4 : w.cell? ⟨p, 4, none⟩ = some (.int .u32 home) := qc 4
  have q5 : w.cell? ⟨p, 5, none⟩ = some (.int .i64 outcome) := qc 5
  have q6 : w.cell? ⟨p, 6, none⟩ = some (.int .u64 aw) := qc 6
  have q7 : w.cell? ⟨p, 7, none⟩ = some (.int .u32 al) := qc 7
  have q8 : w.cell? ⟨p, 8, none⟩ = some (.int .u32 an) := qc 8
  have f2 := qf 2; have f3 := qf 3; have f4 := qf 4; have f5 := qf 5; have f6 := qf 6; have f7 := qf 7; have f8 := qf 8
  obtain ⟨W, hW⟩ : ∃ W, W = (((((((w.setCell ⟨p, 2, none⟩ (.int .u32 0)).setCell ⟨p, 3, none⟩ (.int .u32 0)).setCell ⟨p, 4, none⟩ (.int .u32 0)).setCell ⟨p, 5, none⟩ (.int .i64 0)).setCell ⟨p, 6, none⟩ (.int .u64 0)).setCell ⟨p, 7, none⟩ (.int .u32 0)).setCell ⟨p, 8, none⟩ (.int .u32 0)) := ⟨_, rfl⟩
  have hrow : W.heap[p]? = some (.cells #[.int .i64 3, .int .u64 wall, .int .u32 0, .int .u32 0, .int .u32 0, .int .i64 0, .int .u64 0, .int .u32 0, .int .u32 0, .slice A n c, .slice B m e, .string image] 46 (0, 0)) := by
    rw [hW, row_set (row_set (row_set (row_set (row_set (row_set (row_set hp))))))]
    simp
  have hO : Only (fun k => k = p) w W := by
    rw [hW]
    exact ((((((((Only.refl (fun k => k = p) w).setCell (fun _ => rfl) _).setCell (fun _ => rfl) _).setCell (fun _ => rfl) _).setCell (fun _ => rfl) _).setCell (fun _ => rfl) _).setCell (fun _ => rfl) _).setCell (fun _ => rfl) _)
  have hsz : W.heap.size = w.heap.size := by rw [hW]; simp [World.setCell]
  have HW := Lib.hid hW
  clear qc qf hp hW
  have HB := Lib.hid hb
  clear hb
  go_enter Try.func35, Try.ntmps35
  go_upto_region 10 with fail
  rw [← HW.out]
  have hr5' : (W.alloc (.cells #[.int .i64 3, .int .u64 wall, .int .u32 client, .int .u32 seq, .int .u32 home, .int .i64 outcome, .int .u64 aw, .int .u32 al, .int .u32 an, .slice A n c, .slice B m e, .string image] 46)).heap[w.heap.size]? = some (.cells #[.int .i64 3, .int .u64 wall, .int .u32 client, .int .u32 seq, .int .u32 home, .int .i64 outcome, .int .u64 aw, .int .u32 al, .int .u32 an, .slice A n c, .slice B m e, .string image] 46) := by have := heap_alloc_new W (.cells #[.int .i64 3, .int .u64 wall, .int .u32 client, .int .u32 seq, .int .u32 home, .int .i64 outcome, .int .u64 aw, .int .u32 al, .int .u32 an, .slice A n c, .slice B m e, .string image] 46); rwa [hsz] at this
  have hp5' : (W.alloc (.cells #[.int .i64 3, .int .u64 wall, .int .u32 client, .int .u32 seq, .int .u32 home, .int .i64 outcome, .int .u64 aw, .int .u32 al, .int .u32 an, .slice A n c, .slice B m e, .string image] 46)).heap[p]? = _ := (Below.heap_alloc W _ p (by omega)).trans hrow
  have hO5' := hO.alloc (.cells #[.int .i64 3, .int .u64 wall, .int .u32 client, .int .u32 seq, .int .u32 home, .int .i64 outcome, .int .u64 aw, .int .u32 al, .int .u32 an, .slice A n c, .slice B m e, .string image] 46)
  have hlt5' : w.heap.size < (W.alloc (.cells #[.int .i64 3, .int .u64 wall, .int .u32 client, .int .u32 seq, .int .u32 home, .int .i64 outcome, .int .u64 aw, .int .u32 al, .int .u32 an, .slice A n c, .slice B m e, .string image] 46)).heap.size := by simp [hsz]
  generalize W.alloc (.cells #[.int .i64 3, .int .u64 wall, .int .u32 client, .int .u32 seq, .int .u32 home, .int .i64 outcome, .int .u64 aw, .int .u32 al, .int .u32 an, .slice A n c, .slice B m e, .string image] 46) = w5 at *
  have hr5 := hr5'; have hp5 := hp5'; have hO5 := hO5'; have hlt5 := hlt5'
  clear hr5' hp5' hO5' hlt5' hrow hO HW hsz
  have hplt5 : p < w5.heap.size := by omega
  have x3 : w5.cell? ⟨w.heap.size, 3, none⟩ = some (.int .u32 seq) := (cellsAt hr5).1 3
  have x5 : w5.cell? ⟨w.heap.size, 5, none⟩ = some (.int .i64 outcome) := (cellsAt hr5).1 5
  have x6 : w5.cell? ⟨w.heap.size, 6, none⟩ = some (.int .u64 aw) := (cellsAt hr5).1 6
  have x7 : w5.cell? ⟨w.heap.size, 7, none⟩ = some (.int .u32 al) := (cellsAt hr5).1 7
  have x8 : w5.cell? ⟨w.heap.size, 8, none⟩ = some (.int .u32 an) := (cellsAt hr5).1 8
  by_cases h2 : outcome = 2
  · subst h2
    go_wp2_with fail
    all_goals go_ret
    all_goals refine ⟨ret_b ?_, hp5, hO5⟩
    all_goals rw [Bool.eq_iff_iff, HB.out]
    all_goals first | (simp [*]; done) | (simp; intro h; omega) | (simp [*]; omega)
  · have h2' : (outcome == 2) = false := beq_eq_false_iff_ne.2 h2
    by_cases h1 : 0 < seq
    · by_cases h3 : outcome = 1
      · subst h3
        by_cases hUd : aw = 18446744073709551615
        · subst hUd
          go_wp2_with (first | (go_at_call 50; refine (usable_any _ al an w5 false (by decide)).mono ?_; rintro y w6 ⟨rfl, hb6⟩))
          go_ret
          exact ⟨ret_b (by rw [Bool.eq_iff_iff, HB.out]; simp), (hb6.block p hplt5).trans hp5, hO5.trans (Only.of_below (S := fun _ => False) hb6) (fun _ _ h => h.elim)⟩
        · go_wp2_with (first | (go_at_call 50; refine (usable_any aw al an w5 true (decide_eq_true hUd)).mono ?_; rintro y w6 ⟨rfl, hb6⟩))
          go_ret
          exact ⟨ret_b (by rw [Bool.eq_iff_iff, HB.out]; simp [hUd]; omega), (hb6.block p hplt5).trans hp5, hO5.trans (Only.of_below (S := fun _ => False) hb6) (fun _ _ h => h.elim)⟩
      · have h3' : (outcome == 1) = false := beq_eq_false_iff_ne.2 h3
        have H2 := Lib.hid h2; have H3 := Lib.hid h3
        clear h2 h3
        go_wp2_with fail
        go_ret
        exact ⟨ret_b (by rw [Bool.eq_iff_iff, HB.out, if_neg H2.out]; simp [H3.out]), hp5, hO5⟩
    · have H2 := Lib.hid h2
      clear h2
      go_wp2_with fail
      go_ret
      exact ⟨ret_b (by rw [Bool.eq_iff_iff, HB.out, if_neg H2.out]; simp; intro h; omega), hp5, hO5⟩

set_option maxRecDepth 100000 in
set_option maxHeartbeats 1000000 in
theorem fits_no {kind : Int} (h1 : kind ≠ 1) (h2 : kind ≠ 2) (h3 : kind ≠ 3) (h4 : kind ≠ 4) (h5 : kind ≠ 5) :
    Calls Try.prog 35 #[.agg ((Rc.mk kind wall client seq home outcome aw al an image).cells A B n m c e), .pointer (some ⟨p, 0, none⟩)] w fun y w' => y = .returned (.bool false) ∧ Below w.heap.size w w' := by
  have b1 : (kind == 1) = false := beq_eq_false_iff_ne.2 h1
  have b2 : (kind == 2) = false := beq_eq_false_iff_ne.2 h2
  have b3 : (kind == 3) = false := beq_eq_false_iff_ne.2 h3
  have b4 : (kind == 4) = false := beq_eq_false_iff_ne.2 h4
  have b5 : (kind == 5) = false := beq_eq_false_iff_ne.2 h5
  clear h1 h2 h3 h4 h5
  have hB : ∀ o, Below w.heap.size w (w.alloc o) := fun o => (Below.refl _ _).alloc (Nat.le_refl _) o
  unfold Rc.cells
  go_enter Try.func35, Try.ntmps35
  go_wp2_with fail
  go_ret
  exact ⟨rfl, hB _⟩
end

/-- P7.1: may the record be? -/
def Rc.Fits (r : Rc) (ls : List Sp) (lw : List Wr) : Prop :=
  (r.kind = 1 ∧ (r.client = 0 ∧ r.seq = 0) ∧ r.home = 0 ∧ r.outcome = 0 ∧ (r.aw = 0 ∧ r.al = 0 ∧ r.an = 0) ∧ ls.length = 0 ∧ lw.length = 0 ∧ r.image.toList = []) ∨
  (r.kind = 2 ∧ (0 < r.seq ∧ r.aw ≠ 18446744073709551615 ∧ ReadsOk ls ∧ WritesOk lw ∧ 0 < ls.length + lw.length) ∧ r.wall = 0 ∧ r.outcome = 0 ∧ r.image.toList = []) ∨
  (r.kind = 3 ∧ (if r.outcome = 2 then 0 < r.seq ∧ r.aw = 0 ∧ r.al = 0 ∧ r.an = 0 else 0 < r.seq ∧ r.outcome = 1 ∧ r.aw ≠ 18446744073709551615) ∧ r.wall = 0 ∧ ls.length = 0 ∧ lw.length = 0 ∧ r.image.toList = []) ∨
  (r.kind = 4 ∧ r.aw ≠ 18446744073709551615 ∧ r.wall = 0 ∧ (r.client = 0 ∧ r.seq = 0) ∧ r.home = 0 ∧ r.outcome = 0 ∧ ls.length = 0 ∧ lw.length = 0 ∧ r.image.toList = []) ∨
  (r.kind = 5 ∧ (r.image.size : Int) ≤ 1048560 ∧ r.wall = 0 ∧ (r.client = 0 ∧ r.seq = 0) ∧ r.home = 0 ∧ r.outcome = 0 ∧ (r.aw = 0 ∧ r.al = 0 ∧ r.an = 0) ∧ ls.length = 0 ∧ lw.length = 0)

end Go.Proofs.Ytofocdigbcdfaaa
