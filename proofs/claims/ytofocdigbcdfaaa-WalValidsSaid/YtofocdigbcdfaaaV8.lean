/- Contracts of the document's valid and Valid. -/
import Derived.Test.YtofocdigbcdfaaaV6
import Derived.Test.YtofocdigbcdfaaaV7
import Derived.Deep.RegionHeld3
namespace Go.Proofs.Ytofocdigbcdfaaa
open Go.RowKit Mem
section
variable {w : World} {A B : Option Addr} {n m c e : Nat} {kind wall client seq home outcome aw al an : Int} {image : ByteArray} {ls : List Sp} {lw : List Wr}

set_option maxRecDepth 100000 in
set_option maxHeartbeats 1000000 in
theorem dvalid_no (x : Rc) (hN : ∀ w, Calls Try.prog 53 #[.agg ((Rc.mk kind wall client seq home outcome aw al an image).cells A B n m c e)] w fun y w' => y = .returned (.agg (x.cells none none 0 0 0 0)) ∧ Below w.heap.size w w')
    (hS : ∀ w2, Below w.heap.size w w2 → Calls Try.prog 38 #[.agg ((Rc.mk kind wall client seq home outcome aw al an image).cells A B n m c e), .agg (x.cells none none 0 0 0 0)] w2 fun y w' => y = .returned (.bool false) ∧ Below w2.heap.size w2 w') :
    Calls Try.prog 37 #[.agg ((Rc.mk kind wall client seq home outcome aw al an image).cells A B n m c e)] w fun y w' => y = .returned (.bool false) ∧ Below w.heap.size w w' := by
  have hb0 : Below w.heap.size w (w.alloc (.cells ((Rc.mk kind wall client seq home outcome aw al an image).cells A B n m c e) 46)).drew := ((Below.refl _ _).alloc (Nat.le_refl _) _).drew
  have hrow : (w.alloc (.cells ((Rc.mk kind wall client seq home outcome aw al an image).cells A B n m c e) 46)).drew.heap[w.heap.size]? = some (.cells ((Rc.mk kind wall client seq home outcome aw al an image).cells A B n m c e) 46 (0, 0)) := heap_alloc_new w _
  have hlt : w.heap.size < (w.alloc (.cells ((Rc.mk kind wall client seq home outcome aw al an image).cells A B n m c e) 46)).drew.heap.size := by simp
  have HN := Lib.hid hN; have HS := Lib.hid hS
  clear hN hS
  obtain ⟨kind', wall', client', seq', home', outcome', aw', al', an', image'⟩ := x
  unfold Rc.cells at *
  obtain ⟨qc, -⟩ := cellsAt hrow
  have c0 := qc 0; have c1 := qc 1; have c2 := qc 2; have c3 := qc 3; have c4 := qc 4; have c5 := qc 5; have c6 := qc 6; have c7 := qc 7; have c8 := qc 8; have c9 := qc 9; have c10 := qc 10; have c11 := qc 11
  go_enter Try.func37, Try.ntmps37
  go_wp2_with fail
  go_region_held3 (fun w' => w'.cell? ⟨w.heap.size, 0, none⟩ = some (.int .i64 kind) ∧ w'.cell? ⟨w.heap.size, 1, none⟩ = some (.int .u64 wall) ∧ w'.cell? ⟨w.heap.size, 2, none⟩ = some (.int .u32 client) ∧ w'.cell? ⟨w.heap.size, 3, none⟩ = some (.int .u32 seq) ∧ w'.cell? ⟨w.heap.size, 4, none⟩ = some (.int .u32 home) ∧ w'.cell? ⟨w.heap.size, 5, none⟩ = some (.int .i64 outcome) ∧ w'.cell? ⟨w.heap.size, 6, none⟩ = some (.int .u64 aw) ∧ w'.cell? ⟨w.heap.size, 7, none⟩ = some (.int .u32 al) ∧ w'.cell? ⟨w.heap.size, 8, none⟩ = some (.int .u32 an) ∧ w'.cell? ⟨w.heap.size, 9, none⟩ = some (.slice A n c) ∧ w'.cell? ⟨w.heap.size, 10, none⟩ = some (.slice B m e) ∧ w'.cell? ⟨w.heap.size, 11, none⟩ = some (.string image))
    (first | exact ⟨c0, c1, c2, c3, c4, c5, c6, c7, c8, c9, c10, c11⟩ | exact ⟨d0, d1, d2, d3, d4, d5, d6, d7, d8, d9, d10, d11⟩ | exact ⟨e0, e1, e2, e3, e4, e5, e6, e7, e8, e9, e10, e11⟩)
    (first
     | (go_at_call 53; refine (HN.out _).mono ?_; rintro y w2 ⟨rfl, hb2⟩; have hr2 := (hb2.block _ hlt).trans hrow; obtain ⟨qd, -⟩ := cellsAt hr2; have d0 := qd 0; have d1 := qd 1; have d2 := qd 2; have d3 := qd 3; have d4 := qd 4; have d5 := qd 5; have d6 := qd 6; have d7 := qd 7; have d8 := qd 8; have d9 := qd 9; have d10 := qd 10; have d11 := qd 11; have hbw2 := hb0.trans (hb2.mono hb0.size))
     | (go_at_call 38; refine (HS.out _ hbw2).mono ?_; rintro y w3 ⟨rfl, hb3⟩; have hr3 := (hb3.block _ (Nat.lt_of_lt_of_le hlt hb2.size)).trans hr2; obtain ⟨qe, -⟩ := cellsAt hr3; have e0 := qe 0; have e1 := qe 1; have e2 := qe 2; have e3 := qe 3; have e4 := qe 4; have e5 := qe 5; have e6 := qe 6; have e7 := qe 7; have e8 := qe 8; have e9 := qe 9; have e10 := qe 10; have e11 := qe 11; have hbw3 := hbw2.trans (hb3.mono hbw2.size)))
  all_goals go_wp2_with fail
  all_goals go_ret
  all_goals exact ⟨rfl, hbw3⟩

set_option maxRecDepth 100000 in
set_option maxHeartbeats 1000000 in
theorem dvalid_1 (x : Rc) (hN : ∀ w, Calls Try.prog 53 #[.agg ((Rc.mk 1 wall client seq home outcome aw al an image).cells A B n m c e)] w fun y w' => y = .returned (.agg (x.cells none none 0 0 0 0)) ∧ Below w.heap.size w w')
    (hS : ∀ w2, Below w.heap.size w w2 → Calls Try.prog 38 #[.agg ((Rc.mk 1 wall client seq home outcome aw al an image).cells A B n m c e), .agg (x.cells none none 0 0 0 0)] w2 fun y w' => y = .returned (.bool true) ∧ Below w2.heap.size w2 w') :
    Calls Try.prog 37 #[.agg ((Rc.mk 1 wall client seq home outcome aw al an image).cells A B n m c e)] w fun y w' => y = .returned (.bool true) ∧ Below w.heap.size w w' := by
  have hb0 : Below w.heap.size w (w.alloc (.cells ((Rc.mk 1 wall client seq home outcome aw al an image).cells A B n m c e) 46)).drew := ((Below.refl _ _).alloc (Nat.le_refl _) _).drew
  have hrow : (w.alloc (.cells ((Rc.mk 1 wall client seq home outcome aw al an image).cells A B n m c e) 46)).drew.heap[w.heap.size]? = some (.cells ((Rc.mk 1 wall client seq home outcome aw al an image).cells A B n m c e) 46 (0, 0)) := heap_alloc_new w _
  have hlt : w.heap.size < (w.alloc (.cells ((Rc.mk 1 wall client seq home outcome aw al an image).cells A B n m c e) 46)).drew.heap.size := by simp
  have HN := Lib.hid hN; have HS := Lib.hid hS
  clear hN hS
  obtain ⟨kind', wall', client', seq', home', outcome', aw', al', an', image'⟩ := x
  unfold Rc.cells at *
  obtain ⟨qc, -⟩ := cellsAt hrow
  have c0 := qc 0; have c1 := qc 1; have c2 := qc 2; have c3 := qc 3; have c4 := qc 4; have c5 := qc 5; have c6 := qc 6; have c7 := qc 7; have c8 := qc 8; have c9 := qc 9; have c10 := qc 10; have c11 := qc 11
  go_enter Try.func37, Try.ntmps37
  go_wp2_with fail
  go_region_held3 (fun w' => w'.cell? ⟨w.heap.size, 0, none⟩ = some (.int .i64 1) ∧ w'.cell? ⟨w.heap.size, 1, none⟩ = some (.int .u64 wall) ∧ w'.cell? ⟨w.heap.size, 2, none⟩ = some (.int .u32 client) ∧ w'.cell? ⟨w.heap.size, 3, none⟩ = some (.int .u32 seq) ∧ w'.cell? ⟨w.heap.size, 4, none⟩ = some (.int .u32 home) ∧ w'.cell? ⟨w.heap.size, 5, none⟩ = some (.int .i64 outcome) ∧ w'.cell? ⟨w.heap.size, 6, none⟩ = some (.int .u64 aw) ∧ w'.cell? ⟨w.heap.size, 7, none⟩ = some (.int .u32 al) ∧ w'.cell? ⟨w.heap.size, 8, none⟩ = some (.int .u32 an) ∧ w'.cell? ⟨w.heap.size, 9, none⟩ = some (.slice A n c) ∧ w'.cell? ⟨w.heap.size, 10, none⟩ = some (.slice B m e) ∧ w'.cell? ⟨w.heap.size, 11, none⟩ = some (.string image))
    (first | exact ⟨c0, c1, c2, c3, c4, c5, c6, c7, c8, c9, c10, c11⟩ | exact ⟨d0, d1, d2, d3, d4, d5, d6, d7, d8, d9, d10, d11⟩ | exact ⟨e0, e1, e2, e3, e4, e5, e6, e7, e8, e9, e10, e11⟩)
    (first
     | (go_at_call 53; refine (HN.out _).mono ?_; rintro y w2 ⟨rfl, hb2⟩; have hr2 := (hb2.block _ hlt).trans hrow; obtain ⟨qd, -⟩ := cellsAt hr2; have d0 := qd 0; have d1 := qd 1; have d2 := qd 2; have d3 := qd 3; have d4 := qd 4; have d5 := qd 5; have d6 := qd 6; have d7 := qd 7; have d8 := qd 8; have d9 := qd 9; have d10 := qd 10; have d11 := qd 11; have hbw2 := hb0.trans (hb2.mono hb0.size))
     | (go_at_call 38; refine (HS.out _ hbw2).mono ?_; rintro y w3 ⟨rfl, hb3⟩; have hr3 := (hb3.block _ (Nat.lt_of_lt_of_le hlt hb2.size)).trans hr2; obtain ⟨qe, -⟩ := cellsAt hr3; have e0 := qe 0; have e1 := qe 1; have e2 := qe 2; have e3 := qe 3; have e4 := qe 4; have e5 := qe 5; have e6 := qe 6; have e7 := qe 7; have e8 := qe 8; have e9 := qe 9; have e10 := qe 10; have e11 := qe 11; have hbw3 := hbw2.trans (hb3.mono hbw2.size)))
  all_goals go_wp2_with fail
  all_goals go_ret
  all_goals exact ⟨rfl, hbw3⟩

set_option maxRecDepth 100000 in
set_option maxHeartbeats 1000000 in
theorem dvalid_5 (x : Rc) (hN : ∀ w, Calls Try.prog 53 #[.agg ((Rc.mk 5 wall client seq home outcome aw al an image).cells A B n m c e)] w fun y w' => y = .returned (.agg (x.cells none none 0 0 0 0)) ∧ Below w.heap.size w w')
    (hS : ∀ w2, Below w.heap.size w w2 → Calls Try.prog 38 #[.agg ((Rc.mk 5 wall client seq home outcome aw al an image).cells A B n m c e), .agg (x.cells none none 0 0 0 0)] w2 fun y w' => y = .returned (.bool true) ∧ Below w2.heap.size w2 w') :
    Calls Try.prog 37 #[.agg ((Rc.mk 5 wall client seq home outcome aw al an image).cells A B n m c e)] w fun y w' => y = .returned (.bool (decide ((image.size : Int) ≤ 1048560))) ∧ Below w.heap.size w w' := by
  have hb0 : Below w.heap.size w (w.alloc (.cells ((Rc.mk 5 wall client seq home outcome aw al an image).cells A B n m c e) 46)).drew := ((Below.refl _ _).alloc (Nat.le_refl _) _).drew
  have hrow : (w.alloc (.cells ((Rc.mk 5 wall client seq home outcome aw al an image).cells A B n m c e) 46)).drew.heap[w.heap.size]? = some (.cells ((Rc.mk 5 wall client seq home outcome aw al an image).cells A B n m c e) 46 (0, 0)) := heap_alloc_new w _
  have hlt : w.heap.size < (w.alloc (.cells ((Rc.mk 5 wall client seq home outcome aw al an image).cells A B n m c e) 46)).drew.heap.size := by simp
  have HN := Lib.hid hN; have HS := Lib.hid hS
  clear hN hS
  obtain ⟨kind', wall', client', seq', home', outcome', aw', al', an', image'⟩ := x
  unfold Rc.cells at *
  obtain ⟨qc, -⟩ := cellsAt hrow
  have c0 := qc 0; have c1 := qc 1; have c2 := qc 2; have c3 := qc 3; have c4 := qc 4; have c5 := qc 5; have c6 := qc 6; have c7 := qc 7; have c8 := qc 8; have c9 := qc 9; have c10 := qc 10; have c11 := qc 11
  go_enter Try.func37, Try.ntmps37
  go_wp2_with fail
  go_region_held3 (fun w' => w'.cell? ⟨w.heap.size, 0, none⟩ = some (.int .i64 5) ∧ w'.cell? ⟨w.heap.size, 1, none⟩ = some (.int .u64 wall) ∧ w'.cell? ⟨w.heap.size, 2, none⟩ = some (.int .u32 client) ∧ w'.cell? ⟨w.heap.size, 3, none⟩ = some (.int .u32 seq) ∧ w'.cell? ⟨w.heap.size, 4, none⟩ = some (.int .u32 home) ∧ w'.cell? ⟨w.heap.size, 5, none⟩ = some (.int .i64 outcome) ∧ w'.cell? ⟨w.heap.size, 6, none⟩ = some (.int .u64 aw) ∧ w'.cell? ⟨w.heap.size, 7, none⟩ = some (.int .u32 al) ∧ w'.cell? ⟨w.heap.size, 8, none⟩ = some (.int .u32 an) ∧ w'.cell? ⟨w.heap.size, 9, none⟩ = some (.slice A n c) ∧ w'.cell? ⟨w.heap.size, 10, none⟩ = some (.slice B m e) ∧ w'.cell? ⟨w.heap.size, 11, none⟩ = some (.string image))
    (first | exact ⟨c0, c1, c2, c3, c4, c5, c6, c7, c8, c9, c10, c11⟩ | exact ⟨d0, d1, d2, d3, d4, d5, d6, d7, d8, d9, d10, d11⟩ | exact ⟨e0, e1, e2, e3, e4, e5, e6, e7, e8, e9, e10, e11⟩)
    (first
     | (go_at_call 53; refine (HN.out _).mono ?_; rintro y w2 ⟨rfl, hb2⟩; have hr2 := (hb2.block _ hlt).trans hrow; obtain ⟨qd, -⟩ := cellsAt hr2; have d0 := qd 0; have d1 := qd 1; have d2 := qd 2; have d3 := qd 3; have d4 := qd 4; have d5 := qd 5; have d6 := qd 6; have d7 := qd 7; have d8 := qd 8; have d9 := qd 9; have d10 := qd 10; have d11 := qd 11; have hbw2 := hb0.trans (hb2.mono hb0.size))
     | (go_at_call 38; refine (HS.out _ hbw2).mono ?_; rintro y w3 ⟨rfl, hb3⟩; have hr3 := (hb3.block _ (Nat.lt_of_lt_of_le hlt hb2.size)).trans hr2; obtain ⟨qe, -⟩ := cellsAt hr3; have e0 := qe 0; have e1 := qe 1; have e2 := qe 2; have e3 := qe 3; have e4 := qe 4; have e5 := qe 5; have e6 := qe 6; have e7 := qe 7; have e8 := qe 8; have e9 := qe 9; have e10 := qe 10; have e11 := qe 11; have hbw3 := hbw2.trans (hb3.mono hbw2.size)))
  all_goals go_wp2_with fail
  all_goals go_ret
  all_goals exact ⟨rfl, hbw3⟩

set_option maxRecDepth 100000 in
set_option maxHeartbeats 1000000 in
theorem dvalid_4 (x : Rc) (hN : ∀ w, Calls Try.prog 53 #[.agg ((Rc.mk 4 wall client seq home outcome aw al an image).cells A B n m c e)] w fun y w' => y = .returned (.agg (x.cells none none 0 0 0 0)) ∧ Below w.heap.size w w')
    (hS : ∀ w2, Below w.heap.size w w2 → Calls Try.prog 38 #[.agg ((Rc.mk 4 wall client seq home outcome aw al an image).cells A B n m c e), .agg (x.cells none none 0 0 0 0)] w2 fun y w' => y = .returned (.bool true) ∧ Below w2.heap.size w2 w') (b : Bool) (hb : b = true ↔ aw ≠ 18446744073709551615) :
    Calls Try.prog 37 #[.agg ((Rc.mk 4 wall client seq home outcome aw al an image).cells A B n m c e)] w fun y w' => y = .returned (.bool b) ∧ Below w.heap.size w w' := by
  have hb0 : Below w.heap.size w (w.alloc (.cells ((Rc.mk 4 wall client seq home outcome aw al an image).cells A B n m c e) 46)).drew := ((Below.refl _ _).alloc (Nat.le_refl _) _).drew
  have hrow : (w.alloc (.cells ((Rc.mk 4 wall client seq home outcome aw al an image).cells A B n m c e) 46)).drew.heap[w.heap.size]? = some (.cells ((Rc.mk 4 wall client seq home outcome aw al an image).cells A B n m c e) 46 (0, 0)) := heap_alloc_new w _
  have hlt : w.heap.size < (w.alloc (.cells ((Rc.mk 4 wall client seq home outcome aw al an image).cells A B n m c e) 46)).drew.heap.size := by simp
  have HN := Lib.hid hN; have HS := Lib.hid hS
  clear hN hS
  obtain ⟨kind', wall', client', seq', home', outcome', aw', al', an', image'⟩ := x
  unfold Rc.cells at *
  obtain ⟨qc, -⟩ := cellsAt hrow
  have c0 := qc 0; have c1 := qc 1; have c2 := qc 2; have c3 := qc 3; have c4 := qc 4; have c5 := qc 5; have c6 := qc 6; have c7 := qc 7; have c8 := qc 8; have c9 := qc 9; have c10 := qc 10; have c11 := qc 11
  go_enter Try.func37, Try.ntmps37
  go_wp2_with fail
  go_region_held3 (fun w' => w'.cell? ⟨w.heap.size, 0, none⟩ = some (.int .i64 4) ∧ w'.cell? ⟨w.heap.size, 1, none⟩ = some (.int .u64 wall) ∧ w'.cell? ⟨w.heap.size, 2, none⟩ = some (.int .u32 client) ∧ w'.cell? ⟨w.heap.size, 3, none⟩ = some (.int .u32 seq) ∧ w'.cell? ⟨w.heap.size, 4, none⟩ = some (.int .u32 home) ∧ w'.cell? ⟨w.heap.size, 5, none⟩ = some (.int .i64 outcome) ∧ w'.cell? ⟨w.heap.size, 6, none⟩ = some (.int .u64 aw) ∧ w'.cell? ⟨w.heap.size, 7, none⟩ = some (.int .u32 al) ∧ w'.cell? ⟨w.heap.size, 8, none⟩ = some (.int .u32 an) ∧ w'.cell? ⟨w.heap.size, 9, none⟩ = some (.slice A n c) ∧ w'.cell? ⟨w.heap.size, 10, none⟩ = some (.slice B m e) ∧ w'.cell? ⟨w.heap.size, 11, none⟩ = some (.string image))
    (first | exact ⟨c0, c1, c2, c3, c4, c5, c6, c7, c8, c9, c10, c11⟩ | exact ⟨d0, d1, d2, d3, d4, d5, d6, d7, d8, d9, d10, d11⟩ | exact ⟨e0, e1, e2, e3, e4, e5, e6, e7, e8, e9, e10, e11⟩)
    (first
     | (go_at_call 53; refine (HN.out _).mono ?_; rintro y w2 ⟨rfl, hb2⟩; have hr2 := (hb2.block _ hlt).trans hrow; obtain ⟨qd, -⟩ := cellsAt hr2; have d0 := qd 0; have d1 := qd 1; have d2 := qd 2; have d3 := qd 3; have d4 := qd 4; have d5 := qd 5; have d6 := qd 6; have d7 := qd 7; have d8 := qd 8; have d9 := qd 9; have d10 := qd 10; have d11 := qd 11; have hbw2 := hb0.trans (hb2.mono hb0.size))
     | (go_at_call 38; refine (HS.out _ hbw2).mono ?_; rintro y w3 ⟨rfl, hb3⟩; have hr3 := (hb3.block _ (Nat.lt_of_lt_of_le hlt hb2.size)).trans hr2; obtain ⟨qe, -⟩ := cellsAt hr3; have e0 := qe 0; have e1 := qe 1; have e2 := qe 2; have e3 := qe 3; have e4 := qe 4; have e5 := qe 5; have e6 := qe 6; have e7 := qe 7; have e8 := qe 8; have e9 := qe 9; have e10 := qe 10; have e11 := qe 11; have hbw3 := hbw2.trans (hb3.mono hbw2.size)))
  all_goals have HB := Lib.hid hb
  all_goals clear hb
  all_goals go_wp2_with fail
  all_goals go_ret
  all_goals exact ⟨ret_b (by rw [Bool.eq_iff_iff, HB.out]; simp), hbw3⟩

set_option maxRecDepth 100000 in
set_option maxHeartbeats 1000000 in
theorem dvalid_3 (x : Rc) (hN : ∀ w, Calls Try.prog 53 #[.agg ((Rc.mk 3 wall client seq home outcome aw al an image).cells A B n m c e)] w fun y w' => y = .returned (.agg (x.cells none none 0 0 0 0)) ∧ Below w.heap.size w w')
    (hS : ∀ w2, Below w.heap.size w w2 → Calls Try.prog 38 #[.agg ((Rc.mk 3 wall client seq home outcome aw al an image).cells A B n m c e), .agg (x.cells none none 0 0 0 0)] w2 fun y w' => y = .returned (.bool true) ∧ Below w2.heap.size w2 w') (b : Bool) (hb : b = true ↔ if outcome = 2 then 0 < seq ∧ aw = 0 ∧ al = 0 ∧ an = 0 else 0 < seq ∧ outcome = 1 ∧ aw ≠ 18446744073709551615) (hq : 0 ≤ seq) :
    Calls Try.prog 37 #[.agg ((Rc.mk 3 wall client seq home outcome aw al an image).cells A B n m c e)] w fun y w' => y = .returned (.bool b) ∧ Below w.heap.size w w' := by
  have hb0 : Below w.heap.size w (w.alloc (.cells ((Rc.mk 3 wall client seq home outcome aw al an image).cells A B n m c e) 46)).drew := ((Below.refl _ _).alloc (Nat.le_refl _) _).drew
  have hrow : (w.alloc (.cells ((Rc.mk 3 wall client seq home outcome aw al an image).cells A B n m c e) 46)).drew.heap[w.heap.size]? = some (.cells ((Rc.mk 3 wall client seq home outcome aw al an image).cells A B n m c e) 46 (0, 0)) := heap_alloc_new w _
  have hlt : w.heap.size < (w.alloc (.cells ((Rc.mk 3 wall client seq home outcome aw al an image).cells A B n m c e) 46)).drew.heap.size := by simp
  have HN := Lib.hid hN; have HS := Lib.hid hS
  clear hN hS
  obtain ⟨kind', wall', client', seq', home', outcome', aw', al', an', image'⟩ := x
  unfold Rc.cells at *
  obtain ⟨qc, -⟩ := cellsAt hrow
  have c0 := qc 0; have c1 := qc 1; have c2 := qc 2; have c3 := qc 3; have c4 := qc 4; have c5 := qc 5; have c6 := qc 6; have c7 := qc 7; have c8 := qc 8; have c9 := qc 9; have c10 := qc 10; have c11 := qc 11
  go_enter Try.func37, Try.ntmps37
  go_wp2_with fail
  go_region_held3 (fun w' => w'.cell? ⟨w.heap.size, 0, none⟩ = some (.int .i64 3) ∧ w'.cell? ⟨w.heap.size, 1, none⟩ = some (.int .u64 wall) ∧ w'.cell? ⟨w.heap.size, 2, none⟩ = some (.int .u32 client) ∧ w'.cell? ⟨w.heap.size, 3, none⟩ = some (.int .u32 seq) ∧ w'.cell? ⟨w.heap.size, 4, none⟩ = some (.int .u32 home) ∧ w'.cell? ⟨w.heap.size, 5, none⟩ = some (.int .i64 outcome) ∧ w'.cell? ⟨w.heap.size, 6, none⟩ = some (.int .u64 aw) ∧ w'.cell? ⟨w.heap.size, 7, none⟩ = some (.int .u32 al) ∧ w'.cell? ⟨w.heap.size, 8, none⟩ = some (.int .u32 an) ∧ w'.cell? ⟨w.heap.size, 9, none⟩ = some (.slice A n c) ∧ w'.cell? ⟨w.heap.size, 10, none⟩ = some (.slice B m e) ∧ w'.cell? ⟨w.heap.size, 11, none⟩ = some (.string image))
    (first | exact ⟨c0, c1, c2, c3, c4, c5, c6, c7, c8, c9, c10, c11⟩ | exact ⟨d0, d1, d2, d3, d4, d5, d6, d7, d8, d9, d10, d11⟩ | exact ⟨e0, e1, e2, e3, e4, e5, e6, e7, e8, e9, e10, e11⟩)
    (first
     | (go_at_call 53; refine (HN.out _).mono ?_; rintro y w2 ⟨rfl, hb2⟩; have hr2 := (hb2.block _ hlt).trans hrow; obtain ⟨qd, -⟩ := cellsAt hr2; have d0 := qd 0; have d1 := qd 1; have d2 := qd 2; have d3 := qd 3; have d4 := qd 4; have d5 := qd 5; have d6 := qd 6; have d7 := qd 7; have d8 := qd 8; have d9 := qd 9; have d10 := qd 10; have d11 := qd 11; have hbw2 := hb0.trans (hb2.mono hb0.size))
     | (go_at_call 38; refine (HS.out _ hbw2).mono ?_; rintro y w3 ⟨rfl, hb3⟩; have hr3 := (hb3.block _ (Nat.lt_of_lt_of_le hlt hb2.size)).trans hr2; obtain ⟨qe, -⟩ := cellsAt hr3; have e0 := qe 0; have e1 := qe 1; have e2 := qe 2; have e3 := qe 3; have e4 := qe 4; have e5 := qe 5; have e6 := qe 6; have e7 := qe 7; have e8 := qe 8; have e9 := qe 9; have e10 := qe 10; have e11 := qe 11; have hbw3 := hbw2.trans (hb3.mono hbw2.size)))
  all_goals have HB := Lib.hid hb
  all_goals clear hb
  all_goals go_wp2_with fail
  all_goals go_ret
  all_goals refine ⟨ret_b ?_, hbw3⟩
  all_goals rw [Bool.eq_iff_iff, HB.out]
  all_goals (by_cases hq2 : outcome = 2 <;> simp_all <;> omega)
end
end Go.Proofs.Ytofocdigbcdfaaa
