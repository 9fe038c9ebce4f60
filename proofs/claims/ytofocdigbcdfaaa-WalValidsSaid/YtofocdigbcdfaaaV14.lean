/- The walk of WalValids. -/
import Derived.Test.YtofocdigbcdfaaaV13
import Derived.Deep.RegionHeld3
namespace Go.Proofs.Ytofocdigbcdfaaa
open Go.RowKit Mem

section
variable {w : World} {A B : Option Addr} {n m c e : Nat} {ls : List Sp} {lw : List Wr}

theorem fits_num (r : Rc) (ls : List Sp) (lw : List Wr) : ∃ x : Int, (r.Fits ls lw → x = 0) ∧ (¬ r.Fits ls lw → x = 70) := by
  by_cases h : r.Fits ls lw
  · exact ⟨0, fun _ => rfl, fun h' => absurd h h'⟩
  · exact ⟨70, fun h' => absurd h' h, fun _ => rfl⟩

set_option maxRecDepth 100000 in
set_option maxHeartbeats 1000000 in
/-- P7.1: WalValids of any record. -/
theorem valids_any (r : Rc) (hs : Spans w A ls) (ht : Writes w B lw) (hn : ls.length = n) (hm : lw.length = m) (hn1 : n ≤ 4398046511103) (hm1 : m ≤ 4398046511103) (hq : 0 ≤ r.seq) :
    Calls Try.prog 4 #[.agg (r.cells A B n m c e)] w fun y w' => y = .returned (.bool true) ∧ Below w.heap.size w w' := by
  obtain ⟨x, hx0, hx1⟩ := fits_num r ls lw
  have HX0 := Lib.hid hx0; have HX1 := Lib.hid hx1; have HN := Lib.hid hn; have HM := Lib.hid hm; have HQ := Lib.hid hq
  have hw1 : ∀ o, Below w.heap.size w (w.alloc o) := fun o => (Below.refl _ _).alloc (Nat.le_refl _) o
  clear hx0 hx1 hn hm hq
  have HC15 : ∀ w', Below w.heap.size w w' → Hid (Calls Try.prog 15 #[.agg (r.cells A B n m c e)] w' fun y w2 => CopyOf r n m ls lw w' y w2) := fun w' hb => Lib.hid (copied_any r (hs.below hb) (ht.below hb) HN.out HM.out hn1 hm1)
  have HC17 : ∀ w', Below w.heap.size w w' → Hid (Calls Try.prog 17 #[.agg (r.cells A B n m c e)] w' fun y w2 => y = .returned (.int .i64 x) ∧ Below w'.heap.size w' w2) := fun w' hb => Lib.hid (rvalid_any r (hs.below hb) (ht.below hb) HN.out HM.out (by omega) (by omega) HQ.out x HX0.out HX1.out)
  have HC16 : ∀ w' g1 g2, RoomR w' g1 ls → RoomW w' g2 lw → Hid (Calls Try.prog 16 #[.agg (r.cells (some ⟨g1, 0, none⟩) (some ⟨g2, 0, none⟩) n m (n + 1) (m + 1))] w' fun y w2 => y = .returned (.int .i64 x) ∧ Below w'.heap.size w' w2) := fun w' g1 g2 h1 h2 =>
    Lib.hid (valid_any r h1.own.spans h2.own.writes HN.out HM.out (by omega) (by omega) (fun k hk => by rw [blk_some] at hk; subst hk; exact h1.lt) (fun k hk => by rw [blk_some] at hk; subst hk; exact h2.lt) x HX0.out HX1.out)
  have HC18 : ∀ w' g1 g2, Below w.heap.size w w' → RoomR w' g1 ls → RoomW w' g2 lw → Hid (Calls Try.prog 18 #[.agg (r.cells (some ⟨g1, 0, none⟩) (some ⟨g2, 0, none⟩) n m (n + 1) (m + 1)), .agg (r.cells A B n m c e)] w' fun y w2 => y = .returned (.bool true) ∧ Below w'.heap.size w' w2) := fun w' g1 g2 hb h1 h2 =>
    Lib.hid (left_any r (hs.below hb) (ht.below hb) h1 h2 HN.out HM.out hn1 hm1)
  have HC19 : ∀ w' g1 g2, RoomR w' g1 ls → RoomW w' g2 lw → Hid (Calls Try.prog 19 #[.agg (r.cells (some ⟨g1, 0, none⟩) (some ⟨g2, 0, none⟩) n m (n + 1) (m + 1))] w' fun y w2 => OverOf g1 g2 n m w' y w2) := fun w' g1 g2 h1 h2 =>
    Lib.hid (over_any r h1.own h2.own HN.out HM.out hn1 hm1)
  have HE16 : ∀ w' g1 g2 ls' lw' x', OwnR w' g1 ls' → OwnW w' g2 lw' → ls'.length = n → lw'.length = m → (r.Fits ls' lw' → x' = 0) → (¬ r.Fits ls' lw' → x' = 70) → Hid (Calls Try.prog 16 #[.agg (r.cells (some ⟨g1, 0, none⟩) (some ⟨g2, 0, none⟩) n m (n + 1) (m + 1))] w' fun y w2 => y = .returned (.int .i64 x') ∧ Below w'.heap.size w' w2) := fun w' g1 g2 ls' lw' x' h1 h2 e1 e2 a b =>
    Lib.hid (valid_any r h1.spans h2.writes e1 e2 (by omega) (by omega) (fun k hk => by rw [blk_some] at hk; subst hk; exact h1.lt) (fun k hk => by rw [blk_some] at hk; subst hk; exact h2.lt) x' a b)
  have HE17 : ∀ w' g1 g2 ls' lw' x', OwnR w' g1 ls' → OwnW w' g2 lw' → ls'.length = n → lw'.length = m → (r.Fits ls' lw' → x' = 0) → (¬ r.Fits ls' lw' → x' = 70) → Hid (Calls Try.prog 17 #[.agg (r.cells (some ⟨g1, 0, none⟩) (some ⟨g2, 0, none⟩) n m (n + 1) (m + 1))] w' fun y w2 => y = .returned (.int .i64 x') ∧ Below w'.heap.size w' w2) := fun w' g1 g2 ls' lw' x' h1 h2 e1 e2 a b =>
    Lib.hid (rvalid_any r h1.spans h2.writes e1 e2 (by omega) (by omega) HQ.out x' a b)
  have HFN := fits_num r
  have HC15' := Lib.hid HC15; have HC16' := Lib.hid HC16; have HC17' := Lib.hid HC17; have HC18' := Lib.hid HC18; have HC19' := Lib.hid HC19; have HE16' := Lib.hid HE16; have HE17' := Lib.hid HE17; have HF := Lib.hid HFN
  clear HC15 HC16 HC17 HC18 HC19 HE16 HE17 HFN hs ht HX0 HX1 HQ HN HM
  obtain ⟨kind, wall, client, seq, home, outcome, aw, al, an, image⟩ := r
  unfold Rc.cells at *
  go_enter Try.func4, Try.ntmps4
  go_wp2_with fail
  refine (HC15'.out _ (hw1 _)).out.mono ?_
  rintro y w3 ⟨g1, g2, rfl, hg1, hg2, hR, hW, hb3⟩
  have hsz3 : w.heap.size + 1 ≤ w3.heap.size := by have := hb3.size; simpa using this
  have hbw3 := (hw1 _).trans (hb3.mono (by simp))
  have hbox := (hb3.block w.heap.size (by simp)).trans (heap_alloc_new w _)
  have HB := Lib.hid hbox
  clear hbox
  simp only [World.size_alloc] at hg1 hg2
  unfold Rc.cells
  have l1 := hR.lt; have l2 := hW.lt
  go_wp2_with fail
  refine (HC16'.out _ g1 g2 (hR.block (Below.heap_alloc _ _ _ l1)) (hW.block (Below.heap_alloc _ _ _ l2))).out.mono ?_
  rintro y w4 ⟨rfl, hb4⟩
  have hsz4 : w3.heap.size + 1 ≤ w4.heap.size := by have := hb4.size; simpa using this
  have hR4 : RoomR w4 g1 ls := hR.block ((hb4.block _ (by simp; omega)).trans (Below.heap_alloc _ _ _ l1))
  have hW4 : RoomW w4 g2 lw := hW.block ((hb4.block _ (by simp; omega)).trans (Below.heap_alloc _ _ _ l2))
  have hbw4 := (hbw3.alloc hbw3.size _).trans (hb4.mono (by simp; omega))
  have hrb : w4.heap[w.heap.size]? = some (.cells #[.int .i64 kind, .int .u64 wall, .int .u32 client, .int .u32 seq, .int .u32 home, .int .i64 outcome, .int .u64 aw, .int .u32 al, .int .u32 an, .slice A n c, .slice B m e, .string image] 46 (0, 0)) := ((hb4.block _ (by simp; omega)).trans (Below.heap_alloc _ _ _ (by omega))).trans HB.out
  have hrx : w4.heap[w3.heap.size]? = some (.cells #[.int .i64 kind, .int .u64 wall, .int .u32 client, .int .u32 seq, .int .u32 home, .int .i64 outcome, .int .u64 aw, .int .u32 al, .int .u32 an, .slice (some ⟨g1, 0, none⟩) n (n + 1), .slice (some ⟨g2, 0, none⟩) m (m + 1), .string image] 46 (0, 0)) := (hb4.block _ (by simp)).trans (heap_alloc_new w3 _)
  obtain ⟨qa, -⟩ := cellsAt hrb; have a0 := qa 0; have a1 := qa 1; have a2 := qa 2; have a3 := qa 3; have a4 := qa 4; have a5 := qa 5; have a6 := qa 6; have a7 := qa 7; have a8 := qa 8; have a9 := qa 9; have a10 := qa 10; have a11 := qa 11; clear qa
  obtain ⟨qb, -⟩ := cellsAt hrx; have b0 := qb 0; have b1 := qb 1; have b2 := qb 2; have b3 := qb 3; have b4 := qb 4; have b5 := qb 5; have b6 := qb 6; have b7 := qb 7; have b8 := qb 8; have b9 := qb 9; have b10 := qb 10; have b11 := qb 11; clear qb
  have HRB := Lib.hid hrb; have HRX := Lib.hid hrx
  clear hrb hrx
  go_wp2_with fail
  refine (HC17'.out _ hbw4).out.mono ?_
  rintro y w5 ⟨rfl, hb5⟩
  have hR5 : RoomR w5 g1 ls := hR4.block (hb5.block _ hR4.lt)
  have hW5 : RoomW w5 g2 lw := hW4.block (hb5.block _ hW4.lt)
  have hbw5 := hbw4.trans (hb5.mono hbw4.size)
  have hrb := (hb5.block _ (by omega)).trans HRB.out
  have hrx := (hb5.block _ (by omega)).trans HRX.out
  obtain ⟨qa, -⟩ := cellsAt hrb; have a0 := qa 0; have a1 := qa 1; have a2 := qa 2; have a3 := qa 3; have a4 := qa 4; have a5 := qa 5; have a6 := qa 6; have a7 := qa 7; have a8 := qa 8; have a9 := qa 9; have a10 := qa 10; have a11 := qa 11; clear qa
  obtain ⟨qb, -⟩ := cellsAt hrx; have b0 := qb 0; have b1 := qb 1; have b2 := qb 2; have b3 := qb 3; have b4 := qb 4; have b5 := qb 5; have b6 := qb 6; have b7 := qb 7; have b8 := qb 8; have b9 := qb 9; have b10 := qb 10; have b11 := qb 11; clear qb
  clear HRB HRX
  have HRX := Lib.hid hrx
  clear hrb hrx
  go_wp2_with fail
  refine (HC18'.out _ g1 g2 hbw5 hR5 hW5).out.mono ?_
  rintro y w6 ⟨rfl, hb6⟩
  have hR6 : RoomR w6 g1 ls := hR5.block (hb6.block _ hR5.lt)
  have hW6 : RoomW w6 g2 lw := hW5.block (hb6.block _ hW5.lt)
  have hbw6 := hbw5.trans (hb6.mono hbw5.size)
  have hsz5 := hb5.size; have hsz6 := hb6.size
  have hrx := (hb6.block _ (by omega)).trans HRX.out
  obtain ⟨qb, -⟩ := cellsAt hrx; have b0 := qb 0; have b1 := qb 1; have b2 := qb 2; have b3 := qb 3; have b4 := qb 4; have b5 := qb 5; have b6 := qb 6; have b7 := qb 7; have b8 := qb 8; have b9 := qb 9; have b10 := qb 10; have b11 := qb 11; clear qb
  clear HRX
  have HRX := Lib.hid hrx
  clear hrx
  go_wp2_with fail
  refine (HC19'.out _ g1 g2 hR6 hW6).out.mono ?_
  rintro y w7 ⟨rfl, ls', lw', hn', hm', hR7, hW7, hO7⟩
  obtain ⟨x', hx0', hx1'⟩ := HF.out ls' lw'
  have hbw7 : Below w.heap.size w w7 := hbw6.trans (hO7.below hbw6.size (fun k hk => by rcases hk with rfl | rfl <;> omega))
  have hrx := (hO7.block _ (by omega) (by rintro (h | h) <;> omega)).trans HRX.out
  have hlt7 : w3.heap.size < w7.heap.size := by have := hO7.size; omega
  clear HRX
  obtain ⟨qc, -⟩ := cellsAt hrx; have c0 := qc 0; have c1 := qc 1; have c2 := qc 2; have c3 := qc 3; have c4 := qc 4; have c5 := qc 5; have c6 := qc 6; have c7 := qc 7; have c8 := qc 8; have c9 := qc 9; have c10 := qc 10; have c11 := qc 11; clear qc
  have HL16 := Lib.hid (fun w' (hb : Below w7.heap.size w7 w') => (HE16'.out w' g1 g2 ls' lw' x' (hR7.block (hb.block _ hR7.lt)) (hW7.block (hb.block _ hW7.lt)) hn' hm' hx0' hx1').out)
  have HL17 := Lib.hid (fun w' (hb : Below w7.heap.size w7 w') => (HE17'.out w' g1 g2 ls' lw' x' (hR7.block (hb.block _ hR7.lt)) (hW7.block (hb.block _ hW7.lt)) hn' hm' hx0' hx1').out)
  have HRX := Lib.hid hrx
  have hz0 : Below w7.heap.size w7 w7.drew := (Below.refl _ _).drew
  clear hrx hn' hm' hx0' hx1' HE16' HE17' HC15' HC16' HC17' HC18' HC19' HF HB
  go_wp2_with fail
  go_region_held3 (fun w' => w'.cell? ⟨w3.heap.size, 0, none⟩ = some (.int .i64 kind) ∧ w'.cell? ⟨w3.heap.size, 1, none⟩ = some (.int .u64 wall) ∧ w'.cell? ⟨w3.heap.size, 2, none⟩ = some (.int .u32 client) ∧ w'.cell? ⟨w3.heap.size, 3, none⟩ = some (.int .u32 seq) ∧ w'.cell? ⟨w3.heap.size, 4, none⟩ = some (.int .u32 home) ∧ w'.cell? ⟨w3.heap.size, 5, none⟩ = some (.int .i64 outcome) ∧ w'.cell? ⟨w3.heap.size, 6, none⟩ = some (.int .u64 aw) ∧ w'.cell? ⟨w3.heap.size, 7, none⟩ = some (.int .u32 al) ∧ w'.cell? ⟨w3.heap.size, 8, none⟩ = some (.int .u32 an) ∧ w'.cell? ⟨w3.heap.size, 9, none⟩ = some (.slice (some ⟨g1, 0, none⟩) n (n + 1)) ∧ w'.cell? ⟨w3.heap.size, 10, none⟩ = some (.slice (some ⟨g2, 0, none⟩) m (m + 1)) ∧ w'.cell? ⟨w3.heap.size, 11, none⟩ = some (.string image))
    (first | exact ⟨c0, c1, c2, c3, c4, c5, c6, c7, c8, c9, c10, c11⟩ | exact ⟨d0, d1, d2, d3, d4, d5, d6, d7, d8, d9, d10, d11⟩ | exact ⟨e0, e1, e2, e3, e4, e5, e6, e7, e8, e9, e10, e11⟩ | exact ⟨f0, f1, f2, f3, f4, f5, f6, f7, f8, f9, f10, f11⟩ | exact ⟨g0, g1, g2, g3, g4, g5, g6, g7, g8, g9, g10, g11⟩)
    (first
     | (go_at_call 16; (with_reducible refine (HL16.out _ hz0).mono ?_); rintro y w8 ⟨rfl, hb8⟩; have hz1 := hz0.trans (hb8.mono hz0.size); have hr8 := (hz1.block _ hlt7).trans HRX.out; obtain ⟨qd, -⟩ := cellsAt hr8; have d0 := qd 0; have d1 := qd 1; have d2 := qd 2; have d3 := qd 3; have d4 := qd 4; have d5 := qd 5; have d6 := qd 6; have d7 := qd 7; have d8 := qd 8; have d9 := qd 9; have d10 := qd 10; have d11 := qd 11; clear qd; clear hr8)
     | (go_at_call 17; (with_reducible refine (HL17.out _ hz1).mono ?_); rintro y w9 ⟨rfl, hb9⟩; have hz2 := hz1.trans (hb9.mono hz1.size); have hr9 := (hz2.block _ hlt7).trans HRX.out; obtain ⟨qe, -⟩ := cellsAt hr9; have e0 := qe 0; have e1 := qe 1; have e2 := qe 2; have e3 := qe 3; have e4 := qe 4; have e5 := qe 5; have e6 := qe 6; have e7 := qe 7; have e8 := qe 8; have e9 := qe 9; have e10 := qe 10; have e11 := qe 11; clear qe; clear hr9)
     | (go_at_call 17; (with_reducible refine (HL17.out _ hz0).mono ?_); rintro y w8 ⟨rfl, hb8⟩; have hz3 := hz0.trans (hb8.mono hz0.size); have hr8 := (hz3.block _ hlt7).trans HRX.out; obtain ⟨qf, -⟩ := cellsAt hr8; have f0 := qf 0; have f1 := qf 1; have f2 := qf 2; have f3 := qf 3; have f4 := qf 4; have f5 := qf 5; have f6 := qf 6; have f7 := qf 7; have f8 := qf 8; have f9 := qf 9; have f10 := qf 10; have f11 := qf 11; clear qf; clear hr8)
     | (go_at_call 16; (with_reducible refine (HL16.out _ hz3).mono ?_); rintro y w9 ⟨rfl, hb9⟩; have hz2 := hz3.trans (hb9.mono hz3.size); have hr9 := (hz2.block _ hlt7).trans HRX.out; obtain ⟨qg, -⟩ := cellsAt hr9; have g0 := qg 0; have g1 := qg 1; have g2 := qg 2; have g3 := qg 3; have g4 := qg 4; have g5 := qg 5; have g6 := qg 6; have g7 := qg 7; have g8 := qg 8; have g9 := qg 9; have g10 := qg 10; have g11 := qg 11; clear qg; clear hr9))
  all_goals go_wp2_with fail
  all_goals go_ret
  all_goals exact ⟨by simp, hbw7.trans (hz2.mono hbw7.size)⟩
end
end Go.Proofs.Ytofocdigbcdfaaa
