/- Records: contracts of usable, bare, and fits of the first two kinds. -/
import Derived.Test.YtofocdigbcdfaaaV2
namespace Go.Proofs.Ytofocdigbcdfaaa
open Go.RowKit Mem

/-- A record's plain fields. -/
structure Rc where
  kind : Int
  wall : Int
  client : Int
  seq : Int
  home : Int
  outcome : Int
  aw : Int
  al : Int
  an : Int
  image : ByteArray

/-- A record's cells. -/
def Rc.cells (r : Rc) (A B : Option Addr) (n m c e : Nat) : Array Value :=
  #[.int .i64 r.kind, .int .u64 r.wall, .int .u32 r.client, .int .u32 r.seq, .int .u32 r.home, .int .i64 r.outcome, .int .u64 r.aw, .int .u32 r.al, .int .u32 r.an, .slice A n c, .slice B m e, .string r.image]

def top : Int := 18446744073709551615

set_option maxHeartbeats 400000 in
theorem usable_any (aw al an : Int) (w : World) (b : Bool) (hb : decide (aw ≠ 18446744073709551615) = b) :
    Calls Try.prog 50 #[.agg #[.int .u64 aw, .int .u32 al, .int .u32 an]] w fun e w' => e = .returned (.bool b) ∧ Below w.heap.size w w' := by
  subst hb
  have hb : ∀ o, Below w.heap.size w (w.alloc o) := fun o => (Below.refl _ _).alloc (Nat.le_refl _) o
  by_cases h : aw = 18446744073709551615
  · subst h
    go_enter Try.func50, Try.ntmps50
    go_wp2_with fail
    go_ret
    exact ⟨ret_b (by decide), hb _⟩
  · have h' : (aw == 18446744073709551615) = false := beq_eq_false_iff_ne.2 h
    have HH := Lib.hid h
    clear h
    go_enter Try.func50, Try.ntmps50
    go_wp2_with fail
    go_ret
    exact ⟨ret_b (by have := HH.out; simp [this]), hb _⟩

/-- Are all fields zero? -/
def Bare (r : Rc) (n m : Nat) : Prop := r.wall = 0 ∧ (r.client = 0 ∧ r.seq = 0) ∧ r.home = 0 ∧ r.outcome = 0 ∧ (r.aw = 0 ∧ r.al = 0 ∧ r.an = 0) ∧ n = 0 ∧ m = 0 ∧ r.image.toList = []

set_option maxHeartbeats 1000000 in
theorem bare_any (r : Rc) (A B : Option Addr) (n m c e : Nat) (w : World) (b : Bool) (hb : b = true ↔ Bare r n m) :
    Calls Try.prog 36 #[.agg (r.cells A B n m c e)] w fun e w' => e = .returned (.bool b) ∧ Below w.heap.size w w' := by
  have hB : ∀ o, Below w.heap.size w (w.alloc o) := fun o => (Below.refl _ _).alloc (Nat.le_refl _) o
  have HB := Lib.hid hb
  clear hb
  obtain ⟨kind, wall, client, seq, home, outcome, aw, al, an, image⟩ := r
  unfold Rc.cells
  go_enter Try.func36, Try.ntmps36
  go_wp2_with fail
  all_goals go_ret
  all_goals refine ⟨ret_b ?_, hB _⟩
  all_goals rw [Bool.eq_iff_iff, HB.out]
  all_goals simp [Bare, *]

theorem Spans.only {w w' : World} {A : Option Addr} {l : List Sp} {S : Nat → Prop} (h : Spans w A l) (ho : Only S w w') (hn : ∀ k, blk A k → ¬ S k) : Spans w' A l := by
  refine ⟨fun k hk => ?_⟩
  obtain ⟨b, off, rfl, h2, h3, h4⟩ := h.at_ k hk
  have hb := hn b (by rw [blk_some])
  exact ⟨b, off, rfl, Nat.lt_of_lt_of_le h2 ho.size, (ho.cell (p := ⟨b, _, none⟩) h2 hb).trans h3, (ho.cell (p := ⟨b, _, none⟩) h2 hb).trans h4⟩
theorem Writes.only {w w' : World} {A : Option Addr} {l : List Wr} {S : Nat → Prop} (h : Writes w A l) (ho : Only S w w') (hn : ∀ k, blk A k → ¬ S k) : Writes w' A l := by
  refine ⟨fun k hk => ?_⟩
  obtain ⟨b, off, rfl, h2, h3, h4, h5⟩ := h.at_ k hk
  have hb := hn b (by rw [blk_some])
  exact ⟨b, off, rfl, Nat.lt_of_lt_of_le h2 ho.size, (ho.cell (p := ⟨b, _, none⟩) h2 hb).trans h3, (ho.cell (p := ⟨b, _, none⟩) h2 hb).trans h4, (ho.cell (p := ⟨b, _, none⟩) h2 hb).trans h5⟩

section
variable {w : World} {A B : Option Addr} {n m c e p : Nat} {ls : List Sp} {lw : List Wr} {wall client seq home outcome aw al an : Int} {image : ByteArray}

set_option maxRecDepth 100000 in
set_option maxHeartbeats 1000000 in
theorem fits_1 (hp : w.heap[p]? = some (.cells ((Rc.mk 1 wall client seq home outcome aw al an image).cells A B n m c e) 46 (0, 0))) :
    Calls Try.prog 35 #[.agg ((Rc.mk 1 wall client seq home outcome aw al an image).cells A B n m c e), .pointer (some ⟨p, 0, none⟩)] w fun y w' => y = .returned (.bool true) ∧
      w'.heap[p]? = some (.cells ((Rc.mk 1 0 client seq home outcome aw al an image).cells A B n m c e) 46 (0, 0)) ∧ Only (fun k => k = p) w w' := by
  have hlt : p < w.heap.size := (Array.getElem?_eq_some_iff.1 hp).1
  have hne : p ≠ w.heap.size := by omega
  have hp1 : ∀ o, (w.alloc o).heap[p]? = some (.cells ((Rc.mk 1 wall client seq home outcome aw al an image).cells A B n m c e) 46 (0, 0)) := fun o => (Below.heap_alloc w o p hlt).trans hp
  have ho : ∀ o, Only (fun k => k = p) w (w.alloc o) := fun o => (Only.refl _ _).alloc o
  unfold Rc.cells at *
  obtain ⟨qc, qf⟩ := cellsAt hp
  have q1 : w.cell? ⟨p, 1, none⟩ = some (.int .u64 wall) := qc 1
  have f1 := qf 1
  have HP := Lib.hid hp
  clear qc qf hp hp1 ho
  go_enter Try.func35, Try.ntmps35
  go_wp2_with fail
  go_ret
  exact ⟨rfl, (Below.heap_alloc _ _ p (by simpa [World.setCell] using hlt)).trans (by rw [row_set HP.out]; simp), ((Only.refl (fun k => k = p) w).setCell (fun _ => rfl) _).alloc _⟩

set_option maxRecDepth 100000 in
set_option maxHeartbeats 1000000 in
theorem fits_2 (hp : w.heap[p]? = some (.cells ((Rc.mk 2 wall client seq home outcome aw al an image).cells A B n m c e) 46 (0, 0)))
    (hs : Spans w A ls) (ht : Writes w B lw) (hA : ∀ k, blk A k → k ≠ p) (hB : ∀ k, blk B k → k ≠ p) (hn : ls.length = n) (hm : lw.length = m) (hn1 : n ≤ 9223372036854775807) (hm1 : m ≤ 9223372036854775807)
    (b : Bool) (hb : b = true ↔ (0 < seq ∧ aw ≠ 18446744073709551615 ∧ ReadsOk ls ∧ WritesOk lw ∧ 0 < n + m)) :
    Calls Try.prog 35 #[.agg ((Rc.mk 2 wall client seq home outcome aw al an image).cells A B n m c e), .pointer (some ⟨p, 0, none⟩)] w fun y w' => y = .returned (.bool b) ∧
      w'.heap[p]? = some (.cells ((Rc.mk 2 wall 0 0 0 outcome 0 0 0 image).cells none none 0 0 0 0) 46 (0, 0)) ∧ Only (fun k => k = p) w w' := by
  have hlt : p < w.heap.size := (Array.getElem?_eq_some_iff.1 hp).1
  have hne : p ≠ w.heap.size := by omega
  unfold Rc.cells at *
  obtain ⟨qc, qf⟩ := cellsAt hp
  have q2 : w.cell? ⟨p, 2, none⟩ = some (.int .u32 client) := qc 2
  have q3 : w.cell? ⟨p, 3, none⟩ = some (.int .u32 seq) := qc 3
  have q4 : w.cell? ⟨p, 4, none⟩ = some (.int .u32 home) := qc 4
  have q6 : w.cell? ⟨p, 6, none⟩ = some (.int .u64 aw) := qc 6
  have q7 : w.cell? ⟨p, 7, none⟩ = some (.int .u32 al) := qc 7
  have q8 : w.cell? ⟨p, 8, none⟩ = some (.int .u32 an) := qc 8
  have q9 : w.cell? ⟨p, 9, none⟩ = some (.slice A n c) := qc 9
  have q10 : w.cell? ⟨p, 10, none⟩ = some (.slice B m e) := qc 10
  have f2 := qf 2; have f3 := qf 3; have f4 := qf 4; have f6 := qf 6; have f7 := qf 7; have f8 := qf 8; have f9 := qf 9; have f10 := qf 10
  obtain ⟨W, hW⟩ : ∃ W, W = ((((((((w.setCell ⟨p, 2, none⟩ (.int .u32 0)).setCell ⟨p, 3, none⟩ (.int .u32 0)).setCell ⟨p, 4, none⟩ (.int .u32 0)).setCell ⟨p, 6, none⟩ (.int .u64 0)).setCell ⟨p, 7, none⟩ (.int .u32 0)).setCell ⟨p, 8, none⟩ (.int .u32 0)).setCell ⟨p, 9, none⟩ (.slice none 0 0)).setCell ⟨p, 10, none⟩ (.slice none 0 0)) := ⟨_, rfl⟩
  have hrow : W.heap[p]? = some (.cells #[.int .i64 2, .int .u64 wall, .int .u32 0, .int .u32 0, .int .u32 0, .int .i64 outcome, .int .u64 0, .int .u32 0, .int .u32 0, .slice none 0 0, .slice none 0 0, .string image] 46 (0, 0)) := by
    rw [hW, row_set (row_set (row_set (row_set (row_set (row_set (row_set (row_set hp)))))))]
    simp
  have hO : Only (fun k => k = p) w W := by
    rw [hW]
    exact (((((((((Only.refl (fun k => k = p) w).setCell (fun _ => rfl) _).setCell (fun _ => rfl) _).setCell (fun _ => rfl) _).setCell (fun _ => rfl) _).setCell (fun _ => rfl) _).setCell (fun _ => rfl) _).setCell (fun _ => rfl) _).setCell (fun _ => rfl) _)
  have hsz : W.heap.size = w.heap.size := by rw [hW]; simp [World.setCell]
  have HW := Lib.hid hW
  clear qc qf hp hW
  have HB := Lib.hid hb
  clear hb
  go_enter Try.func35, Try.ntmps35
  go_upto_region 7 with fail
  rw [← HW.out]
  have hr5' : (W.alloc (.cells #[.int .i64 2, .int .u64 wall, .int .u32 client, .int .u32 seq, .int .u32 home, .int .i64 outcome, .int .u64 aw, .int .u32 al, .int .u32 an, .slice A n c, .slice B m e, .string image] 46)).heap[w.heap.size]? = some (.cells #[.int .i64 2, .int .u64 wall, .int .u32 client, .int .u32 seq, .int .u32 home, .int .i64 outcome, .int .u64 aw, .int .u32 al, .int .u32 an, .slice A n c, .slice B m e, .string image] 46) := by have := heap_alloc_new W (.cells #[.int .i64 2, .int .u64 wall, .int .u32 client, .int .u32 seq, .int .u32 home, .int .i64 outcome, .int .u64 aw, .int .u32 al, .int .u32 an, .slice A n c, .slice B m e, .string image] 46); rwa [hsz] at this
  have hp5' : (W.alloc (.cells #[.int .i64 2, .int .u64 wall, .int .u32 client, .int .u32 seq, .int .u32 home, .int .i64 outcome, .int .u64 aw, .int .u32 al, .int .u32 an, .slice A n c, .slice B m e, .string image] 46)).heap[p]? = _ := (Below.heap_alloc W _ p (by omega)).trans hrow
  have hO5' := hO.alloc (.cells #[.int .i64 2, .int .u64 wall, .int .u32 client, .int .u32 seq, .int .u32 home, .int .i64 outcome, .int .u64 aw, .int .u32 al, .int .u32 an, .slice A n c, .slice B m e, .string image] 46)
  have hs5' := hs.only hO5' (fun k hk => hA k hk)
  have ht5' := ht.only hO5' (fun k hk => hB k hk)
  have hlt5' : w.heap.size < (W.alloc (.cells #[.int .i64 2, .int .u64 wall, .int .u32 client, .int .u32 seq, .int .u32 home, .int .i64 outcome, .int .u64 aw, .int .u32 al, .int .u32 an, .slice A n c, .slice B m e, .string image] 46)).heap.size := by simp [hsz]
  generalize W.alloc (.cells #[.int .i64 2, .int .u64 wall, .int .u32 client, .int .u32 seq, .int .u32 home, .int .i64 outcome, .int .u64 aw, .int .u32 al, .int .u32 an, .slice A n c, .slice B m e, .string image] 46) = w5 at *
  have hr5 := hr5'; have hp5 := hp5'; have hO5 := hO5'; have hs5 := hs5'; have ht5 := ht5'; have hlt5 := hlt5'
  clear hr5' hp5' hO5' hs5' ht5' hlt5' hrow hO HW hsz hs ht
  have hplt5 : p < w5.heap.size := by omega
  have x3 : w5.cell? ⟨w.heap.size, 3, none⟩ = some (.int .u32 seq) := (cellsAt hr5).1 3; have x6 : w5.cell? ⟨w.heap.size, 6, none⟩ = some (.int .u64 aw) := (cellsAt hr5).1 6; have x7 : w5.cell? ⟨w.heap.size, 7, none⟩ = some (.int .u32 al) := (cellsAt hr5).1 7; have x8 : w5.cell? ⟨w.heap.size, 8, none⟩ = some (.int .u32 an) := (cellsAt hr5).1 8; have x9 : w5.cell? ⟨w.heap.size, 9, none⟩ = some (.slice A n c) := (cellsAt hr5).1 9; have x10 : w5.cell? ⟨w.heap.size, 10, none⟩ = some (.slice B m e) := (cellsAt hr5).1 10
  by_cases h1 : 0 < seq
  · by_cases hUd : aw = 18446744073709551615
    · subst hUd
      go_wp2_with (first
           | (go_at_call 50; refine (usable_any _ al an w5 false (by decide)).mono ?_; rintro y w6 ⟨rfl, hb6⟩; have hr6 := (hb6.block _ hlt5).trans hr5; have z9 : w6.cell? ⟨w.heap.size, 9, none⟩ = some (.slice A n c) := (cellsAt hr6).1 9; have z10 : w6.cell? ⟨w.heap.size, 10, none⟩ = some (.slice B m e) := (cellsAt hr6).1 10))
      go_ret
      exact ⟨ret_b (by rw [Bool.eq_iff_iff, HB.out]; simp), (hb6.block p hplt5).trans hp5, hO5.trans (Only.of_below (S := fun _ => False) hb6) (fun _ _ h => h.elim)⟩
    · by_cases hRd : ReadsOk ls
      · have hn16 : (n : Int) ≤ 16 := by have := hRd.2; omega
        by_cases hWd : WritesOk lw
        · have hm16 : (m : Int) ≤ 16 := by have := hWd.2; omega
          by_cases h0 : 0 < (n : Int) + (m : Int)
          · have hg : b = true := HB.out.2 ⟨h1, hUd, hRd, hWd, by omega⟩
            have HG := Lib.hid hg
            clear hg
            go_wp2_with (first
                 | (go_at_call 50; refine (usable_any aw al an w5 true (decide_eq_true hUd)).mono ?_; rintro y w6 ⟨rfl, hb6⟩; have hr6 := (hb6.block _ hlt5).trans hr5; have z9 : w6.cell? ⟨w.heap.size, 9, none⟩ = some (.slice A n c) := (cellsAt hr6).1 9; have z10 : w6.cell? ⟨w.heap.size, 10, none⟩ = some (.slice B m e) := (cellsAt hr6).1 10)
                 | (go_at_call 51; refine (readsOK_any (hs5.below hb6) hn hn1 true (iff_of_true rfl hRd)).mono ?_; rintro y w7 ⟨rfl, hb7'⟩; have hb7 := hb6.trans (hb7'.mono hb6.size); have hr7 := (hb7.block _ hlt5).trans hr5; have y9 : w7.cell? ⟨w.heap.size, 9, none⟩ = some (.slice A n c) := (cellsAt hr7).1 9; have y10 : w7.cell? ⟨w.heap.size, 10, none⟩ = some (.slice B m e) := (cellsAt hr7).1 10)
                 | (go_at_call 52; refine (writesOK_any (ht5.below hb7) hm hm1 true (iff_of_true rfl hWd)).mono ?_; rintro y w8 ⟨rfl, hb8'⟩; have hb8 := hb7.trans (hb8'.mono hb7.size); have hr8 := (hb8.block _ hlt5).trans hr5; have v9 : w8.cell? ⟨w.heap.size, 9, none⟩ = some (.slice A n c) := (cellsAt hr8).1 9; have v10 : w8.cell? ⟨w.heap.size, 10, none⟩ = some (.slice B m e) := (cellsAt hr8).1 10))
            go_ret
            exact ⟨ret_b (HG.out.symm), (hb8.block p hplt5).trans hp5, hO5.trans (Only.of_below (S := fun _ => False) hb8) (fun _ _ h => h.elim)⟩
          · have hg : b = false := by rw [← Bool.not_eq_true, HB.out]; rintro ⟨_, _, _, _, h⟩; omega
            have HG := Lib.hid hg
            clear hg
            have h0' : decide (0 < (n : Int) + (m : Int)) = false := decide_eq_false h0
            go_wp2_with (first
                 | (go_at_call 50; refine (usable_any aw al an w5 true (decide_eq_true hUd)).mono ?_; rintro y w6 ⟨rfl, hb6⟩; have hr6 := (hb6.block _ hlt5).trans hr5; have z9 : w6.cell? ⟨w.heap.size, 9, none⟩ = some (.slice A n c) := (cellsAt hr6).1 9; have z10 : w6.cell? ⟨w.heap.size, 10, none⟩ = some (.slice B m e) := (cellsAt hr6).1 10)
                 | (go_at_call 51; refine (readsOK_any (hs5.below hb6) hn hn1 true (iff_of_true rfl hRd)).mono ?_; rintro y w7 ⟨rfl, hb7'⟩; have hb7 := hb6.trans (hb7'.mono hb6.size); have hr7 := (hb7.block _ hlt5).trans hr5; have y9 : w7.cell? ⟨w.heap.size, 9, none⟩ = some (.slice A n c) := (cellsAt hr7).1 9; have y10 : w7.cell? ⟨w.heap.size, 10, none⟩ = some (.slice B m e) := (cellsAt hr7).1 10)
                 | (go_at_call 52; refine (writesOK_any (ht5.below hb7) hm hm1 true (iff_of_true rfl hWd)).mono ?_; rintro y w8 ⟨rfl, hb8'⟩; have hb8 := hb7.trans (hb8'.mono hb7.size); have hr8 := (hb8.block _ hlt5).trans hr5; have v9 : w8.cell? ⟨w.heap.size, 9, none⟩ = some (.slice A n c) := (cellsAt hr8).1 9; have v10 : w8.cell? ⟨w.heap.size, 10, none⟩ = some (.slice B m e) := (cellsAt hr8).1 10))
            go_ret
            exact ⟨ret_b (HG.out.symm), (hb8.block p hplt5).trans hp5, hO5.trans (Only.of_below (S := fun _ => False) hb8) (fun _ _ h => h.elim)⟩
        · go_wp2_with (first
               | (go_at_call 50; refine (usable_any aw al an w5 true (decide_eq_true hUd)).mono ?_; rintro y w6 ⟨rfl, hb6⟩; have hr6 := (hb6.block _ hlt5).trans hr5; have z9 : w6.cell? ⟨w.heap.size, 9, none⟩ = some (.slice A n c) := (cellsAt hr6).1 9; have z10 : w6.cell? ⟨w.heap.size, 10, none⟩ = some (.slice B m e) := (cellsAt hr6).1 10)
               | (go_at_call 51; refine (readsOK_any (hs5.below hb6) hn hn1 true (iff_of_true rfl hRd)).mono ?_; rintro y w7 ⟨rfl, hb7'⟩; have hb7 := hb6.trans (hb7'.mono hb6.size); have hr7 := (hb7.block _ hlt5).trans hr5; have y9 : w7.cell? ⟨w.heap.size, 9, none⟩ = some (.slice A n c) := (cellsAt hr7).1 9; have y10 : w7.cell? ⟨w.heap.size, 10, none⟩ = some (.slice B m e) := (cellsAt hr7).1 10)
               | (go_at_call 52; refine (writesOK_any (ht5.below hb7) hm hm1 false (iff_of_false Bool.false_ne_true hWd)).mono ?_; rintro y w8 ⟨rfl, hb8'⟩; have hb8 := hb7.trans (hb8'.mono hb7.size); have hr8 := (hb8.block _ hlt5).trans hr5; have v9 : w8.cell? ⟨w.heap.size, 9, none⟩ = some (.slice A n c) := (cellsAt hr8).1 9; have v10 : w8.cell? ⟨w.heap.size, 10, none⟩ = some (.slice B m e) := (cellsAt hr8).1 10))
          go_ret
          exact ⟨ret_b (by rw [Bool.eq_iff_iff, HB.out]; simp [hWd]), (hb8.block p hplt5).trans hp5, hO5.trans (Only.of_below (S := fun _ => False) hb8) (fun _ _ h => h.elim)⟩
      · go_wp2_with (first
             | (go_at_call 50; refine (usable_any aw al an w5 true (decide_eq_true hUd)).mono ?_; rintro y w6 ⟨rfl, hb6⟩; have hr6 := (hb6.block _ hlt5).trans hr5; have z9 : w6.cell? ⟨w.heap.size, 9, none⟩ = some (.slice A n c) := (cellsAt hr6).1 9; have z10 : w6.cell? ⟨w.heap.size, 10, none⟩ = some (.slice B m e) := (cellsAt hr6).1 10)
             | (go_at_call 51; refine (readsOK_any (hs5.below hb6) hn hn1 false (iff_of_false Bool.false_ne_true hRd)).mono ?_; rintro y w7 ⟨rfl, hb7'⟩; have hb7 := hb6.trans (hb7'.mono hb6.size); have hr7 := (hb7.block _ hlt5).trans hr5; have y9 : w7.cell? ⟨w.heap.size, 9, none⟩ = some (.slice A n c) := (cellsAt hr7).1 9; have y10 : w7.cell? ⟨w.heap.size, 10, none⟩ = some (.slice B m e) := (cellsAt hr7).1 10))
        go_ret
        exact ⟨ret_b (by rw [Bool.eq_iff_iff, HB.out]; simp [hRd]), (hb7.block p hplt5).trans hp5, hO5.trans (Only.of_below (S := fun _ => False) hb7) (fun _ _ h => h.elim)⟩
  · go_wp2_with fail
    go_ret
    exact ⟨ret_b (by rw [Bool.eq_iff_iff, HB.out]; simp; intro h; omega), hp5, hO5⟩
end
end Go.Proofs.Ytofocdigbcdfaaa
