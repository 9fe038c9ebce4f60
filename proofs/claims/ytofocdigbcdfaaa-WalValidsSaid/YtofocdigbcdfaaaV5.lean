/- The contract of wal.Valid. -/
import Derived.Test.YtofocdigbcdfaaaV4
namespace Go.Proofs.Ytofocdigbcdfaaa
open Go.RowKit Mem
section
variable {w : World} {A B A' B' : Option Addr} {n m c e n' m' c' e' : Nat}

set_option maxRecDepth 100000 in
set_option maxHeartbeats 1000000 in
theorem valid_core (r r' : Rc) (bf bb : Bool)
    (hf : ∀ w2, Below w.heap.size w w2 → w2.heap[w.heap.size + 1]? = some (.cells (r.cells A B n m c e) 46 (0, 0)) →
      Calls Try.prog 35 #[.agg (r.cells A B n m c e), .pointer (some ⟨w.heap.size + 1, 0, none⟩)] w2 fun y w' => y = .returned (.bool bf) ∧ (bf = true → w'.heap[w.heap.size + 1]? = some (.cells (r'.cells A' B' n' m' c' e') 46 (0, 0))) ∧ Only (fun k => k = w.heap.size + 1) w2 w')
    (hb : bb = true ↔ Bare r' n' m') (x : Int) (hx : (if (bf && bb) = true then (0 : Int) else 70) = x) :
    Calls Try.prog 16 #[.agg (r.cells A B n m c e)] w fun y w' => y = .returned (.int .i64 x) ∧ Below w.heap.size w w' := by
  have HF := Lib.hid hf
  have HB := Lib.hid hb
  have HX := Lib.hid hx
  clear hf hb hx
  have hrow : ((w.alloc (.cells (r.cells A B n m c e) 46)).alloc (.cells (r.cells A B n m c e) 46)).heap[w.heap.size + 1]? = some (.cells (r.cells A B n m c e) 46 (0, 0)) := by
    have := heap_alloc_new (w.alloc (.cells (r.cells A B n m c e) 46)) (.cells (r.cells A B n m c e) 46); rwa [World.size_alloc] at this
  have hbw : Below w.heap.size w ((w.alloc (.cells (r.cells A B n m c e) 46)).alloc (.cells (r.cells A B n m c e) 46)) := ((Below.refl _ _).alloc (Nat.le_refl _) _).alloc (by simp) _
  have hC := HF.out _ hbw hrow
  have hsz : w.heap.size + 2 ≤ ((w.alloc (.cells (r.cells A B n m c e) 46)).alloc (.cells (r.cells A B n m c e) 46)).heap.size := by simp
  have HC := Lib.hid hC
  clear hrow hC
  obtain ⟨kind, wall, client, seq, home, outcome, aw, al, an, image⟩ := r
  obtain ⟨kind', wall', client', seq', home', outcome', aw', al', an', image'⟩ := r'
  cases bf with
  | false =>
    unfold Rc.cells at *
    go_enter Try.func16, Try.ntmps16
    go_wp2_with (first | (go_at_call 35; refine HC.out.mono ?_; rintro y w3 ⟨rfl, -, ho⟩))
    go_ret
    exact ⟨by rw [← HX.out]; rfl, hbw.trans (ho.below (by omega) (fun k hk => by omega))⟩
  | true =>
    unfold Rc.cells at *
    cases bb with
    | false =>
      have hbn : ¬ Bare ⟨kind', wall', client', seq', home', outcome', aw', al', an', image'⟩ n' m' := fun h => Bool.false_ne_true (HB.out.2 h)
      have HBN := Lib.hid hbn
      clear hbn HB
      go_enter Try.func16, Try.ntmps16
      go_wp2_with (first | (go_at_call 35; refine HC.out.mono ?_; rintro y w3 ⟨rfl, hr, ho⟩; obtain ⟨qc, -⟩ := cellsAt (hr rfl); have z0 := qc 0; have z1 := qc 1; have z2 := qc 2; have z3 := qc 3; have z4 := qc 4; have z5 := qc 5; have z6 := qc 6; have z7 := qc 7; have z8 := qc 8; have z9 := qc 9; have z10 := qc 10; have z11 := qc 11) | (go_at_call 36; refine (bare_any ⟨kind', wall', client', seq', home', outcome', aw', al', an', image'⟩ A' B' n' m' c' e' _ false (iff_of_false Bool.false_ne_true HBN.out)).mono ?_; rintro y w4 ⟨rfl, hb4⟩))
      go_ret
      exact ⟨by rw [← HX.out]; rfl, (hbw.trans (ho.below (by omega) (fun k hk => by omega))).trans (hb4.mono (by have := ho.size; omega))⟩
    | true =>
      have hbn : Bare ⟨kind', wall', client', seq', home', outcome', aw', al', an', image'⟩ n' m' := HB.out.1 rfl
      have HBN := Lib.hid hbn
      clear hbn HB
      go_enter Try.func16, Try.ntmps16
      go_wp2_with (first | (go_at_call 35; refine HC.out.mono ?_; rintro y w3 ⟨rfl, hr, ho⟩; obtain ⟨qc, -⟩ := cellsAt (hr rfl); have z0 := qc 0; have z1 := qc 1; have z2 := qc 2; have z3 := qc 3; have z4 := qc 4; have z5 := qc 5; have z6 := qc 6; have z7 := qc 7; have z8 := qc 8; have z9 := qc 9; have z10 := qc 10; have z11 := qc 11) | (go_at_call 36; refine (bare_any ⟨kind', wall', client', seq', home', outcome', aw', al', an', image'⟩ A' B' n' m' c' e' _ true (iff_of_true rfl HBN.out)).mono ?_; rintro y w4 ⟨rfl, hb4⟩))
      go_ret
      exact ⟨by rw [← HX.out]; rfl, (hbw.trans (ho.below (by omega) (fun k hk => by omega))).trans (hb4.mono (by have := ho.size; omega))⟩

/-- P7.1: what Valid says of any record. -/
theorem valid_any (r : Rc) {ls : List Sp} {lw : List Wr} (hs : Spans w A ls) (ht : Writes w B lw) (hn : ls.length = n) (hm : lw.length = m) (hn1 : n ≤ 9223372036854775807) (hm1 : m ≤ 9223372036854775807)
    (hA : ∀ k, blk A k → k < w.heap.size) (hB : ∀ k, blk B k → k < w.heap.size) (x : Int) (h0 : r.Fits ls lw → x = 0) (h1 : ¬ r.Fits ls lw → x = 70) :
    Calls Try.prog 16 #[.agg (r.cells A B n m c e)] w fun y w' => y = .returned (.int .i64 x) ∧ Below w.heap.size w w' := by
  obtain ⟨kind, wall, client, seq, home, outcome, aw, al, an, image⟩ := r
  have key : ∀ (bf bb : Bool), ((bf = true ∧ bb = true) ↔ Rc.Fits ⟨kind, wall, client, seq, home, outcome, aw, al, an, image⟩ ls lw) → (if (bf && bb) = true then (0 : Int) else 70) = x := fun bf bb h => by
    by_cases hv : bf = true ∧ bb = true
    · rw [if_pos (by simp [hv]), h0 (h.1 hv)]
    · rw [if_neg (by simpa using hv), h1 (fun h' => hv (h.2 h'))]
  have dec : ∀ P : Prop, ∃ b : Bool, b = true ↔ P := fun P => ⟨@decide P (Classical.propDecidable P), @decide_eq_true_iff P (Classical.propDecidable P)⟩
  by_cases k1 : kind = 1
  · subst k1
    obtain ⟨bb, hbb⟩ := dec (Bare ⟨1, 0, client, seq, home, outcome, aw, al, an, image⟩ n m)
    exact valid_core _ ⟨1, 0, client, seq, home, outcome, aw, al, an, image⟩ true bb (fun w2 _ hr => (fits_1 hr).mono fun y w' ⟨a, b, c⟩ => ⟨a, fun _ => b, c⟩) hbb x (key _ _ (by rw [hbb]; simp [Rc.Fits, Bare, hn, hm]))
  by_cases k2 : kind = 2
  · subst k2
    obtain ⟨bf, hbf⟩ := dec (0 < seq ∧ aw ≠ 18446744073709551615 ∧ ReadsOk ls ∧ WritesOk lw ∧ 0 < n + m)
    obtain ⟨bb, hbb⟩ := dec (Bare ⟨2, wall, 0, 0, 0, outcome, 0, 0, 0, image⟩ 0 0)
    exact valid_core _ ⟨2, wall, 0, 0, 0, outcome, 0, 0, 0, image⟩ bf bb (fun w2 hb hr => (fits_2 hr (hs.below hb) (ht.below hb) (fun k hk => by have := hA k hk; omega) (fun k hk => by have := hB k hk; omega) hn hm hn1 hm1 bf hbf).mono fun y w' ⟨a, b, c⟩ => ⟨a, fun _ => b, c⟩) hbb x (key _ _ (by rw [hbf, hbb]; simp [Rc.Fits, Bare, hn, hm]))
  by_cases k3 : kind = 3
  · subst k3
    obtain ⟨bf, hbf⟩ := dec (if outcome = 2 then 0 < seq ∧ aw = 0 ∧ al = 0 ∧ an = 0 else 0 < seq ∧ outcome = 1 ∧ aw ≠ 18446744073709551615)
    obtain ⟨bb, hbb⟩ := dec (Bare ⟨3, wall, 0, 0, 0, 0, 0, 0, 0, image⟩ n m)
    exact valid_core _ ⟨3, wall, 0, 0, 0, 0, 0, 0, 0, image⟩ bf bb (fun w2 hb hr => (fits_3 hr bf hbf).mono fun y w' ⟨a, b, c⟩ => ⟨a, fun _ => b, c⟩) hbb x (key _ _ (by rw [hbf, hbb]; simp [Rc.Fits, Bare, hn, hm]))
  by_cases k4 : kind = 4
  · subst k4
    obtain ⟨bf, hbf⟩ := dec (aw ≠ 18446744073709551615)
    obtain ⟨bb, hbb⟩ := dec (Bare ⟨4, wall, client, seq, home, outcome, 0, 0, 0, image⟩ n m)
    exact valid_core _ ⟨4, wall, client, seq, home, outcome, 0, 0, 0, image⟩ bf bb (fun w2 hb hr => (fits_4 hr bf hbf).mono fun y w' ⟨a, b, c⟩ => ⟨a, fun _ => b, c⟩) hbb x (key _ _ (by rw [hbf, hbb]; simp [Rc.Fits, Bare, hn, hm]))
  by_cases k5 : kind = 5
  · subst k5
    obtain ⟨bb, hbb⟩ := dec (Bare ⟨5, wall, client, seq, home, outcome, aw, al, an, ⟨#[]⟩⟩ n m)
    exact valid_core _ ⟨5, wall, client, seq, home, outcome, aw, al, an, ⟨#[]⟩⟩ (decide ((image.size : Int) ≤ 1048560)) bb (fun w2 hb hr => (fits_5 hr).mono fun y w' ⟨a, b, c⟩ => ⟨a, fun _ => b, c⟩) hbb x (key _ _ (by rw [hbb]; simp [Rc.Fits, Bare, hn, hm, Lib.toList_data]))
  · obtain ⟨bb, hbb⟩ := dec (Bare ⟨kind, wall, client, seq, home, outcome, aw, al, an, image⟩ n m)
    exact valid_core _ ⟨kind, wall, client, seq, home, outcome, aw, al, an, image⟩ (A' := A) (B' := B) (c' := c) (e' := e) false bb (fun w2 hb hr => (fits_no (p := w.heap.size + 1) k1 k2 k3 k4 k5).mono fun y w' ⟨a, b⟩ => ⟨a, fun h => (Bool.false_ne_true h).elim, Only.of_below b⟩) hbb x (key _ _ (by simp [Rc.Fits, k1, k2, k3, k4, k5]))
end
end Go.Proofs.Ytofocdigbcdfaaa
