/- Contracts of the document's valid and Valid. -/
import Derived.Test.YtofocdigbcdfaaaV9
namespace Go.Proofs.Ytofocdigbcdfaaa
open Go.RowKit Mem

theorem dec_of (P : Prop) : ∃ b : Bool, b = true ↔ P := ⟨@decide P (Classical.propDecidable P), @decide_eq_true_iff P (Classical.propDecidable P)⟩
theorem Spans.none (w : World) : Spans w none [] := ⟨fun k hk => absurd hk (by simp)⟩
theorem Writes.none (w : World) : Writes w none [] := ⟨fun k hk => absurd hk (by simp)⟩

section
variable {w : World} {A B : Option Addr} {n m c e : Nat} {ls : List Sp} {lw : List Wr}

theorem img_nil {x : ByteArray} (h : x.toList = (⟨#[]⟩ : ByteArray).toList) : x.toList = [] := by rw [h]; simp [Lib.toList_data]

/-- P7.1: what the document's valid says of any record. -/
theorem dvalid_any (r : Rc) (hs : Spans w A ls) (ht : Writes w B lw) (hn : ls.length = n) (hm : lw.length = m) (hn1 : n ≤ 9223372036854775807) (hm1 : m ≤ 9223372036854775807)
    (hq : 0 ≤ r.seq) (b : Bool) (hb : b = true ↔ r.Fits ls lw) :
    Calls Try.prog 37 #[.agg (r.cells A B n m c e)] w fun y w' => y = .returned (.bool b) ∧ Below w.heap.size w w' := by
  obtain ⟨kind, wall, client, seq, home, outcome, aw, al, an, image⟩ := r
  have e0 : (⟨#[]⟩ : ByteArray).toList = [] := by simp [Lib.toList_data]
  have same0 : ∀ (r x : Rc) (b' : Bool), (b' = true ↔ (r.same x ∧ ls = [] ∧ lw = [])) → ∀ w2, Below w.heap.size w w2 → Calls Try.prog 38 #[.agg (r.cells A B n m c e), .agg (x.cells none none 0 0 0 0)] w2 fun y w' => y = .returned (.bool b') ∧ Below w2.heap.size w2 w' :=
    fun r x b' h w2 hw => same_any r x (hs.below hw) (ht.below hw) (Spans.none _) (Writes.none _) hn hm rfl rfl hn1 hm1 (Nat.zero_le _) (Nat.zero_le _) b' h
  have l0 : ls.length = 0 ↔ ls = [] := List.length_eq_zero_iff
  have m0 : lw.length = 0 ↔ lw = [] := List.length_eq_zero_iff
  by_cases k1 : kind = 1
  · subst k1
    obtain ⟨b', hb'⟩ := dec_of (Rc.same ⟨1, wall, client, seq, home, outcome, aw, al, an, image⟩ ⟨1, wall, 0, 0, 0, 0, 0, 0, 0, ⟨#[]⟩⟩ ∧ ls = [] ∧ lw = [])
    have h := same0 _ _ b' hb'
    cases b' with
    | false =>
      obtain rfl : b = false := by
        rw [← Bool.not_eq_true, hb]; intro hf; exact Bool.false_ne_true (hb'.2 (by simp [Rc.Fits, Rc.same, e0, l0, m0] at hf ⊢; simp [hf]))
      exact dvalid_no ⟨1, wall, 0, 0, 0, 0, 0, 0, 0, ⟨#[]⟩⟩ (fun w => named_1) h
    | true =>
      obtain rfl : b = true := by
        rw [hb]; have hsame := hb'.1 rfl; simp [Rc.Fits, Rc.same, e0, l0, m0] at hsame ⊢; simp [hsame]
      exact dvalid_1 ⟨1, wall, 0, 0, 0, 0, 0, 0, 0, ⟨#[]⟩⟩ (fun w => named_1) h
  by_cases k2 : kind = 2
  · subst k2
    obtain ⟨b', hb'⟩ := dec_of (Rc.same ⟨2, wall, client, seq, home, outcome, aw, al, an, image⟩ ⟨2, 0, client, seq, home, 0, aw, al, an, ⟨#[]⟩⟩ ∧ ls = ls ∧ lw = lw)
    have h : ∀ w2, Below w.heap.size w w2 → Calls Try.prog 38 #[.agg ((Rc.mk 2 wall client seq home outcome aw al an image).cells A B n m c e), .agg ((Rc.mk 2 0 client seq home 0 aw al an ⟨#[]⟩).cells A B n m c e)] w2 fun y w' => y = .returned (.bool b') ∧ Below w2.heap.size w2 w' :=
      fun w2 hw => same_any _ _ (hs.below hw) (ht.below hw) (hs.below hw) (ht.below hw) hn hm hn hm hn1 hm1 hn1 hm1 b' hb'
    cases b' with
    | false =>
      obtain rfl : b = false := by
        rw [← Bool.not_eq_true, hb]; intro hf; exact Bool.false_ne_true (hb'.2 (by simp [Rc.Fits, Rc.same, e0] at hf ⊢; simp [hf]))
      exact dvalid_no2 ⟨2, 0, client, seq, home, 0, aw, al, an, ⟨#[]⟩⟩ (fun w => named_2) h
    | true =>
      have hsame := hb'.1 rfl
      by_cases hR : ReadsOk ls
      · obtain ⟨wb, hwb⟩ := dec_of (WritesOk lw)
        exact dvalid_2t ⟨2, 0, client, seq, home, 0, aw, al, an, ⟨#[]⟩⟩ (fun w => named_2) h hR wb hwb hs ht hn hm hn1 hm1 hq b (by
          rw [hb, hwb]; simp [Rc.Fits, Rc.same, e0] at hsame ⊢; simp [hsame, hn, hm, hR])
      · obtain rfl : b = false := by
          rw [← Bool.not_eq_true, hb]; intro hf; simp [Rc.Fits, hR] at hf
        exact dvalid_2f ⟨2, 0, client, seq, home, 0, aw, al, an, ⟨#[]⟩⟩ (fun w => named_2) h hR hs hn hn1
  by_cases k3 : kind = 3
  · subst k3
    obtain ⟨b', hb'⟩ := dec_of (Rc.same ⟨3, wall, client, seq, home, outcome, aw, al, an, image⟩ ⟨3, 0, client, seq, home, outcome, aw, al, an, ⟨#[]⟩⟩ ∧ ls = [] ∧ lw = [])
    have h := same0 _ _ b' hb'
    cases b' with
    | false =>
      obtain rfl : b = false := by
        rw [← Bool.not_eq_true, hb]; intro hf; exact Bool.false_ne_true (hb'.2 (by simp [Rc.Fits, Rc.same, e0, l0, m0] at hf ⊢; simp [hf]))
      exact dvalid_no ⟨3, 0, client, seq, home, outcome, aw, al, an, ⟨#[]⟩⟩ (fun w => named_3) h
    | true =>
      have hsame := hb'.1 rfl
      exact dvalid_3 ⟨3, 0, client, seq, home, outcome, aw, al, an, ⟨#[]⟩⟩ (fun w => named_3) h b (by
        rw [hb]; simp [Rc.Fits, Rc.same, e0, l0, m0] at hsame ⊢; simp [hsame]) hq
  by_cases k4 : kind = 4
  · subst k4
    obtain ⟨b', hb'⟩ := dec_of (Rc.same ⟨4, wall, client, seq, home, outcome, aw, al, an, image⟩ ⟨4, 0, 0, 0, 0, 0, aw, al, an, ⟨#[]⟩⟩ ∧ ls = [] ∧ lw = [])
    have h := same0 _ _ b' hb'
    cases b' with
    | false =>
      obtain rfl : b = false := by
        rw [← Bool.not_eq_true, hb]; intro hf; exact Bool.false_ne_true (hb'.2 (by simp [Rc.Fits, Rc.same, e0, l0, m0] at hf ⊢; simp [hf]))
      exact dvalid_no ⟨4, 0, 0, 0, 0, 0, aw, al, an, ⟨#[]⟩⟩ (fun w => named_4) h
    | true =>
      have hsame := hb'.1 rfl
      exact dvalid_4 ⟨4, 0, 0, 0, 0, 0, aw, al, an, ⟨#[]⟩⟩ (fun w => named_4) h b (by
        rw [hb]; simp [Rc.Fits, Rc.same, e0, l0, m0] at hsame ⊢; simp [hsame])
  by_cases k5 : kind = 5
  · subst k5
    obtain ⟨b', hb'⟩ := dec_of (Rc.same ⟨5, wall, client, seq, home, outcome, aw, al, an, image⟩ ⟨5, 0, 0, 0, 0, 0, 0, 0, 0, image⟩ ∧ ls = [] ∧ lw = [])
    have h := same0 _ _ b' hb'
    cases b' with
    | false =>
      obtain rfl : b = false := by
        rw [← Bool.not_eq_true, hb]; intro hf; exact Bool.false_ne_true (hb'.2 (by simp [Rc.Fits, Rc.same, l0, m0] at hf ⊢; simp [hf]))
      exact dvalid_no ⟨5, 0, 0, 0, 0, 0, 0, 0, 0, image⟩ (fun w => named_5) h
    | true =>
      have hsame := hb'.1 rfl
      obtain rfl : b = decide ((image.size : Int) ≤ 1048560) := by
        rw [Bool.eq_iff_iff, hb]; simp [Rc.Fits, Rc.same, l0, m0] at hsame ⊢; simp [hsame]
      exact dvalid_5 ⟨5, 0, 0, 0, 0, 0, 0, 0, 0, image⟩ (fun w => named_5) h
  · obtain rfl : b = false := by
      rw [← Bool.not_eq_true, hb]; intro hf; simp [Rc.Fits, k1, k2, k3, k4, k5] at hf
    obtain ⟨b', hb'⟩ := dec_of (Rc.same ⟨kind, wall, client, seq, home, outcome, aw, al, an, image⟩ ⟨0, 0, 0, 0, 0, 0, 0, 0, 0, ⟨#[]⟩⟩ ∧ ls = [] ∧ lw = [])
    have h := same0 _ _ b' hb'
    cases b' with
    | false => exact dvalid_no ⟨0, 0, 0, 0, 0, 0, 0, 0, 0, ⟨#[]⟩⟩ (fun w => named_no k1 k2 k3 k4 k5) h
    | true => exact dvalid_other ⟨0, 0, 0, 0, 0, 0, 0, 0, 0, ⟨#[]⟩⟩ (fun w => named_no k1 k2 k3 k4 k5) h k1 k2 k3 k4 k5

/-- P7.1: what the document's Valid says of any record. -/
theorem rvalid_any (r : Rc) (hs : Spans w A ls) (ht : Writes w B lw) (hn : ls.length = n) (hm : lw.length = m) (hn1 : n ≤ 9223372036854775807) (hm1 : m ≤ 9223372036854775807)
    (hq : 0 ≤ r.seq) (x : Int) (h0 : r.Fits ls lw → x = 0) (h1 : ¬ r.Fits ls lw → x = 70) :
    Calls Try.prog 17 #[.agg (r.cells A B n m c e)] w fun y w' => y = .returned (.int .i64 x) ∧ Below w.heap.size w w' := by
  obtain ⟨b, hb⟩ := dec_of (r.Fits ls lw)
  have hbw : ∀ o, Below w.heap.size w (w.alloc o) := fun o => (Below.refl _ _).alloc (Nat.le_refl _) o
  have hx : (if b = true then (0 : Int) else 70) = x := by
    by_cases hv : r.Fits ls lw
    · rw [if_pos (hb.2 hv), h0 hv]
    · rw [if_neg (fun h => hv (hb.1 h)), h1 hv]
  have hC := fun o => dvalid_any (w := w.alloc o) (c := c) (e := e) r (hs.below (hbw o)) (ht.below (hbw o)) hn hm hn1 hm1 hq b hb
  have HC := Lib.hid hC; have HX := Lib.hid hx
  clear hC hx hb h0 h1
  obtain ⟨kind, wall, client, seq, home, outcome, aw, al, an, image⟩ := r
  unfold Rc.cells at *
  cases b with
  | false =>
    go_enter Try.func17, Try.ntmps17
    go_wp2_with (first | (go_at_call 37; refine (HC.out _).mono ?_; rintro y w3 ⟨rfl, hb3⟩))
    go_ret
    exact ⟨by rw [← HX.out]; rfl, (hbw _).trans (hb3.mono (by simp))⟩
  | true =>
    go_enter Try.func17, Try.ntmps17
    go_wp2_with (first | (go_at_call 37; refine (HC.out _).mono ?_; rintro y w3 ⟨rfl, hb3⟩))
    go_ret
    exact ⟨by rw [← HX.out]; rfl, (hbw _).trans (hb3.mono (by simp))⟩
end
end Go.Proofs.Ytofocdigbcdfaaa
