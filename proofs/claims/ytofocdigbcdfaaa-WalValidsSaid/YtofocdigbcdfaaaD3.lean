/- Contracts of Truncate and Remove. -/
import Derived.Test.YtofocdigbcdfaaaD2
namespace Go.Proofs.Ytofocdigbcdfaaa
open Go.RowKit Mem Disk

def own (d : Nat) (A0 A1 : Option Addr) (k : Nat) : Prop := k = d ∨ blk A0 k ∨ blk A1 k

/-- The disk D stands in block d; F: the blocks that are its own. -/
def Dsk (w : World) (d : Nat) (D : Dk) (F : Nat → Prop) : Prop := ∃ A0 A1 c0 c1, DkIn w d D A0 A1 c0 c1 ∧ F = own d A0 A1

/-- From w on the disk in block d became D', nothing but its own blocks has turned. -/
def Goes (w : World) (d : Nat) (F : Nat → Prop) (D' : Dk) (w' : World) : Prop :=
  ∃ F', Dsk w' d D' F' ∧ Only F w w' ∧ ∀ k, F' k → F k ∨ w.heap.size ≤ k

section
variable {w w' : World} {d : Nat} {D : Dk} {F : Nat → Prop} {A0 A1 : Option Addr} {c0 c1 : Nat}

theorem DkIn.dsk (h : DkIn w d D A0 A1 c0 c1) : Dsk w d D (own d A0 A1) := ⟨A0, A1, c0, c1, h, rfl⟩

theorem DkIn.own_lt (h : DkIn w d D A0 A1 c0 c1) : ∀ k, own d A0 A1 k → k < w.heap.size := by
  rintro k (rfl | hk | hk)
  · exact h.lt
  · exact h.b0.lt k hk
  · exact h.b1.lt k hk

theorem Dsk.ok (h : Dsk w d D F) : D.ok := by obtain ⟨_, _, _, _, h, _⟩ := h; exact h.ok
theorem Dsk.lt (h : Dsk w d D F) : ∀ k, F k → k < w.heap.size := by obtain ⟨_, _, _, _, h, rfl⟩ := h; exact h.own_lt
theorem Dsk.self (h : Dsk w d D F) : F d := by obtain ⟨_, _, _, _, h, rfl⟩ := h; exact .inl rfl
theorem Dsk.kept (h : Dsk w d D F) (hb : ∀ k, F k → w'.heap[k]? = w.heap[k]?) : Dsk w' d D F := by
  obtain ⟨A0, A1, c0, c1, h, rfl⟩ := h
  exact (h.kept (hb d (.inl rfl)) (fun k hk => hb k (.inr (.inl hk))) (fun k hk => hb k (.inr (.inr hk)))).dsk
theorem Dsk.only {G : Nat → Prop} (h : Dsk w d D F) (ho : Only G w w') (hd : ∀ k, F k → ¬ G k) : Dsk w' d D F :=
  h.kept fun k hk => ho.block k (h.lt k hk) (hd k hk)
theorem Dsk.below (h : Dsk w d D F) (hb : Below w.heap.size w w') : Dsk w' d D F := h.kept fun k hk => hb.block k (h.lt k hk)
theorem Dsk.goes (h : Dsk w d D F) : Goes w d F D w := ⟨F, h, Only.refl _ _, fun _ hk => .inl hk⟩

/-- Only the disk's own block was written. -/
theorem DkIn.goes {D' : Dk} {c0' c1' : Nat} (_h : DkIn w d D A0 A1 c0 c1) (h' : DkIn w' d D' A0 A1 c0' c1') (ho : Only (own d A0 A1) w w') : Goes w d (own d A0 A1) D' w' :=
  ⟨_, h'.dsk, ho, fun _ hk => .inl hk⟩

set_option maxHeartbeats 400000 in
theorem trunc_any (h : Dsk w d D F) (i n : Int) :
    Calls Try.prog 30 #[.pointer (some ⟨d, 0, none⟩), .int .i64 i, .int .i64 n] w fun e w' => e = .returned (.int .i64 (D.truncE i n)) ∧ Goes w d F (D.trunc i n) w' := by
  obtain ⟨A0, A1, c0, c1, hI, rfl⟩ := h
  obtain ⟨q0, q1, q2, q3, q4, fz⟩ := hI.cells
  have l0 := hI.b0.le; have l1 := hI.b1.le; have t0 := hI.b0.top; have t1 := hI.b1.top
  have s0 := hI.ok.sa; have s1 := hI.ok.sb
  unfold maxLen at t0 t1
  by_cases hr : right i
  · by_cases hn : 0 ≤ n ∧ n ≤ (D.get i).b.length
    · have hE : D.truncE i n = 0 := if_pos ⟨hr, hn⟩
      have hT : D.trunc i n = D.set i ((D.get i).cut n.toNat) := if_pos ⟨hr, hn⟩
      rw [hE, hT]; clear hE hT
      obtain ⟨hn0, hn1⟩ := hn
      obtain ⟨m, rfl⟩ := Int.eq_ofNat_of_zero_le hn0
      rcases hr with rfl | rfl
      · have hm : m ≤ D.a.b.length := by simpa [Dk.get] using hn1
        have hG := hI.goes (hI.cut0 hm) ((((Only.refl (own d A0 A1) w)).setCell (p := ⟨d, 1, none⟩) (fun _ => .inl rfl) _).setCell (p := ⟨d, 2, none⟩) (fun _ => .inl rfl) _)
        clear hn0 hn1
        go_enter Try.func30, Try.ntmps30
        go_wp2_with (first | (go_at_call 32; refine (wrong_no (.inl rfl) _).mono ?_; rintro e w' ⟨rfl, rfl⟩) | (go_at_call 39; refine (cut_any d 1 A0 D.a.b.length c0 D.a.s m hm l0 (by omega) s0 _ q1 q2 (fz _) (fz _)).mono ?_; rintro e w' ⟨rfl, rfl⟩))
        go_ret
        exact ⟨rfl, hG⟩
      · have hm : m ≤ D.b.b.length := by simpa [Dk.get] using hn1
        have hG := hI.goes (hI.cut1 hm) ((((Only.refl (own d A0 A1) w)).setCell (p := ⟨d, 3, none⟩) (fun _ => .inl rfl) _).setCell (p := ⟨d, 4, none⟩) (fun _ => .inl rfl) _)
        clear hn0 hn1
        go_enter Try.func30, Try.ntmps30
        go_wp2_with (first | (go_at_call 32; refine (wrong_no (.inr rfl) _).mono ?_; rintro e w' ⟨rfl, rfl⟩) | (go_at_call 39; refine (cut_any d 3 A1 D.b.b.length c1 D.b.s m hm l1 (by omega) s1 _ q3 q4 (fz _) (fz _)).mono ?_; rintro e w' ⟨rfl, rfl⟩))
        go_ret
        exact ⟨rfl, hG⟩
    · have hE : D.truncE i n = 61 := if_neg (fun h => hn h.2)
      have hT : D.trunc i n = D := if_neg (fun h => hn h.2)
      rw [hE, hT]; clear hE hT
      have hG := hI.dsk.goes
      by_cases hn0 : n < 0
      · go_enter Try.func30, Try.ntmps30
        go_wp2_with (first | (go_at_call 32; refine (wrong_no hr _).mono ?_; rintro e w' ⟨rfl, rfl⟩))
        go_ret
        exact ⟨rfl, hG⟩
      · rcases hr with rfl | rfl
        · have hm : (D.a.b.length : Int) < n := by simp [Dk.get] at hn; omega
          go_enter Try.func30, Try.ntmps30
          go_wp2_with (first | (go_at_call 32; refine (wrong_no (.inl rfl) _).mono ?_; rintro e w' ⟨rfl, rfl⟩))
          go_ret
          exact ⟨rfl, hG⟩
        · have hm : (D.b.b.length : Int) < n := by simp [Dk.get] at hn; omega
          go_enter Try.func30, Try.ntmps30
          go_wp2_with (first | (go_at_call 32; refine (wrong_no (.inr rfl) _).mono ?_; rintro e w' ⟨rfl, rfl⟩))
          go_ret
          exact ⟨rfl, hG⟩
  · have hE : D.truncE i n = 61 := if_neg (fun h => hr h.1)
    have hT : D.trunc i n = D := if_neg (fun h => hr h.1)
    rw [hE, hT]; clear hE hT
    have hG := hI.dsk.goes
    go_enter Try.func30, Try.ntmps30
    go_wp2_with (first | (go_at_call 32; refine (wrong_yes hr _).mono ?_; rintro e w' ⟨rfl, rfl⟩))
    go_ret
    exact ⟨rfl, hG⟩

set_option maxHeartbeats 400000 in
theorem remove_any (h : Dsk w d D F) (i : Int) :
    Calls Try.prog 31 #[.pointer (some ⟨d, 0, none⟩), .int .i64 i] w fun e w' => e = .returned (.int .i64 (D.truncE i 0)) ∧ Goes w d F (D.trunc i 0) w' := by
  go_enter Try.func31, Try.ntmps31
  go_wp2_with (first | (go_at_call 30; refine (trunc_any h i 0).mono ?_; rintro e w' ⟨rfl, hg⟩))
  go_ret
  exact ⟨rfl, hg⟩
end
end Go.Proofs.Ytofocdigbcdfaaa
