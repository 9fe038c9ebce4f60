/- The document's disk: contract of Append. -/
import Derived.Test.YtofocdigbcdfaaaR4
import Derived.Deep.LoopGhost
namespace Go.Proofs.Ytofocdigbcdfaaa
open Go.RowKit Mem Disk
section
variable {w w' : World} {e : Nat} {D : Dk} {G : Nat → Prop} {A0 A1 : Option Addr} {c0 c1 : Nat}

theorem ok_push0 (h : D.ok) (c : UInt8) (hf : D.a.b.length + D.b.b.length < D.room) : ({ D with a := ⟨D.a.b ++ [c], D.a.s⟩ } : Dk).ok := by
  have h1 := h.sa; have h2 := h.sb; have h4 := h.top
  exact ⟨by simp; omega, h2, by simp; omega, h4⟩
theorem ok_push1 (h : D.ok) (c : UInt8) (hf : D.a.b.length + D.b.b.length < D.room) : ({ D with b := ⟨D.b.b ++ [c], D.b.s⟩ } : Dk).ok := by
  have h1 := h.sa; have h2 := h.sb; have h4 := h.top
  exact ⟨h1, by simp; omega, by simp; omega, h4⟩

/-- One cell more in slot 0. -/
theorem RIn.push0 (h : RIn w e D A0 A1 c0 c1) {o : Obj} {c : UInt8} (hf : D.a.b.length + D.b.b.length < D.room) {g cap : Nat} {w1 : World}
    (ho : w1.ownsRow 0 98 2 (.slice (some ⟨g, 0, none⟩) (D.a.b.length + 1) cap) (D.a.b.length + 1) (pc (prs D.a) ++ [.int .u8 c.toNat, .bool false]))
    (hg : (w.alloc o).drew.grownBy w1 (Value.slice A0 D.a.b.length c0).ownBlock) (hat : (Value.slice A0 D.a.b.length c0).ownBlock = some g ∨ g = w.heap.size + 1) :
    RGoes w e (own e A0 A1) { D with a := ⟨D.a.b ++ [c], D.a.s⟩ } (w1.setCell ⟨e, 1, none⟩ (.slice (some ⟨g, 0, none⟩) (D.a.b.length + 1 : Nat) cap)) := by
  have n0 := own_ne h.b0 h.row (by decide)
  have n1 := own_ne h.b1 h.row (by decide)
  have h1lt : ∀ k, blk A1 k → k < w.heap.size := fun k hk => (Go.Proofs.Ytofocdigbcdfaaa.own_lt h.b1 k hk).2
  have hk : ∀ k, k < w.heap.size → ¬ blk A0 k → w1.heap[k]? = w.heap[k]? := fun k hk hn =>
    (hg.block k (by simp; omega) (fun e => hn ((ownBlock_blk _ _ _ _).1 e.symm))).trans (Below.heap_alloc w o k hk)
  have hat' : blk A0 g ∨ g = w.heap.size + 1 := hat.imp (fun h => (ownBlock_blk _ _ _ _).1 h) id
  have ne : g ≠ e := by
                                  rintro rfl
                                  rcases hat' with h' | h'
                                  · exact n0 _ h' rfl
                                  · have := h.lt; omega
  have hrow : w1.heap[e]? = _ := (hk e h.lt (fun h' => n0 e h' rfl)).trans h.row
  have hpp : pc (prs ⟨D.a.b ++ [c], D.a.s⟩) = pc (prs D.a) ++ [.int .u8 c.toNat, .bool false] := by rw [prs_append _ _ _ h.ok.sa, pc_append]; rfl
  refine ⟨own e (some ⟨g, 0, none⟩) A1, ⟨_, A1, cap, c1, ⟨ok_push0 h.ok c hf, ?_, ?_, ?_, ?_⟩, rfl⟩, ?_, ?_⟩
  · rw [row_set hrow]; simp
  · rw [hpp]
    have := own_kept ho (w' := w1.setCell ⟨e, 1, none⟩ (.slice (some ⟨g, 0, none⟩) (D.a.b.length + 1 : Nat) cap)) (fun k hk' => other (by rw [blk_some] at hk'; exact fun h' => ne (hk'.symm.trans h')))
    simpa using this
  · exact own_kept h.b1 (fun k hk' => (other (n1 k hk')).trans (hk k (h1lt k hk') (fun h' => h.apart k h' hk')))
  · intro k hk' h1
    rw [blk_some] at hk'
    have hk2 : k = g := hk'
    subst hk2
    rcases hat' with h' | h'
    · exact h.apart k h' h1
    · have := h1lt k h1; omega
  · have hO : Only (own e A0 A1) w w1 := ⟨hg.os, hg.tape, hg.output, by have := hg.size; simp at this; omega, fun k hk' hn => hk k hk' (fun h' => hn (.inr (.inl h')))⟩
    exact hO.setCell (p := ⟨e, 1, none⟩) (fun _ => .inl rfl) _
  · rintro k (rfl | hk' | hk')
    · exact .inl (.inl rfl)
    · rw [blk_some] at hk'
      have hk2 : k = g := hk'
      subst hk2
      rcases hat' with h' | h'
      · exact .inl (.inr (.inl h'))
      · exact .inr (by omega)
    · exact .inl (.inr (.inr hk'))

/-- One cell more in slot 1. -/
theorem RIn.push1 (h : RIn w e D A0 A1 c0 c1) {o : Obj} {c : UInt8} (hf : D.a.b.length + D.b.b.length < D.room) {g cap : Nat} {w1 : World}
    (ho : w1.ownsRow 0 98 2 (.slice (some ⟨g, 0, none⟩) (D.b.b.length + 1) cap) (D.b.b.length + 1) (pc (prs D.b) ++ [.int .u8 c.toNat, .bool false]))
    (hg : (w.alloc o).drew.grownBy w1 (Value.slice A1 D.b.b.length c1).ownBlock) (hat : (Value.slice A1 D.b.b.length c1).ownBlock = some g ∨ g = w.heap.size + 1) :
    RGoes w e (own e A0 A1) { D with b := ⟨D.b.b ++ [c], D.b.s⟩ } (w1.setCell ⟨e, 2, none⟩ (.slice (some ⟨g, 0, none⟩) (D.b.b.length + 1 : Nat) cap)) := by
  have n0 := own_ne h.b0 h.row (by decide)
  have n1 := own_ne h.b1 h.row (by decide)
  have h0lt : ∀ k, blk A0 k → k < w.heap.size := fun k hk => (Go.Proofs.Ytofocdigbcdfaaa.own_lt h.b0 k hk).2
  have hk : ∀ k, k < w.heap.size → ¬ blk A1 k → w1.heap[k]? = w.heap[k]? := fun k hk hn =>
    (hg.block k (by simp; omega) (fun e => hn ((ownBlock_blk _ _ _ _).1 e.symm))).trans (Below.heap_alloc w o k hk)
  have hat' : blk A1 g ∨ g = w.heap.size + 1 := hat.imp (fun h => (ownBlock_blk _ _ _ _).1 h) id
  have ne : g ≠ e := by
                                  rintro rfl
                                  rcases hat' with h' | h'
                                  · exact n1 _ h' rfl
                                  · have := h.lt; omega
  have hrow : w1.heap[e]? = _ := (hk e h.lt (fun h' => n1 e h' rfl)).trans h.row
  have hpp : pc (prs ⟨D.b.b ++ [c], D.b.s⟩) = pc (prs D.b) ++ [.int .u8 c.toNat, .bool false] := by rw [prs_append _ _ _ h.ok.sb, pc_append]; rfl
  refine ⟨own e A0 (some ⟨g, 0, none⟩), ⟨A0, _, c0, cap, ⟨ok_push1 h.ok c hf, ?_, ?_, ?_, ?_⟩, rfl⟩, ?_, ?_⟩
  · rw [row_set hrow]; simp
  · exact own_kept h.b0 (fun k hk' => (other (n0 k hk')).trans (hk k (h0lt k hk') (fun h' => h.apart k hk' h')))
  · rw [hpp]
    have := own_kept ho (w' := w1.setCell ⟨e, 2, none⟩ (.slice (some ⟨g, 0, none⟩) (D.b.b.length + 1 : Nat) cap)) (fun k hk' => other (by rw [blk_some] at hk'; exact fun h' => ne (hk'.symm.trans h')))
    simpa using this
  · intro k h1 hk'
    rw [blk_some] at hk'
    have hk2 : k = g := hk'
    subst hk2
    rcases hat' with h' | h'
    · exact h.apart k h1 h'
    · have := h0lt k h1; omega
  · have hO : Only (own e A0 A1) w w1 := ⟨hg.os, hg.tape, hg.output, by have := hg.size; simp at this; omega, fun k hk' hn => hk k hk' (fun h' => hn (.inr (.inr h')))⟩
    exact hO.setCell (p := ⟨e, 2, none⟩) (fun _ => .inl rfl) _
  · rintro k (rfl | hk' | hk')
    · exact .inl (.inl rfl)
    · exact .inl (.inr (.inl hk'))
    · rw [blk_some] at hk'
      have hk2 : k = g := hk'
      subst hk2
      rcases hat' with h' | h'
      · exact .inl (.inr (.inr h'))
      · exact .inr (by omega)

theorem RGoes.next {w0 w w' : World} {e : Nat} {G G1 : Nat → Prop} {D : Dk} (h1 : Only G w0 w) (h2 : ∀ k, G1 k → G k ∨ w0.heap.size ≤ k) (h : RGoes w e G1 D w') : RGoes w0 e G D w' := by
  obtain ⟨G2, h3, h4, h5⟩ := h
  exact ⟨G2, h3, h1.trans h4 (fun i hi h => (h2 i h).elim id (fun h => by omega)), fun k hk => (h5 k hk).elim (h2 k) (fun h => .inr (Nat.le_trans h1.size h))⟩

/-- The disk behind k bytes of an append. -/
def appd (D : Dk) (i : Int) (l : List UInt8) : Dk := if i = 0 then { D with a := ⟨D.a.b ++ l, D.a.s⟩ } else { D with b := ⟨D.b.b ++ l, D.b.s⟩ }

set_option maxRecDepth 100000 in
set_option maxHeartbeats 1000000 in
theorem rappend_any (h : RDsk w e D G) (i : Int) (s : ByteArray) (x : Int) (hE : D.appE i s.data.toList = x) :
    Calls Try.prog 41 #[.pointer (some ⟨e, 0, none⟩), .int .i64 i, .string s] w fun y w' => y = .returned (.int .i64 x) ∧ RGoes w e G (D.app i s.data.toList) w' := by
  have f1 := h.ok.fit; have f2 := h.ok.top
  have f3 : D.free ≤ D.room := Nat.sub_le _ _
  obtain ⟨i98, hi0, hz0, hz1, hz2⟩ := info_parts info98
  by_cases hr : right i
  · by_cases hf : s.size ≤ D.free
    · obtain rfl : x = 0 := by rw [← hE]; exact appE_fit hr hf
      have hsz : s.data.toList.length = s.size := rfl
      clear hE
      rcases hr with rfl | rfl
      · have hT : D.app 0 s.data.toList = { D with a := ⟨D.a.b ++ s.data.toList, D.a.s⟩ } := by unfold Dk.app; rw [if_pos ⟨.inl rfl, hf⟩]; simp [Dk.set, Dk.get]
        rw [hT]; clear hT
        have hroom : D.a.b.length + D.b.b.length + s.size ≤ D.room := by unfold Dk.free Dk.used at hf; omega
        go_enter Try.func41, Try.ntmps41
        go_wp2_with (first | (go_at_call 56; refine (right_yes (.inl rfl) _).mono ?_; rintro e w' ⟨rfl, rfl⟩) | (go_at_call 48; refine (rfree_any h _ rfl).mono ?_; rintro y w1 ⟨rfl, hw1⟩; obtain ⟨nq, hw2⟩ := hw1; subst hw2))
        go_loopw [7] (fun i wr => ∃ k : Nat, k ≤ s.size ∧ i = .int .i64 k ∧ RGoes w e G { D with a := ⟨D.a.b ++ s.data.toList.take k, D.a.s⟩ } wr) (fun i _ => s.size - (intOf i).toNat)
        case atStart => exact ⟨0, Nat.zero_le _, rfl, by simpa using h.goes.drewN nq⟩
        case round =>
          obtain ⟨k, hk, rfl, hg⟩ := hrel
          by_cases hlt : k < s.size
          · obtain ⟨G1, hD1, hO1, hg1⟩ := hg
            obtain ⟨B0, B1, d0, d1, hI, rfl⟩ := hD1
            have htk : s.data.toList.take (k + 1) = s.data.toList.take k ++ [s[k]'hlt] := by
              rw [List.take_succ_eq_append_getElem (by simpa using hlt)]; rfl
            have HT := Lib.hid htk
            clear htk
            have hlen : (D.a.b ++ s.data.toList.take k).length = D.a.b.length + k := by simp; omega
            generalize hb2 : D.a.b ++ s.data.toList.take k = b2 at *
            have HB2 := Lib.hid hb2
            clear hb2
            have hf1 : b2.length + D.b.b.length < D.room := by omega
            clear hlen
            obtain ⟨q0, q1, q2, fz⟩ := hI.cells
            have q1' : wr.cell? ⟨e, 1, none⟩ = some (.slice B0 b2.length d0) := q1
            clear q1 q2
            have hown : (wr.alloc (.cells #[.int .u8 (s[k]'hlt).toNat, .bool false] 98 (0, 0))).drew.ownsRow 0 98 2 (.slice B0 b2.length d0) b2.length (pc (prs ⟨b2, D.a.s⟩)) := own_kept hI.b0 (fun k hk => Below.heap_alloc wr _ k (Go.Proofs.Ytofocdigbcdfaaa.own_lt hI.b0 k hk).2)
            have hlt2 : e < (wr.alloc (.cells #[.int .u8 (s[k]'hlt).toNat, .bool false] 98 (0, 0))).drew.heap.size := by have := hI.lt; simp; omega
            have h1c : ∀ u ∈ [Value.int .u8 (s[k]'hlt).toNat, .bool false], u.oneCell' = true := by intro u hu; simp at hu; rcases hu with rfl | rfl <;> rfl
            have zq : (wr.alloc (.cells #[.int .u8 (s[k]'hlt).toNat, .bool false] 98 (0, 0))).cell? ⟨e, 1, none⟩ = some (.slice B0 b2.length d0) := (World.cell?_of_block (Below.heap_alloc wr _ e hI.lt)).trans q1'
            have ne0 : some e ≠ (Value.slice B0 b2.length d0).ownBlock := fun h' => own_ne hI.b0 hI.row (by decide) e ((ownBlock_blk _ _ _ _).1 h'.symm) rfl
            go_wp2_with fail
            go_region_law (refine step_append_lies _ (by rfl) _ _ _ (by rfl) 0 98 i98 _ 2 2 Try.underlying89 hi0 hz0 hz1 hz2 rfl (by omega) _ _ _ (by rfl) hown ⟨wr.heap.size, 0, none⟩ 1 1 [Value.int .u8 (s[k]'hlt).toNat, .bool false] (by rfl) rfl (World.news_of_block (cs := #[Value.int .u8 (s[k]'hlt).toNat, .bool false]) (t := 98) (fr := (0, 0)) (heap_alloc_new wr _)) h1c (by omega) (by unfold maxLen; omega) (by omega) (Nat.zero_le _) (wr.heap.size + 1) (by simp) ?_; intro g cap w1 hown1 hgrow hat hlt1; have zc := (hgrow.cell_far ⟨e, 1, none⟩ hlt2 ne0).trans ((World.cell?_of_block (Below.heap_alloc wr _ e hI.lt)).trans q1'); have zf := (hgrow.frozen_far ⟨e, 1, none⟩ hlt2 ne0).trans ((World.frozen?_of_block (Below.heap_alloc wr _ e hI.lt)).trans (fz 1)))
            all_goals
              have hp := hI.push0 (o := .cells #[.int .u8 (s[k]'hlt).toNat, .bool false] 98 (0, 0)) hf1 hown1 hgrow hat
              clear zc zf hown1 hgrow hat zq q1' hown h1c hlt2 ne0
              go_wp2_with fail
              go_roundw
              case rel => exact ⟨k + 1, by omega, by go_num, by rw [HT.out, ← List.append_assoc, HB2.out]; exact RGoes.next hO1 hg1 hp⟩
              case measure => simp [intOf]; omega
          · obtain rfl : k = s.size := by omega
            go_wp2_with fail
            go_ret
            exact ⟨rfl, by rw [List.take_of_length_le (by rw [hsz]; exact Nat.le_refl _)] at hg; exact hg⟩
      · have hT : D.app 1 s.data.toList = { D with b := ⟨D.b.b ++ s.data.toList, D.b.s⟩ } := by unfold Dk.app; rw [if_pos ⟨.inr rfl, hf⟩]; simp [Dk.set, Dk.get]
        rw [hT]; clear hT
        have hroom : D.a.b.length + D.b.b.length + s.size ≤ D.room := by unfold Dk.free Dk.used at hf; omega
        go_enter Try.func41, Try.ntmps41
        go_wp2_with (first | (go_at_call 56; refine (right_yes (.inr rfl) _).mono ?_; rintro e w' ⟨rfl, rfl⟩) | (go_at_call 48; refine (rfree_any h _ rfl).mono ?_; rintro y w1 ⟨rfl, hw1⟩; obtain ⟨nq, hw2⟩ := hw1; subst hw2))
        go_loopw [7] (fun i wr => ∃ k : Nat, k ≤ s.size ∧ i = .int .i64 k ∧ RGoes w e G { D with b := ⟨D.b.b ++ s.data.toList.take k, D.b.s⟩ } wr) (fun i _ => s.size - (intOf i).toNat)
        case atStart => exact ⟨0, Nat.zero_le _, rfl, by simpa using h.goes.drewN nq⟩
        case round =>
          obtain ⟨k, hk, rfl, hg⟩ := hrel
          by_cases hlt : k < s.size
          · obtain ⟨G1, hD1, hO1, hg1⟩ := hg
            obtain ⟨B0, B1, d0, d1, hI, rfl⟩ := hD1
            have htk : s.data.toList.take (k + 1) = s.data.toList.take k ++ [s[k]'hlt] := by
              rw [List.take_succ_eq_append_getElem (by simpa using hlt)]; rfl
            have HT := Lib.hid htk
            clear htk
            have hlen : (D.b.b ++ s.data.toList.take k).length = D.b.b.length + k := by simp; omega
            generalize hb2 : D.b.b ++ s.data.toList.take k = b2 at *
            have HB2 := Lib.hid hb2
            clear hb2
            have hf1 : D.a.b.length + b2.length < D.room := by omega
            clear hlen
            obtain ⟨q0, q1, q2, fz⟩ := hI.cells
            have q1' : wr.cell? ⟨e, 2, none⟩ = some (.slice B1 b2.length d1) := q2
            clear q1 q2
            have hown : (wr.alloc (.cells #[.int .u8 (s[k]'hlt).toNat, .bool false] 98 (0, 0))).drew.ownsRow 0 98 2 (.slice B1 b2.length d1) b2.length (pc (prs ⟨b2, D.b.s⟩)) := own_kept hI.b1 (fun k hk => Below.heap_alloc wr _ k (Go.Proofs.Ytofocdigbcdfaaa.own_lt hI.b1 k hk).2)
            have hlt2 : e < (wr.alloc (.cells #[.int .u8 (s[k]'hlt).toNat, .bool false] 98 (0, 0))).drew.heap.size := by have := hI.lt; simp; omega
            have h1c : ∀ u ∈ [Value.int .u8 (s[k]'hlt).toNat, .bool false], u.oneCell' = true := by intro u hu; simp at hu; rcases hu with rfl | rfl <;> rfl
            have zq : (wr.alloc (.cells #[.int .u8 (s[k]'hlt).toNat, .bool false] 98 (0, 0))).cell? ⟨e, 2, none⟩ = some (.slice B1 b2.length d1) := (World.cell?_of_block (Below.heap_alloc wr _ e hI.lt)).trans q1'
            have ne0 : some e ≠ (Value.slice B1 b2.length d1).ownBlock := fun h' => own_ne hI.b1 hI.row (by decide) e ((ownBlock_blk _ _ _ _).1 h'.symm) rfl
            go_wp2_with fail
            go_region_law (refine step_append_lies _ (by rfl) _ _ _ (by rfl) 0 98 i98 _ 2 2 Try.underlying89 hi0 hz0 hz1 hz2 rfl (by omega) _ _ _ (by rfl) hown ⟨wr.heap.size, 0, none⟩ 1 1 [Value.int .u8 (s[k]'hlt).toNat, .bool false] (by rfl) rfl (World.news_of_block (cs := #[Value.int .u8 (s[k]'hlt).toNat, .bool false]) (t := 98) (fr := (0, 0)) (heap_alloc_new wr _)) h1c (by omega) (by unfold maxLen; omega) (by omega) (Nat.zero_le _) (wr.heap.size + 1) (by simp) ?_; intro g cap w1 hown1 hgrow hat hlt1; have zc := (hgrow.cell_far ⟨e, 2, none⟩ hlt2 ne0).trans ((World.cell?_of_block (Below.heap_alloc wr _ e hI.lt)).trans q1'); have zf := (hgrow.frozen_far ⟨e, 2, none⟩ hlt2 ne0).trans ((World.frozen?_of_block (Below.heap_alloc wr _ e hI.lt)).trans (fz 2)))
            all_goals
              have hp := hI.push1 (o := .cells #[.int .u8 (s[k]'hlt).toNat, .bool false] 98 (0, 0)) hf1 hown1 hgrow hat
              clear zc zf hown1 hgrow hat zq q1' hown h1c hlt2 ne0
              go_wp2_with fail
              go_roundw
              case rel => exact ⟨k + 1, by omega, by go_num, by rw [HT.out, ← List.append_assoc, HB2.out]; exact RGoes.next hO1 hg1 hp⟩
              case measure => simp [intOf]; omega
          · obtain rfl : k = s.size := by omega
            go_wp2_with fail
            go_ret
            exact ⟨rfl, by rw [List.take_of_length_le (by rw [hsz]; exact Nat.le_refl _)] at hg; exact hg⟩
    · obtain rfl : x = 60 := by rw [← hE]; exact appE_full hr hf
      have hT : D.app i s.data.toList = D := if_neg (fun h => hf h.2)
      have hG := h.goes
      rw [hT]; clear hT hE
      go_enter Try.func41, Try.ntmps41
      go_wp2_with (first | (go_at_call 56; refine (right_yes hr _).mono ?_; rintro y w' ⟨rfl, rfl⟩) | (go_at_call 48; refine (rfree_any h _ rfl).mono ?_; rintro y w1 ⟨rfl, hw1⟩; obtain ⟨nq, hw2⟩ := hw1; subst hw2))
      go_ret
      exact ⟨rfl, hG.drewN nq⟩
  · obtain rfl : x = 61 := by rw [← hE]; exact appE_wrong hr
    have hT : D.app i s.data.toList = D := if_neg (fun h => hr h.1)
    have hG := h.goes
    rw [hT]; clear hT hE
    go_enter Try.func41, Try.ntmps41
    go_wp2_with (first | (go_at_call 56; refine (right_no hr _).mono ?_; rintro y w' ⟨rfl, rfl⟩))
    go_ret
    exact ⟨rfl, hG⟩
end
end Go.Proofs.Ytofocdigbcdfaaa
