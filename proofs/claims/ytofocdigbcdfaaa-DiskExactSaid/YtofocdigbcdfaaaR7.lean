/- The document's disk: contract of Sync. -/
import Derived.Test.YtofocdigbcdfaaaR4
import Derived.Deep.LoopGhost
namespace Go.Proofs.Ytofocdigbcdfaaa
open Go.RowKit Mem Disk

/-- A row whose cells from m on are made sure. -/
def syn (l : List (UInt8 × Bool)) (m : Nat) : List (UInt8 × Bool) := l.take m ++ (l.drop m).map (fun p => (p.1, true))
theorem syn_len (l : List (UInt8 × Bool)) (m : Nat) : (syn l m).length = l.length := by simp [syn]; omega
theorem syn_all (l : List (UInt8 × Bool)) : syn l l.length = l := by simp [syn]
theorem syn_at (l : List (UInt8 × Bool)) (k : Nat) (h : k < l.length) (h' : k < (syn l (k + 1)).length) : (syn l (k + 1))[k] = l[k] := by
  simp only [syn, List.getElem_append, List.length_take]
  rw [dif_pos (by omega)]
  simp
theorem syn_set (l : List (UInt8 × Bool)) (k : Nat) (h : k < l.length) : (syn l (k + 1)).set k (l[k].1, true) = syn l k := by
  unfold syn
  rw [List.take_succ_eq_append_getElem h, List.drop_eq_getElem_cons h]
  rw [List.append_assoc, List.set_append, if_neg (by simp; omega)]
  simp [List.length_take, show k - min k l.length = 0 from by omega]
  rw [List.drop_eq_getElem_cons (l := List.map (fun p => (p.fst, true)) l) (i := k) (by simpa using h)]
  simp
theorem syn_sync (s : Sl) (m : Nat) (h : m ≤ s.s) (hs : s.s ≤ s.b.length) : syn (prs s) m = prs s.sync := by
  rw [← prs_sync]
  unfold syn
  conv => rhs; rw [← List.take_append_drop m (prs s), List.map_append]
  congr 1
  unfold prs
  rw [List.take_append_of_le_length (by simp; omega), ← List.map_take, List.map_map]
  rfl

section
variable {w w' : World} {e : Nat} {D : Dk} {G : Nat → Prop} {A0 A1 : Option Addr} {c0 c1 : Nat}

/-- The rows on the way. -/
structure RT (w : World) (e R : Nat) (A0 A1 : Option Addr) (n0 n1 c0 c1 : Nat) (l0 l1 : List (UInt8 × Bool)) : Prop where
  len0 : l0.length = n0
  len1 : l1.length = n1
  row : w.heap[e]? = some (.cells #[.int .i64 R, .slice A0 n0 c0, .slice A1 n1 c1] 92 (0, 0))
  b0 : w.ownsRow 0 98 2 (.slice A0 n0 c0) n0 (pc l0)
  b1 : w.ownsRow 0 98 2 (.slice A1 n1 c1) n1 (pc l1)
  apart : ∀ k, blk A0 k → ¬ blk A1 k
variable {R n0 n1 : Nat} {l0 l1 : List (UInt8 × Bool)}

theorem RT.cells (h : RT w e R A0 A1 n0 n1 c0 c1 l0 l1) : w.cell? ⟨e, 1, none⟩ = some (.slice A0 n0 c0) ∧ w.cell? ⟨e, 2, none⟩ = some (.slice A1 n1 c1) ∧ ∀ i, w.frozen? ⟨e, i, none⟩ = false := by
  have hc := (cellsAt h.row).1
  exact ⟨hc 1, hc 2, (cellsAt h.row).2⟩
theorem RT.at0 (h : RT w e R A0 A1 n0 n1 c0 c1 l0 l1) (k : Nat) (hk : k < l0.length) : ∃ g, A0 = some ⟨g, 0, none⟩ ∧ w.cell? ⟨g, k * 2 + 1, none⟩ = some (.bool l0[k].2) ∧ w.frozen? ⟨g, k * 2 + 1, none⟩ = false ∧ g ≠ e := by
  obtain ⟨g, hA, hlt, -, h2⟩ := (cs_of_own h.b0).at_ k hk
  subst hA
  exact ⟨g, rfl, h2, h.b0.frozenAt _, own_ne h.b0 h.row (by decide) g (by rw [blk_some])⟩
theorem RT.at1 (h : RT w e R A0 A1 n0 n1 c0 c1 l0 l1) (k : Nat) (hk : k < l1.length) : ∃ g, A1 = some ⟨g, 0, none⟩ ∧ w.cell? ⟨g, k * 2 + 1, none⟩ = some (.bool l1[k].2) ∧ w.frozen? ⟨g, k * 2 + 1, none⟩ = false ∧ g ≠ e := by
  obtain ⟨g, hA, hlt, -, h2⟩ := (cs_of_own h.b1).at_ k hk
  subst hA
  exact ⟨g, rfl, h2, h.b1.frozenAt _, own_ne h.b1 h.row (by decide) g (by rw [blk_some])⟩
theorem RT.set0 {g : Nat} (h : RT w e R (some ⟨g, 0, none⟩) A1 n0 n1 c0 c1 l0 l1) (k : Nat) (hk : k < l0.length) : RT (w.setCell ⟨g, k * 2 + 1, none⟩ (.bool true)) e R (some ⟨g, 0, none⟩) A1 n0 n1 c0 c1 (l0.set k (l0[k].1, true)) l1 := by
  have ne := own_ne h.b0 h.row (by decide) g (by rw [blk_some])
  refine ⟨by simp [h.len0], h.len1, (other (fun h' => ne h'.symm)).trans h.row, ?_, own_kept h.b1 (fun j hj => other (fun h' => ?_)), h.apart⟩
  · rw [← pc_set]; exact (h.b0.stored _ _).1
  · exact h.apart j (by rw [blk_some]; exact h') hj
theorem RT.set1 {g : Nat} (h : RT w e R A0 (some ⟨g, 0, none⟩) n0 n1 c0 c1 l0 l1) (k : Nat) (hk : k < l1.length) : RT (w.setCell ⟨g, k * 2 + 1, none⟩ (.bool true)) e R A0 (some ⟨g, 0, none⟩) n0 n1 c0 c1 l0 (l1.set k (l1[k].1, true)) := by
  have ne := own_ne h.b1 h.row (by decide) g (by rw [blk_some])
  refine ⟨h.len0, by simp [h.len1], (other (fun h' => ne h'.symm)).trans h.row, own_kept h.b0 (fun j hj => other (fun h' => ?_)), ?_, h.apart⟩
  · exact h.apart j hj (by rw [blk_some]; exact h')
  · rw [← pc_set]; exact (h.b1.stored _ _).1

set_option maxRecDepth 100000 in
set_option maxHeartbeats 1000000 in
theorem rsync_any (h : RDsk w e D G) :
    Calls Try.prog 42 #[.pointer (some ⟨e, 0, none⟩)] w fun y w' => y = .returned (.tuple #[]) ∧ RGoes w e G D.sync w' := by
  obtain ⟨A0, A1, c0, c1, hI, rfl⟩ := h
  have s0 := hI.ok.sa; have s1 := hI.ok.sb; have f1 := hI.ok.fit; have f2 := hI.ok.top
  have hT : RT w e D.room A0 A1 D.a.b.length D.b.b.length c0 c1 (prs D.a) (prs D.b) := ⟨prs_len _, prs_len _, hI.row, hI.b0, hI.b1, hI.apart⟩
  have hfin : ∀ w', RT w' e D.room A0 A1 D.a.b.length D.b.b.length c0 c1 (prs D.a.sync) (prs D.b.sync) → Only (own e A0 A1) w w' → RGoes w e (own e A0 A1) D.sync w' := fun w' h hO =>
    ⟨own e A0 A1, ⟨A0, A1, c0, c1, ⟨⟨by simp [Dk.sync, Sl.sync], by simp [Dk.sync, Sl.sync], hI.ok.fit, hI.ok.top⟩, h.row, h.b0, h.b1, h.apart⟩, rfl⟩, hO, fun _ hk => .inl hk⟩
  have HF := Lib.hid hfin
  clear hfin
  have hst0 : ∀ m, m ≤ D.a.s → syn (prs D.a) m = prs D.a.sync := fun m h => syn_sync D.a m h s0
  have hst1 : ∀ m, m ≤ D.b.s → syn (prs D.b) m = prs D.b.sync := fun m h => syn_sync D.b m h s1
  have H0 := Lib.hid hst0; have H1 := Lib.hid hst1
  clear hst0 hst1
  have hp0 : ∀ k (h : k < D.a.b.length), ((prs D.a)[k]'(by rw [prs_len]; exact h)).2 = decide (k < D.a.s) := fun k h => prs_at _ _ _
  have hp1 : ∀ k (h : k < D.b.b.length), ((prs D.b)[k]'(by rw [prs_len]; exact h)).2 = decide (k < D.b.s) := fun k h => prs_at _ _ _
  have P0 := Lib.hid hp0; have P1 := Lib.hid hp1
  clear hp0 hp1
  obtain ⟨q0, q1, qz⟩ := hT.cells
  go_enter Try.func42, Try.ntmps42
  go_wp2_with fail
  refine wp_loop_rounds 3 ?_
  rw [rounds_succ]
  go_wp2_with fail
  go_loopw [3] (fun j wr => ∃ m : Nat, m ≤ D.a.b.length ∧ j = .int .i64 ((m : Int) - 1) ∧ RT wr e D.room A0 A1 D.a.b.length D.b.b.length c0 c1 (syn (prs D.a) m) (prs D.b) ∧ Only (own e A0 A1) w wr) (fun j _ => (intOf j + 1).toNat)
  case atStart => exact ⟨D.a.b.length, Nat.le_refl _, rfl, by rw [show syn (prs D.a) D.a.b.length = prs D.a from by rw [← prs_len D.a, syn_all]]; exact hT, Only.refl _ _⟩
  case round =>
    obtain ⟨m, hm, hj, hR, hO⟩ := hrel
    cases m with
    | zero =>
      subst hj
      have hR2 : RT _ _ _ _ _ _ _ _ _ _ _ := (H0.out 0 (Nat.zero_le _)) ▸ hR
      clear hR
      obtain ⟨-, v1, vz⟩ := hR2.cells
      have hR3 := hR2; have hO3 := hO
      clear hR2 hO
      go_wp2_with fail
      rw [rounds_succ]
      go_wp2_with fail
      go_loopw [3] (fun j wr2 => ∃ m : Nat, m ≤ D.b.b.length ∧ j = .int .i64 ((m : Int) - 1) ∧ RT wr2 e D.room A0 A1 D.a.b.length D.b.b.length c0 c1 (prs D.a.sync) (syn (prs D.b) m) ∧ Only (own e A0 A1) w wr2) (fun j _ => (intOf j + 1).toNat)
      case atStart => exact ⟨D.b.b.length, Nat.le_refl _, rfl, by rw [show syn (prs D.b) D.b.b.length = prs D.b from by rw [← prs_len D.b, syn_all]]; exact hR3, hO3⟩
      case round =>
        obtain ⟨m, hm, hj, hR, hO⟩ := hrel
        cases m with
        | zero =>
          subst hj
          have hR2 : RT _ _ _ _ _ _ _ _ _ _ _ := (H1.out 0 (Nat.zero_le _)) ▸ hR
          clear hR
          go_wp2_with fail
          rw [rounds_succ]
          go_wp2_with fail
          go_end0
          exact ⟨rfl, HF.out _ hR2 hO⟩
        | succ k =>
          have hk : k < (prs D.b).length := by rw [prs_len]; omega
          obtain rfl : u3 = .int .i64 k := by rw [hj]; congr 1; omega
          clear hj
          obtain ⟨-, r0, rz⟩ := hR.cells
          have hat := hR.at1 k (by rw [syn_len]; exact hk)
          rw [syn_at _ _ hk, P1.out k (by omega)] at hat
          by_cases hs : k < D.b.s
          · rw [decide_eq_true hs] at hat
            have hR2 : RT _ _ _ _ _ _ _ _ _ _ _ := (H1.out (k + 1) hs) ▸ hR
            clear hR
            obtain ⟨g, hg, y1, yz, yn⟩ := hat
            have hg' := Lib.hid hg
            clear hg
            rw [hg'.out] at r0
            go_wp2_with fail
            rw [rounds_succ]
            go_wp2_with fail
            go_end0
            exact ⟨rfl, HF.out _ hR2 hO⟩
          · rw [decide_eq_false hs] at hat
            obtain ⟨g, rfl, y1, yz, yn⟩ := hat
            have hR2 := hR.set1 k (by rw [syn_len]; exact hk)
            rw [syn_at _ _ hk, syn_set _ _ hk] at hR2
            have hO2 := hO.setCell (p := ⟨g, k * 2 + 1, none⟩) (fun _ => .inr (.inr (by rw [blk_some]))) (.bool true)
            clear hR
            go_wp2_with fail
            go_roundw
            case rel => exact ⟨k, by omega, by go_num, hR2, hO2⟩
            case measure => simp [intOf]
    | succ k =>
      have hk : k < (prs D.a).length := by rw [prs_len]; omega
      obtain rfl : u3 = .int .i64 k := by rw [hj]; congr 1; omega
      clear hj
      obtain ⟨r0, -, rz⟩ := hR.cells
      have hat := hR.at0 k (by rw [syn_len]; exact hk)
      rw [syn_at _ _ hk, P0.out k (by omega)] at hat
      by_cases hs : k < D.a.s
      · rw [decide_eq_true hs] at hat
        have hR2 : RT _ _ _ _ _ _ _ _ _ _ _ := (H0.out (k + 1) hs) ▸ hR
        clear hR
        obtain ⟨g, hg, y1, yz, yn⟩ := hat
        have hg' := Lib.hid hg
        clear hg
        rw [hg'.out] at r0
        obtain ⟨-, v1, vz⟩ := hR2.cells
        have hR3 := hR2; have hO3 := hO
        clear hR2 hO
        go_wp2_with fail
        rw [rounds_succ]
        go_wp2_with fail
        go_loopw [3] (fun j wr2 => ∃ m : Nat, m ≤ D.b.b.length ∧ j = .int .i64 ((m : Int) - 1) ∧ RT wr2 e D.room A0 A1 D.a.b.length D.b.b.length c0 c1 (prs D.a.sync) (syn (prs D.b) m) ∧ Only (own e A0 A1) w wr2) (fun j _ => (intOf j + 1).toNat)
        case atStart => exact ⟨D.b.b.length, Nat.le_refl _, rfl, by rw [show syn (prs D.b) D.b.b.length = prs D.b from by rw [← prs_len D.b, syn_all]]; exact hR3, hO3⟩
        case round =>
          obtain ⟨m, hm, hj, hR, hO⟩ := hrel
          cases m with
          | zero =>
            subst hj
            have hR2 : RT _ _ _ _ _ _ _ _ _ _ _ := (H1.out 0 (Nat.zero_le _)) ▸ hR
            clear hR
            go_wp2_with fail
            rw [rounds_succ]
            go_wp2_with fail
            go_end0
            exact ⟨rfl, HF.out _ hR2 hO⟩
          | succ k =>
            have hk : k < (prs D.b).length := by rw [prs_len]; omega
            obtain rfl : u3 = .int .i64 k := by rw [hj]; congr 1; omega
            clear hj
            obtain ⟨-, r0, rz⟩ := hR.cells
            have hat := hR.at1 k (by rw [syn_len]; exact hk)
            rw [syn_at _ _ hk, P1.out k (by omega)] at hat
            by_cases hs : k < D.b.s
            · rw [decide_eq_true hs] at hat
              have hR2 : RT _ _ _ _ _ _ _ _ _ _ _ := (H1.out (k + 1) hs) ▸ hR
              clear hR
              obtain ⟨g, hg, y1, yz, yn⟩ := hat
              have hg' := Lib.hid hg
              clear hg
              rw [hg'.out] at r0
              go_wp2_with fail
              rw [rounds_succ]
              go_wp2_with fail
              go_end0
              exact ⟨rfl, HF.out _ hR2 hO⟩
            · rw [decide_eq_false hs] at hat
              obtain ⟨g, rfl, y1, yz, yn⟩ := hat
              have hR2 := hR.set1 k (by rw [syn_len]; exact hk)
              rw [syn_at _ _ hk, syn_set _ _ hk] at hR2
              have hO2 := hO.setCell (p := ⟨g, k * 2 + 1, none⟩) (fun _ => .inr (.inr (by rw [blk_some]))) (.bool true)
              clear hR
              go_wp2_with fail
              go_roundw
              case rel => exact ⟨k, by omega, by go_num, hR2, hO2⟩
              case measure => simp [intOf]
      · rw [decide_eq_false hs] at hat
        obtain ⟨g, rfl, y1, yz, yn⟩ := hat
        have hR2 := hR.set0 k (by rw [syn_len]; exact hk)
        rw [syn_at _ _ hk, syn_set _ _ hk] at hR2
        have hO2 := hO.setCell (p := ⟨g, k * 2 + 1, none⟩) (fun _ => .inr (.inl (by rw [blk_some]))) (.bool true)
        clear hR
        go_wp2_with fail
        go_roundw
        case rel => exact ⟨k, by omega, by go_num, hR2, hO2⟩
        case measure => simp [intOf]
end
end Go.Proofs.Ytofocdigbcdfaaa
