import Derived.Test.YtofocdigbcdfaaaR4
namespace Go.Proofs.Ytofocdigbcdfaaa
open Go.RowKit Mem Disk
section
variable {w w' : World} {e : Nat} {D : Dk} {G : Nat → Prop} {A0 A1 : Option Addr} {c0 c1 : Nat}

theorem RIn.only {S : Nat → Prop} (h : RIn w e D A0 A1 c0 c1) (ho : Only S w w') (hd : ∀ k, own e A0 A1 k → ¬ S k) : RIn w' e D A0 A1 c0 c1 :=
  h.kept (ho.block e h.lt (hd e (.inl rfl))) (fun k hk => ho.block k (h.own_lt k (.inr (.inl hk))) (hd k (.inr (.inl hk)))) (fun k hk => ho.block k (h.own_lt k (.inr (.inr hk))) (hd k (.inr (.inr hk))))

set_option maxRecDepth 100000 in
set_option maxHeartbeats 1000000 in
theorem rclone_at (h : RDsk w e D G) (c : Nat) (hc : w.heap.size = c) :
    Calls Try.prog 27 #[.pointer (some ⟨e, 0, none⟩)] w fun y w' => y = .returned (.pointer (some ⟨c, 0, none⟩)) ∧ RGoes w c (fun _ => False) D w' := by
  obtain ⟨A0, A1, c0, c1, hI, rfl⟩ := h
  have s0 := hI.ok.sa; have s1 := hI.ok.sb; have f1 := hI.ok.fit; have f2 := hI.ok.top
  have hlt := hI.own_lt
  have hel := hI.lt
  obtain ⟨x0, x1, x2, -⟩ := hI.cells
  have ha := hI.kept (w' := w.alloc (.cells #[.int .i64 D.room, .slice none 0 0, .slice none 0 0] 92)) (Below.heap_alloc _ _ _ hI.lt) (fun k hk => Below.heap_alloc _ _ _ (hlt k (.inr (.inl hk)))) (fun k hk => Below.heap_alloc _ _ _ (hlt k (.inr (.inr hk))))
  have hCa : RIn (w.alloc (.cells #[.int .i64 D.room, .slice none 0 0, .slice none 0 0] 92)) c ⟨D.room, ⟨[], 0⟩, ⟨[], 0⟩⟩ none none 0 0 :=
    ⟨⟨Nat.le_refl _, Nat.le_refl _, by simp, f2⟩, by rw [← hc]; exact heap_alloc_new w _, ⟨rfl, .inl ⟨rfl, rfl⟩⟩, ⟨rfl, .inl ⟨rfl, rfl⟩⟩, fun k h => (blk_none k h).elim⟩
  have hOa : Only (fun _ => False) w (w.alloc (.cells #[.int .i64 D.room, .slice none 0 0, .slice none 0 0] 92)) := (Only.refl _ _).alloc _
  have hsza : w.heap.size < (w.alloc (.cells #[.int .i64 D.room, .slice none 0 0, .slice none 0 0] 92)).heap.size := by simp
  have hoc : ∀ k, own e A0 A1 k → k < c := fun k hk => by have := hlt k hk; omega
  go_enter Try.func27, Try.ntmps27
  go_wp2_with fail
  refine wp_loop_rounds 3 ?_
  rw [rounds_succ]
  go_wp2_with fail
  generalize w.alloc (.cells #[.int .i64 D.room, .slice none 0 0, .slice none 0 0] 92) = wa at *
  obtain ⟨q0, q1, q2, fz⟩ := ha.cells
  obtain ⟨k0, k1, k2, kz⟩ := hCa.cells
  have k1' : wa.cell? ⟨c, 1, none⟩ = some (.slice none 0 0) := k1
  clear k0 k1 k2 x0 x1 x2
  have hp : (prs D.a).take D.a.b.length = prs D.a := List.take_of_length_le (by rw [prs_len]; exact Nat.le_refl _)
  go_region_law ((go_simp; go_at_call 40; refine (first_any wa.drew A0 D.a.b.length c0 D.a.b.length (prs D.a) (prs_len _) (by omega) (Nat.le_refl _) (cs_of_own ha.drew.b0)).mono ?_; intro y w1 hM; rw [hp] at hM; obtain ⟨A, c', rfl, ho, hb⟩ := makes_form hM; have zc := (hb.cell (p := ⟨c, 1, none⟩) hCa.lt).trans k1'; have zf : w1.frozen? ⟨c, 1, none⟩ = false := (hb.frozen (p := ⟨c, 1, none⟩) hCa.lt).trans (kz 1)))
  all_goals
    have hG1 := hCa.put0 (below_of_drew hb) (s := D.a) (prs_len _) ho ⟨s0, Nat.le_refl _, by simp; omega, f2⟩
    obtain ⟨G1, hD1, hO1, hg1⟩ := hG1
    obtain ⟨B0, B1, d0, d1, hC1, rfl⟩ := hD1
    have hnot : ∀ k, own e A0 A1 k → ¬ own c none none k := by
      rintro k hk (rfl | h | h)
      · have := hoc _ hk; omega
      · exact blk_none _ h
      · exact blk_none _ h
    have he1 := ha.only hO1 hnot
    generalize w1.setCell ⟨c, 1, none⟩ (.slice A (prs D.a).length c') = w2 at *
    obtain ⟨q0', q1', q2', fz'⟩ := he1.cells
    obtain ⟨-, -, k2, kz'⟩ := hC1.cells
    have k2' : w2.cell? ⟨c, 2, none⟩ = some (.slice B1 0 d1) := k2
    have hp' : (prs D.b).take D.b.b.length = prs D.b := List.take_of_length_le (by rw [prs_len]; exact Nat.le_refl _)
    clear k2 q0 q1 q2 fz k1' hp zc zf
    go_wp2_with fail
    rw [rounds_succ]
    go_wp2_with fail
    go_region_law ((go_simp; go_at_call 40; refine (first_any w2.drew A1 D.b.b.length c1 D.b.b.length (prs D.b) (prs_len _) (by omega) (Nat.le_refl _) (cs_of_own he1.drew.b1)).mono ?_; intro y w3 hM2; rw [hp'] at hM2; obtain ⟨A', c'', rfl, ho2, hb2⟩ := makes_form hM2; have zc2 := (hb2.cell (p := ⟨c, 2, none⟩) hC1.lt).trans k2'; have zf2 : w3.frozen? ⟨c, 2, none⟩ = false := (hb2.frozen (p := ⟨c, 2, none⟩) hC1.lt).trans (kz' 2)))
    all_goals
      have hG2 := hC1.put1 (below_of_drew hb2) (s := D.b) (prs_len _) ho2 hI.ok
      obtain ⟨G2, hD2, hO2, hg2⟩ := hG2
      have hnn : ∀ k, own c none none k → c ≤ k := by
        rintro k (rfl | h | h)
        · exact Nat.le_refl _
        · exact (blk_none _ h).elim
        · exact (blk_none _ h).elim
      have h1c : ∀ k, own c B0 B1 k → c ≤ k := fun k hk => (hg1 k hk).elim (hnn k) (fun h => by omega)
      have hfin : RGoes w c (fun _ => False) D (w3.setCell ⟨c, 2, none⟩ (.slice A' (prs D.b).length c'')) :=
        ⟨G2, hD2, (hOa.trans hO1 (fun i hi h => by have := hnn i h; omega)).trans hO2 (fun i hi h => by have := h1c i h; omega), fun k hk => .inr ((hg2 k hk).elim (fun h => by have := h1c k h; omega) (fun h => by have := hO1.size; omega))⟩
      clear hD2 hO2 hg2 zc2 zf2
      go_wp2_with fail
      rw [rounds_succ]
      go_wp2_with fail
      go_ret
      exact ⟨rfl, hfin⟩
end
end Go.Proofs.Ytofocdigbcdfaaa
