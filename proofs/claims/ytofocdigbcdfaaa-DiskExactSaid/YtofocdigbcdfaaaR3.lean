import Derived.Test.YtofocdigbcdfaaaR2
namespace Go.Proofs.Ytofocdigbcdfaaa
open Go.RowKit Mem Disk
section
variable {w w' : World} {e : Nat} {D : Dk} {G : Nat → Prop} {A0 A1 : Option Addr} {c0 c1 : Nat}

/-- A new row is laid into slot 0. -/
theorem RIn.put0 (h : RIn w e D A0 A1 c0 c1) {w1 : World} (hb : Below w.heap.size w w1) {s : Sl} {A : Option Addr} {c n : Nat} (hn : n = s.b.length)
    (ho : w1.ownsRow w.heap.size 98 2 (.slice A n c) n (pc (prs s))) (hok : ({ D with a := s } : Dk).ok) :
    RGoes w e (own e A0 A1) { D with a := s } (w1.setCell ⟨e, 1, none⟩ (.slice A n c)) := by
  subst hn
  have hA : ∀ k, blk A k → w.heap.size ≤ k := fun k hk => (Go.Proofs.Ytofocdigbcdfaaa.own_lt ho k hk).1
  have h1lt : ∀ k, blk A1 k → k < w.heap.size := fun k hk => (Go.Proofs.Ytofocdigbcdfaaa.own_lt h.b1 k hk).2
  have n1 := own_ne h.b1 h.row (by decide)
  have hrow : w1.heap[e]? = _ := (hb.block e h.lt).trans h.row
  refine ⟨own e A A1, ⟨A, A1, c, c1, ⟨hok, ?_, ?_, ?_, ?_⟩, rfl⟩, ?_, ?_⟩
  · rw [row_set hrow]; simp
  · exact own_kept (own_base ho) (fun k hk => other (by have := hA k hk; have := h.lt; simp; omega))
  · exact own_kept h.b1 (fun k hk => (other (n1 k hk)).trans (hb.block k (h1lt k hk)))
  · intro k hk hk'; have := hA k hk; have := h1lt k hk'; omega
  · exact (Only.of_below hb).setCell (p := ⟨e, 1, none⟩) (fun _ => .inl rfl) _
  · rintro k (rfl | hk | hk)
    · exact .inl (.inl rfl)
    · exact .inr (hA k hk)
    · exact .inl (.inr (.inr hk))

/-- A new row is laid into slot 1. -/
theorem RIn.put1 (h : RIn w e D A0 A1 c0 c1) {w1 : World} (hb : Below w.heap.size w w1) {s : Sl} {A : Option Addr} {c n : Nat} (hn : n = s.b.length)
    (ho : w1.ownsRow w.heap.size 98 2 (.slice A n c) n (pc (prs s))) (hok : ({ D with b := s } : Dk).ok) :
    RGoes w e (own e A0 A1) { D with b := s } (w1.setCell ⟨e, 2, none⟩ (.slice A n c)) := by
  subst hn
  have hA : ∀ k, blk A k → w.heap.size ≤ k := fun k hk => (Go.Proofs.Ytofocdigbcdfaaa.own_lt ho k hk).1
  have h0lt : ∀ k, blk A0 k → k < w.heap.size := fun k hk => (Go.Proofs.Ytofocdigbcdfaaa.own_lt h.b0 k hk).2
  have n0 := own_ne h.b0 h.row (by decide)
  have hrow : w1.heap[e]? = _ := (hb.block e h.lt).trans h.row
  refine ⟨own e A0 A, ⟨A0, A, c0, c, ⟨hok, ?_, ?_, ?_, ?_⟩, rfl⟩, ?_, ?_⟩
  · rw [row_set hrow]; simp
  · exact own_kept h.b0 (fun k hk => (other (n0 k hk)).trans (hb.block k (h0lt k hk)))
  · exact own_kept (own_base ho) (fun k hk => other (by have := hA k hk; have := h.lt; simp; omega))
  · intro k hk hk'; have := h0lt k hk; have := hA k hk'; omega
  · exact (Only.of_below hb).setCell (p := ⟨e, 2, none⟩) (fun _ => .inl rfl) _
  · rintro k (rfl | hk | hk)
    · exact .inl (.inl rfl)
    · exact .inl (.inr (.inl hk))
    · exact .inr (hA k hk)

theorem trunc_ok0 (h : D.ok) {m : Nat} (hm : m ≤ D.a.b.length) : ({ D with a := D.a.cut m } : Dk).ok := by
  have := h.trunc 0 m
  unfold Dk.trunc at this
  rw [if_pos ⟨.inl rfl, by omega, by simp [Dk.get]; omega⟩] at this
  simpa [Dk.set, Dk.get] using this
theorem trunc_ok1 (h : D.ok) {m : Nat} (hm : m ≤ D.b.b.length) : ({ D with b := D.b.cut m } : Dk).ok := by
  have := h.trunc 1 m
  unfold Dk.trunc at this
  rw [if_pos ⟨.inr rfl, by omega, by simp [Dk.get]; omega⟩] at this
  simpa [Dk.set, Dk.get] using this

theorem makes_form {l : List (UInt8 × Bool)} {x : Ending} (h : Makes w l x w') : ∃ A c, x = .returned (.slice A l.length c) ∧ w'.ownsRow w.heap.size 98 2 (.slice A l.length c) l.length (pc l) ∧ Below w.heap.size w w' := by
  obtain ⟨v, rfl, h1, h2⟩ := h
  obtain ⟨A, c, rfl⟩ := own_slice h1
  exact ⟨A, c, rfl, h1, h2⟩

theorem RIn.drew (h : RIn w e D A0 A1 c0 c1) : RIn w.drew e D A0 A1 c0 c1 := h.kept rfl (fun _ _ => rfl) (fun _ _ => rfl)

set_option maxRecDepth 100000 in
set_option maxHeartbeats 1000000 in
theorem rtrunc_any (h : RDsk w e D G) (i n : Int) (x : Int) (hE : D.truncE i n = x) :
    Calls Try.prog 45 #[.pointer (some ⟨e, 0, none⟩), .int .i64 i, .int .i64 n] w fun y w' => y = .returned (.int .i64 x) ∧ RGoes w e G (D.trunc i n) w' := by
  obtain ⟨A0, A1, c0, c1, hI, rfl⟩ := h
  obtain ⟨q0, q1, q2, fz⟩ := hI.cells
  have s0 := hI.ok.sa; have s1 := hI.ok.sb; have f1 := hI.ok.fit; have f2 := hI.ok.top
  by_cases hr : right i
  · by_cases hn : 0 ≤ n ∧ n ≤ (D.get i).b.length
    · obtain rfl : x = 0 := by rw [← hE]; exact if_pos ⟨hr, hn⟩
      have hT : D.trunc i n = D.set i ((D.get i).cut n.toNat) := if_pos ⟨hr, hn⟩
      rw [hT]; clear hE hT
      obtain ⟨hn0, hn1⟩ := hn
      obtain ⟨m, rfl⟩ := Int.eq_ofNat_of_zero_le hn0
      rcases hr with rfl | rfl
      · have hm : m ≤ D.a.b.length := by simpa [Dk.get] using hn1
        have hc := prs_take D.a m s0
        have hset : D.set 0 ((D.get 0).cut ((m : Nat) : Int).toNat) = { D with a := D.a.cut m } := by simp [Dk.set, Dk.get]
        have HS := Lib.hid hset
        clear hn0 hn1 hset
        go_enter Try.func45, Try.ntmps45
        go_wp2_with (first | (go_at_call 56; refine (right_yes (.inl rfl) _).mono ?_; rintro y w' ⟨rfl, rfl⟩))
        go_region_law ((go_simp; go_at_call 40; refine (first_any w.drew A0 D.a.b.length c0 m (prs D.a) (prs_len _) (by omega) hm (cs_of_own hI.drew.b0)).mono ?_; intro y w1 hM; obtain ⟨A, c, rfl, ho, hb⟩ := makes_form hM; have zc := (hb.cell (p := ⟨e, 1, none⟩) hI.lt).trans q1; have zf : w1.frozen? ⟨e, 1, none⟩ = false := (hb.frozen (p := ⟨e, 1, none⟩) hI.lt).trans (fz 1)))
        all_goals
          rw [hc] at ho
          have hG := hI.put0 (below_of_drew hb) (s := D.a.cut m) (prs_len _) ho (trunc_ok0 hI.ok hm)
          go_wp2_with fail
          go_ret
          exact ⟨rfl, by rw [HS.out]; exact hG⟩
      · have hm : m ≤ D.b.b.length := by simpa [Dk.get] using hn1
        have hc := prs_take D.b m s1
        have hset : D.set 1 ((D.get 1).cut ((m : Nat) : Int).toNat) = { D with b := D.b.cut m } := by simp [Dk.set, Dk.get]
        have HS := Lib.hid hset
        clear hn0 hn1 hset
        go_enter Try.func45, Try.ntmps45
        go_wp2_with (first | (go_at_call 56; refine (right_yes (.inr rfl) _).mono ?_; rintro y w' ⟨rfl, rfl⟩))
        go_region_law ((go_simp; go_at_call 40; refine (first_any w.drew A1 D.b.b.length c1 m (prs D.b) (prs_len _) (by omega) hm (cs_of_own hI.drew.b1)).mono ?_; intro y w1 hM; obtain ⟨A, c, rfl, ho, hb⟩ := makes_form hM; have zc := (hb.cell (p := ⟨e, 2, none⟩) hI.lt).trans q2; have zf : w1.frozen? ⟨e, 2, none⟩ = false := (hb.frozen (p := ⟨e, 2, none⟩) hI.lt).trans (fz 2)))
        all_goals
          rw [hc] at ho
          have hG := hI.put1 (below_of_drew hb) (s := D.b.cut m) (prs_len _) ho (trunc_ok1 hI.ok hm)
          go_wp2_with fail
          go_ret
          exact ⟨rfl, by rw [HS.out]; exact hG⟩
    · obtain rfl : x = 61 := by rw [← hE]; exact if_neg (fun h => hn h.2)
      have hT : D.trunc i n = D := if_neg (fun h => hn h.2)
      rw [hT]; clear hE hT
      have hG := hI.dsk.goes
      by_cases hn0 : n < 0
      · go_enter Try.func45, Try.ntmps45
        go_wp2_with (first | (go_at_call 56; refine (right_yes hr _).mono ?_; rintro y w' ⟨rfl, rfl⟩))
        go_ret
        exact ⟨rfl, hG⟩
      · rcases hr with rfl | rfl
        · have hm : (D.a.b.length : Int) < n := by simp [Dk.get] at hn; omega
          go_enter Try.func45, Try.ntmps45
          go_wp2_with (first | (go_at_call 56; refine (right_yes (.inl rfl) _).mono ?_; rintro y w' ⟨rfl, rfl⟩))
          go_ret
          exact ⟨rfl, hG⟩
        · have hm : (D.b.b.length : Int) < n := by simp [Dk.get] at hn; omega
          go_enter Try.func45, Try.ntmps45
          go_wp2_with (first | (go_at_call 56; refine (right_yes (.inr rfl) _).mono ?_; rintro y w' ⟨rfl, rfl⟩))
          go_ret
          exact ⟨rfl, hG⟩
  · obtain rfl : x = 61 := by rw [← hE]; exact if_neg (fun h => hr h.1)
    have hT : D.trunc i n = D := if_neg (fun h => hr h.1)
    rw [hT]; clear hE hT
    have hG := hI.dsk.goes
    go_enter Try.func45, Try.ntmps45
    go_wp2_with (first | (go_at_call 56; refine (right_no hr _).mono ?_; rintro y w' ⟨rfl, rfl⟩))
    go_ret
    exact ⟨rfl, hG⟩

set_option maxHeartbeats 400000 in
theorem rremove_any (h : RDsk w e D G) (i : Int) (x : Int) (hE : D.truncE i 0 = x) :
    Calls Try.prog 46 #[.pointer (some ⟨e, 0, none⟩), .int .i64 i] w fun y w' => y = .returned (.int .i64 x) ∧ RGoes w e G (D.trunc i 0) w' := by
  go_enter Try.func46, Try.ntmps46
  go_wp2_with (first | (go_at_call 45; refine (rtrunc_any h i 0 x hE).mono ?_; rintro y w' ⟨rfl, hg⟩))
  go_ret
  exact ⟨rfl, hg⟩

theorem crash_ok0 (h : D.ok) (k : Int) : ({ D with a := D.a.crash k } : Dk).ok := by
  have := h.crash k 0
  have h3 := h.fit; have h4 := h.top
  have ha := D.a.kept_le h.sa k
  exact ⟨this.sa, h.sb, by simp [Sl.crash]; omega, h4⟩

set_option maxRecDepth 100000 in
set_option maxHeartbeats 1000000 in
theorem rcrash_any (h : RDsk w e D G) (k0 k1 : Int) (a0 : -9223372036854775808 ≤ k0) (a1 : k0 ≤ 9223372036854775807) (b0 : -9223372036854775808 ≤ k1) (b1 : k1 ≤ 9223372036854775807) :
    Calls Try.prog 49 #[.pointer (some ⟨e, 0, none⟩), .int .i64 k0, .int .i64 k1] w fun y w' => y = .returned (.tuple #[]) ∧ RGoes w e G (D.crash k0 k1) w' := by
  obtain ⟨A0, A1, c0, c1, hI, rfl⟩ := h
  obtain ⟨q0, q1, q2, fz⟩ := hI.cells
  have s0 := hI.ok.sa; have s1 := hI.ok.sb; have f1 := hI.ok.fit; have f2 := hI.ok.top
  have hc := prs_crash D.a k0 s0
  go_enter Try.func49, Try.ntmps49
  go_wp2_with fail
  go_region_law ((go_simp; go_at_call 57; refine (kept_any w.drew A0 D.a.b.length c0 k0 a0 a1 (prs D.a) (prs_len _) (by omega) (cs_of_own hI.drew.b0)).mono ?_; intro y w1 hM; obtain ⟨A, c, rfl, ho, hb⟩ := makes_form hM; have zc := (hb.cell (p := ⟨e, 1, none⟩) hI.lt).trans q1; have zf : w1.frozen? ⟨e, 1, none⟩ = false := (hb.frozen (p := ⟨e, 1, none⟩) hI.lt).trans (fz 1)))
  all_goals
    rw [hc] at ho
    have hG := hI.put0 (below_of_drew hb) (s := D.a.crash k0) (prs_len _) ho (crash_ok0 hI.ok k0)
    obtain ⟨G1, hD1, hO1, hG1⟩ := hG
    obtain ⟨A0', A1', c0', c1', hI', rfl⟩ := hD1
    have hc' := prs_crash D.b k1 s1
    generalize w1.setCell ⟨e, 1, none⟩ (.slice A (prs (D.a.crash k0)).length c) = w2 at *
    obtain ⟨-, -, p2, pz⟩ := hI'.cells
    have p2' : w2.cell? ⟨e, 2, none⟩ = some (.slice A1' D.b.b.length c1') := p2
    have hcs := cs_of_own hI'.drew.b1
    have hcs' : Cs w2.drew w2.drew.heap.size A1' (prs D.b) := hcs
    clear p2 hcs
    go_wp2_with fail
    go_region_law ((go_simp; go_at_call 57; refine (kept_any w2.drew A1' D.b.b.length c1' k1 b0 b1 (prs D.b) (prs_len _) (by omega) hcs').mono ?_; intro y w3 hM2; obtain ⟨A', c', rfl, ho2, hb2⟩ := makes_form hM2; have zc2 := (hb2.cell (p := ⟨e, 2, none⟩) hI'.lt).trans p2'; have zf2 : w3.frozen? ⟨e, 2, none⟩ = false := (hb2.frozen (p := ⟨e, 2, none⟩) hI'.lt).trans (pz 2)))
    all_goals
      rw [hc'] at ho2
      have hG2 := hI'.put1 (below_of_drew hb2) (s := D.b.crash k1) (prs_len _) ho2 (hI.ok.crash k0 k1)
      obtain ⟨G2, hD2, hO2, hg2⟩ := hG2
      have hfin : RGoes w e (own e A0 A1) (D.crash k0 k1) (w3.setCell ⟨e, 2, none⟩ (.slice A' (prs (D.b.crash k1)).length c')) :=
        ⟨G2, hD2, hO1.trans hO2 (fun i hi h => (hG1 i h).elim id (fun h => by omega)), fun k hk => (hg2 k hk).elim (hG1 k) (fun h => .inr (Nat.le_trans hO1.size h))⟩
      clear hD2 hO2 hg2
      go_wp2_with fail
      go_end0
      exact ⟨rfl, hfin⟩
end
end Go.Proofs.Ytofocdigbcdfaaa
