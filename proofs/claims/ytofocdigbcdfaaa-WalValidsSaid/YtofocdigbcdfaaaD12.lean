/- The walk of DiskClone, and the contract of alike: it returns true for every capacity and all lists of steps. -/
import Derived.Test.YtofocdigbcdfaaaD9
import Derived.Deep.DeepCutAuto
namespace Go.Proofs.Ytofocdigbcdfaaa
open Go.RowKit Mem Disk
section
variable {w w' : World} {d : Nat} {D : Dk} {F G : Nat → Prop}

theorem synced_at (h : Dsk w d D F) (i : Int) (x : Int) (hx : (D.synced i : Int) = x) :
    Calls Try.prog 21 #[.pointer (some ⟨d, 0, none⟩), .int .i64 i] w fun e w' => e = .returned (.int .i64 x) ∧ w = w' := by
  subst hx
  exact synced_is h i

set_option maxRecDepth 100000 in
set_option maxHeartbeats 1000000 in
/-- Two disks that read the same are alike. -/
theorem alike_yes {a b : Nat} (ha : Dsk w a D F) (hb : Dsk w b D G) :
    Calls Try.prog 29 #[.pointer (some ⟨a, 0, none⟩), .pointer (some ⟨b, 0, none⟩)] w fun e w' => e = .returned (.bool true) ∧ Below w.heap.size w w' := by
  obtain ⟨s0, h0⟩ : ∃ s, str (D.bytes 0) = s := ⟨_, rfl⟩
  obtain ⟨s1, h1⟩ : ∃ s, str (D.bytes 1) = s := ⟨_, rfl⟩
  obtain ⟨n0, k0⟩ : ∃ n : Int, (D.synced 0 : Int) = n := ⟨_, rfl⟩
  obtain ⟨n1, k1⟩ : ∃ n : Int, (D.synced 1 : Int) = n := ⟨_, rfl⟩
  obtain ⟨f, hf⟩ : ∃ n : Int, (D.free : Int) = n := ⟨_, rfl⟩
  obtain ⟨u, hu⟩ : ∃ n : Int, (D.used : Int) = n := ⟨_, rfl⟩
  have H0 := Lib.hid h0; have H1 := Lib.hid h1; have K0 := Lib.hid k0; have K1 := Lib.hid k1; have HF := Lib.hid hf; have HU := Lib.hid hu
  clear h0 h1 k0 k1 hf hu
  go_enter Try.func29, Try.ntmps29
  go_wp2_with fail
  refine wp_loop_rounds 3 ?_
  rw [rounds_succ]
  go_wp2_with fail
  refine (bytes_is ha 0 s0 H0.out).mono ?_; rintro e w1 ⟨rfl, rfl⟩
  go_wp2_with fail
  refine (bytes_is hb 0 s0 H0.out).mono ?_; rintro e w1 ⟨rfl, rfl⟩
  go_wp2_with fail
  refine (synced_at ha 0 n0 K0.out).mono ?_; rintro e w1 ⟨rfl, rfl⟩
  go_wp2_with fail
  refine (synced_at hb 0 n0 K0.out).mono ?_; rintro e w1 ⟨rfl, rfl⟩
  go_wp2_with fail
  rw [rounds_succ]
  go_wp2_with fail
  refine (bytes_is ha 1 s1 H1.out).mono ?_; rintro e w1 ⟨rfl, rfl⟩
  go_wp2_with fail
  refine (bytes_is hb 1 s1 H1.out).mono ?_; rintro e w1 ⟨rfl, rfl⟩
  go_wp2_with fail
  refine (synced_at ha 1 n1 K1.out).mono ?_; rintro e w1 ⟨rfl, rfl⟩
  go_wp2_with fail
  refine (synced_at hb 1 n1 K1.out).mono ?_; rintro e w1 ⟨rfl, rfl⟩
  go_wp2_with fail
  rw [rounds_succ]
  go_wp2_with fail
  refine (free_is ha f HF.out).mono ?_; rintro e w1 ⟨rfl, g1⟩
  have ha1 := ha.below g1; have hb1 := hb.below g1
  go_wp2_with fail
  refine (free_is hb1 f HF.out).mono ?_; rintro e w2 ⟨rfl, g2⟩
  have ha2 := ha1.below g2; have hb2 := hb1.below g2
  go_wp2_with fail
  refine (used_is ha2 u HU.out).mono ?_; rintro e w3 ⟨rfl, g3⟩
  have ha3 := ha2.below g3; have hb3 := hb2.below g3
  go_wp2_with fail
  refine (used_is hb3 u HU.out).mono ?_; rintro e w4 ⟨rfl, g4⟩
  go_wp2_with fail
  go_ret
  have z1 := g1.size; have z2 := g2.size; have z3 := g3.size
  exact ⟨by simp, ((g1.trans (g2.mono z1)).trans (g3.mono (by omega))).trans (g4.mono (by omega))⟩
end

/-- Two sets of blocks that share none. -/
def Apart (F G : Nat → Prop) : Prop := ∀ k, F k → ¬ G k
theorem Apart.symm {F G : Nat → Prop} (h : Apart F G) : Apart G F := fun k hg hf => h k hf hg

section
variable {w w' : World} {d c : Nat} {D E : Dk} {F G H : Nat → Prop}

/-- A call on the disk c, seen by another disk d. -/
theorem Goes.beside {E' : Dk} (hg : Goes w c G E' w') (hd : Dsk w d D F) (hap : Apart F G) :
    Dsk w' d D F := by
  obtain ⟨G', h1, h2, h3⟩ := hg
  exact hd.only h2 hap

/-- A call on the disk c: what it leaves, the others' blocks given. -/
theorem Goes.all {S : Nat} {w0 : World} {E' : Dk} (hg : Goes w c G E' w') (hG : From S G) (hS : S ≤ w.heap.size) (hb : Below S w0 w) :
    ∃ G', Dsk w' c E' G' ∧ From S G' ∧ Below S w0 w' ∧ (∀ F, (∀ k, F k → k < w.heap.size) → Apart F G → Apart F G') ∧ (∀ d D F, Dsk w d D F → Apart F G → Dsk w' d D F) ∧ w.heap.size ≤ w'.heap.size := by
  obtain ⟨G', h1, h2, h3⟩ := hg
  refine ⟨G', h1, fun k hk => (h3 k hk).elim (hG k) (fun h => Nat.le_trans hS h), hb.trans (h2.below hS hG), ?_, fun d D F hd hap => hd.only h2 hap, h2.size⟩
  intro F hlt hap k hk hk'
  rcases h3 k hk' with h | h
  · exact hap k hk h
  · have := hlt k hk; omega
end

/-- The disk behind the head of DiskClone. -/
def cloneHead (cap : Int) : Dk := if 0 < cap then (Dk.new cap).app 1 [99] else Dk.new cap

section
variable {w w' : World}

theorem room_lt {S : Nat} {w0 w1 : World} {o : Obj} (h : Below S (w0.alloc o) w1) : w0.heap.size + 1 ≤ w1.heap.size := by
  have := h.size; rwa [World.size_alloc] at this

theorem clone_at {d : Nat} {D : Dk} {F : Nat → Prop} (h : Dsk w d D F) (n : Nat) (hn : w.heap.size = n) :
    Calls Try.prog 26 #[.pointer (some ⟨d, 0, none⟩)] w fun e w' => e = .returned (.pointer (some ⟨n, 0, none⟩)) ∧ Goes w n (fun _ => False) D w' := by
  subst hn
  exact clone_any h

set_option maxRecDepth 100000 in
set_option maxHeartbeats 2000000 in
theorem clone_law (cap : Int) (A B : Option Addr) (na nb ca cb : Nat) (l m : List St) (hl : l.length = na) (hm : m.length = nb) (hna : na ≤ 9223372036854775807) (hnb : nb ≤ 9223372036854775807) (w : World) (hs : Steps w A l) (ht : Steps w B m) :
    Calls Try.prog 8 #[.agg #[.int .i64 cap, .slice A na ca, .slice B nb cb]] w fun e w' => e = .returned (.bool true) ∧ Below w.heap.size w w' := by
  go_enter Try.func8, Try.ntmps8
  go_wp2_with fail
  refine (new_at cap _ (w.heap.size + 1) (by simp)).mono ?_
  rintro e w1 ⟨rfl, hg⟩
  obtain ⟨F, hD, hF, hB, hO⟩ := hg.out (S := w.heap.size + 1) (w0 := (w.alloc (.cells #[.int .i64 cap, .slice A na ca, .slice B nb cb] 24))) (fun _ h => h.elim) (by simp) (Below.refl _ _)
  clear hg hO
  have x0 : w1.cell? ⟨w.heap.size, 0, none⟩ = some (.int .i64 cap) := (hB.cell (p := ⟨w.heap.size, 0, none⟩) (by simp)).trans (by simp [go_sem])
  have hsz := room_lt hB
  go_upto_region 2 with fail
  go_cut [23] (fun s23 wx => s23 = .bool false ∧ ∃ F, Dsk wx (w.heap.size + 1) (cloneHead cap) F ∧ From (w.heap.size + 1) F ∧ Below (w.heap.size + 1) (w.alloc (.cells #[.int .i64 cap, .slice A na ca, .slice B nb cb] 24)) wx)
  case first =>
    by_cases hc : 0 < cap
    · obtain ⟨hE, hT⟩ := head_fit hc 1 (.inr rfl) ⟨#[99]⟩ rfl
      have hd0 : cloneHead cap = (Dk.new cap).app 1 [99] := if_pos hc
      have HD := Lib.hid hd0; clear hd0
      go_wp2_with fail
      refine (append_is hD _ ⟨#[99]⟩ _ hE).mono ?_
      rintro e w2 ⟨rfl, hg⟩
      obtain ⟨F2, hD2, hF2, hB2, hO2⟩ := hg.out hF hsz hB
      clear hg
      go_wp2_with fail
      go_meet
      exact ⟨rfl, F2, by rw [HD.out]; exact hD2, hF2, hB2⟩
    · have hd0 : cloneHead cap = Dk.new cap := if_neg hc
      have HD := Lib.hid hd0; clear hd0
      go_wp2_with fail
      go_meet
      exact ⟨rfl, F, by rw [HD.out]; exact hD, hF, hB⟩
  case rest =>
    clear hD hF hB x0 hsz F
    obtain ⟨rfl, F, hD, hF, hB⟩ := hcut
    have hhead : 0 < cap → str ((cloneHead cap).bytes 1) = ⟨#[99]⟩ := fun hc => by unfold cloneHead; rw [if_pos hc]; exact (head_fit hc 1 (.inr rfl) ⟨#[99]⟩ rfl).2
    have HH := Lib.hid hhead; clear hhead
    generalize cloneHead cap = H at *
    go_wp2_with fail
    go_loopw [4] (fun i wr => ∃ k : Nat, k ≤ na ∧ i = .int .i64 k ∧ ∃ F, Dsk wr (w.heap.size + 1) (H.acts (l.take k)) F ∧ From (w.heap.size + 1) F ∧ Below (w.heap.size + 1) (w.alloc (.cells #[.int .i64 cap, .slice A na ca, .slice B nb cb] 24)) wr) (fun i _ => na - (intOf i).toNat)
    case atStart => exact ⟨0, Nat.zero_le _, rfl, F, hD, hF, hB⟩
    case round =>
      clear hD hF hB F
      obtain ⟨k, hk, rfl, F, hD, hF, hB⟩ := hrel
      have xc : wr.cell? ⟨w.heap.size, 1, none⟩ = some (.slice A na ca) := (hB.cell (p := ⟨w.heap.size, 1, none⟩) (by simp)).trans (by simp [go_sem])
      have hsz := room_lt hB
      by_cases hlt : k < na
      · obtain ⟨b, off, st, rfl, hb, hst, y0, y1, y2, y3, y4, y5⟩ := hs.fetch (w1 := wr) (fun p hp => (hB.cell (by omega)).trans (World.cell?_alloc_lt _ _ _ hp)) (k := k) (by omega)
        have HN := Lib.hid (acts_next (D := H) hst)
        clear hst
        generalize H.acts (l.take k) = D at *
        obtain ⟨kind, on, slot, n, q, s⟩ := st
        simp only at y0 y1 y2 y3 y4 y5
        go_wp2_with fail
        refine (act_any hD kind on slot n q s).mono ?_
        rintro e w1 ⟨rfl, hg⟩
        obtain ⟨F1, hD1, hF1, hB1, hO1⟩ := hg.out hF hsz hB
        clear hg
        go_wp2_with fail
        go_roundw
        case rel => exact ⟨k + 1, by omega, by go_num, F1, by rw [HN.out]; exact hD1, hF1, hB1⟩
        case measure => simp [intOf]; omega
      · obtain rfl : na = k := by omega
        have hD0 : Dsk wr (w.heap.size + 1) (H.acts l) F := by rw [List.take_of_length_le (by omega)] at hD; exact hD
        have hbeg : na = 0 → 0 < cap → str ((H.acts l).bytes 1) = ⟨#[99]⟩ := fun h0 hc => by
          obtain rfl : l = [] := List.eq_nil_of_length_eq_zero (by omega)
          exact HH.out hc
        have HG := Lib.hid hbeg
        clear hD hbeg HH
        generalize H.acts l = D at *
        go_wp2_with fail
        refine (clone_at hD0 _ rfl).mono ?_
        rintro e w2 ⟨rfl, hg⟩
        obtain ⟨G, hE, hG, hB2, hap, hoth, hz2⟩ := hg.all (S := w.heap.size + 1) (fun _ h => h.elim) hsz hB
        have hD2 := hoth _ _ _ hD0 (fun _ _ h => h)
        have aFG := hap F hD0.lt (fun _ _ h => h)
        clear hg hap hoth hD0 hB xc
        generalize wr.heap.size = cB at *
        have hsz2 := room_lt hB2
        go_wp2_with fail
        refine (clone_at hD2 _ rfl).mono ?_
        rintro e w3 ⟨rfl, hg⟩
        obtain ⟨K, hS, hK, hB3, hap, hoth, hz3⟩ := hg.all (S := w.heap.size + 1) (fun _ h => h.elim) hsz2 hB2
        have hD3 := hoth _ _ _ hD2 (fun _ _ h => h)
        have hE3 := hoth _ _ _ hE (fun _ _ h => h)
        have aFK := hap F hD2.lt (fun _ _ h => h)
        have aGK := hap G hE.lt (fun _ _ h => h)
        clear hg hap hoth hD2 hE hB2
        generalize w2.heap.size = sB at *
        have hsz3 := room_lt hB3
        go_wp2_with fail
        refine (alike_yes hE3 hD3).mono ?_
        rintro e w4 ⟨rfl, hb4⟩
        have hD4 := hD3.below hb4
        have hE4 := hE3.below hb4
        have hS4 := hS.below hb4
        have hB4 := hB3.trans (hb4.mono hsz3)
        clear hD3 hE3 hS hB3
        go_wp2_with fail
        go_loopw [7] (fun i wr => ∃ k : Nat, k ≤ nb ∧ i = .int .i64 k ∧ ∃ G, Dsk wr (w.heap.size + 1) D F ∧ Dsk wr cB (D.acts (m.take k)) G ∧ Dsk wr sB D K ∧ Apart F G ∧ Apart K G ∧ From (w.heap.size + 1) G ∧ Below (w.heap.size + 1) (w.alloc (.cells #[.int .i64 cap, .slice A na ca, .slice B nb cb] 24)) wr) (fun i _ => nb - (intOf i).toNat)
        case atStart => exact ⟨0, Nat.zero_le _, rfl, G, hD4, hE4, hS4, aFG, aGK.symm, hG, hB4⟩
        case round =>
          clear hD4 hE4 hS4 aFG aGK hG hB4 G
          obtain ⟨k, hk, rfl, G, hD, hE, hS, aFG, aKG, hG, hB⟩ := hrel
          have xc : wr.cell? ⟨w.heap.size, 2, none⟩ = some (.slice B nb cb) := (hB.cell (p := ⟨w.heap.size, 2, none⟩) (by simp)).trans (by simp [go_sem])
          have x1 : wr.cell? ⟨w.heap.size, 1, none⟩ = some (.slice A na ca) := (hB.cell (p := ⟨w.heap.size, 1, none⟩) (by simp)).trans (by simp [go_sem])
          have x0 : wr.cell? ⟨w.heap.size, 0, none⟩ = some (.int .i64 cap) := (hB.cell (p := ⟨w.heap.size, 0, none⟩) (by simp)).trans (by simp [go_sem])
          have hsz := room_lt hB
          by_cases hlt : k < nb
          · obtain ⟨b, off, st, rfl, hb, hst, y0, y1, y2, y3, y4, y5⟩ := ht.fetch (w1 := wr) (fun p hp => (hB.cell (by omega)).trans (World.cell?_alloc_lt _ _ _ hp)) (k := k) (by omega)
            have HN := Lib.hid (acts_next (D := D) hst)
            clear hst
            generalize D.acts (m.take k) = E at *
            obtain ⟨kind, on, slot, n, q, s⟩ := st
            simp only at y0 y1 y2 y3 y4 y5
            go_wp2_with fail
            refine (act_any hE kind on slot n q s).mono ?_
            rintro e w5 ⟨rfl, hg⟩
            obtain ⟨G1, hE1, hG1, hB1, hap, hoth, hz1⟩ := hg.all hG hsz hB
            have hD1 := hoth _ _ _ hD aFG
            have hS1 := hoth _ _ _ hS aKG
            have aFG1 := hap F hD.lt aFG
            have aKG1 := hap K hS.lt aKG
            have hsz1 := room_lt hB1
            clear hg hap hoth
            go_wp2_with fail
            refine (alike_yes hS1 hD1).mono ?_
            rintro e w6 ⟨rfl, hb6⟩
            go_wp2_with fail
            go_roundw
            case rel => exact ⟨k + 1, by omega, by go_num, G1, hD1.below hb6, by rw [HN.out]; exact hE1.below hb6, hS1.below hb6, aFG1, aKG1, hG1, hB1.trans (hb6.mono hsz1)⟩
            case measure => simp [intOf]; omega
          · obtain rfl : nb = k := by omega
            have hE0 : Dsk wr cB (D.acts m) G := by rw [List.take_of_length_le (by omega)] at hE; exact hE
            clear hE
            obtain ⟨E, hEq⟩ : ∃ E, E = D.acts m := ⟨_, rfl⟩
            rw [← hEq] at hE0
            have HE := Lib.hid hEq
            clear hEq
            go_upto_region 18 with fail
            go_cut [90] (fun s90 wx => s90 = .bool false ∧ wx = wr)
            case first =>
              by_cases hc : 0 < cap
              · by_cases h0 : na = 0
                · have hT := HG.out h0 hc
                  have h0' : ((na : Int) == 0) = true := beq_iff_eq.2 (by omega)
                  clear h0
                  go_wp2_with fail
                  refine (bytes_is hS 1 _ hT).mono ?_; rintro e w7 ⟨rfl, rfl⟩
                  go_wp2_with fail
                  refine (bytes_is hD 1 _ hT).mono ?_; rintro e w7 ⟨rfl, rfl⟩
                  go_wp2_with fail
                  go_meet
                  exact ⟨rfl, rfl⟩
                · have h0' : ((na : Int) == 0) = false := beq_eq_false_iff_ne.2 (by omega)
                  go_wp2_with fail
                  go_meet
                  exact ⟨rfl, rfl⟩
              · go_wp2_with fail
                go_meet
                exact ⟨rfl, rfl⟩
            case rest =>
              obtain ⟨rfl, rfl⟩ := hcut
              go_wp2_with fail
              go_loopw [8] (fun i wr => ∃ k : Nat, k ≤ nb ∧ i = .int .i64 k ∧ ∃ F, Dsk wr (w.heap.size + 1) (D.acts (m.take k)) F ∧ Dsk wr cB E G ∧ Apart G F ∧ From (w.heap.size + 1) F ∧ Below (w.heap.size + 1) (w.alloc (.cells #[.int .i64 cap, .slice A na ca, .slice B nb cb] 24)) wr) (fun i _ => nb - (intOf i).toNat)
              case atStart => exact ⟨0, Nat.zero_le _, rfl, F, hD, hE0, aFG.symm, hF, hB⟩
              case round =>
                clear hD hE0 hS aFG aFK aKG hF hB hsz xc x1 x0
                obtain ⟨k, hk, rfl, F, hD, hE, aGF, hF, hB⟩ := hrel
                have xc : wr.cell? ⟨w.heap.size, 2, none⟩ = some (.slice B nb cb) := (hB.cell (p := ⟨w.heap.size, 2, none⟩) (by simp)).trans (by simp [go_sem])
                have hsz := room_lt hB
                by_cases hlt : k < nb
                · obtain ⟨b, off, st, rfl, hb, hst, y0, y1, y2, y3, y4, y5⟩ := ht.fetch (w1 := wr) (fun p hp => (hB.cell (by omega)).trans (World.cell?_alloc_lt _ _ _ hp)) (k := k) (by omega)
                  have HN := Lib.hid (acts_next (D := D) hst)
                  clear hst
                  generalize D.acts (m.take k) = D3 at *
                  obtain ⟨kind, on, slot, n, q, s⟩ := st
                  simp only at y0 y1 y2 y3 y4 y5
                  go_wp2_with fail
                  refine (act_any hD kind on slot n q s).mono ?_
                  rintro e w5 ⟨rfl, hg⟩
                  obtain ⟨F1, hD1, hF1, hB1, hap, hoth, hz1⟩ := hg.all hF hsz hB
                  have hE1 := hoth _ _ _ hE aGF
                  have aGF1 := hap G hE.lt aGF
                  clear hg hap hoth
                  go_wp2_with fail
                  go_roundw
                  case rel => exact ⟨k + 1, by omega, by go_num, F1, by rw [HN.out]; exact hD1, hE1, aGF1, hF1, hB1⟩
                  case measure => simp [intOf]; omega
                · have hD0 : Dsk wr (w.heap.size + 1) E F := by rw [List.take_of_length_le (by omega), ← HE.out] at hD; exact hD
                  clear hD
                  go_wp2_with fail
                  refine (alike_yes hE hD0).mono ?_
                  rintro e w9 ⟨rfl, hb9⟩
                  go_wp2_with fail
                  go_ret
                  exact ⟨rfl, ⟨hb9.os.trans hB.os, hb9.tape.trans hB.tape, hb9.output.trans hB.output, by have := hb9.size; omega, fun k hk => ((hb9.block k (by omega)).trans (hB.block k (by omega))).trans (Below.heap_alloc _ _ k hk)⟩⟩
end
end Go.Proofs.Ytofocdigbcdfaaa
