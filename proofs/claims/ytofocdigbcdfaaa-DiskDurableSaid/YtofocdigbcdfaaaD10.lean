/- The walk of DiskDurable: it returns true for every capacity and all lists of steps. -/
import Derived.Test.YtofocdigbcdfaaaD9
import Derived.Deep.DeepCutAuto
namespace Go.Proofs.Ytofocdigbcdfaaa
open Go.RowKit Mem Disk
section
variable {w w' : World} {d : Nat} {D : Dk} {F : Nat → Prop}

theorem synced_at (h : Dsk w d D F) (i : Int) (x : Int) (hx : (D.synced i : Int) = x) :
    Calls Try.prog 21 #[.pointer (some ⟨d, 0, none⟩), .int .i64 i] w fun e w' => e = .returned (.int .i64 x) ∧ w = w' := by
  subst hx
  exact synced_is h i

theorem Dsk.drewN (h : Dsk w d D F) (n : Nat) : Dsk (w.drewN n) d D F := h.kept fun _ _ => rfl

/-- Goes.out, with a block of the law's own kept. -/
theorem Goes.out2 {S : Nat} {w0 : World} {D' : Dk} (hg : Goes w d F D' w') (hF : From S F) (hS : S ≤ w.heap.size) (hb : Below S w0 w) {K : Nat} {o : Obj} (hK : ¬ F K) (hrow : w.heap[K]? = some o) :
    ∃ F', Dsk w' d D' F' ∧ From S F' ∧ Below S w0 w' ∧ ¬ F' K ∧ w'.heap[K]? = some o ∧ w.heap.size ≤ w'.heap.size := by
  have hlt : K < w.heap.size := (Array.getElem?_eq_some_iff.1 hrow).1
  obtain ⟨F', h1, h2, h3⟩ := hg
  exact ⟨F', h1, fun k hk => (h3 k hk).elim (hF k) (fun h => Nat.le_trans hS h), hb.trans (h2.below hS hF), fun h => (h3 K h).elim hK (fun h => by omega), (h2.block K hlt hK).trans hrow, h2.size⟩

/-- A new block of six cells, behind a call that turned nothing of old. -/
theorem new6n {w w1 : World} {v0 v1 v2 v3 v4 v5 : Value} {T : TypeId} (hb : Below (w.alloc (.cells #[v0, v1, v2, v3, v4, v5] T)).heap.size (w.alloc (.cells #[v0, v1, v2, v3, v4, v5] T)) w1) :
    w1.cell? ⟨w.heap.size, 0, none⟩ = some v0 ∧ w1.cell? ⟨w.heap.size, 1, none⟩ = some v1 ∧ w1.cell? ⟨w.heap.size, 2, none⟩ = some v2 ∧ w1.cell? ⟨w.heap.size, 3, none⟩ = some v3 ∧
    w1.cell? ⟨w.heap.size, 4, none⟩ = some v4 ∧ w1.cell? ⟨w.heap.size, 5, none⟩ = some v5 ∧ w.heap.size < w1.heap.size := by
  have hr : w1.heap[w.heap.size]? = some (.cells #[v0, v1, v2, v3, v4, v5] T) := (hb.block _ (by simp)).trans (heap_alloc_new w _)
  have hc := (cellsAt hr).1
  exact ⟨hc 0, hc 1, hc 2, hc 3, hc 4, hc 5, by have := hb.size; simp at this; omega⟩

theorem below_drewN {B : Nat} {a w : World} (h : Below B a w) (n : Nat) : Below B a (w.drewN n) := ⟨h.os, h.tape, h.output, h.size, h.block⟩
theorem quiet_add_left {P : Program} {f : FuncId} {args : Array Value} {w : World} {a n : Nat} {v : Value}
    (h : Calls P f args (w.drewN (a + n)) fun e w' => e = .returned v ∧ w.drewN (a + n) = w') :
    Calls P f args (w.drewN (a + n)) fun e w'' => e = .returned v ∧ ∃ m, w'' = w.drewN (a + m) :=
  h.mono fun _ _ ⟨he, hm⟩ => ⟨he, n, hm.symm⟩
theorem quiet_left {P : Program} {f : FuncId} {args : Array Value} {w : World} {n : Nat} {v : Value}
    (h : Calls P f args (w.drewN n) fun e w' => e = .returned v ∧ w.drewN n = w') : Calls P f args (w.drewN n) fun e w'' => e = .returned v ∧ ∃ m, w'' = w.drewN m :=
  h.mono fun _ _ ⟨he, hm⟩ => ⟨he, n, hm.symm⟩

/-- The disk behind the head of DiskDurable. -/
def durHead (cap : Int) (i : Int) (s : ByteArray) : Dk := if 0 < cap then (Dk.new cap).app i s.data.toList else Dk.new cap

set_option maxRecDepth 100000 in
set_option maxHeartbeats 2000000 in
theorem dur_any (cap : Int) (A B : Option Addr) (na nb ca cb : Nat) (l m : List St) (hl : l.length = na) (hm : m.length = nb) (hna : na ≤ 9223372036854775807) (hnb : nb ≤ 9223372036854775807) (w : World) (hs : Steps w A l) (ht : Steps w B m) :
    Calls Try.prog 5 #[.agg #[.int .i64 cap, .slice A na ca, .slice B nb cb]] w fun e w' => e = .returned (.bool true) ∧ Below w.heap.size w w' := by
  go_enter Try.func5, Try.ntmps5
  go_wp2_with fail
  refine (new_at cap _ (w.heap.size + 1) (by simp)).mono ?_
  rintro e w1 ⟨rfl, hg⟩
  obtain ⟨F, hD, hF, hB, hO⟩ := hg.out (S := w.heap.size + 1) (w0 := w.alloc (.cells #[.int .i64 cap, .slice A na ca, .slice B nb cb] 24)) (fun _ h => h.elim) (by simp) (Below.refl _ _)
  clear hg hO
  have x0 : w1.cell? ⟨w.heap.size, 0, none⟩ = some (.int .i64 cap) := (hB.cell (p := ⟨w.heap.size, 0, none⟩) (by simp)).trans (by simp [go_sem])
  go_upto_region 2 with fail
  go_cut [30] (fun s30 wx => s30 = .bool false ∧ ∃ F, Dsk wx (w.heap.size + 1) (durHead cap 0 ⟨#[115]⟩) F ∧ From (w.heap.size + 1) F ∧ Below (w.heap.size + 1) (w.alloc (.cells #[.int .i64 cap, .slice A na ca, .slice B nb cb] 24)) wx)
  case first =>
    by_cases hc : 0 < cap
    · obtain ⟨hE, hT⟩ := head_fit hc 0 (.inl rfl) ⟨#[115]⟩ rfl
      have hd0 : durHead cap 0 ⟨#[115]⟩ = (Dk.new cap).app 0 [115] := if_pos hc
      have HD := Lib.hid hd0; clear hd0
      go_wp2_with fail
      refine (append_is hD _ ⟨#[115]⟩ _ hE).mono ?_
      rintro e w2 ⟨rfl, hg⟩
      obtain ⟨F2, hD2, hF2, hB2, hO2⟩ := hg.out hF (by have := hB.size; rwa [World.size_alloc] at this) hB
      clear hg
      go_wp2_with fail
      refine (bytes_is hD2 0 _ hT).mono ?_
      rintro e w3 ⟨rfl, rfl⟩
      go_wp2_with fail
      go_meet
      exact ⟨rfl, F2, by rw [HD.out]; exact hD2, hF2, hB2⟩
    · have hd0 : durHead cap 0 ⟨#[115]⟩ = Dk.new cap := if_neg hc
      have HD := Lib.hid hd0; clear hd0
      go_wp2_with fail
      go_meet
      exact ⟨rfl, F, by rw [HD.out]; exact hD, hF, hB⟩
  case rest =>
    obtain ⟨rfl, F, hD, hF, hB⟩ := hcut
    generalize durHead cap 0 ⟨#[115]⟩ = H at *
    go_wp2_with fail
    go_loopw [4] (fun i wr => ∃ k : Nat, k ≤ na ∧ i = .int .i64 k ∧ ∃ F, Dsk wr (w.heap.size + 1) (H.acts (l.take k)) F ∧ From (w.heap.size + 1) F ∧ Below (w.heap.size + 1) (w.alloc (.cells #[.int .i64 cap, .slice A na ca, .slice B nb cb] 24)) wr) (fun i _ => na - (intOf i).toNat)
    case atStart => exact ⟨0, Nat.zero_le _, rfl, F, hD, hF, hB⟩
    case round =>
      obtain ⟨k, hk, rfl, F, hD, hF, hB⟩ := hrel
      have xc : wr.cell? ⟨w.heap.size, 1, none⟩ = some (.slice A na ca) := (hB.cell (p := ⟨w.heap.size, 1, none⟩) (by simp)).trans (by simp [go_sem])
      have hsz := hB.size
      rw [World.size_alloc] at hsz
      by_cases hlt : k < na
      · obtain ⟨b, off, st, rfl, hb, hst, y0, y1, y2, y3, y4, y5⟩ := hs.fetch (w1 := wr) (fun p hp => (hB.cell (by omega)).trans (World.cell?_alloc_lt _ _ _ hp)) (k := k) (by omega)
        have HN := Lib.hid (acts_next (D := H) hst)
        clear hst
        generalize H.acts (l.take k) = D at *
        obtain ⟨kind, on, slot, n, q, s⟩ := st
        simp only at y0 y1 y2 y3 y4 y5
        go_wp2_with fail
        refine (act_any hD kind on slot n q s).mono ?_
        rintro e w1 ⟨rfl, hg⟩
        obtain ⟨F1, hD1, hF1, hB1, hO1⟩ := hg.out hF hsz hB
        clear hg
        go_wp2_with fail
        go_roundw
        case rel => exact ⟨k + 1, by omega, by go_num, F1, by rw [HN.out]; exact hD1, hF1, hB1⟩
        case measure => simp [intOf]; omega
      · obtain rfl : na = k := by omega
        have hD0 : Dsk wr (w.heap.size + 1) (H.acts l) F := by rw [List.take_of_length_le (by omega)] at hD; exact hD
        clear hD
        generalize H.acts l = D at *
        go_wp2_with fail
        refine (sync_any hD0).mono ?_
        rintro e w2 ⟨rfl, hg⟩
        obtain ⟨F2, hD2, hF2, hB2, hO2⟩ := hg.out hF hsz hB
        clear hg hO2 hB hD0 hF xc F wr hsz
        have hst := stands_sync D
        obtain ⟨t0, ht0⟩ : ∃ t0, str (D.sync.bytes 0) = t0 := ⟨_, rfl⟩
        obtain ⟨t1, ht1⟩ : ∃ t1, str (D.sync.bytes 1) = t1 := ⟨_, rfl⟩
        have hz0 : (D.sync.synced 0 : Int) = (t0.size : Int) := by rw [← ht0, str_size]; rfl
        have hz1 : (D.sync.synced 1 : Int) = (t1.size : Int) := by rw [← ht1, str_size]; rfl
        have u0 : str D.sync.a.b = t0 := ht0
        have u1 : str D.sync.b.b = t1 := ht1
        generalize D.sync = D2 at *
        have HS := Lib.hid hst; have U0 := Lib.hid u0; have U1 := Lib.hid u1
        clear hst u0 u1
        have hDa : ∀ o, Dsk (w2.alloc o) (w.heap.size + 1) D2 F2 := fun o => hD2.below ((Below.refl _ _).alloc (Nat.le_refl _) o)
        go_wp2_with fail
        refine wp_loop_rounds 3 ?_
        rw [rounds_succ]
        go_wp2_with fail
        refine (bytes_is (hDa _) 0 t0 ht0).mono ?_; rintro e w3 ⟨rfl, rfl⟩
        go_wp2_with fail
        go_region_held3 (fun w' => w'.cell? ⟨w2.heap.size, 0, none⟩ = some (.string t0)) (go_keep) (first | (go_at_call 21; refine (synced_at (hDa _).drew 0 _ hz0).mono ?_; rintro e w' ⟨rfl, rfl⟩))
        go_wp2_with fail
        rw [rounds_succ]
        go_wp2_with fail
        refine (bytes_is (hDa _).drew 1 t1 ht1).mono ?_; rintro e w3 ⟨rfl, rfl⟩
        go_wp2_with fail
        go_region_held3 (fun w' => w'.cell? ⟨w2.heap.size, 1, none⟩ = some (.string t1)) (go_keep) (first | (go_at_call 21; refine (synced_at (hDa _).drew.drew 1 _ hz1).mono ?_; rintro e w' ⟨rfl, rfl⟩))
        go_wp2_with fail
        rw [rounds_succ]
        go_wp2_with fail
        have hK0 : ¬ F2 w2.heap.size := fun h => by have := hD2.lt _ h; omega
        have hsz2 := hB2.size
        rw [World.size_alloc] at hsz2
        have hrow0 : (w2.alloc (.cells #[.string t0, .string t1] 52)).drew.drew.heap[w2.heap.size]? = some (.cells #[.string t0, .string t1] 52) := heap_alloc_new w2 _
        have hD3 := (hDa (.cells #[.string t0, .string t1] 52)).drew.drew
        have hB3 := ((hB2.alloc hsz2 (.cells #[.string t0, .string t1] 52)).drew).drew
        obtain ⟨b0, hb0⟩ : ∃ b0, b0 = D2.a.b := ⟨_, rfl⟩
        obtain ⟨b1, hb1⟩ : ∃ b1, b1 = D2.b.b := ⟨_, rfl⟩
        have HS2 : Hid (Stands b0 b1 D2) := by rw [hb0, hb1]; exact HS
        have V0 : Hid (str b0 = t0) := by rw [hb0]; exact U0
        have V1 : Hid (str b1 = t1) := by rw [hb1]; exact U1
        clear hb0 hb1 HS U0 U1 hDa hD2 ht0 ht1 hz0 hz1
        generalize w2.heap.size = K at *
        go_loopw [7] (fun i wr => ∃ k : Nat, k ≤ nb ∧ i = .int .i64 k ∧ ∃ D F, Hid (Stands b0 b1 D) ∧ Dsk wr (w.heap.size + 1) D F ∧ From (w.heap.size + 1) F ∧ Below (w.heap.size + 1) (w.alloc (.cells #[.int .i64 cap, .slice A na ca, .slice B nb cb] 24)) wr ∧ ¬ F K ∧ wr.heap[K]? = some (.cells #[.string t0, .string t1] 52)) (fun i _ => nb - (intOf i).toNat)
        case atStart => exact ⟨0, Nat.zero_le _, rfl, D2, F2, HS2, hD3, hF2, hB3, hK0, hrow0⟩
        case round =>
          clear hD3 hF2 hB3 hK0 hrow0 HS2 hB2 hsz2
          obtain ⟨k, hk, rfl, D, F, HS, hD, hF, hB, hK, hrow⟩ := hrel
          have hsz := hB.size
          rw [World.size_alloc] at hsz
          have hKlt : K < wr.heap.size := (Array.getElem?_eq_some_iff.1 hrow).1
          have xc : wr.cell? ⟨w.heap.size, 2, none⟩ = some (.slice B nb cb) := (hB.cell (p := ⟨w.heap.size, 2, none⟩) (by simp)).trans (by simp [go_sem])
          by_cases hlt : k < nb
          · obtain ⟨b, off, st, rfl, hb, hst, y0, y1, y2, y3, y4, y5⟩ := ht.fetch (w1 := wr) (fun p hp => (hB.cell (by omega)).trans (World.cell?_alloc_lt _ _ _ hp)) (k := k) (by omega)
            clear hst
            obtain ⟨kind, on, slot, n, q, s⟩ := st
            simp only at y0 y1 y2 y3 y4 y5
            by_cases hc : kind = 6 ∨ kind = 7
            · by_cases hr : right slot
              · go_wp2_with fail
                refine (cuts_yes hc _).mono ?_
                rintro e w1 ⟨rfl, hb1⟩
                obtain ⟨zc0, zc1, zc2, zc3, zc4, zc5, zs⟩ := new6n hb1
                have hbn : Below wr.heap.size wr w1 := ((Below.refl _ wr).alloc (Nat.le_refl _) _).trans (hb1.mono (by simp))
                have hDn := hD.below hbn
                have hBn := hB.trans (hbn.mono hsz)
                have hrn := (hbn.block K hKlt).trans hrow
                rcases hr with rfl | rfl
                · go_wp2_with fail
                  go_roundw
                  case rel => exact ⟨k + 1, by omega, by go_num, D, F, HS, hDn, hF, hBn, hK, hrn⟩
                  case measure => simp [intOf]; omega
                · go_wp2_with fail
                  go_roundw
                  case rel => exact ⟨k + 1, by omega, by go_num, D, F, HS, hDn, hF, hBn, hK, hrn⟩
                  case measure => simp [intOf]; omega
              · have hcut : St.cuts ⟨kind, on, slot, n, q, s⟩ = false := by simp [St.cuts, hr]
                have r0 : ¬ slot = 0 := fun h => hr (.inl h)
                have r1 : ¬ slot = 1 := fun h => hr (.inr h)
                have r2 : (slot == 0) = false := beq_eq_false_iff_ne.2 r0
                have r3 : (slot == 1) = false := beq_eq_false_iff_ne.2 r1
                go_wp2_with fail
                refine (cuts_yes hc _).mono ?_
                rintro e w1 ⟨rfl, hb1⟩
                obtain ⟨zc0, zc1, zc2, zc3, zc4, zc5, zs⟩ := new6n hb1
                have hbn : Below wr.heap.size wr w1 := ((Below.refl _ wr).alloc (Nat.le_refl _) _).trans (hb1.mono (by simp))
                have hDn := hD.below hbn
                have hBn := hB.trans (hbn.mono hsz)
                have hrn := (hbn.block K hKlt).trans hrow
                go_wp2_with fail
                have hS' : Stands b0 b1 (D.act ⟨kind, on, slot, n, q, s⟩) := HS.out.act _ hcut
                refine (act_any (hD.below hbn) kind on slot n q s).mono ?_
                rintro e w3 ⟨rfl, hg⟩
                obtain ⟨F3, hD3, hF3, hB3, hK3, hr3, hz3⟩ := hg.out2 hF (by omega) hBn hK hrn
                clear hg
                obtain ⟨⟨s0, hs0, g0, g1, g2⟩, s1, hs1, g3, g4, g5⟩ := stands_tells hS'
                rw [V0.out] at g0 g1 g2
                rw [V1.out] at g3 g4 g5
                have HS' := Lib.hid hS'; clear hS'
                have zt0 : w3.cell? ⟨K, 0, none⟩ = some (.string t0) := (cellsAt hr3).1 0
                have zt1 : w3.cell? ⟨K, 1, none⟩ = some (.string t1) := (cellsAt hr3).1 1
                have d0 : decide ((s0.size : Int) < (t0.size : Int)) = false := decide_eq_false (by omega)
                have d1 : decide ((s1.size : Int) < (t1.size : Int)) = false := decide_eq_false (by omega)
                generalize D.act ⟨kind, on, slot, n, q, s⟩ = D' at *
                have d2 : decide ((D'.synced 0 : Int) < (t0.size : Int)) = false := decide_eq_false (by omega)
                have d3 : decide ((D'.synced 1 : Int) < (t1.size : Int)) = false := decide_eq_false (by omega)
                have e0 : (0 : Int) ≤ (t0.size : Int) := by omega
                have e1 : (t0.size : Int) ≤ (s0.size : Int) := by omega
                have e2 : (0 : Int) ≤ (t1.size : Int) := by omega
                have e3 : (t1.size : Int) ≤ (s1.size : Int) := by omega
                clear zc0 zc1 zc2 zc3 zc4 zc5 y0 y1 y2 y3 y4 y5
                go_wp2_with fail
                refine wp_loop_rounds 3 ?_
                rw [rounds_succ]
                go_wp2_with fail
                refine (bytes_is hD3 0 s0 hs0).mono ?_; rintro e w4 ⟨rfl, rfl⟩
                go_wp2_with fail
                go_quiet ((go_at_call 21; exact quiet_left (synced_at (hD3.drewN _) 0 _ rfl)))
                go_wp2_with fail
                rw [rounds_succ]
                go_wp2_with fail
                refine (bytes_is (hD3.drewN _) 1 s1 hs1).mono ?_; rintro e w4 ⟨rfl, rfl⟩
                go_wp2_with fail
                go_quiet ((go_at_call 21; exact quiet_add_left (synced_at (hD3.drewN _) 1 _ rfl)))
                go_wp2_with fail
                rw [rounds_succ]
                go_wp2_with fail
                go_roundw
                case rel => exact ⟨k + 1, by omega, by go_num, D', F3, HS', hD3.drewN _, hF3, below_drewN hB3 _, hK3, hr3⟩
                case measure => simp [intOf]; omega
            · have hcut : St.cuts ⟨kind, on, slot, n, q, s⟩ = false := by simp [St.cuts, hc]
              have r6 : ¬ kind = 6 := fun h => hc (.inl h)
              have r7 : ¬ kind = 7 := fun h => hc (.inr h)
              clear hc
              go_wp2_with fail
              refine (cuts_no r6 r7 _).mono ?_
              rintro e w1 ⟨rfl, hb1⟩
              obtain ⟨zc0, zc1, zc2, zc3, zc4, zc5, zs⟩ := new6n hb1
              have hbn : Below wr.heap.size wr w1 := ((Below.refl _ wr).alloc (Nat.le_refl _) _).trans (hb1.mono (by simp))
              have hDn := hD.below hbn
              have hBn := hB.trans (hbn.mono hsz)
              have hrn := (hbn.block K hKlt).trans hrow
              go_wp2_with fail
              have hS' : Stands b0 b1 (D.act ⟨kind, on, slot, n, q, s⟩) := HS.out.act _ hcut
              refine (act_any (hD.below hbn) kind on slot n q s).mono ?_
              rintro e w3 ⟨rfl, hg⟩
              obtain ⟨F3, hD3, hF3, hB3, hK3, hr3, hz3⟩ := hg.out2 hF (by omega) hBn hK hrn
              clear hg
              obtain ⟨⟨s0, hs0, g0, g1, g2⟩, s1, hs1, g3, g4, g5⟩ := stands_tells hS'
              rw [V0.out] at g0 g1 g2
              rw [V1.out] at g3 g4 g5
              have HS' := Lib.hid hS'; clear hS'
              have zt0 : w3.cell? ⟨K, 0, none⟩ = some (.string t0) := (cellsAt hr3).1 0
              have zt1 : w3.cell? ⟨K, 1, none⟩ = some (.string t1) := (cellsAt hr3).1 1
              have d0 : decide ((s0.size : Int) < (t0.size : Int)) = false := decide_eq_false (by omega)
              have d1 : decide ((s1.size : Int) < (t1.size : Int)) = false := decide_eq_false (by omega)
              generalize D.act ⟨kind, on, slot, n, q, s⟩ = D' at *
              have d2 : decide ((D'.synced 0 : Int) < (t0.size : Int)) = false := decide_eq_false (by omega)
              have d3 : decide ((D'.synced 1 : Int) < (t1.size : Int)) = false := decide_eq_false (by omega)
              have e0 : (0 : Int) ≤ (t0.size : Int) := by omega
              have e1 : (t0.size : Int) ≤ (s0.size : Int) := by omega
              have e2 : (0 : Int) ≤ (t1.size : Int) := by omega
              have e3 : (t1.size : Int) ≤ (s1.size : Int) := by omega
              clear zc0 zc1 zc2 zc3 zc4 zc5 y0 y1 y2 y3 y4 y5
              go_wp2_with fail
              refine wp_loop_rounds 3 ?_
              rw [rounds_succ]
              go_wp2_with fail
              refine (bytes_is hD3 0 s0 hs0).mono ?_; rintro e w4 ⟨rfl, rfl⟩
              go_wp2_with fail
              go_quiet ((go_at_call 21; exact quiet_left (synced_at (hD3.drewN _) 0 _ rfl)))
              go_wp2_with fail
              rw [rounds_succ]
              go_wp2_with fail
              refine (bytes_is (hD3.drewN _) 1 s1 hs1).mono ?_; rintro e w4 ⟨rfl, rfl⟩
              go_wp2_with fail
              go_quiet ((go_at_call 21; exact quiet_add_left (synced_at (hD3.drewN _) 1 _ rfl)))
              go_wp2_with fail
              rw [rounds_succ]
              go_wp2_with fail
              go_roundw
              case rel => exact ⟨k + 1, by omega, by go_num, D', F3, HS', hD3.drewN _, hF3, below_drewN hB3 _, hK3, hr3⟩
              case measure => simp [intOf]; omega
          · go_wp2_with fail
            go_ret
            exact ⟨rfl, ⟨hB.os, hB.tape, hB.output, by omega, fun k hk => (hB.block k (by omega)).trans (Below.heap_alloc _ _ k hk)⟩⟩
end
end Go.Proofs.Ytofocdigbcdfaaa
