/- The walk of DiskCrash: it returns true for every capacity, list of steps and numbers that are kept. -/
import Derived.Test.YtofocdigbcdfaaaD9
import Derived.Deep.DeepCutAuto
namespace Go.Proofs.Ytofocdigbcdfaaa
open Go.RowKit Mem Disk
section
variable {w w' : World} {d : Nat} {D : Dk} {F : Nat → Prop}

theorem synced_at (h : Dsk w d D F) (i : Int) (x : Int) (hx : (D.synced i : Int) = x) :
    Calls Try.prog 21 #[.pointer (some ⟨d, 0, none⟩), .int .i64 i] w fun e w' => e = .returned (.int .i64 x) ∧ w = w' := by
  subst hx
  exact synced_is h i

theorem Dsk.drewN (h : Dsk w d D F) (n : Nat) : Dsk (w.drewN n) d D F := h.kept fun _ _ => rfl

/-- Goes.out, with a block of the law's own kept. -/
theorem Goes.out2 {S : Nat} {w0 : World} {D' : Dk} (hg : Goes w d F D' w') (hF : From S F) (hS : S ≤ w.heap.size) (hb : Below S w0 w) {K : Nat} {o : Obj} (hK : ¬ F K) (hrow : w.heap[K]? = some o) :
    ∃ F', Dsk w' d D' F' ∧ From S F' ∧ Below S w0 w' ∧ ¬ F' K ∧ w'.heap[K]? = some o ∧ w.heap.size ≤ w'.heap.size := by
  have hlt : K < w.heap.size := (Array.getElem?_eq_some_iff.1 hrow).1
  obtain ⟨F', h1, h2, h3⟩ := hg
  exact ⟨F', h1, fun k hk => (h3 k hk).elim (hF k) (fun h => Nat.le_trans hS h), hb.trans (h2.below hS hF), fun h => (h3 K h).elim hK (fun h => by omega), (h2.block K hlt hK).trans hrow, h2.size⟩

/-- A new block of six cells, behind a call that turned nothing of old. -/
theorem new6n {w w1 : World} {v0 v1 v2 v3 v4 v5 : Value} {T : TypeId} (hb : Below (w.alloc (.cells #[v0, v1, v2, v3, v4, v5] T)).heap.size (w.alloc (.cells #[v0, v1, v2, v3, v4, v5] T)) w1) :
    w1.cell? ⟨w.heap.size, 0, none⟩ = some v0 ∧ w1.cell? ⟨w.heap.size, 1, none⟩ = some v1 ∧ w1.cell? ⟨w.heap.size, 2, none⟩ = some v2 ∧ w1.cell? ⟨w.heap.size, 3, none⟩ = some v3 ∧
    w1.cell? ⟨w.heap.size, 4, none⟩ = some v4 ∧ w1.cell? ⟨w.heap.size, 5, none⟩ = some v5 ∧ w.heap.size < w1.heap.size := by
  have hr : w1.heap[w.heap.size]? = some (.cells #[v0, v1, v2, v3, v4, v5] T) := (hb.block _ (by simp)).trans (heap_alloc_new w _)
  have hc := (cellsAt hr).1
  exact ⟨hc 0, hc 1, hc 2, hc 3, hc 4, hc 5, by have := hb.size; simp at this; omega⟩

theorem below_drewN {B : Nat} {a w : World} (h : Below B a w) (n : Nat) : Below B a (w.drewN n) := ⟨h.os, h.tape, h.output, h.size, h.block⟩
theorem quiet_add_left {P : Program} {f : FuncId} {args : Array Value} {w : World} {a n : Nat} {v : Value}
    (h : Calls P f args (w.drewN (a + n)) fun e w' => e = .returned v ∧ w.drewN (a + n) = w') :
    Calls P f args (w.drewN (a + n)) fun e w'' => e = .returned v ∧ ∃ m, w'' = w.drewN (a + m) :=
  h.mono fun _ _ ⟨he, hm⟩ => ⟨he, n, hm.symm⟩
theorem quiet_left {P : Program} {f : FuncId} {args : Array Value} {w : World} {n : Nat} {v : Value}
    (h : Calls P f args (w.drewN n) fun e w' => e = .returned v ∧ w.drewN n = w') : Calls P f args (w.drewN n) fun e w'' => e = .returned v ∧ ∃ m, w'' = w.drewN m :=
  h.mono fun _ _ ⟨he, hm⟩ => ⟨he, n, hm.symm⟩

/-- What is left of loose bytes. -/
def leftN (loose keep : Int) : Int := if keep < 0 then 0 else min loose keep

set_option maxHeartbeats 400000 in
theorem left_at (loose keep x : Int) (hx : leftN loose keep = x) (w : World) :
    Calls Try.prog 23 #[.int .i64 loose, .int .i64 keep] w fun e w' => e = .returned (.int .i64 x) ∧ w = w' := by
  by_cases h0 : keep < 0
  · have hx' : x = 0 := by rw [← hx]; unfold leftN; rw [if_pos h0]
    subst hx'
    clear hx
    go_enter Try.func23, Try.ntmps23
    go_wp2
    go_ret
    exact ⟨rfl, rfl⟩
  · have hx' : min loose keep = x := by rw [← hx]; unfold leftN; rw [if_neg h0]
    clear hx
    by_cases h1 : loose ≤ keep
    · obtain rfl : x = loose := by rw [← hx']; omega
      clear hx'
      go_enter Try.func23, Try.ntmps23
      go_wp2
      all_goals (go_ret; exact ⟨ret_int (by show _ = x; omega), rfl⟩)
    · obtain rfl : x = keep := by rw [← hx']; omega
      clear hx'
      go_enter Try.func23, Try.ntmps23
      go_wp2
      all_goals (go_ret; exact ⟨ret_int (by show _ = x; omega), rfl⟩)

/-- The disk behind the head of DiskCrash. -/
def crashHead (D : Dk) : Dk := if 0 < D.free then D.app 1 [116] else D

theorem crashHead_used {D : Dk} (h : D.ok) {cap : Int} (hr : D.room = roomOf cap) (hc : 0 < cap) : ((crashHead D).used : Int) ≠ 0 := by
  unfold crashHead
  have h1 := h.fit
  have h2 : 0 < roomOf cap := by unfold roomOf; omega
  split
  · rename_i hf
    unfold Dk.app
    rw [if_pos ⟨.inr rfl, (show 1 ≤ D.free by omega)⟩]
    simp [Dk.used, Dk.set, Dk.get]
    omega
  · rename_i hf
    unfold Dk.free Dk.used at *
    omega

theorem crashHead_ok {D : Dk} (h : D.ok) : (crashHead D).ok := by
  unfold crashHead; split
  · exact h.app _ _
  · exact h

theorem extract_take (b : List UInt8) (n : Nat) : (str b).extract 0 n = str (b.take n) := by
  apply ByteArray.ext
  simp [str]

theorem crash_tells {D : Dk} (h : D.ok) (k0 k1 : Int) : ∃ (s0 m0 s1 m1 : Nat) (t0 t1 r0 r1 : ByteArray), D.synced 0 = s0 ∧ D.synced 1 = s1 ∧ str (D.bytes 0) = t0 ∧ str (D.bytes 1) = t1 ∧
    leftN ((t0.size : Int) - s0) k0 = m0 ∧ leftN ((t1.size : Int) - s1) k1 = m1 ∧ s0 + m0 ≤ t0.size ∧ s1 + m1 ≤ t1.size ∧ t0.size ≤ 1048576 ∧ t1.size ≤ 1048576 ∧
    str ((D.crash k0 k1).bytes 0) = r0 ∧ str ((D.crash k0 k1).bytes 1) = r1 ∧ t0.extract 0 (s0 + m0) = r0 ∧ t1.extract 0 (s1 + m1) = r1 ∧
    ((D.crash k0 k1).synced 0 : Int) = (s0 : Int) + m0 ∧ ((D.crash k0 k1).synced 1 : Int) = (s1 : Int) + m1 ∧ ((D.crash k0 k1).used : Int) = (s0 : Int) + m0 + ((s1 : Int) + m1) := by
  have h1 := h.sa; have h2 := h.sb; have h3 := h.fit; have h4 := h.top
  have e0 : (str (D.bytes 0)).size = D.a.b.length := by rw [str_size]; rfl
  have e1 : (str (D.bytes 1)).size = D.b.b.length := by rw [str_size]; rfl
  have a0 := D.a.kept_le h1 k0
  have a1 := D.b.kept_le h2 k1
  have g0 : D.a.s + (D.a.kept k0 - D.a.s) = D.a.kept k0 := by omega
  have g1 : D.b.s + (D.b.kept k1 - D.b.s) = D.b.kept k1 := by omega
  refine ⟨D.a.s, D.a.kept k0 - D.a.s, D.b.s, D.b.kept k1 - D.b.s, _, _, _, _, rfl, rfl, rfl, rfl, ?_, ?_, ?_, ?_, ?_, ?_, rfl, rfl, ?_, ?_, ?_, ?_, ?_⟩
  · rw [e0]; unfold leftN Sl.kept; split <;> omega
  · rw [e1]; unfold leftN Sl.kept; split <;> omega
  · rw [e0]; omega
  · rw [e1]; omega
  · rw [e0]; omega
  · rw [e1]; omega
  · rw [extract_take, g0]; rfl
  · rw [extract_take, g1]; rfl
  · show ((D.a.kept k0 : Nat) : Int) = _; omega
  · show ((D.b.kept k1 : Nat) : Int) = _; omega
  · simp only [Dk.used, Dk.crash, Sl.crash, List.length_take]; omega

theorem alloc_drewN (w : World) (n : Nat) (o : Obj) : (w.drewN n).alloc o = (w.alloc o).drewN n := rfl
attribute [local go_sem] setCell_drewN alloc_drewN

set_option maxRecDepth 100000 in
set_option maxHeartbeats 2000000 in
theorem crash_law (cap k0 k1 : Int) (A : Option Addr) (na ca : Nat) (l : List St) (hl : l.length = na) (hna : na ≤ 9223372036854775807) (w : World) (hs : Steps w A l) :
    Calls Try.prog 6 #[.agg #[.int .i64 cap, .slice A na ca, .int .i64 k0, .int .i64 k1]] w fun e w' => e = .returned (.bool true) ∧ Below w.heap.size w w' := by
  go_enter Try.func6, Try.ntmps6
  go_wp2_with fail
  refine (new_at cap _ (w.heap.size + 1) (by simp)).mono ?_
  rintro e w1 ⟨rfl, hg⟩
  obtain ⟨F, hD, hF, hB, hO⟩ := hg.out (S := w.heap.size + 1) (w0 := w.alloc (.cells #[.int .i64 cap, .slice A na ca, .int .i64 k0, .int .i64 k1] 56)) (fun _ h => h.elim) (by simp) (Below.refl _ _)
  clear hg hO
  go_wp2_with fail
  go_loopw [4] (fun i wr => ∃ k : Nat, k ≤ na ∧ i = .int .i64 k ∧ Hid (((Dk.new cap).acts (l.take k)).room = roomOf cap) ∧ ∃ F, Dsk wr (w.heap.size + 1) ((Dk.new cap).acts (l.take k)) F ∧ From (w.heap.size + 1) F ∧ Below (w.heap.size + 1) (w.alloc (.cells #[.int .i64 cap, .slice A na ca, .int .i64 k0, .int .i64 k1] 56)) wr) (fun i _ => na - (intOf i).toNat)
  case atStart => exact ⟨0, Nat.zero_le _, rfl, Lib.hid rfl, F, hD, hF, hB⟩
  case round =>
    obtain ⟨k, hk, rfl, HR, F, hD, hF, hB⟩ := hrel
    have x0 : wr.cell? ⟨w.heap.size, 0, none⟩ = some (.int .i64 cap) := (hB.cell (p := ⟨w.heap.size, 0, none⟩) (by simp)).trans (by simp [go_sem])
    have xc : wr.cell? ⟨w.heap.size, 1, none⟩ = some (.slice A na ca) := (hB.cell (p := ⟨w.heap.size, 1, none⟩) (by simp)).trans (by simp [go_sem])
    have hsz := hB.size
    rw [World.size_alloc] at hsz
    by_cases hlt : k < na
    · obtain ⟨b, off, st, rfl, hb, hst, y0, y1, y2, y3, y4, y5⟩ := hs.fetch (w1 := wr) (fun p hp => (hB.cell (by omega)).trans (World.cell?_alloc_lt _ _ _ hp)) (k := k) (by omega)
      have HN := Lib.hid (acts_next (D := Dk.new cap) hst)
      clear hst
      generalize (Dk.new cap).acts (l.take k) = D at *
      obtain ⟨kind, on, slot, n, q, s⟩ := st
      simp only at y0 y1 y2 y3 y4 y5
      go_wp2_with fail
      refine (act_any hD kind on slot n q s).mono ?_
      rintro e w1 ⟨rfl, hg⟩
      obtain ⟨F1, hD1, hF1, hB1, hO1⟩ := hg.out hF hsz hB
      clear hg
      go_wp2_with fail
      go_roundw
      case rel => exact ⟨k + 1, by omega, by go_num, Lib.hid (by rw [HN.out, Dk.room_act, HR.out]), F1, by rw [HN.out]; exact hD1, hF1, hB1⟩
      case measure => simp [intOf]; omega
    · generalize (Dk.new cap).acts (l.take k) = D at *
      obtain rfl : na = k := by omega
      have hok := hD.ok
      go_upto_region 8 with fail
      go_cut [36] (fun s36 wx => s36 = .bool false ∧ ∃ F, Dsk wx (w.heap.size + 1) (crashHead D) F ∧ From (w.heap.size + 1) F ∧ Below (w.heap.size + 1) (w.alloc (.cells #[.int .i64 cap, .slice A na ca, .int .i64 k0, .int .i64 k1] 56)) wx)
      case first =>
        by_cases hf : 0 < D.free
        · have hcr : crashHead D = D.app 1 [116] := if_pos hf
          have HC := Lib.hid hcr
          have hE : D.appE 1 [116] = 0 := appE_fit (s := ⟨#[116]⟩) (.inr rfl) (show 1 ≤ D.free by omega)
          clear hcr
          go_wp2_with fail
          refine (free_dsk hD).mono ?_; rintro e w1 ⟨rfl, hb1⟩
          have hD1 := hD.below hb1
          go_wp2_with fail
          refine (append_is hD1 _ ⟨#[116]⟩ _ hE).mono ?_
          rintro e w2 ⟨rfl, hg⟩
          obtain ⟨F2, hD2, hF2, hB2, hO2⟩ := hg.out hF (Nat.le_trans hsz hb1.size) (hB.trans (hb1.mono hsz))
          clear hg
          go_wp2_with fail
          go_meet
          exact ⟨rfl, F2, by rw [HC.out]; exact hD2, hF2, hB2⟩
        · have hcr : crashHead D = D := if_neg hf
          have HC := Lib.hid hcr
          clear hcr
          go_wp2_with fail
          refine (free_dsk hD).mono ?_; rintro e w1 ⟨rfl, hb1⟩
          have hD1 := hD.below hb1
          go_wp2_with fail
          go_meet
          exact ⟨rfl, F, by rw [HC.out]; exact hD1, hF, hB.trans (hb1.mono hsz)⟩
      case rest =>
        have hused : 0 < cap → ¬ ((crashHead D).used : Int) = 0 := fun hc => crashHead_used hok HR.out hc
        have hok2 := crashHead_ok hok
        clear hok hD hF hB x0 xc hsz F
        generalize crashHead D = D at *
        obtain ⟨rfl, F, hD, hF, hB⟩ := hcut
        have x0 : wc.cell? ⟨w.heap.size, 0, none⟩ = some (.int .i64 cap) := (hB.cell (p := ⟨w.heap.size, 0, none⟩) (by simp)).trans (by simp [go_sem])
        have hsz := hB.size
        rw [World.size_alloc] at hsz
        go_upto_region 10 with fail
        go_cut [44] (fun s44 wx => s44 = .bool false ∧ Dsk wx (w.heap.size + 1) D F ∧ Below (w.heap.size + 1) (w.alloc (.cells #[.int .i64 cap, .slice A na ca, .int .i64 k0, .int .i64 k1] 56)) wx)
        case first =>
          by_cases hc : 0 < cap
          · have hu : ((D.used : Int) == 0) = false := beq_eq_false_iff_ne.2 (hused hc)
            clear hused
            go_wp2_with fail
            refine (used_is hD _ rfl).mono ?_; rintro e w1 ⟨rfl, hb1⟩
            go_wp2_with fail
            go_meet
            exact ⟨rfl, hD.below hb1, hB.trans (hb1.mono hsz)⟩
          · clear hused
            go_wp2_with fail
            go_meet
            exact ⟨rfl, hD, hB⟩
        case rest =>
          clear hused hD hB x0 hsz
          obtain ⟨rfl, hD, hB⟩ := hcut
          have hx : ∀ j, j < 4 → wc.cell? ⟨w.heap.size, j, none⟩ = (#[Value.int .i64 cap, .slice A na ca, .int .i64 k0, .int .i64 k1] : Array Value)[j]? := fun j _ => (hB.cell (p := ⟨w.heap.size, j, none⟩) (by simp)).trans (by simp [go_sem])
          have x2 : wc.cell? ⟨w.heap.size, 2, none⟩ = some (.int .i64 k0) := hx 2 (by decide)
          have x3 : wc.cell? ⟨w.heap.size, 3, none⟩ = some (.int .i64 k1) := hx 3 (by decide)
          clear hx
          obtain ⟨s0, m0, s1, m1, t0, t1, r0, r1, a0, a1, b0, b1, l0, l1, n0, n1, z0, z1, c0, c1, e0, e1, v0, v1, u⟩ := crash_tells hok2 k0 k1
          have a0' : (D.synced 0 : Int) = (s0 : Int) := by rw [a0]
          have a1' : (D.synced 1 : Int) = (s1 : Int) := by rw [a1]
          have hDa : ∀ o o', Dsk ((wc.alloc o).alloc o') (w.heap.size + 1) D F := fun o o' => (hD.below ((Below.refl _ _).alloc (Nat.le_refl _) o)).below ((Below.refl _ _).alloc (Nat.le_refl _) o')
          have L0 := Lib.hid l0; have L1 := Lib.hid l1
          have C0 := Lib.hid c0; have C1 := Lib.hid c1
          clear a0 a1 l0 l1 c0 c1
          have hsz := hB.size
          rw [World.size_alloc] at hsz
          have hwl : w.heap.size < wc.heap.size := by have := hB.size; rw [World.size_alloc] at this; omega
          go_wp2_with fail
          refine wp_loop_rounds 3 ?_
          rw [rounds_succ]
          go_wp2_with fail
          refine (bytes_is (hDa _ _) 0 t0 b0).mono ?_; rintro e w3 ⟨rfl, rfl⟩
          go_wp2_with fail
          have p0 : IntKind.i64.wrap ((t0.size : Int) - (s0 : Int)) = (t0.size : Int) - (s0 : Int) := IntWalk.i64_in _ (by omega)
          have p1 : IntKind.i64.wrap ((s0 : Int) + (m0 : Int)) = (s0 : Int) + (m0 : Int) := IntWalk.i64_in _ (by omega)
          go_region_held3 (fun w' => w'.cell? ⟨wc.heap.size, 0, none⟩ = some (.string t0)) (go_keep) (first | (go_at_call 21; refine (synced_at ((hDa _ _).drew) 0 _ a0').mono ?_; rintro e w' ⟨rfl, rfl⟩) | (go_at_call 23; refine (left_at _ _ _ L0.out _).mono ?_; rintro e w' ⟨rfl, rfl⟩))
          clear p0 p1
          go_wp2_with fail
          have g0 : decide ((s0 : Int) < 0) = false := decide_eq_false (by omega)
          have g1 : decide ((t0.size : Int) < (s0 : Int) + (m0 : Int)) = false := decide_eq_false (by omega)
          go_quiet ((go_at_call 21; first | exact quiet_add_left (synced_at ((hDa _ _).drewN _) 0 _ a0') | exact quiet_left (synced_at ((hDa _ _).drewN _) 0 _ a0')))
          go_wp2_with fail
          rw [rounds_succ]
          go_wp2_with fail
          refine (bytes_is ((hDa _ _).drewN _) 1 t1 b1).mono ?_; rintro e w3 ⟨rfl, rfl⟩
          go_wp2_with fail
          have p0 : IntKind.i64.wrap ((t1.size : Int) - (s1 : Int)) = (t1.size : Int) - (s1 : Int) := IntWalk.i64_in _ (by omega)
          have p1 : IntKind.i64.wrap ((s1 : Int) + (m1 : Int)) = (s1 : Int) + (m1 : Int) := IntWalk.i64_in _ (by omega)
          go_region_held3 (fun w' => w'.cell? ⟨wc.heap.size, 1, none⟩ = some (.string t1)) (go_keep) (first | (go_at_call 21; refine (synced_at (((hDa _ _).drewN _).drew) 1 _ a1').mono ?_; rintro e w' ⟨rfl, rfl⟩) | (go_at_call 23; refine (left_at _ _ _ L1.out _).mono ?_; rintro e w' ⟨rfl, rfl⟩))
          clear p0 p1
          go_wp2_with fail
          have g2 : decide ((s1 : Int) < 0) = false := decide_eq_false (by omega)
          have g3 : decide ((t1.size : Int) < (s1 : Int) + (m1 : Int)) = false := decide_eq_false (by omega)
          go_quiet ((go_at_call 21; first | exact quiet_add_left (synced_at ((hDa _ _).drewN _) 1 _ a1') | exact quiet_left (synced_at ((hDa _ _).drewN _) 1 _ a1')))
          go_wp2_with fail
          rw [rounds_succ]
          go_wp2_with fail
          refine (crash_any ((hDa _ _).drewN _) k0 k1).mono ?_
          rintro e w5 ⟨rfl, hg⟩
          obtain ⟨F5, hD5, hO5, hF5⟩ := hg
          clear hF5
          have nF : ∀ k, wc.heap.size ≤ k → ¬ F k := fun k hk h => by have := hD.lt k h; omega
          have hs5 := hO5.size
          have hr1 : w5.heap[wc.heap.size]? = some (.cells #[.string t0, .string t1] 52) := (hO5.block _ (by show _ < (((wc.alloc _).alloc _)).heap.size; simp; omega) (nF _ (Nat.le_refl _))).trans (heap_alloc2_old wc _ _)
          have hr2 : w5.heap[wc.heap.size + 1]? = some (.cells #[.int .i64 ((s0 : Int) + m0), .int .i64 ((s1 : Int) + m1)] 57) := (hO5.block _ (by show _ < (((wc.alloc _).alloc _)).heap.size; simp) (nF _ (Nat.le_succ _))).trans (heap_alloc2_new wc _ _)
          have zb0 : w5.cell? ⟨wc.heap.size, 0, none⟩ = some (.string t0) := (cellsAt hr1).1 0
          have zb1 : w5.cell? ⟨wc.heap.size, 1, none⟩ = some (.string t1) := (cellsAt hr1).1 1
          have zn0 : w5.cell? ⟨wc.heap.size + 1, 0, none⟩ = some (.int .i64 ((s0 : Int) + m0)) := (cellsAt hr2).1 0
          have zn1 : w5.cell? ⟨wc.heap.size + 1, 1, none⟩ = some (.int .i64 ((s1 : Int) + m1)) := (cellsAt hr2).1 1
          have hbel : Below w.heap.size w w5 := by
            have h5 := (below_drewN ((hB.alloc hsz _).alloc (by rw [World.size_alloc]; omega) _) _).trans (hO5.below (B := w.heap.size + 1) (by show _ ≤ (((wc.alloc _).alloc _)).heap.size; simp; omega) hF)
            exact ⟨h5.os, h5.tape, h5.output, by have := h5.size; rw [World.size_alloc] at this; omega, fun k hk => (h5.block k (by omega)).trans (Below.heap_alloc _ _ k hk)⟩
          have HB := Lib.hid hbel
          have hwl2 : wc.heap.size + 1 < w5.heap.size := (Array.getElem?_eq_some_iff.1 hr2).1
          clear hbel hr1 hr2 hO5 nF hs5 x2 x3 hDa hD hB g0 g1 g2 g3
          go_wp2_with fail
          refine wp_loop_rounds 3 ?_
          rw [rounds_succ]
          go_wp2_with fail
          have q1 : (0 : Int) ≤ (s0 : Int) + (m0 : Int) := by omega
          have q2 : (s0 : Int) + (m0 : Int) ≤ (t0.size : Int) := by omega
          have q3 : ((s0 : Int) + (m0 : Int)).toNat = s0 + m0 := by omega
          go_quiet (first | (go_at_call 12; exact quiet_left (bytes_is (hD5.drewN _) 0 _ C0.out)) | (go_at_call 21; exact quiet_left (synced_at (hD5.drewN _) 0 _ v0)))
          go_wp2_with fail
          rw [rounds_succ]
          go_wp2_with fail
          clear q1 q2 q3
          have q1 : (0 : Int) ≤ (s1 : Int) + (m1 : Int) := by omega
          have q2 : (s1 : Int) + (m1 : Int) ≤ (t1.size : Int) := by omega
          have q3 : ((s1 : Int) + (m1 : Int)).toNat = s1 + m1 := by omega
          go_quiet (first | (go_at_call 12; exact quiet_add_left (bytes_is (hD5.drewN _) 1 _ C1.out)) | (go_at_call 21; exact quiet_add_left (synced_at (hD5.drewN _) 1 _ v1)))
          go_wp2_with fail
          rw [rounds_succ]
          go_wp2_with fail
          clear q1 q2 q3
          have p2 : IntKind.i64.wrap ((s0 : Int) + (m0 : Int) + ((s1 : Int) + (m1 : Int))) = (s0 : Int) + (m0 : Int) + ((s1 : Int) + (m1 : Int)) := IntWalk.i64_in _ (by omega)
          go_region_held3 (fun w' => w'.cell? ⟨wc.heap.size + 1, 0, none⟩ = some (.int .i64 ((s0 : Int) + m0)) ∧ w'.cell? ⟨wc.heap.size + 1, 1, none⟩ = some (.int .i64 ((s1 : Int) + m1))) (go_keep) (first | (go_at_call 14; refine (used_is ((hD5.drewN _).drew) _ u).mono ?_; rintro e w6 ⟨rfl, hb6⟩; have zz0 := hb6.cell (p := ⟨wc.heap.size + 1, 0, none⟩) hwl2; have zz1 := hb6.cell (p := ⟨wc.heap.size + 1, 1, none⟩) hwl2))
          go_wp2_with fail
          go_ret
          refine ⟨by simp, HB.out.trans ⟨hb6.os, hb6.tape, hb6.output, hb6.size, fun k hk => hb6.block k (Nat.lt_of_lt_of_le hk HB.out.size)⟩⟩
end
end Go.Proofs.Ytofocdigbcdfaaa
