/- The walk of DiskExact: it returns true for every list of steps. -/
import Derived.Test.YtofocdigbcdfaaaR9
import Derived.Deep.Cut
import Derived.Deep.CutRange
import Derived.Deep.DeepCutAuto
namespace Go.Proofs.Ytofocdigbcdfaaa
open Go.RowKit Mem Disk

/-- The numbers of a step that a crash takes lie within a word. -/
def Within (st : St) : Prop := (-9223372036854775808 ≤ st.n ∧ st.n ≤ 9223372036854775807) ∧ -9223372036854775808 ≤ st.m ∧ st.m ≤ 9223372036854775807

theorem head2 : (Dk.new 2).appE 1 [97, 98] = 0 ∧ ((Dk.new 2).app 1 [97, 98]).appE 0 [99] = 60 ∧ ((Dk.new 2).app 1 [97, 98]).app 0 [99] = (Dk.new 2).app 1 [97, 98] ∧ str (((Dk.new 2).app 1 [97, 98]).bytes 1) = ⟨#[97, 98]⟩ := by
  refine ⟨by decide, by decide, by rfl, by rfl⟩

section
variable {w w' : World}

theorem neg3 (x : Int) : -3 < x.tmod 3 := by
  by_cases h : 0 ≤ x
  · have := Int.tmod_nonneg 3 h; omega
  · have h1 := Int.neg_tmod (a := x) (b := 3)
    have h2 := Int.tmod_lt_of_pos (-x) (b := 3) (by decide)
    omega

/-- The array of disks, ahead of the store into the other array. -/
theorem Trio.back {m S p r j : Nat} {v : Value} {d e : Nat → Nat} {D : Nat → Dk} {F G : Nat → Nat → Prop} (h : Trio m (w.setCell ⟨r, j, none⟩ v) S p r d e D F G) {i : Nat} (hi : i < m) : w.cell? ⟨p, i, none⟩ = some (.pointer (some ⟨d i, 0, none⟩)) :=
  (World.cell?_of_block (a := ⟨p, i, none⟩) (w := w) (w' := w.setCell ⟨r, j, none⟩ v) (other h.ne)).symm.trans (h.cellP hi)

theorem rnew_is (c : Int) (w : World) (n : Nat) (he : w.heap.size = n) :
    Calls Try.prog 25 #[.int .i64 c] w fun x w' => x = .returned (ptr n) ∧ RGoes w n (fun _ => False) (Dk.new c) w' := rnew_at c w n he

set_option maxRecDepth 100000 in
set_option maxHeartbeats 2000000 in
theorem exact_law (A : Option Addr) (na ca : Nat) (l : List St) (hl : l.length = na) (hna : na ≤ 9223372036854775807) (w : World) (hs : Steps w A l) (hbd : ∀ st ∈ l, Within st) :
    Calls Try.prog 7 #[.slice A na ca] w fun e w' => e = .returned (.bool true) ∧ Below w.heap.size w w' := by
  obtain ⟨t0, t1, t2, t3⟩ := head2
  go_enter Try.func7, Try.ntmps7
  go_wp2_with fail
  refine (new_at 2 _ w.heap.size rfl).mono ?_
  rintro e w1 ⟨rfl, hg⟩
  obtain ⟨F1, hD1, hF1, hB1, hO1⟩ := hg.out (S := w.heap.size) (w0 := w) (fun _ h => h.elim) (Nat.le_refl _) (Below.refl _ _)
  clear hg hO1
  go_wp2_with fail
  refine (append_is hD1 1 ⟨#[97, 98]⟩ _ t0).mono ?_
  rintro e w2 ⟨rfl, hg⟩
  obtain ⟨F2, hD2, hF2, hB2, hO2⟩ := hg.out hF1 hB1.size hB1
  clear hg hO2
  go_wp2_with fail
  refine (append_is hD2 0 ⟨#[99]⟩ _ t1).mono ?_
  rintro e w3 ⟨rfl, hg⟩
  obtain ⟨F3, hD3, hF3, hB3, hO3⟩ := hg.out hF2 hB2.size hB2
  rw [show ((Dk.new 2).app 1 [97, 98]).app 0 (⟨#[99]⟩ : ByteArray).data.toList = (Dk.new 2).app 1 [97, 98] from t2] at hD3
  clear hg hO3
  go_wp2_with fail
  refine (bytes_is hD3 1 _ t3).mono ?_
  rintro e w4 ⟨rfl, rfl⟩
  clear hD3 hD2 hD1 hF1 hF2 hF3 hB1 hB2 t0 t1 t2 t3
  go_wp2_with fail
  have hT0 : Trio 0 ((w3.alloc (.cells #[.pointer none, .pointer none, .pointer none] 61)).alloc (.cells #[.pointer none, .pointer none, .pointer none] 63)) w.heap.size w3.heap.size (w3.heap.size + 1) (fun _ => 0) (fun _ => 0) (fun _ => Dk.new 0) (fun _ _ => False) (fun _ _ => False) := by
    refine ⟨fun i hi => absurd hi (Nat.not_lt_zero _), fun i j hi => absurd hi (Nat.not_lt_zero _), fun i hi => absurd hi (Nat.not_lt_zero _), hB3.size, by have := hB3.size; omega, by omega, ⟨#[.pointer none, .pointer none, .pointer none], rfl, (Below.heap_alloc _ _ _ (by simp)).trans (heap_alloc_new w3 _), fun i hi => absurd hi (Nat.not_lt_zero _)⟩, ⟨#[.pointer none, .pointer none, .pointer none], rfl, ?_, fun i hi => absurd hi (Nat.not_lt_zero _)⟩⟩
    have := heap_alloc_new (w3.alloc (.cells #[.pointer none, .pointer none, .pointer none] 61)) (.cells #[.pointer none, .pointer none, .pointer none] 63)
    rwa [World.size_alloc] at this
  have hB4 := (hB3.alloc hB3.size (.cells #[.pointer none, .pointer none, .pointer none] 61))
  have hB5 := hB4.alloc hB4.size (.cells #[.pointer none, .pointer none, .pointer none] 63)
  clear hB3 hB4
  generalize hp : w3.heap.size = p at *
  clear hp
  go_loopw [6] (fun i wr => ∃ m : Nat, m ≤ 3 ∧ i = .int .i64 m ∧ ∃ d e D F G, Trio m wr w.heap.size p (p + 1) d e D F G ∧ Below w.heap.size w wr) (fun i _ => 3 - (intOf i).toNat)
  case atStart => exact ⟨0, by omega, rfl, _, _, _, _, _, hT0, hB5⟩
  case round =>
    clear hT0 hB5
    obtain ⟨m, hm, rfl, d, e, D, F, G, hT, hB⟩ := hrel
    by_cases hlt : m < 3
    · have hS := hB.size
      go_wp2_with fail
      refine (new_at 64 _ wr.heap.size rfl).mono ?_
      rintro y w5 ⟨rfl, hg1⟩
      obtain ⟨v0, c0⟩ := hT.hasP hlt
      have f0 := hT.thawP m
      obtain ⟨v1, c1⟩ := hT.hasR hlt
      have f1 := hT.thawR m
      have hpl := hT.ltP; have hrl := hT.ltR
      have hO5 := hg1
      obtain ⟨_, _, x2, _⟩ := hO5
      have z0 := (x2.cell (p := ⟨p, m, none⟩) hpl (fun h => h)).trans c0
      have z1 := (World.frozen?_of_block (a := ⟨p, m, none⟩) (x2.block p hpl (fun h => h))).trans f0
      go_wp2_with fail
      refine (rnew_at 64 _ w5.heap.size (by simp [World.setCell])).mono ?_
      rintro y w6 ⟨rfl, hg2⟩
      have hO6 := hg2
      obtain ⟨_, _, x3, _⟩ := hO6
      have hz5 := x2.size
      have hsz5 : (w5.setCell ⟨p, m, none⟩ (.pointer (some ⟨wr.heap.size, 0, none⟩))).heap.size = w5.heap.size := by simp [World.setCell]
      have hr1 : w6.heap[p + 1]? = wr.heap[p + 1]? := ((x3.block (p + 1) (by rw [hsz5]; omega) (fun h => h)).trans (other (by simp))).trans (x2.block (p + 1) hrl (fun h => h))
      have z2 := (World.cell?_of_block (a := ⟨p + 1, m, none⟩) hr1).trans c1
      have z3 := (World.frozen?_of_block (a := ⟨p + 1, m, none⟩) hr1).trans f1
      obtain ⟨F7, G7, hT7, hB7⟩ := hT.put (m' := m + 1) hlt (fun i hi => by omega) hS hg1 hg2 hB
      have q1 := hT7.cellP (i := m) (by omega)
      rw [upd_same] at q1
      have q1' : (w6.setCell ⟨p + 1, m, none⟩ (.pointer (some ⟨w5.heap.size, 0, none⟩))).cell? ⟨p, m, none⟩ = some (.pointer (some ⟨wr.heap.size, 0, none⟩)) := q1
      have q2 : w6.cell? ⟨p, m, none⟩ = some (.pointer (some ⟨wr.heap.size, 0, none⟩)) := (World.cell?_of_block (a := ⟨p, m, none⟩) (w := w6) (w' := w6.setCell ⟨p + 1, m, none⟩ (.pointer (some ⟨w5.heap.size, 0, none⟩))) (other (by simp))).symm.trans q1'
      clear q1 hr1 hg1 hg2 x2 x3
      go_wp2_with fail
      go_roundw
      case rel => exact ⟨m + 1, by omega, by go_num, _, _, _, F7, G7, hT7, hB7⟩
      case measure => simp [intOf]; omega
    · obtain rfl : m = 3 := by omega
      go_wp2_with fail
      go_loopw [7] (fun i wr => ∃ k : Nat, k ≤ na ∧ i = .int .i64 k ∧ ∃ d e D F G, Trio 3 wr w.heap.size p (p + 1) d e D F G ∧ Below w.heap.size w wr) (fun i _ => na - (intOf i).toNat)
      case atStart => exact ⟨0, Nat.zero_le _, rfl, d, e, D, F, G, hT, hB⟩
      case round =>
        clear hT hB
        obtain ⟨k, hk, rfl, d, e, D, F, G, hT, hB⟩ := hrel
        by_cases hlt : k < na
        · obtain ⟨b, off, st, rfl, hb, hst, y0, y1, y2, y3, y4, y5⟩ := hs.fetch (w1 := wr) (fun p hp => hB.cell hp) (k := k) (by omega)
          have hwi : Within st := hbd st (List.mem_of_getElem? hst)
          clear hst
          obtain ⟨kind, on, slot, n, q, s⟩ := st
          obtain ⟨⟨n0, n1⟩, m0, m1⟩ := hwi
          simp only at y0 y1 y2 y3 y4 y5 n0 n1 m0 m1
          have hS := hB.size
          go_upto_if 57 with fail
          have hr0 : -3 < on.tmod 3 := neg3 on
          have hr1 : on.tmod 3 < 3 := Int.tmod_lt_of_pos on (by decide)
          go_cut [9] from 43 to 109 (fun s9 wx => (∃ o : Nat, o < 3 ∧ s9 = .int .i64 o) ∧ wx = wr.alloc (.cells #[.int .i64 kind, .int .i64 on, .int .i64 slot, .int .i64 n, .int .i64 q, .string s] 29))
          case first =>
            by_cases hneg : on.tmod 3 < 0
            · go_wp2_with fail
              go_meet
              case rel => exact ⟨⟨(on.tmod 3 + 3).toNat, by omega, by congr 1; omega⟩, rfl⟩
            · go_wp2_with fail
              go_meet
              case rel => exact ⟨⟨(on.tmod 3).toNat, by omega, by congr 1; omega⟩, rfl⟩
          case rest =>
            obtain ⟨⟨o, ho, rfl⟩, rfl⟩ := hcut
            obtain ⟨t, ht, hot⟩ : ∃ t : Nat, t < 3 ∧ ((o : Int) + 1) % 3 = t := ⟨(((o : Int) + 1) % 3).toNat, by omega, by omega⟩
            have hb1 : Below wr.heap.size wr (wr.alloc (.cells #[.int .i64 kind, .int .i64 on, .int .i64 slot, .int .i64 n, .int .i64 q, .string s] 29)) := (Below.refl _ _).alloc (Nat.le_refl _) _
            have hT1 := hT.kept hb1
            have hB1 := hB.trans (hb1.mono hS)
            have hS1 := hB1.size
            have hpl := hT1.ltP; have hrl := hT1.ltR
            by_cases hk1 : kind = 1
            · subst hk1
              go_wp2_with fail
              refine (new_at n _ (wr.heap.size + 1) (by simp)).mono ?_
              rintro y w5 ⟨rfl, hg1⟩
              have hO5 := hg1
              obtain ⟨_, _, x2, _⟩ := hO5
              obtain ⟨v0, c0⟩ := hT1.hasP ho
              obtain ⟨v1, c1⟩ := hT1.hasR ho
              have z0 := (x2.cell (p := ⟨p, o, none⟩) hpl (fun h => h)).trans c0
              have z1 := (World.frozen?_of_block (a := ⟨p, o, none⟩) (x2.block p hpl (fun h => h))).trans (hT1.thawP o)
              have hz5 := x2.size
              have hrow5 : w5.heap[wr.heap.size]? = some (.cells #[.int .i64 1, .int .i64 on, .int .i64 slot, .int .i64 n, .int .i64 q, .string s] 29) := (x2.block wr.heap.size (by simp) (fun h => h)).trans (heap_alloc_new wr _)
              have y9 : w5.cell? ⟨wr.heap.size, 3, none⟩ = some (.int .i64 n) := (cellsAt hrow5).1 3
              have hpw : p ≠ wr.heap.size := by have := hT.ltP; omega
              go_wp2_with fail
              refine (rnew_at n _ w5.heap.size (by simp [World.setCell])).mono ?_
              rintro y w6 ⟨rfl, hg2⟩
              have hO6 := hg2
              obtain ⟨_, _, x3, _⟩ := hO6
              have hsz5 : (w5.setCell ⟨p, o, none⟩ (.pointer (some ⟨wr.heap.size + 1, 0, none⟩))).heap.size = w5.heap.size := by simp [World.setCell]
              have hr1 : w6.heap[p + 1]? = (wr.alloc (.cells #[.int .i64 1, .int .i64 on, .int .i64 slot, .int .i64 n, .int .i64 q, .string s] 29)).heap[p + 1]? := ((x3.block (p + 1) (by rw [hsz5]; omega) (fun h => h)).trans (other (by simp))).trans (x2.block (p + 1) hrl (fun h => h))
              have z2 := (World.cell?_of_block (a := ⟨p + 1, o, none⟩) hr1).trans c1
              have z3 := (World.frozen?_of_block (a := ⟨p + 1, o, none⟩) hr1).trans (hT1.thawR o)
              obtain ⟨F7, G7, hT7, hB7⟩ := hT1.put (m' := 3) ho (fun i hi => .inr hi) hS1 hg1 hg2 hB1
              have q1 := hT7.cellP (i := o) ho
              have q2 := hT7.cellP (i := t) ht
              have q3 := hT7.back (i := o) ho
              have q4 := hT7.back (i := t) ht
              clear hg1 hg2 x2 x3 hr1
              go_wp2_with fail
              refine ⟨⟨_, _, _, _, _, _, _, _, _, _, _, _, _, _, _, _, _, _, _, _, _, _, _, _, _, _, _, _, _, _, _, _, _, _, _, _, _, _, _, _, _, _, _, _, _, _, _, _, _, _, _, _, _, _, _, _, _, _, _, _, _, _, _, _, _, _, _, _, _, _, _, _, ?rel, rfl⟩, ?measure⟩
              case rel => exact ⟨k + 1, by omega, by go_num, _, _, _, F7, G7, hT7, hB7⟩
              case measure => simp [intOf]; omega
            · by_cases hk11 : kind = 11
              · subst hk11
                have u1 := hT1.cellP (i := o) ho
                have u2 := hT1.cellR (i := o) ho
                go_wp2_with fail
                refine (clone_at (hT1.duo o ho).hd (wr.heap.size + 1) (by simp)).mono ?_
                rintro y w5 ⟨rfl, hg1⟩
                have hO5 := hg1
                obtain ⟨_, _, x2, _⟩ := hO5
                obtain ⟨v0, c0⟩ := hT1.hasP ht
                obtain ⟨v1, c1⟩ := hT1.hasR ht
                have z0 := (x2.cell (p := ⟨p, t, none⟩) hpl (fun h => h)).trans c0
                have z1 := (World.frozen?_of_block (a := ⟨p, t, none⟩) (x2.block p hpl (fun h => h))).trans (hT1.thawP t)
                have hz5 := x2.size
                have u3 := (x2.cell (p := ⟨p + 1, o, none⟩) hrl (fun h => h)).trans u2
                have hRk : RDsk (w5.setCell ⟨p, t, none⟩ (.pointer (some ⟨wr.heap.size + 1, 0, none⟩))) (e o) (D o) (G o) := (hT1.duo o ho).hr.kept fun k hk => by
                  have := (hT1.np o ho k (.inr hk)).1
                  exact (other this).trans (x2.block k (hT1.lt ho (.inr hk)) (fun h => h))
                go_wp2_with fail
                refine (rclone_at hRk w5.heap.size (by simp [World.setCell])).mono ?_
                rintro y w6 ⟨rfl, hg2⟩
                have hO6 := hg2
                obtain ⟨_, _, x3, _⟩ := hO6
                have hsz5 : (w5.setCell ⟨p, t, none⟩ (.pointer (some ⟨wr.heap.size + 1, 0, none⟩))).heap.size = w5.heap.size := by simp [World.setCell]
                have hr1 : w6.heap[p + 1]? = (wr.alloc (.cells #[.int .i64 11, .int .i64 on, .int .i64 slot, .int .i64 n, .int .i64 q, .string s] 29)).heap[p + 1]? := ((x3.block (p + 1) (by rw [hsz5]; omega) (fun h => h)).trans (other (by simp))).trans (x2.block (p + 1) hrl (fun h => h))
                have z2 := (World.cell?_of_block (a := ⟨p + 1, t, none⟩) hr1).trans c1
                have z3 := (World.frozen?_of_block (a := ⟨p + 1, t, none⟩) hr1).trans (hT1.thawR t)
                obtain ⟨F7, G7, hT7, hB7⟩ := hT1.put (m' := 3) ht (fun i hi => .inr hi) hS1 hg1 hg2 hB1
                have q1 := hT7.cellP (i := o) ho
                have q2 := hT7.cellP (i := t) ht
                have q3 := hT7.back (i := o) ho
                have q4 := hT7.back (i := t) ht
                clear hg1 hg2 x2 x3 hr1
                go_wp2_with fail
                refine ⟨⟨_, _, _, _, _, _, _, _, _, _, _, _, _, _, _, _, _, _, _, _, _, _, _, _, _, _, _, _, _, _, _, _, _, _, _, _, _, _, _, _, _, _, _, _, _, _, _, _, _, _, _, _, _, _, _, _, _, _, _, _, _, _, _, _, _, _, _, _, _, _, _, _, ?rel, rfl⟩, ?measure⟩
                case rel => exact ⟨k + 1, by omega, by go_num, _, _, _, F7, G7, hT7, hB7⟩
                case measure => simp [intOf]; omega
              · have b1 : (kind == 1) = false := beq_eq_false_iff_ne.2 hk1
                have b11 : (kind == 11) = false := beq_eq_false_iff_ne.2 hk11
                have u1 := hT1.cellP (i := o) ho
                have u2 := hT1.cellR (i := o) ho
                have hrow1 : (wr.alloc (.cells #[.int .i64 kind, .int .i64 on, .int .i64 slot, .int .i64 n, .int .i64 q, .string s] 29)).heap[wr.heap.size]? = some (.cells #[.int .i64 kind, .int .i64 on, .int .i64 slot, .int .i64 n, .int .i64 q, .string s] 29) := heap_alloc_new wr _
                obtain ⟨e0, e1, e2, e3, e4, e5⟩ : (wr.alloc (.cells #[.int .i64 kind, .int .i64 on, .int .i64 slot, .int .i64 n, .int .i64 q, .string s] 29)).drew.cell? ⟨wr.heap.size, 0, none⟩ = some (.int .i64 kind) ∧ (wr.alloc (.cells #[.int .i64 kind, .int .i64 on, .int .i64 slot, .int .i64 n, .int .i64 q, .string s] 29)).drew.cell? ⟨wr.heap.size, 1, none⟩ = some (.int .i64 on) ∧ (wr.alloc (.cells #[.int .i64 kind, .int .i64 on, .int .i64 slot, .int .i64 n, .int .i64 q, .string s] 29)).drew.cell? ⟨wr.heap.size, 2, none⟩ = some (.int .i64 slot) ∧ (wr.alloc (.cells #[.int .i64 kind, .int .i64 on, .int .i64 slot, .int .i64 n, .int .i64 q, .string s] 29)).drew.cell? ⟨wr.heap.size, 3, none⟩ = some (.int .i64 n) ∧ (wr.alloc (.cells #[.int .i64 kind, .int .i64 on, .int .i64 slot, .int .i64 n, .int .i64 q, .string s] 29)).drew.cell? ⟨wr.heap.size, 4, none⟩ = some (.int .i64 q) ∧ (wr.alloc (.cells #[.int .i64 kind, .int .i64 on, .int .i64 slot, .int .i64 n, .int .i64 q, .string s] 29)).drew.cell? ⟨wr.heap.size, 5, none⟩ = some (.string s) := ⟨(cellsAt hrow1).1 0, (cellsAt hrow1).1 1, (cellsAt hrow1).1 2, (cellsAt hrow1).1 3, (cellsAt hrow1).1 4, (cellsAt hrow1).1 5⟩
                have hTd : Trio 3 (wr.alloc (.cells #[.int .i64 kind, .int .i64 on, .int .i64 slot, .int .i64 n, .int .i64 q, .string s] 29)).drew w.heap.size p (p + 1) d e D F G := hT1.kept ((Below.refl _ _).drew)
                have v1 := hTd.cellP (i := o) ho
                have v2 := hTd.cellR (i := o) ho
                go_wp2_with fail
                have o1 : (0 : Int) ≤ (o : Int) := by omega
                have o2 : (o : Int) < 3 := by omega
                have nFG : ¬ (F o wr.heap.size ∨ G o wr.heap.size) := fun h => Nat.lt_irrefl _ (hT.lt ho h)
                have hlt1 : wr.heap.size < (wr.alloc (.cells #[.int .i64 kind, .int .i64 on, .int .i64 slot, .int .i64 n, .int .i64 q, .string s] 29)).heap.size := by simp
                go_region_held3 (fun w' => w'.cell? ⟨p, o, none⟩ = some (.pointer (some ⟨d o, 0, none⟩)) ∧ w'.cell? ⟨p + 1, o, none⟩ = some (.pointer (some ⟨e o, 0, none⟩)) ∧ w'.cell? ⟨wr.heap.size, 0, none⟩ = some (.int .i64 kind) ∧ w'.cell? ⟨wr.heap.size, 1, none⟩ = some (.int .i64 on) ∧ w'.cell? ⟨wr.heap.size, 2, none⟩ = some (.int .i64 slot) ∧ w'.cell? ⟨wr.heap.size, 3, none⟩ = some (.int .i64 n) ∧ w'.cell? ⟨wr.heap.size, 4, none⟩ = some (.int .i64 q) ∧ w'.cell? ⟨wr.heap.size, 5, none⟩ = some (.string s)) (first | exact ⟨v1, v2, e0, e1, e2, e3, e4, e5⟩ | exact ⟨q0, q3, f0, f1, f2, f3, f4, f5⟩)
                  (first
                   | (go_at_call 28; refine (does_any (hTd.duo o ho) kind on slot n q s n0 n1 m0 m1).mono ?_; rintro y w5 ⟨rfl, hg⟩; obtain ⟨_, _, _, x2, _⟩ := id hg; have hrow5 := (x2.block wr.heap.size hlt1 nFG).trans hrow1; have f0 := (cellsAt hrow5).1 0; have f1 := (cellsAt hrow5).1 1; have f2 := (cellsAt hrow5).1 2; have f3 := (cellsAt hrow5).1 3; have f4 := (cellsAt hrow5).1 4; have f5 := (cellsAt hrow5).1 5; obtain ⟨F7, G7, hT7, hB7⟩ := hTd.does ho hS1 hg hB1.drew; have q0 := hT7.cellP (i := o) ho; have q3 := hT7.cellR (i := o) ho))
                all_goals
                  have q1 := hT7.cellP (i := o) ho
                  have q2 := hT7.cellP (i := t) ht
                  go_wp2_with fail
                  refine ⟨⟨_, _, _, _, _, _, _, _, _, _, _, _, _, _, _, _, _, _, _, _, _, _, _, _, _, _, _, _, _, _, _, _, _, _, _, _, _, _, _, _, _, _, _, _, _, _, _, _, _, _, _, _, _, _, _, _, _, _, _, _, _, _, _, _, _, _, _, _, _, _, _, _, ?rel, rfl⟩, ?measure⟩
                  case rel => exact ⟨k + 1, by omega, by go_num, _, _, _, F7, G7, hT7, hB7⟩
                  case measure => simp [intOf]; omega
        · obtain rfl : na = k := by omega
          go_wp2_with fail
          go_ret
          exact ⟨rfl, hB⟩
end
end Go.Proofs.Ytofocdigbcdfaaa
