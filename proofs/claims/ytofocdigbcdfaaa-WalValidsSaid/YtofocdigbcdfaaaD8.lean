/- The walk of DiskRoom: it returns true for every capacity and every list of steps. -/
import Derived.Test.YtofocdigbcdfaaaD7
namespace Go.Proofs.Ytofocdigbcdfaaa
open Go.RowKit Mem Disk

/-- A slice of steps that reads as the list l. -/
structure Steps (w : World) (A : Option Addr) (l : List St) : Prop where
  at_ : ∀ k (h : k < l.length), ∃ b off, A = some ⟨b, off, none⟩ ∧ b < w.heap.size ∧
    w.cell? ⟨b, off + k * 6, none⟩ = some (.int .i64 l[k].kind) ∧ w.cell? ⟨b, off + k * 6 + 1, none⟩ = some (.int .i64 l[k].on) ∧ w.cell? ⟨b, off + k * 6 + 2, none⟩ = some (.int .i64 l[k].slot) ∧
    w.cell? ⟨b, off + k * 6 + 3, none⟩ = some (.int .i64 l[k].n) ∧ w.cell? ⟨b, off + k * 6 + 4, none⟩ = some (.int .i64 l[k].m) ∧ w.cell? ⟨b, off + k * 6 + 5, none⟩ = some (.string l[k].s)

section
variable {w w' : World} {d : Nat} {D : Dk} {F : Nat → Prop}

theorem bytes_is (h : Dsk w d D F) (i : Int) (s : ByteArray) (hs : str (D.bytes i) = s) :
    Calls Try.prog 12 #[.pointer (some ⟨d, 0, none⟩), .int .i64 i] w fun e w' => e = .returned (.string s) ∧ w = w' := by
  obtain ⟨A0, A1, c0, c1, hI, rfl⟩ := h
  subst hs
  exact bytes_any hI i
theorem used_is (h : Dsk w d D F) (u : Int) (hu : (D.used : Int) = u) :
    Calls Try.prog 14 #[.pointer (some ⟨d, 0, none⟩)] w fun e w' => e = .returned (.int .i64 u) ∧ Below w.heap.size w w' := by
  obtain ⟨A0, A1, c0, c1, hI, rfl⟩ := h
  subst hu
  exact used_any hI
theorem free_is (h : Dsk w d D F) (u : Int) (hu : (D.free : Int) = u) :
    Calls Try.prog 10 #[.pointer (some ⟨d, 0, none⟩)] w fun e w' => e = .returned (.int .i64 u) ∧ Below w.heap.size w w' := by
  subst hu
  exact free_dsk h

theorem Dsk.drew (h : Dsk w d D F) : Dsk w.drew d D F := h.kept fun _ _ => rfl

/-- All of F lies from S on. -/
def From (S : Nat) (F : Nat → Prop) : Prop := ∀ k, F k → S ≤ k

theorem new_at (c : Int) (w : World) (d : Nat) (hd : w.heap.size = d) :
    Calls Try.prog 9 #[.int .i64 c] w fun e w' => e = .returned (.pointer (some ⟨d, 0, none⟩)) ∧ Goes w d (fun _ => False) (Dk.new c) w' := by
  subst hd
  refine (new_any c w).mono ?_
  rintro e w' ⟨he, rfl⟩
  refine ⟨he, own w.heap.size none none, ⟨none, none, 0, 0, ⟨Dk.new_ok c, heap_alloc_new w _, Bts.nil _ _, Bts.nil _ _, fun k h => (blk_none k h).elim⟩, rfl⟩, (Only.refl _ _).alloc _, ?_⟩
  rintro k (rfl | hk | hk)
  · exact .inr (Nat.le_refl _)
  · exact (blk_none k hk).elim
  · exact (blk_none k hk).elim

/-- What a call on the disk leaves: the disk, from S on; below S nothing has turned; other blocks G stand. -/
theorem Goes.out {S : Nat} {w0 : World} {D' : Dk} (hg : Goes w d F D' w') (hF : From S F) (hS : S ≤ w.heap.size) (hb : Below S w0 w) :
    ∃ F', Dsk w' d D' F' ∧ From S F' ∧ Below S w0 w' ∧ Only F w w' := by
  obtain ⟨F', h1, h2, h3⟩ := hg
  exact ⟨F', h1, fun k hk => (h3 k hk).elim (hF k) (fun h => Nat.le_trans hS h), hb.trans (h2.below hS hF), h2⟩

theorem appE_fit {D : Dk} {i : Int} {s : ByteArray} (hr : right i) (h : s.size ≤ D.free) : D.appE i s.data.toList = 0 := by
  unfold Dk.appE; rw [if_pos hr, if_pos (show s.data.toList.length ≤ D.free from h)]
theorem appE_full {D : Dk} {i : Int} {s : ByteArray} (hr : right i) (h : ¬ s.size ≤ D.free) : D.appE i s.data.toList = 60 := by
  unfold Dk.appE; rw [if_pos hr, if_neg (show ¬ s.data.toList.length ≤ D.free from h)]
theorem appE_wrong {D : Dk} {i : Int} {s : ByteArray} (hr : ¬ right i) : D.appE i s.data.toList = 61 := by
  unfold Dk.appE; rw [if_neg hr]
theorem app_no {D : Dk} {i : Int} {s : ByteArray} (h : ¬ (right i ∧ s.size ≤ D.free)) : D.app i s.data.toList = D := by
  unfold Dk.app; rw [if_neg (show ¬ (right i ∧ s.data.toList.length ≤ D.free) from h)]
theorem str_append (b : List UInt8) (s : ByteArray) : str (b ++ s.data.toList) = str b ++ s := by
  apply ByteArray.ext
  simp [str]
theorem app00 {D : Dk} {s : ByteArray} (h : s.size ≤ D.free) : str ((D.app 0 s.data.toList).bytes 0) = str (D.bytes 0) ++ s := by
  unfold Dk.app; rw [if_pos ⟨.inl rfl, h⟩]; simp [Dk.bytes, Dk.set, Dk.get, right, str_append]
theorem app01 {D : Dk} {s : ByteArray} (h : s.size ≤ D.free) : str ((D.app 0 s.data.toList).bytes 1) = str (D.bytes 1) := by
  unfold Dk.app; rw [if_pos ⟨.inl rfl, h⟩]; simp [Dk.bytes, Dk.set, Dk.get, right]
theorem app11 {D : Dk} {s : ByteArray} (h : s.size ≤ D.free) : str ((D.app 1 s.data.toList).bytes 1) = str (D.bytes 1) ++ s := by
  unfold Dk.app; rw [if_pos ⟨.inr rfl, h⟩]; simp [Dk.bytes, Dk.set, Dk.get, right, str_append]
theorem app10 {D : Dk} {s : ByteArray} (h : s.size ≤ D.free) : str ((D.app 1 s.data.toList).bytes 0) = str (D.bytes 0) := by
  unfold Dk.app; rw [if_pos ⟨.inr rfl, h⟩]; simp [Dk.bytes, Dk.set, Dk.get, right]

theorem append_is (h : Dsk w d D F) (i : Int) (s : ByteArray) (x : Int) (hE : D.appE i s.data.toList = x) :
    Calls Try.prog 13 #[.pointer (some ⟨d, 0, none⟩), .int .i64 i, .string s] w fun e w' => e = .returned (.int .i64 x) ∧ Goes w d F (D.app i s.data.toList) w' := by
  subst hE
  exact append_any h i s

/-- A new block of six cells, behind a call that turned nothing of old. -/
theorem new6 {w w1 : World} {v0 v1 v2 v3 v4 v5 : Value} {T : TypeId} (hb : Below (w.alloc (.cells #[v0, v1, v2, v3, v4, v5] T)).drew.heap.size (w.alloc (.cells #[v0, v1, v2, v3, v4, v5] T)).drew w1) :
    w1.cell? ⟨w.heap.size, 0, none⟩ = some v0 ∧ w1.cell? ⟨w.heap.size, 1, none⟩ = some v1 ∧ w1.cell? ⟨w.heap.size, 2, none⟩ = some v2 ∧ w1.cell? ⟨w.heap.size, 3, none⟩ = some v3 ∧
    w1.cell? ⟨w.heap.size, 4, none⟩ = some v4 ∧ w1.cell? ⟨w.heap.size, 5, none⟩ = some v5 ∧ w.heap.size < w1.heap.size := by
  have hr : w1.heap[w.heap.size]? = some (.cells #[v0, v1, v2, v3, v4, v5] T) := (hb.block _ (by simp)).trans (heap_alloc_new w _)
  have hc := (cellsAt hr).1
  exact ⟨hc 0, hc 1, hc 2, hc 3, hc 4, hc 5, by have := hb.size; simp at this; omega⟩

/-- What a disk tells: its two texts, and the two sums over them. -/
theorem tells {D : Dk} (h : D.ok) (r : Nat) (hr : D.room = r) : ∃ s0 s1 : ByteArray, str (D.bytes 0) = s0 ∧ str (D.bytes 1) = s1 ∧
    ((D.used : Int) = (s0.size : Int) + s1.size ∧ (D.free : Int) = (r : Int) - ((s0.size : Int) + s1.size)) ∧ s0.size + s1.size ≤ r ∧ r ≤ 1048576 := by
  have h1 := h.fit; have h2 := h.top
  have e0 : (str (D.bytes 0)).size = D.a.b.length := by rw [str_size]; rfl
  have e1 : (str (D.bytes 1)).size = D.b.b.length := by rw [str_size]; rfl
  refine ⟨_, _, rfl, rfl, ?_⟩
  rw [e0, e1]
  unfold Dk.free Dk.used
  omega

set_option maxRecDepth 100000 in
set_option maxHeartbeats 1000000 in
theorem room_any (cap : Int) (A B : Option Addr) (na nb ca cb : Nat) (l : List St) (hl : l.length = na) (hn : na ≤ 9223372036854775807) (w : World) (hs : Steps w A l) :
    Calls Try.prog 3 #[.agg #[.int .i64 cap, .slice A na ca, .slice B nb cb]] w fun e w' => e = .returned (.bool true) ∧ Below w.heap.size w w' := by
  have hroom : (Dk.new cap).free = roomOf cap := by simp [Dk.free, Dk.used, Dk.new]
  have HR := Lib.hid hroom; clear hroom
  have hr0 : roomOf cap ≤ 1048576 := by unfold roomOf; omega
  obtain ⟨mx, hmx, hif⟩ : ∃ mx : Int, (if cap < 0 then 0 else cap) = mx ∧ (if 1048576 < mx then 1048576 else mx) = (roomOf cap : Int) := ⟨_, rfl, by unfold roomOf; (repeat' split) <;> omega⟩
  go_enter Try.func3, Try.ntmps3
  go_wp2_with fail
  refine (new_at cap _ (w.heap.size + 1) (by simp)).mono ?_
  rintro e w1 ⟨rfl, hg⟩
  obtain ⟨F, hD, hF, hB, hO⟩ := hg.out (S := w.heap.size + 1) (w0 := w.alloc (.cells #[.int .i64 cap, .slice A na ca, .slice B nb cb] 24)) (fun _ h => h.elim) (by simp) (Below.refl _ _)
  clear hg hO
  have x0 : w1.cell? ⟨w.heap.size, 0, none⟩ = some (.int .i64 cap) := (hB.cell (p := ⟨w.heap.size, 0, none⟩) (by simp)).trans (by simp [go_sem])
  go_wp2_with (first | (go_at_call 10; refine (free_is hD (roomOf cap) (by rw [HR.out])).mono ?_; rintro e w2 ⟨rfl, hb2⟩))
  go_loopw [5] (fun i wr => ∃ k : Nat, k ≤ na ∧ i = .int .i64 k ∧ ((Dk.new cap).acts (l.take k)).room = roomOf cap ∧ ∃ F, Dsk wr (w.heap.size + 1) ((Dk.new cap).acts (l.take k)) F ∧ From (w.heap.size + 1) F ∧ Below (w.heap.size + 1) (w.alloc (.cells #[.int .i64 cap, .slice A na ca, .slice B nb cb] 24)) wr) (fun i _ => na - (intOf i).toNat)
  case atStart => exact ⟨0, Nat.zero_le _, rfl, rfl, F, hD.below hb2, hF, hB.trans (hb2.mono (by have := hB.size; simp at this; omega))⟩
  case round =>
    obtain ⟨k, hk, rfl, hRoom, F, hD, hF, hB⟩ := hrel
    have HRoom := Lib.hid hRoom; clear hRoom
    have xc : wr.cell? ⟨w.heap.size, 1, none⟩ = some (.slice A na ca) := (hB.cell (p := ⟨w.heap.size, 1, none⟩) (by simp)).trans (by simp [go_sem])
    have hsz := hB.size
    rw [World.size_alloc] at hsz
    by_cases hlt : k < na
    · obtain ⟨b, off, rfl, hb, y0, y1, y2, y3, y4, y5⟩ := hs.at_ k (by omega)
      have hz : ∀ j, wr.cell? ⟨b, j, none⟩ = w.cell? ⟨b, j, none⟩ := fun j => (hB.cell (p := ⟨b, j, none⟩) (by simp; omega)).trans (World.cell?_alloc_lt _ _ _ (by simpa using hb))
      rw [← hz] at y0 y1 y2 y3 y4 y5
      clear hz
      obtain ⟨st, hst⟩ : ∃ st, st = l[k]'(by omega) := ⟨_, rfl⟩
      rw [← hst] at y0 y1 y2 y3 y4 y5
      have hnext : (Dk.new cap).acts (l.take (k + 1)) = ((Dk.new cap).acts (l.take k)).act st := by
        rw [List.take_succ_eq_append_getElem (by omega), Dk.acts, List.foldl_append, ← hst]; rfl
      have HN := Lib.hid hnext
      clear hst hnext
      generalize (Dk.new cap).acts (l.take k) = D at *
      obtain ⟨kind, on, slot, n, m, s⟩ := st
      simp only at y0 y1 y2 y3 y4 y5
      by_cases h2 : kind = 2
      · subst h2
        obtain ⟨s0, s1, hs0, hs1, hu, hf1, hf2⟩ := tells hD.ok (roomOf cap) HRoom.out
        obtain ⟨t0, t1, ht0, ht1, hv, hg1, hg2⟩ := tells (hD.ok.app slot s.data.toList) (roomOf cap) (by rw [Dk.room_app, HRoom.out])
        have hDa : ∀ o, Dsk (wr.alloc o) (w.heap.size + 1) D F := fun o => hD.below ((Below.refl _ _).alloc (Nat.le_refl _) o)
        have hDa := hDa (.cells #[.int .i64 2, .int .i64 on, .int .i64 slot, .int .i64 n, .int .i64 m, .string s] 29)
        have hfree : (D.free : Int) = (roomOf cap : Int) - ((s0.size : Int) + s1.size) := hu.2
        by_cases hr0 : slot = 0
        · subst hr0
          by_cases hfit : s.size ≤ D.free
          · have hE : D.appE 0 s.data.toList = 0 := appE_fit (.inl rfl) hfit
            obtain rfl : s1 = t1 := by rw [← hs1, ← ht1, app01 hfit]
            have hcat : s0 ++ s = t0 := by rw [← hs0, ← ht0, app00 hfit]
            have hfi : (s.size : Int) ≤ (roomOf cap : Int) - ((s0.size : Int) + s1.size) := by omega
            clear hfit hfree
            go_wp2_with fail
            refine (bytes_is hDa 0 s0 hs0).mono ?_; rintro e w3 ⟨rfl, rfl⟩
            go_wp2_with fail
            refine (bytes_is hDa 1 s1 hs1).mono ?_; rintro e w3 ⟨rfl, rfl⟩
            go_wp2_with fail
            go_region_held3 (fun w' => w'.cell? ⟨wr.heap.size, 5, none⟩ = some (.string s)) (go_keep) (first | (go_at_call 10; refine (free_is hDa.drew _ hu.2).mono ?_; rintro e w1 ⟨rfl, hb1⟩; have zc := new6 hb1; have zc5 := zc.2.2.2.2.2.1))
            have hD1 : Dsk w1 _ _ _ := hDa.below ⟨hb1.os, hb1.tape, hb1.output, hb1.size, hb1.block⟩
            obtain ⟨zc0, zc1, zc2, zc3, zc4, -, zs⟩ := zc
            go_wp2_with fail
            refine (append_is hD1 _ s _ hE).mono ?_
            rintro e w2 ⟨rfl, hg⟩
            have z1 := hb1.size
            rw [World.size_drew, World.size_alloc] at z1
            obtain ⟨F2, hD2, hF2, hB2, hO2⟩ := hg.out hF (by omega) ((hB.alloc (by omega) _).trans ⟨hb1.os, hb1.tape, hb1.output, hb1.size, fun k hk => hb1.block k (by rw [World.size_drew, World.size_alloc]; omega)⟩)
            clear hg
            have nF : ¬ F wr.heap.size := fun h => by have := hD.lt _ h; omega
            rw [← hO2.cell (p := ⟨wr.heap.size, _, none⟩) (by simp; omega) nF] at zc0 zc1 zc2 zc3 zc4 zc5
            have HO2 := Lib.hid hO2
            go_wp2_with fail
            refine (bytes_is hD2 0 _ ht0).mono ?_; rintro e w3 ⟨rfl, rfl⟩
            go_wp2_with fail
            refine (bytes_is hD2 1 _ ht1).mono ?_; rintro e w3 ⟨rfl, rfl⟩
            go_wp2_with fail
            refine (used_is hD2 _ hv.1).mono ?_; rintro e w5 ⟨rfl, hb5⟩
            have hD5 := hD2.below hb5
            go_wp2_with fail
            refine (bytes_is hD5 0 _ ht0).mono ?_; rintro e w6 ⟨rfl, rfl⟩
            go_wp2_with fail
            refine (bytes_is hD5 1 _ ht1).mono ?_; rintro e w6 ⟨rfl, rfl⟩
            go_wp2_with fail
            refine (free_is hD5 _ hv.2).mono ?_; rintro e w6 ⟨rfl, hb6⟩
            have hD6 := hD5.below hb6
            go_wp2_with fail
            refine (used_is hD6 _ hv.1).mono ?_; rintro e w7 ⟨rfl, hb7⟩
            have hD7 := hD6.below hb7
            go_wp2_with fail
            refine (free_is hD7 _ hv.2).mono ?_; rintro e w8 ⟨rfl, hb8⟩
            have hD8 := hD7.below hb8
            go_wp2_with fail
            go_roundw
            case rel =>
              refine ⟨k + 1, by omega, by go_num, ?_, F2, ?_, hF2, ?_⟩
              · rw [HN.out, Dk.room_act, HRoom.out]
              · rw [HN.out]; simpa [Dk.act] using hD8
              · have z1 := hb1.size; have z2 := hO2.size; have z5 := hb5.size; have z6 := hb6.size; have z7 := hb7.size
                exact (((hB2.trans (hb5.mono (by omega))).trans (hb6.mono (by omega))).trans (hb7.mono (by omega))).trans (hb8.mono (by omega))
            case measure => simp [intOf]; omega
          · have hE : D.appE 0 s.data.toList = 60 := appE_full (.inl rfl) hfit
            obtain rfl : s0 = t0 := by rw [← hs0, ← ht0, app_no (fun h => hfit h.2)]
            obtain rfl : s1 = t1 := by rw [← hs1, ← ht1, app_no (fun h => hfit h.2)]
            have hfi : (roomOf cap : Int) - ((s0.size : Int) + s1.size) < (s.size : Int) := by omega
            have hdec : decide ((s.size : Int) ≤ (roomOf cap : Int) - ((s0.size : Int) + s1.size)) = false := decide_eq_false (by omega)
            clear hfit hfree
            go_wp2_with fail
            refine (bytes_is hDa 0 s0 hs0).mono ?_; rintro e w3 ⟨rfl, rfl⟩
            go_wp2_with fail
            refine (bytes_is hDa 1 s1 hs1).mono ?_; rintro e w3 ⟨rfl, rfl⟩
            go_wp2_with fail
            go_region_held3 (fun w' => w'.cell? ⟨wr.heap.size, 5, none⟩ = some (.string s)) (go_keep) (first | (go_at_call 10; refine (free_is hDa.drew _ hu.2).mono ?_; rintro e w1 ⟨rfl, hb1⟩; have zc := new6 hb1; have zc5 := zc.2.2.2.2.2.1))
            have hD1 : Dsk w1 _ _ _ := hDa.below ⟨hb1.os, hb1.tape, hb1.output, hb1.size, hb1.block⟩
            obtain ⟨zc0, zc1, zc2, zc3, zc4, -, zs⟩ := zc
            go_wp2_with fail
            refine (append_is hD1 _ s _ hE).mono ?_
            rintro e w2 ⟨rfl, hg⟩
            have z1 := hb1.size
            rw [World.size_drew, World.size_alloc] at z1
            obtain ⟨F2, hD2, hF2, hB2, hO2⟩ := hg.out hF (by omega) ((hB.alloc (by omega) _).trans ⟨hb1.os, hb1.tape, hb1.output, hb1.size, fun k hk => hb1.block k (by rw [World.size_drew, World.size_alloc]; omega)⟩)
            clear hg
            have nF : ¬ F wr.heap.size := fun h => by have := hD.lt _ h; omega
            rw [← hO2.cell (p := ⟨wr.heap.size, _, none⟩) (by simp; omega) nF] at zc0 zc1 zc2 zc3 zc4 zc5
            have HO2 := Lib.hid hO2
            go_wp2_with fail
            refine (bytes_is hD2 0 _ ht0).mono ?_; rintro e w3 ⟨rfl, rfl⟩
            go_wp2_with fail
            refine (bytes_is hD2 1 _ ht1).mono ?_; rintro e w3 ⟨rfl, rfl⟩
            go_wp2_with fail
            refine (used_is hD2 _ hv.1).mono ?_; rintro e w5 ⟨rfl, hb5⟩
            have hD5 := hD2.below hb5
            go_wp2_with fail
            refine (bytes_is hD5 0 _ ht0).mono ?_; rintro e w6 ⟨rfl, rfl⟩
            go_wp2_with fail
            refine (bytes_is hD5 1 _ ht1).mono ?_; rintro e w6 ⟨rfl, rfl⟩
            go_wp2_with fail
            refine (free_is hD5 _ hv.2).mono ?_; rintro e w6 ⟨rfl, hb6⟩
            have hD6 := hD5.below hb6
            go_wp2_with fail
            refine (used_is hD6 _ hv.1).mono ?_; rintro e w7 ⟨rfl, hb7⟩
            have hD7 := hD6.below hb7
            go_wp2_with fail
            refine (free_is hD7 _ hv.2).mono ?_; rintro e w8 ⟨rfl, hb8⟩
            have hD8 := hD7.below hb8
            go_wp2_with fail
            go_roundw
            case rel =>
              refine ⟨k + 1, by omega, by go_num, ?_, F2, ?_, hF2, ?_⟩
              · rw [HN.out, Dk.room_act, HRoom.out]
              · rw [HN.out]; simpa [Dk.act] using hD8
              · have z1 := hb1.size; have z2 := hO2.size; have z5 := hb5.size; have z6 := hb6.size; have z7 := hb7.size
                exact (((hB2.trans (hb5.mono (by omega))).trans (hb6.mono (by omega))).trans (hb7.mono (by omega))).trans (hb8.mono (by omega))
            case measure => simp [intOf]; omega
        · by_cases hr1 : slot = 1
          · subst hr1
            by_cases hfit : s.size ≤ D.free
            · have hE : D.appE 1 s.data.toList = 0 := appE_fit (.inr rfl) hfit
              obtain rfl : s0 = t0 := by rw [← hs0, ← ht0, app10 hfit]
              have hcat : s1 ++ s = t1 := by rw [← hs1, ← ht1, app11 hfit]
              have hfi : (s.size : Int) ≤ (roomOf cap : Int) - ((s0.size : Int) + s1.size) := by omega
              clear hfit hfree
              go_wp2_with fail
              refine (bytes_is hDa 0 s0 hs0).mono ?_; rintro e w3 ⟨rfl, rfl⟩
              go_wp2_with fail
              refine (bytes_is hDa 1 s1 hs1).mono ?_; rintro e w3 ⟨rfl, rfl⟩
              go_wp2_with fail
              go_region_held3 (fun w' => w'.cell? ⟨wr.heap.size, 5, none⟩ = some (.string s)) (go_keep) (first | (go_at_call 10; refine (free_is hDa.drew _ hu.2).mono ?_; rintro e w1 ⟨rfl, hb1⟩; have zc := new6 hb1; have zc5 := zc.2.2.2.2.2.1))
              have hD1 : Dsk w1 _ _ _ := hDa.below ⟨hb1.os, hb1.tape, hb1.output, hb1.size, hb1.block⟩
              obtain ⟨zc0, zc1, zc2, zc3, zc4, -, zs⟩ := zc
              go_wp2_with fail
              refine (append_is hD1 _ s _ hE).mono ?_
              rintro e w2 ⟨rfl, hg⟩
              have z1 := hb1.size
              rw [World.size_drew, World.size_alloc] at z1
              obtain ⟨F2, hD2, hF2, hB2, hO2⟩ := hg.out hF (by omega) ((hB.alloc (by omega) _).trans ⟨hb1.os, hb1.tape, hb1.output, hb1.size, fun k hk => hb1.block k (by rw [World.size_drew, World.size_alloc]; omega)⟩)
              clear hg
              have nF : ¬ F wr.heap.size := fun h => by have := hD.lt _ h; omega
              rw [← hO2.cell (p := ⟨wr.heap.size, _, none⟩) (by simp; omega) nF] at zc0 zc1 zc2 zc3 zc4 zc5
              have HO2 := Lib.hid hO2
              go_wp2_with fail
              refine (bytes_is hD2 0 _ ht0).mono ?_; rintro e w3 ⟨rfl, rfl⟩
              go_wp2_with fail
              refine (bytes_is hD2 1 _ ht1).mono ?_; rintro e w3 ⟨rfl, rfl⟩
              go_wp2_with fail
              refine (used_is hD2 _ hv.1).mono ?_; rintro e w5 ⟨rfl, hb5⟩
              have hD5 := hD2.below hb5
              go_wp2_with fail
              refine (bytes_is hD5 0 _ ht0).mono ?_; rintro e w6 ⟨rfl, rfl⟩
              go_wp2_with fail
              refine (bytes_is hD5 1 _ ht1).mono ?_; rintro e w6 ⟨rfl, rfl⟩
              go_wp2_with fail
              refine (free_is hD5 _ hv.2).mono ?_; rintro e w6 ⟨rfl, hb6⟩
              have hD6 := hD5.below hb6
              go_wp2_with fail
              refine (used_is hD6 _ hv.1).mono ?_; rintro e w7 ⟨rfl, hb7⟩
              have hD7 := hD6.below hb7
              go_wp2_with fail
              refine (free_is hD7 _ hv.2).mono ?_; rintro e w8 ⟨rfl, hb8⟩
              have hD8 := hD7.below hb8
              go_wp2_with fail
              go_roundw
              case rel =>
                refine ⟨k + 1, by omega, by go_num, ?_, F2, ?_, hF2, ?_⟩
                · rw [HN.out, Dk.room_act, HRoom.out]
                · rw [HN.out]; simpa [Dk.act] using hD8
                · have z1 := hb1.size; have z2 := hO2.size; have z5 := hb5.size; have z6 := hb6.size; have z7 := hb7.size
                  exact (((hB2.trans (hb5.mono (by omega))).trans (hb6.mono (by omega))).trans (hb7.mono (by omega))).trans (hb8.mono (by omega))
              case measure => simp [intOf]; omega
            · have hE : D.appE 1 s.data.toList = 60 := appE_full (.inr rfl) hfit
              obtain rfl : s0 = t0 := by rw [← hs0, ← ht0, app_no (fun h => hfit h.2)]
              obtain rfl : s1 = t1 := by rw [← hs1, ← ht1, app_no (fun h => hfit h.2)]
              have hfi : (roomOf cap : Int) - ((s0.size : Int) + s1.size) < (s.size : Int) := by omega
              have hdec : decide ((s.size : Int) ≤ (roomOf cap : Int) - ((s0.size : Int) + s1.size)) = false := decide_eq_false (by omega)
              clear hfit hfree
              go_wp2_with fail
              refine (bytes_is hDa 0 s0 hs0).mono ?_; rintro e w3 ⟨rfl, rfl⟩
              go_wp2_with fail
              refine (bytes_is hDa 1 s1 hs1).mono ?_; rintro e w3 ⟨rfl, rfl⟩
              go_wp2_with fail
              go_region_held3 (fun w' => w'.cell? ⟨wr.heap.size, 5, none⟩ = some (.string s)) (go_keep) (first | (go_at_call 10; refine (free_is hDa.drew _ hu.2).mono ?_; rintro e w1 ⟨rfl, hb1⟩; have zc := new6 hb1; have zc5 := zc.2.2.2.2.2.1))
              have hD1 : Dsk w1 _ _ _ := hDa.below ⟨hb1.os, hb1.tape, hb1.output, hb1.size, hb1.block⟩
              obtain ⟨zc0, zc1, zc2, zc3, zc4, -, zs⟩ := zc
              go_wp2_with fail
              refine (append_is hD1 _ s _ hE).mono ?_
              rintro e w2 ⟨rfl, hg⟩
              have z1 := hb1.size
              rw [World.size_drew, World.size_alloc] at z1
              obtain ⟨F2, hD2, hF2, hB2, hO2⟩ := hg.out hF (by omega) ((hB.alloc (by omega) _).trans ⟨hb1.os, hb1.tape, hb1.output, hb1.size, fun k hk => hb1.block k (by rw [World.size_drew, World.size_alloc]; omega)⟩)
              clear hg
              have nF : ¬ F wr.heap.size := fun h => by have := hD.lt _ h; omega
              rw [← hO2.cell (p := ⟨wr.heap.size, _, none⟩) (by simp; omega) nF] at zc0 zc1 zc2 zc3 zc4 zc5
              have HO2 := Lib.hid hO2
              go_wp2_with fail
              refine (bytes_is hD2 0 _ ht0).mono ?_; rintro e w3 ⟨rfl, rfl⟩
              go_wp2_with fail
              refine (bytes_is hD2 1 _ ht1).mono ?_; rintro e w3 ⟨rfl, rfl⟩
              go_wp2_with fail
              refine (used_is hD2 _ hv.1).mono ?_; rintro e w5 ⟨rfl, hb5⟩
              have hD5 := hD2.below hb5
              go_wp2_with fail
              refine (bytes_is hD5 0 _ ht0).mono ?_; rintro e w6 ⟨rfl, rfl⟩
              go_wp2_with fail
              refine (bytes_is hD5 1 _ ht1).mono ?_; rintro e w6 ⟨rfl, rfl⟩
              go_wp2_with fail
              refine (free_is hD5 _ hv.2).mono ?_; rintro e w6 ⟨rfl, hb6⟩
              have hD6 := hD5.below hb6
              go_wp2_with fail
              refine (used_is hD6 _ hv.1).mono ?_; rintro e w7 ⟨rfl, hb7⟩
              have hD7 := hD6.below hb7
              go_wp2_with fail
              refine (free_is hD7 _ hv.2).mono ?_; rintro e w8 ⟨rfl, hb8⟩
              have hD8 := hD7.below hb8
              go_wp2_with fail
              go_roundw
              case rel =>
                refine ⟨k + 1, by omega, by go_num, ?_, F2, ?_, hF2, ?_⟩
                · rw [HN.out, Dk.room_act, HRoom.out]
                · rw [HN.out]; simpa [Dk.act] using hD8
                · have z1 := hb1.size; have z2 := hO2.size; have z5 := hb5.size; have z6 := hb6.size; have z7 := hb7.size
                  exact (((hB2.trans (hb5.mono (by omega))).trans (hb6.mono (by omega))).trans (hb7.mono (by omega))).trans (hb8.mono (by omega))
              case measure => simp [intOf]; omega
          · have hr : ¬ right slot := fun h => h.elim hr0 hr1
            have hE : D.appE slot s.data.toList = 61 := appE_wrong hr
            have b0 : (slot == 0) = false := beq_eq_false_iff_ne.2 hr0
            have b1 : (slot == 1) = false := beq_eq_false_iff_ne.2 hr1
            have b2 : (slot != 0) = true := bne_iff_ne.2 hr0
            have b3 : (slot != 1) = true := bne_iff_ne.2 hr1
            obtain rfl : s0 = t0 := by rw [← hs0, ← ht0, app_no (fun h => hr h.1)]
            obtain rfl : s1 = t1 := by rw [← hs1, ← ht1, app_no (fun h => hr h.1)]
            by_cases hfit : s.size ≤ D.free
            · have hfi : (s.size : Int) ≤ (roomOf cap : Int) - ((s0.size : Int) + s1.size) := by omega
              clear hfit hfree hr
              go_wp2_with fail
              refine (bytes_is hDa 0 s0 hs0).mono ?_; rintro e w3 ⟨rfl, rfl⟩
              go_wp2_with fail
              refine (bytes_is hDa 1 s1 hs1).mono ?_; rintro e w3 ⟨rfl, rfl⟩
              go_wp2_with fail
              go_region_held3 (fun w' => w'.cell? ⟨wr.heap.size, 5, none⟩ = some (.string s)) (go_keep) (first | (go_at_call 10; refine (free_is hDa.drew _ hu.2).mono ?_; rintro e w1 ⟨rfl, hb1⟩; have zc := new6 hb1; have zc5 := zc.2.2.2.2.2.1))
              have hD1 : Dsk w1 _ _ _ := hDa.below ⟨hb1.os, hb1.tape, hb1.output, hb1.size, hb1.block⟩
              obtain ⟨zc0, zc1, zc2, zc3, zc4, -, zs⟩ := zc
              go_wp2_with fail
              refine (append_is hD1 _ s _ hE).mono ?_
              rintro e w2 ⟨rfl, hg⟩
              have z1 := hb1.size
              rw [World.size_drew, World.size_alloc] at z1
              obtain ⟨F2, hD2, hF2, hB2, hO2⟩ := hg.out hF (by omega) ((hB.alloc (by omega) _).trans ⟨hb1.os, hb1.tape, hb1.output, hb1.size, fun k hk => hb1.block k (by rw [World.size_drew, World.size_alloc]; omega)⟩)
              clear hg
              have nF : ¬ F wr.heap.size := fun h => by have := hD.lt _ h; omega
              rw [← hO2.cell (p := ⟨wr.heap.size, _, none⟩) (by simp; omega) nF] at zc0 zc1 zc2 zc3 zc4 zc5
              have HO2 := Lib.hid hO2
              go_wp2_with fail
              refine (bytes_is hD2 0 _ ht0).mono ?_; rintro e w3 ⟨rfl, rfl⟩
              go_wp2_with fail
              refine (bytes_is hD2 1 _ ht1).mono ?_; rintro e w3 ⟨rfl, rfl⟩
              go_wp2_with fail
              refine (used_is hD2 _ hv.1).mono ?_; rintro e w5 ⟨rfl, hb5⟩
              have hD5 := hD2.below hb5
              go_wp2_with fail
              refine (bytes_is hD5 0 _ ht0).mono ?_; rintro e w6 ⟨rfl, rfl⟩
              go_wp2_with fail
              refine (bytes_is hD5 1 _ ht1).mono ?_; rintro e w6 ⟨rfl, rfl⟩
              go_wp2_with fail
              refine (free_is hD5 _ hv.2).mono ?_; rintro e w6 ⟨rfl, hb6⟩
              have hD6 := hD5.below hb6
              go_wp2_with fail
              refine (used_is hD6 _ hv.1).mono ?_; rintro e w7 ⟨rfl, hb7⟩
              have hD7 := hD6.below hb7
              go_wp2_with fail
              refine (free_is hD7 _ hv.2).mono ?_; rintro e w8 ⟨rfl, hb8⟩
              have hD8 := hD7.below hb8
              go_wp2_with fail
              go_roundw
              case rel =>
                refine ⟨k + 1, by omega, by go_num, ?_, F2, ?_, hF2, ?_⟩
                · rw [HN.out, Dk.room_act, HRoom.out]
                · rw [HN.out]; simpa [Dk.act] using hD8
                · have z1 := hb1.size; have z2 := hO2.size; have z5 := hb5.size; have z6 := hb6.size; have z7 := hb7.size
                  exact (((hB2.trans (hb5.mono (by omega))).trans (hb6.mono (by omega))).trans (hb7.mono (by omega))).trans (hb8.mono (by omega))
              case measure => simp [intOf]; omega
            · have hfi : (roomOf cap : Int) - ((s0.size : Int) + s1.size) < (s.size : Int) := by omega
              have hdec : decide ((s.size : Int) ≤ (roomOf cap : Int) - ((s0.size : Int) + s1.size)) = false := decide_eq_false (by omega)
              clear hfit hfree hr
              go_wp2_with fail
              refine (bytes_is hDa 0 s0 hs0).mono ?_; rintro e w3 ⟨rfl, rfl⟩
              go_wp2_with fail
              refine (bytes_is hDa 1 s1 hs1).mono ?_; rintro e w3 ⟨rfl, rfl⟩
              go_wp2_with fail
              go_region_held3 (fun w' => w'.cell? ⟨wr.heap.size, 5, none⟩ = some (.string s)) (go_keep) (first | (go_at_call 10; refine (free_is hDa.drew _ hu.2).mono ?_; rintro e w1 ⟨rfl, hb1⟩; have zc := new6 hb1; have zc5 := zc.2.2.2.2.2.1))
              have hD1 : Dsk w1 _ _ _ := hDa.below ⟨hb1.os, hb1.tape, hb1.output, hb1.size, hb1.block⟩
              obtain ⟨zc0, zc1, zc2, zc3, zc4, -, zs⟩ := zc
              go_wp2_with fail
              refine (append_is hD1 _ s _ hE).mono ?_
              rintro e w2 ⟨rfl, hg⟩
              have z1 := hb1.size
              rw [World.size_drew, World.size_alloc] at z1
              obtain ⟨F2, hD2, hF2, hB2, hO2⟩ := hg.out hF (by omega) ((hB.alloc (by omega) _).trans ⟨hb1.os, hb1.tape, hb1.output, hb1.size, fun k hk => hb1.block k (by rw [World.size_drew, World.size_alloc]; omega)⟩)
              clear hg
              have nF : ¬ F wr.heap.size := fun h => by have := hD.lt _ h; omega
              rw [← hO2.cell (p := ⟨wr.heap.size, _, none⟩) (by simp; omega) nF] at zc0 zc1 zc2 zc3 zc4 zc5
              have HO2 := Lib.hid hO2
              go_wp2_with fail
              refine (bytes_is hD2 0 _ ht0).mono ?_; rintro e w3 ⟨rfl, rfl⟩
              go_wp2_with fail
              refine (bytes_is hD2 1 _ ht1).mono ?_; rintro e w3 ⟨rfl, rfl⟩
              go_wp2_with fail
              refine (used_is hD2 _ hv.1).mono ?_; rintro e w5 ⟨rfl, hb5⟩
              have hD5 := hD2.below hb5
              go_wp2_with fail
              refine (bytes_is hD5 0 _ ht0).mono ?_; rintro e w6 ⟨rfl, rfl⟩
              go_wp2_with fail
              refine (bytes_is hD5 1 _ ht1).mono ?_; rintro e w6 ⟨rfl, rfl⟩
              go_wp2_with fail
              refine (free_is hD5 _ hv.2).mono ?_; rintro e w6 ⟨rfl, hb6⟩
              have hD6 := hD5.below hb6
              go_wp2_with fail
              refine (used_is hD6 _ hv.1).mono ?_; rintro e w7 ⟨rfl, hb7⟩
              have hD7 := hD6.below hb7
              go_wp2_with fail
              refine (free_is hD7 _ hv.2).mono ?_; rintro e w8 ⟨rfl, hb8⟩
              have hD8 := hD7.below hb8
              go_wp2_with fail
              go_roundw
              case rel =>
                refine ⟨k + 1, by omega, by go_num, ?_, F2, ?_, hF2, ?_⟩
                · rw [HN.out, Dk.room_act, HRoom.out]
                · rw [HN.out]; simpa [Dk.act] using hD8
                · have z1 := hb1.size; have z2 := hO2.size; have z5 := hb5.size; have z6 := hb6.size; have z7 := hb7.size
                  exact (((hB2.trans (hb5.mono (by omega))).trans (hb6.mono (by omega))).trans (hb7.mono (by omega))).trans (hb8.mono (by omega))
              case measure => simp [intOf]; omega
      · obtain ⟨s0, s1, hs0, hs1, hu, hf1, hf2⟩ := tells (hD.ok.act ⟨kind, on, slot, n, m, s⟩) (roomOf cap) (by rw [Dk.room_act, HRoom.out])
        go_wp2_with fail
        refine (act_any (hD.below ((Below.refl _ _).alloc (Nat.le_refl _) _)) kind on slot n m s).mono ?_
        rintro e w1 ⟨rfl, hg⟩
        obtain ⟨F1, hD1, hF1, hB1, hO1⟩ := hg.out hF (by simp; omega) (hB.alloc hsz _)
        clear hg
        go_wp2_with fail
        refine (used_is hD1 _ hu.1).mono ?_; rintro e w2 ⟨rfl, hb2⟩
        have hD2 := hD1.below hb2
        go_wp2_with fail
        refine (bytes_is hD2 0 s0 hs0).mono ?_; rintro e w3 ⟨rfl, rfl⟩
        go_wp2_with fail
        refine (bytes_is hD2 1 s1 hs1).mono ?_; rintro e w3 ⟨rfl, rfl⟩
        go_wp2_with fail
        refine (free_is hD2 _ hu.2).mono ?_; rintro e w3 ⟨rfl, hb3⟩
        have hD3 := hD2.below hb3
        go_wp2_with fail
        refine (used_is hD3 _ hu.1).mono ?_; rintro e w4 ⟨rfl, hb4⟩
        have hD4 := hD3.below hb4
        go_wp2_with fail
        refine (free_is hD4 _ hu.2).mono ?_; rintro e w5 ⟨rfl, hb5⟩
        have hD5 := hD4.below hb5
        go_wp2_with fail
        go_roundw
        case rel =>
          refine ⟨k + 1, by omega, by go_num, ?_, F1, ?_, hF1, ?_⟩
          · rw [HN.out, Dk.room_act, HRoom.out]
          · rw [HN.out]; exact hD5
          · have z1 := hB1.size; have z2 := hb2.size; have z3 := hb3.size; have z4 := hb4.size
            rw [World.size_alloc] at z1
            exact (((hB1.trans (hb2.mono (by omega))).trans (hb3.mono (by omega))).trans (hb4.mono (by omega))).trans (hb5.mono (by omega))
        case measure => simp [intOf]; omega
    · go_wp2
      go_ret
      exact ⟨rfl, ⟨hB.os, hB.tape, hB.output, by omega, fun k hk => (hB.block k (by omega)).trans (Below.heap_alloc _ _ k hk)⟩⟩
end
end Go.Proofs.Ytofocdigbcdfaaa
