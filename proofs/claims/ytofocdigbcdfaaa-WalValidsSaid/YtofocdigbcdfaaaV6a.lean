/- The contract of the document's Same, where the plain fields are the same. -/
import Derived.Test.YtofocdigbcdfaaaV5
import Derived.Deep.LoopGhost
namespace Go.Proofs.Ytofocdigbcdfaaa
open Go.RowKit Mem

theorem byte_ne {a b : ByteArray} (h : ¬ a = b) : ¬ a.toList = b.toList := fun e => h (by
  rw [Lib.toList_data, Lib.toList_data] at e
  exact ByteArray.ext (Array.toList_inj.1 e))

section
variable {w : World} {A B A' B' : Option Addr} {n m c e c' e' : Nat} {ls ls' : List Sp} {lw lw' : List Wr}

set_option maxRecDepth 100000 in
set_option maxHeartbeats 2000000 in
theorem same_eq (r : Rc) (hs : Spans w A ls) (ht : Writes w B lw) (hs' : Spans w A' ls') (ht' : Writes w B' lw') (hn : ls.length = n) (hm : lw.length = m) (hn' : ls'.length = n) (hm' : lw'.length = m)
    (hn1 : n ≤ 9223372036854775807) (hm1 : m ≤ 9223372036854775807) (b : Bool) (hb : b = true ↔ (ls = ls' ∧ lw = lw')) :
    Calls Try.prog 38 #[.agg (r.cells A B n m c e), .agg (r.cells A' B' n m c' e')] w fun y w' => y = .returned (.bool b) ∧ Below w.heap.size w w' := by
  have HB := Lib.hid hb
  clear hb
  obtain ⟨kind, wall, client, seq, home, outcome, aw, al, an, image⟩ := r
  unfold Rc.cells
  obtain ⟨W, hW⟩ : ∃ W, W = (w.alloc (.cells #[.int .i64 kind, .int .u64 wall, .int .u32 client, .int .u32 seq, .int .u32 home, .int .i64 outcome, .int .u64 aw, .int .u32 al, .int .u32 an, .slice A n c, .slice B m e, .string image] 46)).alloc (.cells #[.int .i64 kind, .int .u64 wall, .int .u32 client, .int .u32 seq, .int .u32 home, .int .i64 outcome, .int .u64 aw, .int .u32 al, .int .u32 an, .slice A' n c', .slice B' m e', .string image] 46) := ⟨_, rfl⟩
  have hw2 : Below w.heap.size w W := by rw [hW]; exact ((Below.refl _ _).alloc (Nat.le_refl _) _).alloc (by simp) _
  have r1 : W.heap[w.heap.size]? = some (.cells #[.int .i64 kind, .int .u64 wall, .int .u32 client, .int .u32 seq, .int .u32 home, .int .i64 outcome, .int .u64 aw, .int .u32 al, .int .u32 an, .slice A n c, .slice B m e, .string image] 46 (0, 0)) := by
    rw [hW]; exact (Below.heap_alloc _ _ _ (by simp)).trans (heap_alloc_new w _)
  have r2 : W.heap[w.heap.size + 1]? = some (.cells #[.int .i64 kind, .int .u64 wall, .int .u32 client, .int .u32 seq, .int .u32 home, .int .i64 outcome, .int .u64 aw, .int .u32 al, .int .u32 an, .slice A' n c', .slice B' m e', .string image] 46 (0, 0)) := by
    rw [hW]
    have := heap_alloc_new (w.alloc (.cells #[.int .i64 kind, .int .u64 wall, .int .u32 client, .int .u32 seq, .int .u32 home, .int .i64 outcome, .int .u64 aw, .int .u32 al, .int .u32 an, .slice A n c, .slice B m e, .string image] 46)) (.cells #[.int .i64 kind, .int .u64 wall, .int .u32 client, .int .u32 seq, .int .u32 home, .int .i64 outcome, .int .u64 aw, .int .u32 al, .int .u32 an, .slice A' n c', .slice B' m e', .string image] 46)
    rwa [World.size_alloc] at this
  have x9 : W.cell? ⟨w.heap.size, 9, none⟩ = some (.slice A n c) := (cellsAt r1).1 9
  have x10 : W.cell? ⟨w.heap.size, 10, none⟩ = some (.slice B m e) := (cellsAt r1).1 10
  have y9 : W.cell? ⟨w.heap.size + 1, 9, none⟩ = some (.slice A' n c') := (cellsAt r2).1 9
  have y10 : W.cell? ⟨w.heap.size + 1, 10, none⟩ = some (.slice B' m e') := (cellsAt r2).1 10
  have hs1 := hs.below hw2; have hs2 := hs'.below hw2; have ht1 := ht.below hw2; have ht2 := ht'.below hw2
  have HW := Lib.hid hW
  clear hW r1 r2 hs ht hs' ht'
  go_enter Try.func38, Try.ntmps38
  go_upto_region 5 with fail
  rw [← HW.out]
  clear HW
  go_wp2_with fail
  go_loopw [5] (fun i wr => ∃ k : Nat, k ≤ n ∧ i = .int .i64 k ∧ (∀ j (h : j < ls.length) (h' : j < ls'.length), j < k → ls[j] = ls'[j]) ∧ ∃ q, wr = W.drewN q) (fun i _ => n - (intOf i).toNat)
  case atStart => exact ⟨0, Nat.zero_le _, rfl, fun j _ _ h => absurd h (Nat.not_lt_zero _), 0, rfl⟩
  case round =>
    obtain ⟨k, hk, rfl, hok, q, rfl⟩ := hrel
    have HOK := Lib.hid hok; clear hok
    by_cases hlt : k < n
    · obtain ⟨g, off, rfl, hg, z0, z1⟩ := hs1.at_ k (by omega)
      obtain ⟨g', off', rfl, hg', v0, v1⟩ := hs2.at_ k (by omega)
      obtain ⟨s, hsq⟩ : ∃ s, ls[k]'(by omega) = s := ⟨_, rfl⟩
      obtain ⟨s', hsq'⟩ : ∃ s', ls'[k]'(by omega) = s' := ⟨_, rfl⟩
      rw [hsq] at z0 z1; rw [hsq'] at v0 v1
      have HQ := Lib.hid hsq; have HQ' := Lib.hid hsq'
      clear hsq hsq'
      obtain ⟨lo, hi⟩ := s
      obtain ⟨lo', hi'⟩ := s'
      simp only at z0 z1 v0 v1
      have k0 : (0 : Int) ≤ (k : Int) := by omega
      have k1 : (k : Int) < (n : Int) := by omega
      by_cases d0 : lo = lo'
      · subst d0
        by_cases d1 : hi = hi'
        · subst d1
          go_wp2_with fail
          go_quiet (fail)
          go_wp2_with fail
          go_roundw
          case rel => exact ⟨k + 1, by omega, by go_num, fun j h h' hj => (Nat.lt_succ_iff_lt_or_eq.1 hj).elim (HOK.out j h h') (fun e => by subst e; rw [HQ.out, HQ'.out]), _, rfl⟩
          case measure => simp [intOf]; omega
        · obtain rfl : b = false := by
            rw [← Bool.not_eq_true, HB.out]; rintro ⟨rfl, _⟩
            have := HQ.out.symm.trans HQ'.out
            injection this with _ h; exact d1 h
          have d2 : (hi.toList == hi'.toList) = false := beq_eq_false_iff_ne.2 (byte_ne d1)
          clear HB d1
          go_wp2_with fail
          go_quiet (fail)
          go_wp2_with fail
          go_ret
          exact ⟨rfl, below_drewN (below_drewN hw2 _) _⟩
      · obtain rfl : b = false := by
          rw [← Bool.not_eq_true, HB.out]; rintro ⟨rfl, _⟩
          have := HQ.out.symm.trans HQ'.out
          injection this with h _; exact d0 h
        have d2 : (lo.toList == lo'.toList) = false := beq_eq_false_iff_ne.2 (byte_ne d0)
        clear HB d0
        go_wp2_with fail
        go_quiet (fail)
        go_wp2_with fail
        go_ret
        exact ⟨rfl, below_drewN (below_drewN hw2 _) _⟩
    · obtain rfl : n = k := by omega
      have hls : ls = ls' := List.ext_getElem (by omega) (fun j h h' => HOK.out j h h' (by omega))
      have HLS := Lib.hid hls
      clear hls HOK
      go_wp2_with fail
      go_loopw [6] (fun i wr => ∃ k : Nat, k ≤ m ∧ i = .int .i64 k ∧ (∀ j (h : j < lw.length) (h' : j < lw'.length), j < k → lw[j] = lw'[j]) ∧ ∃ q, wr = W.drewN q) (fun i _ => m - (intOf i).toNat)
      case atStart => exact ⟨0, Nat.zero_le _, rfl, fun j _ _ h => absurd h (Nat.not_lt_zero _), q, rfl⟩
      case round =>
        obtain ⟨k, hk, rfl, hok, q, rfl⟩ := hrel
        have HOK := Lib.hid hok; clear hok
        by_cases hlt : k < m
        · obtain ⟨g, off, rfl, hg, z0, z1, z2⟩ := ht1.at_ k (by omega)
          obtain ⟨g', off', rfl, hg', v0, v1, v2⟩ := ht2.at_ k (by omega)
          obtain ⟨s, hsq⟩ : ∃ s, lw[k]'(by omega) = s := ⟨_, rfl⟩
          obtain ⟨s', hsq'⟩ : ∃ s', lw'[k]'(by omega) = s' := ⟨_, rfl⟩
          rw [hsq] at z0 z1 z2; rw [hsq'] at v0 v1 v2
          have HQ := Lib.hid hsq; have HQ' := Lib.hid hsq'
          clear hsq hsq'
          obtain ⟨key, del, val⟩ := s
          obtain ⟨key', del', val'⟩ := s'
          simp only at z0 z1 z2 v0 v1 v2
          have k0 : (0 : Int) ≤ (k : Int) := by omega
          have k1 : (k : Int) < (m : Int) := by omega
          by_cases hall : key = key' ∧ del = del' ∧ val = val'
          · obtain ⟨rfl, rfl, rfl⟩ := hall
            go_wp2_with fail
            go_quiet (fail)
            go_wp2_with fail
            go_roundw
            case rel => exact ⟨k + 1, by omega, by go_num, fun j h h' hj => (Nat.lt_succ_iff_lt_or_eq.1 hj).elim (HOK.out j h h') (fun e => by subst e; rw [HQ.out, HQ'.out]), _, rfl⟩
            case measure => simp [intOf]; omega
          · obtain rfl : b = false := by
              rw [← Bool.not_eq_true, HB.out]; rintro ⟨_, rfl⟩
              have := HQ.out.symm.trans HQ'.out
              injection this with h0 h1 h2; exact hall ⟨h0, h1, h2⟩
            by_cases e0 : key = key'
            · subst e0
              by_cases e1 : del = del'
              · subst e1
                have d2 : (val.toList == val'.toList) = false := beq_eq_false_iff_ne.2 (byte_ne fun h => hall ⟨rfl, rfl, h⟩)
                clear hall
                clear HB
                go_wp2_with fail
                go_quiet (fail)
                go_wp2_with fail
                go_ret
                exact ⟨rfl, below_drewN (below_drewN hw2 _) _⟩
              · have d2 : (del == del') = false := beq_eq_false_iff_ne.2 e1
                clear hall e1
                clear HB
                go_wp2_with fail
                go_quiet (fail)
                go_wp2_with fail
                go_ret
                exact ⟨rfl, below_drewN (below_drewN hw2 _) _⟩
            · have d2 : (key.toList == key'.toList) = false := beq_eq_false_iff_ne.2 (byte_ne e0)
              clear hall e0
              clear HB
              go_wp2_with fail
              go_quiet (fail)
              go_wp2_with fail
              go_ret
              exact ⟨rfl, below_drewN (below_drewN hw2 _) _⟩
        · obtain rfl : m = k := by omega
          obtain rfl : b = true := HB.out.2 ⟨HLS.out, List.ext_getElem (by omega) (fun j h h' => HOK.out j h h' (by omega))⟩
          clear HB
          go_wp2_with fail
          go_ret
          exact ⟨rfl, below_drewN hw2 _⟩
end
end Go.Proofs.Ytofocdigbcdfaaa
