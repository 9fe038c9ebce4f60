/- The contract of writesOK. -/
import Derived.Test.YtofocdigbcdfaaaV1
import Derived.Lib.Strings
namespace Go.Proofs.Ytofocdigbcdfaaa
open Go.RowKit Mem
section
variable {w : World} {A : Option Addr} {n c : Nat} {l : List Wr}

theorem less_nil (p : List UInt8) : Op.bytesLess p [] = false := by cases p <;> rfl
theorem less_of_nil : ∀ {k : List UInt8}, k ≠ [] → Op.bytesLess [] k = true
  | [], h => absurd rfl h
  | _ :: _, _ => rfl

set_option maxRecDepth 100000 in
set_option maxHeartbeats 1000000 in
theorem writesOK_any (hs : Writes w A l) (hl : l.length = n) (hn : n ≤ 9223372036854775807) (b : Bool) (hb : b = true ↔ WritesOk l) :
    Calls Try.prog 52 #[.slice A n c] w fun e w' => e = .returned (.bool b) ∧ Below w.heap.size w w' := by
  have HB := Lib.hid hb
  clear hb
  go_enter Try.func52, Try.ntmps52
  go_wp2_with fail
  go_loopw [7] (fun i wr => ∃ k : Nat, k ≤ n ∧ i = .int .i64 k ∧ (∀ j (h : j < l.length), j < k → (l[j]).okAt (keyAt l j) = true) ∧ Below w.heap.size w wr) (fun i _ => n - (intOf i).toNat)
  case atStart => exact ⟨0, Nat.zero_le _, rfl, fun j _ h => absurd h (Nat.not_lt_zero _), Below.refl _ _⟩
  case round =>
    obtain ⟨k, hk, rfl, hok, hB⟩ := hrel
    have HOK := Lib.hid hok; clear hok
    by_cases hlt : k < n
    · obtain ⟨g, off, rfl, hg, y0, y1, y2⟩ := hs.at_ k (by omega)
      rw [← hB.cell (p := ⟨g, _, none⟩) hg] at y0 y1 y2
      obtain ⟨q, hq⟩ : ∃ q, l[k]'(by omega) = q := ⟨_, rfl⟩
      rw [hq] at y0 y1 y2
      have HQ := Lib.hid hq; clear hq
      obtain ⟨key, del, val⟩ := q
      simp only at y0 y1 y2
      have hBa : ∀ o, Below w.heap.size w (wr.alloc o) := fun o => hB.alloc hB.size o
      have hno : Wr.okAt (keyAt l k) ⟨key, del, val⟩ = false → b = false := fun h => by
        cases b with
        | false => rfl
        | true =>
          have := (HB.out.1 rfl).1 k (by omega)
          rw [HQ.out, h] at this
          cases this
      have HNO := Lib.hid hno
      clear hno
      by_cases v0 : (key.size : Int) < 1
      · have e0 : key.toList = [] := by
          have : key.toList.length = 0 := by rw [Lib.toList_data, Array.length_toList]; show key.size = 0; omega
          exact List.eq_nil_of_length_eq_zero this
        obtain rfl : b = false := HNO.out (by simp [Wr.okAt, e0, less_nil])
        clear HB HNO
        go_wp2_with fail
        go_ret
        exact ⟨rfl, hBa _⟩
      · by_cases v1 : 32 < (key.size : Int)
        · obtain rfl : b = false := HNO.out (by simp [Wr.okAt]; omega)
          clear HB HNO
          go_wp2_with fail
          go_ret
          exact ⟨rfl, hBa _⟩
        · by_cases v2 : 64 < (val.size : Int)
          · obtain rfl : b = false := HNO.out (by simp [Wr.okAt]; omega)
            clear HB HNO
            go_wp2_with fail
            go_ret
            exact ⟨rfl, hBa _⟩
          · by_cases v3 : (!del || val.toList.isEmpty) = true
            · cases del with
              | false =>
                clear v3
                by_cases hk0 : k = 0
                · have d0 : decide ((0 : Int) < (k : Int)) = false := by simp; omega
                  have d1 : decide (0 < k) = false := by simp; omega
                  have hgood : Wr.okAt (keyAt l k) ⟨key, false, val⟩ = true := by
                    have e1 : key.toList ≠ [] := fun h => by
                      have e2 : key.toList.length = key.size := by rw [Lib.toList_data, Array.length_toList]; rfl
                      rw [h] at e2; simp at e2; omega
                    have e3 : Op.bytesLess (keyAt l k).toList key.toList = true := by
                      have e6 : (keyAt l k).toList = [] := by rw [hk0, Lib.toList_data]; rfl
                      rw [e6]; exact less_of_nil e1
                    have e4 : (key.size : Int) ≤ 32 := by omega
                    have e5 : (val.size : Int) ≤ 64 := by omega
                    simp [Wr.okAt, e3, e4, e5]
                  have HG := Lib.hid hgood
                  clear hgood HNO
                  have HK0 := Lib.hid hk0
                  clear hk0
                  go_wp2_with fail
                  go_quiet (fail)
                  go_wp2_with fail
                  go_roundw
                  case rel => exact ⟨k + 1, by omega, by go_num, fun j h hj => by (have := HK0.out; obtain rfl : j = k := by omega); (rw [HQ.out]; exact HG.out), below_drewN (hBa _) _⟩
                  case measure => simp [intOf]; omega
                · obtain ⟨j, rj⟩ : ∃ j : Nat, k = j + 1 := ⟨k - 1, by omega⟩
                  obtain ⟨g', off', hA, hg', z0, z1, z2⟩ := hs.at_ j (by omega)
                  injection hA with hA
                  injection hA with hA1 hA2 _
                  subst hA1; subst hA2
                  rw [← hB.cell (p := ⟨g, _, none⟩) hg] at z0
                  clear z1 z2
                  obtain ⟨pk, hpk⟩ : ∃ pk, (l[j]'(by omega)).key = pk := ⟨_, rfl⟩
                  have hpk' : keyAt l k = pk := by rw [rj, keyAt_succ (List.getElem?_eq_getElem (by omega)), hpk]
                  rw [hpk] at z0
                  have za : ∀ o, (wr.alloc o).cell? ⟨g, off + j * 3, none⟩ = some (.string pk) := fun o => (World.cell?_alloc_lt _ _ _ (Nat.lt_of_lt_of_le hg hB.size)).trans z0
                  have HPK := Lib.hid hpk'
                  clear hpk hpk'
                  have hj1 : (k : Int) - 1 = (j : Int) := by omega
                  have wj : IntKind.i64.wrap (j : Int) = (j : Int) := IntWalk.i64_in _ (by omega)
                  have j0 : (0 : Int) ≤ (j : Int) := by omega
                  have j1 : (j : Int) < (n : Int) := by omega
                  have d0 : decide ((0 : Int) < (k : Int)) = true := by simp; omega
                  have d1 : decide (0 < k) = true := by simp; omega
                  have RJ := Lib.hid rj
                  clear rj
                  by_cases v6 : Op.bytesLess pk.toList key.toList = true
                  · have hgood : Wr.okAt (keyAt l k) ⟨key, false, val⟩ = true := by
                      rw [HPK.out]
                      have e4 : (key.size : Int) ≤ 32 := by omega
                      have e5 : (val.size : Int) ≤ 64 := by omega
                      simp [Wr.okAt, v6, e4, e5]
                    have HG := Lib.hid hgood
                    clear hgood HNO
                    go_wp2_with fail
                    go_quiet (fail)
                    go_wp2_with fail
                    go_roundw
                    case rel => exact ⟨k + 1, by omega, by go_num, fun i h hj => (Nat.lt_succ_iff_lt_or_eq.1 hj).elim (HOK.out i h) (fun e => by subst e; rw [HQ.out]; exact HG.out), below_drewN (hBa _) _⟩
                    case measure => simp [intOf]; omega
                  · have v6' : Op.bytesLess pk.toList key.toList = false := by simpa using v6
                    clear v6
                    obtain rfl : b = false := HNO.out (by rw [HPK.out]; simp [Wr.okAt, v6'])
                    clear HB HNO
                    go_wp2_with fail
                    go_quiet (fail)
                    go_wp2_with fail
                    go_ret
                    exact ⟨rfl, below_drewN (hBa _) _⟩
              | true =>
                have v4 : val.toList = [] := by simpa using v3
                clear v3
                by_cases hk0 : k = 0
                · have d0 : decide ((0 : Int) < (k : Int)) = false := by simp; omega
                  have d1 : decide (0 < k) = false := by simp; omega
                  have hgood : Wr.okAt (keyAt l k) ⟨key, true, val⟩ = true := by
                    have e1 : key.toList ≠ [] := fun h => by
                      have e2 : key.toList.length = key.size := by rw [Lib.toList_data, Array.length_toList]; rfl
                      rw [h] at e2; simp at e2; omega
                    have e3 : Op.bytesLess (keyAt l k).toList key.toList = true := by
                      have e6 : (keyAt l k).toList = [] := by rw [hk0, Lib.toList_data]; rfl
                      rw [e6]; exact less_of_nil e1
                    have e4 : (key.size : Int) ≤ 32 := by omega
                    have e5 : (val.size : Int) ≤ 64 := by omega
                    simp [Wr.okAt, e3, e4, e5, v4]
                  have HG := Lib.hid hgood
                  clear hgood HNO
                  have HK0 := Lib.hid hk0
                  clear hk0
                  go_wp2_with fail
                  go_quiet (fail)
                  go_wp2_with fail
                  go_roundw
                  case rel => exact ⟨k + 1, by omega, by go_num, fun j h hj => by (have := HK0.out; obtain rfl : j = k := by omega); (rw [HQ.out]; exact HG.out), below_drewN (hBa _) _⟩
                  case measure => simp [intOf]; omega
                · obtain ⟨j, rj⟩ : ∃ j : Nat, k = j + 1 := ⟨k - 1, by omega⟩
                  obtain ⟨g', off', hA, hg', z0, z1, z2⟩ := hs.at_ j (by omega)
                  injection hA with hA
                  injection hA with hA1 hA2 _
                  subst hA1; subst hA2
                  rw [← hB.cell (p := ⟨g, _, none⟩) hg] at z0
                  clear z1 z2
                  obtain ⟨pk, hpk⟩ : ∃ pk, (l[j]'(by omega)).key = pk := ⟨_, rfl⟩
                  have hpk' : keyAt l k = pk := by rw [rj, keyAt_succ (List.getElem?_eq_getElem (by omega)), hpk]
                  rw [hpk] at z0
                  have za : ∀ o, (wr.alloc o).cell? ⟨g, off + j * 3, none⟩ = some (.string pk) := fun o => (World.cell?_alloc_lt _ _ _ (Nat.lt_of_lt_of_le hg hB.size)).trans z0
                  have HPK := Lib.hid hpk'
                  clear hpk hpk'
                  have hj1 : (k : Int) - 1 = (j : Int) := by omega
                  have wj : IntKind.i64.wrap (j : Int) = (j : Int) := IntWalk.i64_in _ (by omega)
                  have j0 : (0 : Int) ≤ (j : Int) := by omega
                  have j1 : (j : Int) < (n : Int) := by omega
                  have d0 : decide ((0 : Int) < (k : Int)) = true := by simp; omega
                  have d1 : decide (0 < k) = true := by simp; omega
                  have RJ := Lib.hid rj
                  clear rj
                  by_cases v6 : Op.bytesLess pk.toList key.toList = true
                  · have hgood : Wr.okAt (keyAt l k) ⟨key, true, val⟩ = true := by
                      rw [HPK.out]
                      have e4 : (key.size : Int) ≤ 32 := by omega
                      have e5 : (val.size : Int) ≤ 64 := by omega
                      simp [Wr.okAt, v6, e4, e5, v4]
                    have HG := Lib.hid hgood
                    clear hgood HNO
                    go_wp2_with fail
                    go_quiet (fail)
                    go_wp2_with fail
                    go_roundw
                    case rel => exact ⟨k + 1, by omega, by go_num, fun i h hj => (Nat.lt_succ_iff_lt_or_eq.1 hj).elim (HOK.out i h) (fun e => by subst e; rw [HQ.out]; exact HG.out), below_drewN (hBa _) _⟩
                    case measure => simp [intOf]; omega
                  · have v6' : Op.bytesLess pk.toList key.toList = false := by simpa using v6
                    clear v6
                    obtain rfl : b = false := HNO.out (by rw [HPK.out]; simp [Wr.okAt, v6'])
                    clear HB HNO
                    go_wp2_with fail
                    go_quiet (fail)
                    go_wp2_with fail
                    go_ret
                    exact ⟨rfl, below_drewN (hBa _) _⟩
            · have v4 : del = true ∧ val.toList.isEmpty = false := by simpa using v3
              obtain ⟨rfl, v5⟩ := v4
              clear v3
              obtain rfl : b = false := HNO.out (by simp [Wr.okAt, v5])
              clear HB HNO
              go_wp2_with fail
              go_ret
              exact ⟨rfl, hBa _⟩
    · obtain rfl : n = k := by omega
      by_cases h16 : (n : Int) ≤ 16
      · obtain rfl : b = true := HB.out.2 ⟨fun j h => HOK.out j h (by omega), by omega⟩
        clear HB
        go_wp2_with fail
        go_ret
        exact ⟨rfl, hB⟩
      · have hbf : b = false := by
          cases b with
          | false => rfl
          | true => exact absurd ((HB.out.1 rfl).2) (by omega)
        subst hbf
        clear HB
        go_wp2_with fail
        go_ret
        exact ⟨rfl, hB⟩
end
end Go.Proofs.Ytofocdigbcdfaaa
