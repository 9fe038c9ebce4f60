import Derived.Test.YtofocdigbcdfaaaD12
import Derived.Deep.AppendLies
import Derived.Deep.RegionLaw
namespace Go.Proofs.Ytofocdigbcdfaaa
open Go.RowKit Mem Disk

/-- A cell of the document's disk, as two values. -/
def pc (l : List (UInt8 × Bool)) : List Value := l.flatMap fun p => [Value.int .u8 p.1.toNat, .bool p.2]

theorem pc_append (a b : List (UInt8 × Bool)) : pc (a ++ b) = pc a ++ pc b := by simp [pc]
theorem pc_length (l : List (UInt8 × Bool)) : (pc l).length = l.length * 2 := by
  induction l with
  | nil => rfl
  | cons p l ih => simp only [pc, List.flatMap_cons, List.length_append, List.length_cons, List.length_nil] at *; omega
theorem pc_at (l : List (UInt8 × Bool)) (k : Nat) (h : k < l.length) : (pc l)[k * 2]? = some (Value.int .u8 l[k].1.toNat) ∧ (pc l)[k * 2 + 1]? = some (.bool l[k].2) := by
  induction l generalizing k with
  | nil => simp at h
  | cons p l ih =>
    cases k with
    | zero => simp [pc]
    | succ k =>
      have hk : k < l.length := by simpa using h
      have e : pc (p :: l) = Value.int .u8 p.1.toNat :: .bool p.2 :: pc l := by simp [pc]
      have e1 : (k + 1) * 2 = k * 2 + 1 + 1 := by omega
      rw [e, e1]
      simp only [List.getElem?_cons_succ, List.getElem_cons_succ]
      exact ih k hk
theorem pc_take (l : List (UInt8 × Bool)) (k : Nat) (h : k < l.length) : pc (l.take (k + 1)) = pc (l.take k) ++ [Value.int .u8 l[k].1.toNat, .bool l[k].2] := by
  rw [List.take_succ_eq_append_getElem h, pc_append]; rfl
theorem pc_set (l : List (UInt8 × Bool)) (k : Nat) (h : k < l.length) (b : Bool) : (pc l).set (k * 2 + 1) (.bool b) = pc (l.set k (l[k].1, b)) := by
  induction l generalizing k with
  | nil => simp at h
  | cons p l ih =>
    cases k with
    | zero => simp [pc]
    | succ k =>
      have hk : k < l.length := by simpa using h
      have e : ∀ p l, pc (p :: l) = Value.int .u8 p.1.toNat :: .bool p.2 :: pc l := by intro p l; simp [pc]
      have e1 : (k + 1) * 2 + 1 = k * 2 + 1 + 1 + 1 := by omega
      rw [e, e1]
      simp only [List.set_cons_succ, List.getElem_cons_succ]
      rw [ih k hk, e]

theorem pc_one {l : List (UInt8 × Bool)} : ∀ u ∈ pc l, u.oneCell' = true := by
  intro u hu
  obtain ⟨p, _, hp⟩ := List.mem_flatMap.1 hu
  simp at hp
  rcases hp with rfl | rfl <;> rfl

/-- The cells of a slice that is read: nil, or a block with these cells. -/
structure Cs (w : World) (B : Nat) (A : Option Addr) (l : List (UInt8 × Bool)) : Prop where
  at_ : ∀ k (h : k < l.length), ∃ g, A = some ⟨g, 0, none⟩ ∧ g < B ∧ w.cell? ⟨g, k * 2, none⟩ = some (Value.int .u8 l[k].1.toNat) ∧ w.cell? ⟨g, k * 2 + 1, none⟩ = some (.bool l[k].2)

theorem cs_of_own {w : World} {base : Nat} {E : TypeId} {A : Option Addr} {n c : Nat} {l : List (UInt8 × Bool)} (h : w.ownsRow base E 2 (.slice A n c) n (pc l)) : Cs w w.heap.size A l := by
  refine ⟨fun k hk => ?_⟩
  have hn : l.length = n := by have := h.1; rw [pc_length] at this; omega
  obtain ⟨g, cap, hv, _, hlt⟩ := h.form (by omega)
  have hA : A = some ⟨g, 0, none⟩ := by injection hv
  subst hA
  have hc := h.cells (g := g) rfl
  have hadd : ∀ j, (⟨g, 0, none⟩ : Addr).add j = ⟨g, j, none⟩ := by intro j; unfold Addr.add; split <;> simp_all
  obtain ⟨p0, p1⟩ := pc_at l k hk
  refine ⟨g, rfl, hlt, ?_, ?_⟩
  · rw [← hadd]; exact hc _ _ p0
  · rw [← hadd]; exact hc _ _ p1

theorem info98 : (Try.prog.info? 98).map (fun i => (i.zero, i.size, i.bytes)) = some (some (.agg #[.int .u8 0, .bool false]), 2, 2) := by kernel_rfl

/-- What a call that makes a row of cells leaves. -/
def Makes (w : World) (l : List (UInt8 × Bool)) (e : Ending) (w' : World) : Prop :=
  ∃ v, e = .returned v ∧ w'.ownsRow w.heap.size 98 2 v l.length (pc l) ∧ Below w.heap.size w w'

set_option maxRecDepth 100000 in
set_option maxHeartbeats 1000000 in
theorem first_any (w : World) (A : Option Addr) (n c m : Nat) (l : List (UInt8 × Bool)) (hl : l.length = n) (hn : n ≤ 1099511627776) (hm : m ≤ n) (hs : Cs w w.heap.size A l) :
    Calls Try.prog 40 #[.slice A n c, .int .i64 m] w (Makes w (l.take m)) := by
  obtain ⟨i98, hi0, hz0, hz1, hz2⟩ := info_parts info98
  go_enter Try.func40, Try.ntmps40
  go_wp2_with fail
  go_loopw [5, 6] (fun v i wr => ∃ k : Nat, k ≤ m ∧ i = .int .i64 k ∧ wr.ownsRow w.heap.size 98 2 v k (pc (l.take k)) ∧ Below w.heap.size w wr) (fun _ i _ => m - (intOf i).toNat)
  case atStart => exact ⟨0, Nat.zero_le _, rfl, ⟨by simp [pc], .inl ⟨rfl, rfl⟩⟩, Below.refl _ _⟩
  case round =>
    obtain ⟨k, hk, rfl, hown, hB⟩ := hrel
    by_cases hlt : k < m
    · obtain ⟨g, rfl, hg, y0, y1⟩ := hs.at_ k (by omega)
      rw [← hB.cell (p := ⟨g, k * 2, none⟩) hg] at y0
      rw [← hB.cell (p := ⟨g, k * 2 + 1, none⟩) hg] at y1
      have hp := pc_take l k (by omega)
      have HP := Lib.hid hp
      clear hp
      go_wp2_with (at_builtin; refine wpList_append_lies _ rfl _ _ _ rfl w.heap.size 98 i98 _ 2 2 Try.underlying89 hi0 hz0 hz1 hz2 rfl (by omega) _ _ _ rfl (hown.alloc _) ⟨wr.heap.size, 0, none⟩ 1 1 [Value.int .u8 (l[k]'(by omega)).1.toNat, .bool (l[k]'(by omega)).2] rfl rfl (World.news_of_block (cs := #[Value.int .u8 (l[k]'(by omega)).1.toNat, .bool (l[k]'(by omega)).2]) (t := 98) (fr := (0, 0)) (heap_alloc_new wr _)) (by simp [Value.oneCell']) (by omega) (by unfold maxLen; omega) (by omega) (by have := hB.size; simp; omega) (wr.heap.size + 1) (by simp) ?_; intro gg cap w1 hown1 hgrow hat hlt1)
      go_roundw
      case rel => exact ⟨k + 1, by omega, by go_num, by rw [HP.out]; exact hown1, (hB.alloc hB.size _).grown hgrow (by have := hB.size; simp; omega) (fun j hj => (hown.lt j hj).1)⟩
      case measure => simp [intOf]; omega
    · obtain rfl : m = k := by omega
      go_wp2_with fail
      go_ret
      exact ⟨_, rfl, by rw [show (l.take m).length = m from by simp; omega]; exact hown, hB⟩

/-- What a crash leaves of a row. -/
def keptF (s : List (UInt8 × Bool) × Int) (p : UInt8 × Bool) : List (UInt8 × Bool) × Int :=
  if p.2 = true then (s.1 ++ [p], s.2) else if 0 < s.2 then (s.1 ++ [(p.1, true)], s.2 - 1) else s

def keptAt (l : List (UInt8 × Bool)) (keep : Int) (k : Nat) : List (UInt8 × Bool) × Int := (l.take k).foldl keptF ([], keep)

theorem keptAt_next (l : List (UInt8 × Bool)) (keep : Int) (k : Nat) (h : k < l.length) : keptAt l keep (k + 1) = keptF (keptAt l keep k) l[k] := by
  unfold keptAt; rw [List.take_succ_eq_append_getElem h, List.foldl_append]; rfl

theorem keptAt_len (l : List (UInt8 × Bool)) (keep : Int) (k : Nat) : (keptAt l keep k).1.length ≤ k ∧ (keptAt l keep k).2 ≤ max keep 0 ∧ min keep 0 ≤ (keptAt l keep k).2 := by
  induction k with
  | zero => simp only [keptAt, List.take_zero, List.foldl_nil, List.length_nil]; omega
  | succ k ih =>
    by_cases h : k < l.length
    · rw [keptAt_next l keep k h]
      unfold keptF
      repeat' split
      all_goals (try simp only [List.length_append, List.length_cons, List.length_nil]); omega
    · have e : keptAt l keep (k + 1) = keptAt l keep k := by unfold keptAt; rw [List.take_of_length_le (by omega), List.take_of_length_le (by omega)]
      rw [e]; omega

set_option maxRecDepth 100000 in
set_option maxHeartbeats 1000000 in
theorem kept_any (w : World) (A : Option Addr) (n c : Nat) (keep : Int) (hk0 : -9223372036854775808 ≤ keep) (hk1 : keep ≤ 9223372036854775807) (l : List (UInt8 × Bool)) (hl : l.length = n) (hn : n ≤ 1099511627776) (hs : Cs w w.heap.size A l) :
    Calls Try.prog 57 #[.slice A n c, .int .i64 keep] w (Makes w (keptAt l keep n).1) := by
  obtain ⟨i98, hi0, hz0, hz1, hz2⟩ := info_parts info98
  go_enter Try.func57, Try.ntmps57
  go_wp2_with fail
  go_loopw [1, 5, 6] (fun q v i wr => ∃ k : Nat, k ≤ n ∧ i = .int .i64 k ∧ q = .int .i64 (keptAt l keep k).2 ∧ wr.ownsRow w.heap.size 98 2 v (keptAt l keep k).1.length (pc (keptAt l keep k).1) ∧ Below w.heap.size w wr) (fun _ _ i _ => n - (intOf i).toNat)
  case atStart => exact ⟨0, Nat.zero_le _, rfl, rfl, ⟨by simp [pc, keptAt], .inl ⟨rfl, rfl⟩⟩, Below.refl _ _⟩
  case round =>
    obtain ⟨k, hk, rfl, rfl, hown, hB⟩ := hrel
    have hlen := keptAt_len l keep k
    by_cases hlt : k < n
    · obtain ⟨g, rfl, hg, y0, y1⟩ := hs.at_ k (by omega)
      rw [← hB.cell (p := ⟨g, k * 2, none⟩) hg] at y0
      rw [← hB.cell (p := ⟨g, k * 2 + 1, none⟩) hg] at y1
      have hp := keptAt_next l keep k (by omega)
      have HP := Lib.hid hp
      clear hp
      generalize keptAt l keep k = s at *
      obtain ⟨out, q⟩ := s
      obtain ⟨p, hpk⟩ : ∃ p, p = l[k]'(by omega) := ⟨_, rfl⟩
      rw [← hpk] at y0 y1
      have HP2 : Hid (keptAt l keep (k + 1) = keptF (out, q) p) := by rw [hpk]; exact HP
      clear HP hpk
      obtain ⟨x, sure⟩ := p
      simp only at y0 y1 hown hlen
      cases sure with
      | true =>
        have HF : Hid (keptF (out, q) (x, true) = (out ++ [(x, true)], q)) := by simp [keptF, Hid]
        go_wp2_with (at_builtin; refine wpList_append_lies _ rfl _ _ _ rfl w.heap.size 98 i98 _ 2 2 Try.underlying89 hi0 hz0 hz1 hz2 rfl (by omega) _ _ _ rfl (hown.alloc _) ⟨wr.heap.size, 0, none⟩ 1 1 [Value.int .u8 x.toNat, .bool true] rfl rfl (World.news_of_block (cs := #[Value.int .u8 x.toNat, .bool true]) (t := 98) (fr := (0, 0)) (heap_alloc_new wr _)) (by simp [Value.oneCell']) (by omega) (by unfold maxLen; omega) (by omega) (by have := hB.size; simp; omega) (wr.heap.size + 1) (by simp) ?_; intro gg cap w1 hown1 hgrow hat hlt1)
        go_roundw
        case rel => exact ⟨k + 1, by omega, by go_num, by rw [HP2.out, HF.out], by rw [HP2.out, HF.out, pc_append, List.length_append]; exact hown1, (hB.alloc hB.size _).grown hgrow (by have := hB.size; simp; omega) (fun j hj => (hown.lt j hj).1)⟩
        case measure => simp [intOf]; omega
      | false =>
        by_cases hq : 0 < q
        · have HF : Hid (keptF (out, q) (x, false) = (out ++ [(x, true)], q - 1)) := by simp [keptF, Hid, hq]
          go_wp2_with (at_builtin; refine wpList_append_lies _ rfl _ _ _ rfl w.heap.size 98 i98 _ 2 2 Try.underlying89 hi0 hz0 hz1 hz2 rfl (by omega) _ _ _ rfl (hown.alloc _) ⟨wr.heap.size, 0, none⟩ 1 1 [Value.int .u8 x.toNat, .bool true] rfl rfl (World.news_of_block (cs := #[Value.int .u8 x.toNat, .bool true]) (t := 98) (fr := (0, 0)) (heap_alloc_new wr _)) (by simp [Value.oneCell']) (by omega) (by unfold maxLen; omega) (by omega) (by have := hB.size; simp; omega) (wr.heap.size + 1) (by simp) ?_; intro gg cap w1 hown1 hgrow hat hlt1)
          go_roundw
          case rel => exact ⟨k + 1, by omega, by go_num, by rw [HP2.out, HF.out], by rw [HP2.out, HF.out, pc_append, List.length_append]; exact hown1, (hB.alloc hB.size _).grown hgrow (by have := hB.size; simp; omega) (fun j hj => (hown.lt j hj).1)⟩
          case measure => simp [intOf]; omega
        · have HF : Hid (keptF (out, q) (x, false) = (out, q)) := by simp [keptF, Hid, hq]
          go_wp2_with fail
          go_roundw
          case rel => exact ⟨k + 1, by omega, by go_num, by rw [HP2.out, HF.out], by rw [HP2.out, HF.out]; exact hown, hB⟩
          case measure => simp [intOf]; omega
    · obtain rfl : n = k := by omega
      go_wp2_with fail
      go_ret
      exact ⟨_, rfl, hown, hB⟩
end Go.Proofs.Ytofocdigbcdfaaa
