import Derived.Test.YtofocdigbcdfaaaR1
namespace Go.Proofs.Ytofocdigbcdfaaa
open Mem Disk

/-- A slot as the document's disk has it: each byte sure or not. -/
def prs (s : Sl) : List (UInt8 × Bool) := (s.b.take s.s).map (fun x => (x, true)) ++ (s.b.drop s.s).map (fun x => (x, false))

theorem prs_len (s : Sl) : (prs s).length = s.b.length := by simp [prs]; omega
theorem prs_fst (s : Sl) : (prs s).map (·.1) = s.b := by simp [prs, Function.comp_def]
theorem prs_new : prs ⟨[], 0⟩ = [] := rfl
theorem prs_take (s : Sl) (m : Nat) (hs : s.s ≤ s.b.length) : (prs s).take m = prs (s.cut m) := by
  unfold prs Sl.cut
  simp only [List.take_append, List.length_map, List.length_take, ← List.map_take, List.take_take, List.drop_take]
  congr 2
  · rw [Nat.min_comm m s.s]
    congr 1
    omega
  · by_cases h : m ≤ s.s
    · have e1 : m - min s.s s.b.length = 0 := by omega
      have e2 : m - min s.s m = 0 := by omega
      rw [e1, e2]; simp
    · have e1 : min s.s s.b.length = s.s := by omega
      have e2 : min s.s m = s.s := by omega
      rw [e1, e2]
theorem prs_append (b x : List UInt8) (n : Nat) (h : n ≤ b.length) : prs ⟨b ++ x, n⟩ = prs ⟨b, n⟩ ++ x.map (fun c => (c, false)) := by
  unfold prs
  simp only [List.take_append_of_le_length h, List.drop_append_of_le_length h, List.map_append, List.append_assoc]
theorem prs_sync (s : Sl) : (prs s).map (fun p => (p.1, true)) = prs s.sync := by
  have e : prs s.sync = s.b.map (fun x => (x, true)) := by simp [prs, Sl.sync]
  rw [e, prs, List.map_append, List.map_map, List.map_map]
  show (s.b.take s.s).map (fun x => (x, true)) ++ (s.b.drop s.s).map (fun x => (x, true)) = _
  rw [← List.map_append, List.take_append_drop]
theorem prs_at (s : Sl) (k : Nat) (h : k < (prs s).length) : (prs s)[k].2 = decide (k < s.s) := by
  have h' : k < s.b.length := by rw [prs_len] at h; exact h
  simp only [prs, List.getElem_append, List.getElem_map, List.length_map, List.length_take]
  by_cases hk : k < s.s
  · rw [dif_pos (by omega)]; simp [hk]
  · rw [dif_neg (by omega)]; simp [hk]

/-- How many are sure. -/
def sures (l : List (UInt8 × Bool)) : Nat := (l.filter (·.2)).length
theorem sures_prs (s : Sl) (h : s.s ≤ s.b.length) : sures (prs s) = s.s := by
  unfold sures prs
  rw [List.filter_append, List.filter_eq_self.2 (fun p hp => by obtain ⟨x, _, rfl⟩ := List.mem_map.1 hp; rfl), List.filter_eq_nil_iff.2 (fun p hp => by obtain ⟨x, _, rfl⟩ := List.mem_map.1 hp; simp)]
  simp
  omega
theorem sures_next (l : List (UInt8 × Bool)) (k : Nat) (h : k < l.length) : sures (l.take (k + 1)) = sures (l.take k) + if l[k].2 = true then 1 else 0 := by
  unfold sures
  rw [List.take_succ_eq_append_getElem h, List.filter_append, List.length_append]
  congr 1
  by_cases hb : l[k].2 = true <;> simp [hb]
theorem sures_le (l : List (UInt8 × Bool)) (k : Nat) : sures (l.take k) ≤ k := by
  unfold sures
  exact Nat.le_trans (List.length_filter_le _ _) (List.length_take_le _ _)

theorem kept_sure (x : List UInt8) (out : List (UInt8 × Bool)) (q : Int) : (x.map (fun c => (c, true))).foldl keptF (out, q) = (out ++ x.map (fun c => (c, true)), q) := by
  induction x generalizing out with
  | nil => simp
  | cons c x ih => simp only [List.map_cons, List.foldl_cons]; rw [show keptF (out, q) (c, true) = (out ++ [(c, true)], q) from by simp [keptF], ih]; simp
theorem kept_loose (x : List UInt8) (out : List (UInt8 × Bool)) (q : Int) : ((x.map (fun c => (c, false))).foldl keptF (out, q)).1 = out ++ (x.take q.toNat).map (fun c => (c, true)) := by
  induction x generalizing out q with
  | nil => simp
  | cons c x ih =>
    simp only [List.map_cons, List.foldl_cons]
    by_cases hq : 0 < q
    · rw [show keptF (out, q) (c, false) = (out ++ [(c, true)], q - 1) from by simp [keptF, hq], ih]
      have e : q.toNat = (q - 1).toNat + 1 := by omega
      rw [e]; simp
    · rw [show keptF (out, q) (c, false) = (out, q) from by simp [keptF, hq], ih]
      have e : q.toNat = 0 := by omega
      rw [e]; simp
theorem prs_crash (s : Sl) (k : Int) (h : s.s ≤ s.b.length) : (keptAt (prs s) k s.b.length).1 = prs (s.crash k) := by
  unfold keptAt
  rw [List.take_of_length_le (by rw [prs_len]; exact Nat.le_refl _)]
  unfold prs Sl.crash Sl.kept
  rw [List.foldl_append, kept_sure, kept_loose]
  have e1 : (s.b.take (s.s + min k.toNat (s.b.length - s.s))).drop (s.s + min k.toNat (s.b.length - s.s)) = [] := by
    apply List.drop_eq_nil_of_le; simp; omega
  simp only [List.nil_append, ← List.map_append, e1, List.map_nil, List.append_nil]
  rw [List.take_take, Nat.min_self]
  congr 1
  rw [List.take_add]
  congr 1
  by_cases hk : k.toNat ≤ s.b.length - s.s
  · rw [Nat.min_eq_left hk]
  · rw [Nat.min_eq_right (by omega), List.take_of_length_le (by simp; omega), List.take_of_length_le (by simp)]
end Go.Proofs.Ytofocdigbcdfaaa
