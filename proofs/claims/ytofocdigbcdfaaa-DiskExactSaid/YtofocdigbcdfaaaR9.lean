/- Three pairs of disks, named by two arrays: one pair is laid anew, or takes a step. -/
import Derived.Test.YtofocdigbcdfaaaR5
import Derived.Test.YtofocdigbcdfaaaR8
namespace Go.Proofs.Ytofocdigbcdfaaa
open Go.RowKit Mem Disk

/-- One point of a function turned. -/
def upd {α : Type} (f : Nat → α) (j : Nat) (x : α) : Nat → α := fun i => if i = j then x else f i
theorem upd_same {α : Type} (f : Nat → α) (j : Nat) (x : α) : upd f j x j = x := by simp [upd]
theorem upd_ne {α : Type} (f : Nat → α) {i j : Nat} (x : α) (h : i ≠ j) : upd f j x i = f i := by simp [upd, h]

def ptr (b : Nat) : Value := .pointer (some ⟨b, 0, none⟩)

/-- m pairs of disks, named by two arrays. -/
structure Trio (m : Nat) (w : World) (S p r : Nat) (d e : Nat → Nat) (D : Nat → Dk) (F G : Nat → Nat → Prop) : Prop where
  duo : ∀ i, i < m → Duo w (d i) (e i) (D i) (F i) (G i)
  ap : ∀ i j, i < m → j < m → i ≠ j → ∀ k, (F i k ∨ G i k) → ¬ (F j k ∨ G j k)
  np : ∀ i, i < m → ∀ k, (F i k ∨ G i k) → k ≠ p ∧ k ≠ r ∧ S ≤ k
  sp : S ≤ p
  sr : S ≤ r
  ne : p ≠ r
  rowP : ∃ cs : Array Value, cs.size = 3 ∧ w.heap[p]? = some (.cells cs 61 (0, 0)) ∧ ∀ i, i < m → cs[i]? = some (ptr (d i))
  rowR : ∃ cs : Array Value, cs.size = 3 ∧ w.heap[r]? = some (.cells cs 63 (0, 0)) ∧ ∀ i, i < m → cs[i]? = some (ptr (e i))

section
variable {m S p r : Nat} {w w1 w2 w' w0 : World} {d e : Nat → Nat} {D : Nat → Dk} {F G : Nat → Nat → Prop}

theorem Trio.lt (h : Trio m w S p r d e D F G) {i : Nat} (hi : i < m) {k : Nat} (hk : F i k ∨ G i k) : k < w.heap.size := hk.elim ((h.duo i hi).hd.lt k) ((h.duo i hi).hr.lt k)
theorem Trio.ltP (h : Trio m w S p r d e D F G) : p < w.heap.size := by obtain ⟨_, _, h, _⟩ := h.rowP; exact (Array.getElem?_eq_some_iff.1 h).1
theorem Trio.ltR (h : Trio m w S p r d e D F G) : r < w.heap.size := by obtain ⟨_, _, h, _⟩ := h.rowR; exact (Array.getElem?_eq_some_iff.1 h).1

theorem Trio.cellP (h : Trio m w S p r d e D F G) {i : Nat} (hi : i < m) : w.cell? ⟨p, i, none⟩ = some (.pointer (some ⟨d i, 0, none⟩)) := by
  obtain ⟨cs, _, h1, h2⟩ := h.rowP
  exact ((cellsAt h1).1 i).trans (h2 i hi)
theorem Trio.cellR (h : Trio m w S p r d e D F G) {i : Nat} (hi : i < m) : w.cell? ⟨r, i, none⟩ = some (.pointer (some ⟨e i, 0, none⟩)) := by
  obtain ⟨cs, _, h1, h2⟩ := h.rowR
  exact ((cellsAt h1).1 i).trans (h2 i hi)
theorem Trio.hasP (h : Trio m w S p r d e D F G) {i : Nat} (hi : i < 3) : ∃ v, w.cell? ⟨p, i, none⟩ = some v := by
  obtain ⟨cs, h0, h1, h2⟩ := h.rowP
  exact ⟨_, ((cellsAt h1).1 i).trans (Array.getElem?_eq_getElem (by omega))⟩
theorem Trio.hasR (h : Trio m w S p r d e D F G) {i : Nat} (hi : i < 3) : ∃ v, w.cell? ⟨r, i, none⟩ = some v := by
  obtain ⟨cs, h0, h1, h2⟩ := h.rowR
  exact ⟨_, ((cellsAt h1).1 i).trans (Array.getElem?_eq_getElem (by omega))⟩
theorem Trio.thawP (h : Trio m w S p r d e D F G) (i : Nat) : w.frozen? ⟨p, i, none⟩ = false := by
  obtain ⟨cs, h0, h1, h2⟩ := h.rowP
  exact (cellsAt h1).2 i
theorem Trio.thawR (h : Trio m w S p r d e D F G) (i : Nat) : w.frozen? ⟨r, i, none⟩ = false := by
  obtain ⟨cs, h0, h1, h2⟩ := h.rowR
  exact (cellsAt h1).2 i

theorem Trio.kept (h : Trio m w S p r d e D F G) (hb : Below w.heap.size w w') : Trio m w' S p r d e D F G := by
  obtain ⟨a1, a2, a3, a4, a5, a6, ⟨cs, b0, b1, b2⟩, ⟨cs', c0, c1, c2⟩⟩ := h
  exact ⟨fun i hi => (a1 i hi).kept hb, a2, a3, a4, a5, a6, ⟨cs, b0, (hb.block p (Array.getElem?_eq_some_iff.1 b1).1).trans b1, b2⟩, ⟨cs', c0, (hb.block r (Array.getElem?_eq_some_iff.1 c1).1).trans c1, c2⟩⟩

/-- A pair of new disks is laid at j. -/
theorem Trio.put (h : Trio m w S p r d e D F G) {j m' n1 n2 : Nat} {E : Dk} (hj : j < 3) (hm : ∀ i, i < m' → i = j ∨ i < m) (hS : S ≤ w.heap.size)
    (hg1 : Goes w n1 (fun _ => False) E w1) (hg2 : RGoes (w1.setCell ⟨p, j, none⟩ (ptr n1)) n2 (fun _ => False) E w2) (hB : Below S w0 w) :
    ∃ F' G', Trio m' (w2.setCell ⟨r, j, none⟩ (ptr n2)) S p r (upd d j n1) (upd e j n2) (upd D j E) F' G' ∧ Below S w0 (w2.setCell ⟨r, j, none⟩ (ptr n2)) := by
  obtain ⟨F1, a1, a2, a3⟩ := hg1
  obtain ⟨G1, b1, b2, b3⟩ := hg2
  have hp := h.ltP; have hr := h.ltR
  have hs1 := a2.size
  have hsz : (w1.setCell ⟨p, j, none⟩ (ptr n1)).heap.size = w1.heap.size := by simp [World.setCell]
  have hs2 := b2.size
  rw [hsz] at hs2 b3
  have aF : ∀ k, F1 k → w.heap.size ≤ k ∧ k < w1.heap.size := fun k hk => ⟨(a3 k hk).elim (fun h => h.elim) id, a1.lt k hk⟩
  have aG : ∀ k, G1 k → w1.heap.size ≤ k := fun k hk => (b3 k hk).elim (fun h => h.elim) id
  have step1 : ∀ k, k < w1.heap.size → k ≠ p → k ≠ r → (w2.setCell ⟨r, j, none⟩ (ptr n2)).heap[k]? = w1.heap[k]? := fun k hk hkp hkr =>
    ((other hkr).trans (b2.block k (by rw [hsz]; exact hk) (fun h => h))).trans (other hkp)
  have step0 : ∀ k, k < w.heap.size → k ≠ p → k ≠ r → (w2.setCell ⟨r, j, none⟩ (ptr n2)).heap[k]? = w.heap[k]? := fun k hk hkp hkr =>
    (step1 k (by omega) hkp hkr).trans (a2.block k hk (fun h => h))
  refine ⟨upd F j F1, upd G j G1, ⟨?_, ?_, ?_, h.sp, h.sr, h.ne, ?_, ?_⟩, ?_⟩
  · intro i hi
    by_cases hij : i = j
    · subst hij
      simp only [upd_same]
      refine ⟨a1.kept fun k hk => step1 k (aF k hk).2 (by have := (aF k hk).1; omega) (by have := (aF k hk).1; omega), b1.kept fun k hk => other (by have := aG k hk; simp only; omega), fun k hk hk' => by have := aF k hk; have := aG k hk'; omega⟩
    · have him := (hm i hi).resolve_left hij
      simp only [upd_ne _ _ hij]
      have hd := h.duo i him
      exact ⟨hd.hd.kept fun k hk => by obtain ⟨u1, u2, _⟩ := h.np i him k (.inl hk); exact step0 k (hd.hd.lt k hk) u1 u2, hd.hr.kept fun k hk => by obtain ⟨u1, u2, _⟩ := h.np i him k (.inr hk); exact step0 k (hd.hr.lt k hk) u1 u2, hd.ap⟩
  · intro i i' hi hi' hne k hk hk'
    by_cases hij : i = j
    · subst hij
      have hi2 : i' ≠ i := fun h => hne h.symm
      simp only [upd_same, upd_ne _ _ hi2] at hk hk'
      have := h.lt ((hm i' hi').resolve_left hi2) hk'
      rcases hk with hk | hk
      · have := aF k hk; omega
      · have := aG k hk; omega
    · by_cases hij' : i' = j
      · subst hij'
        simp only [upd_same, upd_ne _ _ hij] at hk hk'
        have := h.lt ((hm i hi).resolve_left hij) hk
        rcases hk' with hk | hk
        · have := aF k hk; omega
        · have := aG k hk; omega
      · simp only [upd_ne _ _ hij, upd_ne _ _ hij'] at hk hk'
        exact h.ap i i' ((hm i hi).resolve_left hij) ((hm i' hi').resolve_left hij') hne k hk hk'
  · intro i hi k hk
    by_cases hij : i = j
    · subst hij
      simp only [upd_same] at hk
      have : w.heap.size ≤ k := hk.elim (fun h => (aF k h).1) (fun h => by have := aG k h; omega)
      omega
    · simp only [upd_ne _ _ hij] at hk
      exact h.np i ((hm i hi).resolve_left hij) k hk
  · obtain ⟨cs, c0, c1, c2⟩ := h.rowP
    refine ⟨cs.setIfInBounds j (ptr n1), by simp [c0], ?_, ?_⟩
    · exact ((other h.ne).trans (b2.block p (by rw [hsz]; omega) (fun h => h))).trans (row_set ((a2.block p hp (fun h => h)).trans c1))
    · intro i hi
      by_cases hij : i = j
      · subst hij; rw [upd_same]; simp [c0, hj]
      · rw [upd_ne _ _ hij, Array.getElem?_setIfInBounds, if_neg (fun h => hij h.symm)]; exact c2 i ((hm i hi).resolve_left hij)
  · obtain ⟨cs, c0, c1, c2⟩ := h.rowR
    refine ⟨cs.setIfInBounds j (ptr n2), by simp [c0], ?_, ?_⟩
    · exact row_set (((b2.block r (by rw [hsz]; omega) (fun h => h)).trans (other (fun h' => h.ne h'.symm))).trans ((a2.block r hr (fun h => h)).trans c1))
    · intro i hi
      by_cases hij : i = j
      · subst hij; rw [upd_same]; simp [c0, hj]
      · rw [upd_ne _ _ hij, Array.getElem?_setIfInBounds, if_neg (fun h => hij h.symm)]; exact c2 i ((hm i hi).resolve_left hij)
  · exact ((hB.trans (a2.below hS (fun _ h => h.elim))).setCell (p := ⟨p, j, none⟩) h.sp _ |>.trans (b2.below (by rw [hsz]; omega) (fun _ h => h.elim))).setCell (p := ⟨r, j, none⟩) h.sr _

/-- A step on the pair at j. -/
theorem Trio.does (h : Trio m w S p r d e D F G) {j : Nat} {E : Dk} (hj : j < m) (hS : S ≤ w.heap.size) (hg : DGoes w (d j) (e j) (F j) (G j) E w') (hB : Below S w0 w) :
    ∃ F' G', Trio m w' S p r d e (upd D j E) F' G' ∧ Below S w0 w' := by
  obtain ⟨F1, G1, a1, a2, a3, a4⟩ := hg
  have hp := h.ltP; have hr := h.ltR
  have hnew : ∀ k, (F1 k ∨ G1 k) → (F j k ∨ G j k) ∨ w.heap.size ≤ k := fun k hk => hk.elim (fun hk => (a3 k hk).imp .inl id) (fun hk => (a4 k hk).imp .inr id)
  have hfr : ∀ k, k < w.heap.size → ¬ (F j k ∨ G j k) → w'.heap[k]? = w.heap[k]? := fun k hk hn => a2.block k hk hn
  refine ⟨upd F j F1, upd G j G1, ⟨?_, ?_, ?_, h.sp, h.sr, h.ne, ?_, ?_⟩, ?_⟩
  · intro i hi
    by_cases hij : i = j
    · subst hij
      simp only [upd_same]
      exact a1
    · simp only [upd_ne _ _ hij]
      have hd := h.duo i hi
      exact ⟨hd.hd.kept fun k hk => hfr k (hd.hd.lt k hk) (h.ap i j hi hj hij k (.inl hk)), hd.hr.kept fun k hk => hfr k (hd.hr.lt k hk) (h.ap i j hi hj hij k (.inr hk)), hd.ap⟩
  · intro i i' hi hi' hne k hk hk'
    by_cases hij : i = j
    · subst hij
      have hi2 : i' ≠ i := fun h => hne h.symm
      simp only [upd_same, upd_ne _ _ hi2] at hk hk'
      have hlt := h.lt hi' hk'
      exact (hnew k hk).elim (fun h1 => h.ap i i' hj hi' hne k h1 hk') (fun h1 => by omega)
    · by_cases hij' : i' = j
      · subst hij'
        simp only [upd_same, upd_ne _ _ hij] at hk hk'
        have hlt := h.lt hi hk
        exact (hnew k hk').elim (fun h1 => h.ap i i' hi hj hne k hk h1) (fun h1 => by omega)
      · simp only [upd_ne _ _ hij, upd_ne _ _ hij'] at hk hk'
        exact h.ap i i' hi hi' hne k hk hk'
  · intro i hi k hk
    by_cases hij : i = j
    · subst hij
      simp only [upd_same] at hk
      exact (hnew k hk).elim (fun h1 => h.np i hi k h1) (fun h1 => by omega)
    · simp only [upd_ne _ _ hij] at hk
      exact h.np i hi k hk
  · obtain ⟨cs, c0, c1, c2⟩ := h.rowP
    exact ⟨cs, c0, (hfr p hp (fun hk => (h.np j hj p hk).1 rfl)).trans c1, c2⟩
  · obtain ⟨cs, c0, c1, c2⟩ := h.rowR
    exact ⟨cs, c0, (hfr r hr (fun hk => (h.np j hj r hk).2.1 rfl)).trans c1, c2⟩
  · exact hB.trans (a2.below hS (fun k hk => (h.np j hj k hk).2.2))
end
end Go.Proofs.Ytofocdigbcdfaaa
