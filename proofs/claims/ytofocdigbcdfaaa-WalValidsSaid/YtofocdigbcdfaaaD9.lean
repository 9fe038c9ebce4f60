/- Contracts for DiskDurable: Synced, cuts; what stands of what was synced. -/
import Derived.Test.YtofocdigbcdfaaaD8
namespace Go.Proofs.Ytofocdigbcdfaaa
open Go.RowKit Mem Disk
section
variable {w w' : World} {d : Nat} {D : Dk} {F : Nat → Prop}

theorem synced_is (h : Dsk w d D F) (i : Int) :
    Calls Try.prog 21 #[.pointer (some ⟨d, 0, none⟩), .int .i64 i] w fun e w' => e = .returned (.int .i64 (D.synced i)) ∧ w = w' := by
  obtain ⟨A0, A1, c0, c1, hI, rfl⟩ := h
  exact synced_any hI i

set_option maxHeartbeats 400000 in
theorem cuts_yes {kind on slot n m : Int} {s : ByteArray} (h : kind = 6 ∨ kind = 7) (w : World) :
    Calls Try.prog 22 #[.agg #[.int .i64 kind, .int .i64 on, .int .i64 slot, .int .i64 n, .int .i64 m, .string s]] w fun e w' => e = .returned (.bool true) ∧ Below w.heap.size w w' := by
  have hB : ∀ o, Below w.heap.size w (w.alloc o) := fun o => (Below.refl _ _).alloc (Nat.le_refl _) o
  rcases h with rfl | rfl
  · go_enter Try.func22, Try.ntmps22
    go_wp2
    go_ret
    exact ⟨rfl, hB _⟩
  · go_enter Try.func22, Try.ntmps22
    go_wp2
    go_ret
    exact ⟨rfl, hB _⟩

set_option maxHeartbeats 400000 in
theorem cuts_no {kind on slot n m : Int} {s : ByteArray} (h6 : ¬ kind = 6) (h7 : ¬ kind = 7) (w : World) :
    Calls Try.prog 22 #[.agg #[.int .i64 kind, .int .i64 on, .int .i64 slot, .int .i64 n, .int .i64 m, .string s]] w fun e w' => e = .returned (.bool false) ∧ Below w.heap.size w w' := by
  have hB : ∀ o, Below w.heap.size w (w.alloc o) := fun o => (Below.refl _ _).alloc (Nat.le_refl _) o
  have b6 : (kind == 6) = false := beq_eq_false_iff_ne.2 h6
  have b7 : (kind == 7) = false := beq_eq_false_iff_ne.2 h7
  go_enter Try.func22, Try.ntmps22
  go_wp2
  go_ret
  exact ⟨rfl, hB _⟩

/-- What stands of two texts, as the statement asks it. -/
theorem stands_tells {b0 b1 : List UInt8} (h : Stands b0 b1 D) :
    (∃ s, str (D.bytes 0) = s ∧ (str b0).size ≤ s.size ∧ s.extract 0 (str b0).size = str b0 ∧ (str b0).size ≤ D.synced 0) ∧
    (∃ s, str (D.bytes 1) = s ∧ (str b1).size ≤ s.size ∧ s.extract 0 (str b1).size = str b1 ∧ (str b1).size ≤ D.synced 1) := by
  obtain ⟨⟨h1, h2, h3⟩, h4, h5, h6⟩ := h.tests
  have e : ∀ (a b : List UInt8), b.take a.length = a → (str b).extract 0 (str a).size = str a := by
    intro a b hab
    apply ByteArray.ext
    rw [str_size]
    simp only [ByteArray.data_extract, str]
    rw [← hab]
    simp
  refine ⟨⟨_, rfl, ?_, e _ _ ?_, ?_⟩, ⟨_, rfl, ?_, e _ _ ?_, ?_⟩⟩
  · rw [str_size, str_size]; exact h1
  · exact h2
  · rw [str_size]; exact h3
  · rw [str_size, str_size]; exact h4
  · exact h5
  · rw [str_size]; exact h6

/-- The steps of a list, fetched in a later world. -/
theorem Steps.fetch {A : Option Addr} {l : List St} (hs : Steps w A l) {w1 : World} (hb : ∀ p : Addr, p.block < w.heap.size → w1.cell? p = w.cell? p) {k : Nat} (hk : k < l.length) :
    ∃ b off st, A = some ⟨b, off, none⟩ ∧ b < w.heap.size ∧ l[k]? = some st ∧
    w1.cell? ⟨b, off + k * 6, none⟩ = some (.int .i64 st.kind) ∧ w1.cell? ⟨b, off + k * 6 + 1, none⟩ = some (.int .i64 st.on) ∧ w1.cell? ⟨b, off + k * 6 + 2, none⟩ = some (.int .i64 st.slot) ∧
    w1.cell? ⟨b, off + k * 6 + 3, none⟩ = some (.int .i64 st.n) ∧ w1.cell? ⟨b, off + k * 6 + 4, none⟩ = some (.int .i64 st.m) ∧ w1.cell? ⟨b, off + k * 6 + 5, none⟩ = some (.string st.s) := by
  obtain ⟨b, off, rfl, hlt, y0, y1, y2, y3, y4, y5⟩ := hs.at_ k hk
  exact ⟨b, off, l[k], rfl, hlt, List.getElem?_eq_getElem hk, by rw [hb ⟨b, _, none⟩ hlt]; exact y0, by rw [hb ⟨b, _, none⟩ hlt]; exact y1, by rw [hb ⟨b, _, none⟩ hlt]; exact y2, by rw [hb ⟨b, _, none⟩ hlt]; exact y3, by rw [hb ⟨b, _, none⟩ hlt]; exact y4, by rw [hb ⟨b, _, none⟩ hlt]; exact y5⟩

theorem acts_next {D : Dk} {l : List St} {k : Nat} {st : St} (h : l[k]? = some st) : D.acts (l.take (k + 1)) = (D.acts (l.take k)).act st := by
  obtain ⟨hk, e⟩ := List.getElem?_eq_some_iff.1 h
  rw [List.take_succ_eq_append_getElem hk, Dk.acts, List.foldl_append, ← e]; rfl

theorem head_fit {cap : Int} (h : 0 < cap) (i : Int) (hi : right i) (s : ByteArray) (hs : s.size = 1) : (Dk.new cap).appE i s.data.toList = 0 ∧ str (((Dk.new cap).app i s.data.toList).bytes i) = s := by
  have hf : s.size ≤ (Dk.new cap).free := by rw [hs]; simp [Dk.free, Dk.used, Dk.new, roomOf]; omega
  refine ⟨appE_fit hi hf, ?_⟩
  rcases hi with rfl | rfl
  · rw [app00 hf]; simp [Dk.bytes, Dk.new, Dk.get, right, str]; rfl
  · rw [app11 hf]; simp [Dk.bytes, Dk.new, Dk.get, right, str]; rfl
end
end Go.Proofs.Ytofocdigbcdfaaa
