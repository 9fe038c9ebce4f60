/- Spans and writes: what is valid, and the contracts of spanOK, readsOK, ValidSpan, ValidReads, ValidWrites. -/
import Derived.Test.YtofocdigbcdfaaaD12
namespace Go.Proofs.Ytofocdigbcdfaaa
open Go.RowKit Mem

theorem ret_b {a b : Bool} (h : a = b) : Ending.returned (.bool a) = Ending.returned (.bool b) := by rw [h]

/-- A span, and whether it is valid. -/
structure Sp where
  lo : ByteArray
  hi : ByteArray
def Sp.ok (s : Sp) : Bool := decide ((s.lo.size : Int) ≤ 33) && (decide ((s.hi.size : Int) ≤ 33) && (s.hi.toList.isEmpty || Op.bytesLess s.lo.toList s.hi.toList))

/-- A write. -/
structure Wr where
  key : ByteArray
  del : Bool
  val : ByteArray
/-- May the write stand behind the key p? -/
def Wr.okAt (p : ByteArray) (x : Wr) : Bool := Op.bytesLess p.toList x.key.toList && (decide ((x.key.size : Int) ≤ 32) && (decide ((x.val.size : Int) ≤ 64) && (!x.del || x.val.toList.isEmpty)))
def keyAt (l : List Wr) (k : Nat) : ByteArray := match k with
  | 0 => ⟨#[]⟩
  | k + 1 => match l[k]? with
    | some x => x.key
    | none => ⟨#[]⟩

def ReadsOk (l : List Sp) : Prop := (∀ k (h : k < l.length), l[k].ok = true) ∧ l.length ≤ 16
def WritesOk (l : List Wr) : Prop := (∀ k (h : k < l.length), (l[k]).okAt (keyAt l k) = true) ∧ l.length ≤ 16

/-- A slice of spans, of writes, that reads as the list l. -/
structure Spans (w : World) (A : Option Addr) (l : List Sp) : Prop where
  at_ : ∀ k (h : k < l.length), ∃ b off, A = some ⟨b, off, none⟩ ∧ b < w.heap.size ∧ w.cell? ⟨b, off + k * 2, none⟩ = some (.string l[k].lo) ∧ w.cell? ⟨b, off + k * 2 + 1, none⟩ = some (.string l[k].hi)
structure Writes (w : World) (A : Option Addr) (l : List Wr) : Prop where
  at_ : ∀ k (h : k < l.length), ∃ b off, A = some ⟨b, off, none⟩ ∧ b < w.heap.size ∧ w.cell? ⟨b, off + k * 3, none⟩ = some (.string l[k].key) ∧ w.cell? ⟨b, off + k * 3 + 1, none⟩ = some (.bool l[k].del) ∧ w.cell? ⟨b, off + k * 3 + 2, none⟩ = some (.string l[k].val)

section
variable {w w' : World} {A : Option Addr} {l : List Sp} {m : List Wr}
theorem Spans.below (h : Spans w A l) (hb : Below w.heap.size w w') : Spans w' A l := by
  refine ⟨fun k hk => ?_⟩
  obtain ⟨b, off, h1, h2, h3, h4⟩ := h.at_ k hk
  exact ⟨b, off, h1, Nat.lt_of_lt_of_le h2 hb.size, (hb.cell (p := ⟨b, _, none⟩) h2).trans h3, (hb.cell (p := ⟨b, _, none⟩) h2).trans h4⟩
theorem Writes.below (h : Writes w A m) (hb : Below w.heap.size w w') : Writes w' A m := by
  refine ⟨fun k hk => ?_⟩
  obtain ⟨b, off, h1, h2, h3, h4, h5⟩ := h.at_ k hk
  exact ⟨b, off, h1, Nat.lt_of_lt_of_le h2 hb.size, (hb.cell (p := ⟨b, _, none⟩) h2).trans h3, (hb.cell (p := ⟨b, _, none⟩) h2).trans h4, (hb.cell (p := ⟨b, _, none⟩) h2).trans h5⟩
end

theorem spanOK_any (lo hi : ByteArray) (w : World) (b : Bool) (hb : Sp.ok ⟨lo, hi⟩ = b) :
    Calls Try.prog 58 #[.agg #[.string lo, .string hi]] w fun e w' => e = .returned (.bool b) ∧ Below w.heap.size w w' := by
  subst hb
  have hb : ∀ o, Below w.heap.size w (w.alloc o) := fun o => (Below.refl _ _).alloc (Nat.le_refl _) o
  go_enter Try.func58, Try.ntmps58
  go_wp2_with fail
  all_goals go_ret
  · exact ⟨ret_b (by simp [Sp.ok, *]), hb _⟩
  · exact ⟨ret_b (by simp [Sp.ok, *]), hb _⟩
  · exact ⟨ret_b (by simp [Sp.ok]; omega), hb _⟩
  · exact ⟨ret_b (by simp [Sp.ok]; omega), hb _⟩

theorem validSpan_any (lo hi : ByteArray) (w : World) (b : Bool) (hb : Sp.ok ⟨lo, hi⟩ = b) :
    Calls Try.prog 59 #[.agg #[.string lo, .string hi]] w fun e w' => e = .returned (.bool b) ∧ Below w.heap.size w w' := by
  subst hb
  have hb : ∀ o, Below w.heap.size w (w.alloc o) := fun o => (Below.refl _ _).alloc (Nat.le_refl _) o
  by_cases h1 : (lo.size : Int) ≤ 33
  · by_cases h2 : (hi.size : Int) ≤ 33
    · go_enter Try.func59, Try.ntmps59
      go_wp2_with fail
      all_goals go_ret
      all_goals exact ⟨ret_b (by simp [Sp.ok, *]), hb _⟩
    · have h3 : 33 < (hi.size : Int) := by omega
      go_enter Try.func59, Try.ntmps59
      go_wp2_with fail
      all_goals go_ret
      all_goals exact ⟨ret_b (by simp [Sp.ok]; omega), hb _⟩
  · have h3 : 33 < (lo.size : Int) := by omega
    go_enter Try.func59, Try.ntmps59
    go_wp2_with fail
    all_goals go_ret
    all_goals exact ⟨ret_b (by simp [Sp.ok]; omega), hb _⟩

section
variable {w : World} {A : Option Addr} {n c : Nat} {l : List Sp}
set_option maxHeartbeats 400000 in
theorem readsOK_any (hs : Spans w A l) (hl : l.length = n) (hn : n ≤ 9223372036854775807) (b : Bool) (hb : b = true ↔ ReadsOk l) :
    Calls Try.prog 51 #[.slice A n c] w fun e w' => e = .returned (.bool b) ∧ Below w.heap.size w w' := by
  have HB := Lib.hid hb
  clear hb
  go_enter Try.func51, Try.ntmps51
  go_wp2_with fail
  go_loopw [7] (fun i wr => ∃ k : Nat, k ≤ n ∧ i = .int .i64 k ∧ (∀ j (h : j < l.length), j < k → l[j].ok = true) ∧ Below w.heap.size w wr) (fun i _ => n - (intOf i).toNat)
  case atStart => exact ⟨0, Nat.zero_le _, rfl, fun j _ h => absurd h (Nat.not_lt_zero _), Below.refl _ _⟩
  case round =>
    obtain ⟨k, hk, rfl, hok, hB⟩ := hrel
    have HOK := Lib.hid hok; clear hok
    by_cases hlt : k < n
    · obtain ⟨g, off, rfl, hg, y0, y1⟩ := hs.at_ k (by omega)
      rw [← hB.cell (p := ⟨g, _, none⟩) hg] at y0 y1
      by_cases hv : (l[k]'(by omega)).ok = true
      · obtain ⟨q, hq⟩ : ∃ q, l[k]'(by omega) = q := ⟨_, rfl⟩
        rw [hq] at hv y0 y1
        have HQ := Lib.hid hq; clear hq
        obtain ⟨lo, hi⟩ := q
        simp only at y0 y1
        go_wp2_with (first | (go_at_call 58; refine (spanOK_any lo hi _ true hv).mono ?_; rintro e w1 ⟨rfl, hb1⟩))
        go_roundw
        case rel => exact ⟨k + 1, by omega, by go_num, fun j h hj => (Nat.lt_succ_iff_lt_or_eq.1 hj).elim (HOK.out j h) (fun e => by subst e; rw [HQ.out]; exact hv), (hB.alloc hB.size _).trans (hb1.mono (by have := hB.size; simp; omega))⟩
        case measure => simp [intOf]; omega
      · have hbf : b = false := by
          cases b with
          | false => rfl
          | true => exact absurd ((HB.out.1 rfl).1 k (by omega)) hv
        subst hbf
        clear HB
        obtain ⟨q, hq⟩ : ∃ q, l[k]'(by omega) = q := ⟨_, rfl⟩
        rw [hq] at hv y0 y1
        clear hq
        obtain ⟨lo, hi⟩ := q
        simp only at y0 y1
        have hv' : Sp.ok ⟨lo, hi⟩ = false := by simpa using hv
        have HV := Lib.hid hv'
        clear hv hv'
        go_wp2_with (first | (go_at_call 58; refine (spanOK_any lo hi _ false HV.out).mono ?_; rintro e w1 ⟨rfl, hb1⟩))
        go_ret
        exact ⟨rfl, (hB.alloc hB.size _).trans (hb1.mono (by have := hB.size; simp; omega))⟩
    · obtain rfl : n = k := by omega
      by_cases h16 : (n : Int) ≤ 16
      · obtain rfl : b = true := HB.out.2 ⟨fun j h => HOK.out j h (by omega), by omega⟩
        clear HB
        go_wp2_with fail
        go_ret
        exact ⟨rfl, hB⟩
      · have hbf : b = false := by
          cases b with
          | false => rfl
          | true => exact absurd ((HB.out.1 rfl).2) (by omega)
        subst hbf
        clear HB
        go_wp2_with fail
        go_ret
        exact ⟨rfl, hB⟩

set_option maxHeartbeats 400000 in
theorem validReads_any (hs : Spans w A l) (hl : l.length = n) (hn : n ≤ 9223372036854775807) (b : Bool) (hb : b = true ↔ ReadsOk l) :
    Calls Try.prog 54 #[.slice A n c] w fun e w' => e = .returned (.bool b) ∧ Below w.heap.size w w' := by
  have HB := Lib.hid hb
  clear hb
  by_cases h16 : (n : Int) ≤ 16
  · go_enter Try.func54, Try.ntmps54
    go_wp2_with fail
    go_loopw [3] (fun i wr => ∃ k : Nat, k ≤ n ∧ i = .int .i64 k ∧ (∀ j (h : j < l.length), j < k → l[j].ok = true) ∧ Below w.heap.size w wr) (fun i _ => n - (intOf i).toNat)
    case atStart => exact ⟨0, Nat.zero_le _, rfl, fun j _ h => absurd h (Nat.not_lt_zero _), Below.refl _ _⟩
    case round =>
      obtain ⟨k, hk, rfl, hok, hB⟩ := hrel
      have HOK := Lib.hid hok; clear hok
      by_cases hlt : k < n
      · obtain ⟨g, off, rfl, hg, y0, y1⟩ := hs.at_ k (by omega)
        rw [← hB.cell (p := ⟨g, _, none⟩) hg] at y0 y1
        by_cases hv : (l[k]'(by omega)).ok = true
        · obtain ⟨q, hq⟩ : ∃ q, l[k]'(by omega) = q := ⟨_, rfl⟩
          rw [hq] at hv y0 y1
          have HQ := Lib.hid hq; clear hq
          obtain ⟨lo, hi⟩ := q
          simp only at y0 y1
          go_wp2_with (first | (go_at_call 59; refine (validSpan_any lo hi _ true hv).mono ?_; rintro e w1 ⟨rfl, hb1⟩))
          go_roundw
          case rel => exact ⟨k + 1, by omega, by go_num, fun j h hj => (Nat.lt_succ_iff_lt_or_eq.1 hj).elim (HOK.out j h) (fun e => by subst e; rw [HQ.out]; exact hv), hB.trans (hb1.mono hB.size)⟩
          case measure => simp [intOf]; omega
        · have hbf : b = false := by
            cases b with
            | false => rfl
            | true => exact absurd ((HB.out.1 rfl).1 k (by omega)) hv
          subst hbf
          clear HB
          obtain ⟨q, hq⟩ : ∃ q, l[k]'(by omega) = q := ⟨_, rfl⟩
          rw [hq] at hv y0 y1
          clear hq
          obtain ⟨lo, hi⟩ := q
          simp only at y0 y1
          have hv' : Sp.ok ⟨lo, hi⟩ = false := by simpa using hv
          have HV := Lib.hid hv'
          clear hv hv'
          go_wp2_with (first | (go_at_call 59; refine (validSpan_any lo hi _ false HV.out).mono ?_; rintro e w1 ⟨rfl, hb1⟩))
          go_ret
          exact ⟨rfl, hB.trans (hb1.mono hB.size)⟩
      · obtain rfl : n = k := by omega
        obtain rfl : b = true := HB.out.2 ⟨fun j h => HOK.out j h (by omega), by omega⟩
        clear HB
        go_wp2_with fail
        go_ret
        exact ⟨rfl, hB⟩
  · have hbf : b = false := by
      cases b with
      | false => rfl
      | true => exact absurd ((HB.out.1 rfl).2) (by omega)
    subst hbf
    clear HB
    have h17 : 16 < (n : Int) := by omega
    go_enter Try.func54, Try.ntmps54
    go_wp2_with fail
    go_ret
    exact ⟨rfl, Below.refl _ _⟩
end

section
variable {w : World} {A : Option Addr} {n c : Nat} {l : List Wr}

theorem bytes_tri : ∀ (x y : List UInt8), (Op.bytesLess y x || y == x) = !Op.bytesLess x y
  | [], [] => by simp [Op.bytesLess]
  | [], _ :: _ => by simp [Op.bytesLess]
  | _ :: _, [] => by simp [Op.bytesLess]
  | a :: x, b :: y => by
    have ih := bytes_tri x y
    simp only [Op.bytesLess]
    rcases Nat.lt_trichotomy a.toNat b.toNat with h | h | h
    · have h1 : a < b := UInt8.lt_iff_toNat_lt.2 h
      have h2 : ¬ b < a := fun h' => by have := UInt8.lt_iff_toNat_lt.1 h'; omega
      have h3 : ¬ b = a := fun h' => by subst h'; omega
      simp [h1, h2, h3]
    · have h1 : a = b := UInt8.toNat.inj h
      subst h1
      have h2 : ¬ a < a := fun h' => by have := UInt8.lt_iff_toNat_lt.1 h'; omega
      simp [h2]
      simpa using ih
    · have h1 : b < a := UInt8.lt_iff_toNat_lt.2 h
      have h2 : ¬ a < b := fun h' => by have := UInt8.lt_iff_toNat_lt.1 h'; omega
      have h3 : ¬ a = b := fun h' => by subst h'; omega
      simp [h1, h2, h3]
theorem less_yes {x y : List UInt8} (h : Op.bytesLess x y = true) : Op.bytesLess y x = false ∧ (y == x) = false ∧ ¬ y = x := by
  have := bytes_tri x y
  rw [h] at this
  simp only [Bool.not_true, Bool.or_eq_false_iff] at this
  exact ⟨this.1, this.2, by simpa using this.2⟩
theorem less_no {x y : List UInt8} (h : Op.bytesLess x y = false) : (Op.bytesLess y x || y == x) = true := by
  rw [bytes_tri, h]; rfl
theorem keyAt_succ {l : List Wr} {k : Nat} {x : Wr} (h : l[k]? = some x) : keyAt l (k + 1) = x.key := by simp [keyAt, h]

set_option maxHeartbeats 1000000 in
theorem validWrites_any (hs : Writes w A l) (hl : l.length = n) (hn : n ≤ 9223372036854775807) (b : Bool) (hb : b = true ↔ WritesOk l) :
    Calls Try.prog 55 #[.slice A n c] w fun e w' => e = .returned (.bool b) ∧ Below w.heap.size w w' := by
  have HB := Lib.hid hb
  clear hb
  by_cases h16 : (n : Int) ≤ 16
  · go_enter Try.func55, Try.ntmps55
    go_wp2_with fail
    go_loopw [3, 4] (fun p i wr => ∃ k : Nat, k ≤ n ∧ i = .int .i64 k ∧ p = .string (keyAt l k) ∧ (∀ j (h : j < l.length), j < k → (l[j]).okAt (keyAt l j) = true) ∧ Below w.heap.size w wr) (fun _ i _ => n - (intOf i).toNat)
    case atStart => exact ⟨0, Nat.zero_le _, rfl, rfl, fun j _ h => absurd h (Nat.not_lt_zero _), Below.refl _ _⟩
    case round =>
      obtain ⟨k, hk, rfl, rfl, hok, hB⟩ := hrel
      have HOK := Lib.hid hok; clear hok
      by_cases hlt : k < n
      · obtain ⟨g, off, rfl, hg, y0, y1, y2⟩ := hs.at_ k (by omega)
        rw [← hB.cell (p := ⟨g, _, none⟩) hg] at y0 y1 y2
        obtain ⟨q, hq⟩ : ∃ q, l[k]'(by omega) = q := ⟨_, rfl⟩
        rw [hq] at y0 y1 y2
        have HQ := Lib.hid hq; clear hq
        obtain ⟨pk, hpk⟩ : ∃ pk, keyAt l k = pk := ⟨_, rfl⟩
        have HPK := Lib.hid hpk
        rw [hpk]; clear hpk
        obtain ⟨key, del, val⟩ := q
        simp only at y0 y1 y2
        have hBa : ∀ o, Below w.heap.size w (wr.alloc o) := fun o => hB.alloc hB.size o
        by_cases v0 : Op.bytesLess pk.toList key.toList = true
        · by_cases v1 : (key.size : Int) ≤ 32
          · by_cases v2 : (val.size : Int) ≤ 64
            · by_cases v3 : (!del || val.toList.isEmpty) = true
              · have hgood : Wr.okAt pk ⟨key, del, val⟩ = true := by simp only [Wr.okAt, v0, v1, v2, v3]; decide
                have HG := Lib.hid hgood
                clear hgood
                obtain ⟨w0, w1, w2⟩ := less_yes v0
                clear v0
                cases del with
                | false =>
                  clear v3
                  go_wp2_with fail
                  go_roundw
                  case rel => exact ⟨k + 1, by omega, by go_num, congrArg Value.string (by rw [keyAt_succ (List.getElem?_eq_getElem (by omega)), HQ.out]), fun j h hj => (Nat.lt_succ_iff_lt_or_eq.1 hj).elim (HOK.out j h) (fun e => by subst e; rw [HQ.out, HPK.out]; exact HG.out), hBa _⟩
                  case measure => simp [intOf]; omega
                | true =>
                  have v4 : val.toList = [] := by simpa using v3
                  clear v3
                  go_wp2_with fail
                  go_roundw
                  case rel => exact ⟨k + 1, by omega, by go_num, congrArg Value.string (by rw [keyAt_succ (List.getElem?_eq_getElem (by omega)), HQ.out]), fun j h hj => (Nat.lt_succ_iff_lt_or_eq.1 hj).elim (HOK.out j h) (fun e => by subst e; rw [HQ.out, HPK.out]; exact HG.out), hBa _⟩
                  case measure => simp [intOf]; omega
              · have v4 : del = true ∧ ¬ val.toList = [] := by simpa using v3
                obtain ⟨rfl, v5⟩ := v4
                clear v3
                have hbf : b = false := by
                  cases b with
                  | false => rfl
                  | true =>
                    have := (HB.out.1 rfl).1 k (by omega)
                    rw [HQ.out, HPK.out] at this
                    simp [Wr.okAt] at this
                    simp_all
                subst hbf
                clear HB
                obtain ⟨w0, w1, w2⟩ := less_yes v0
                have v7 : val.toList.isEmpty = false := by simpa using v5
                clear v0
                go_wp2_with fail
                all_goals go_ret
                all_goals exact ⟨rfl, hBa _⟩
            · have hbf : b = false := by
                cases b with
                | false => rfl
                | true =>
                  have := (HB.out.1 rfl).1 k (by omega)
                  rw [HQ.out, HPK.out] at this
                  simp [Wr.okAt] at this
                  omega
              subst hbf
              clear HB
              obtain ⟨w0, w1, w2⟩ := less_yes v0
              clear v0
              have v6 : 64 < (val.size : Int) := by omega
              go_wp2_with fail
              all_goals go_ret
              all_goals exact ⟨rfl, hBa _⟩
          · have hbf : b = false := by
              cases b with
              | false => rfl
              | true =>
                have := (HB.out.1 rfl).1 k (by omega)
                rw [HQ.out, HPK.out] at this
                simp [Wr.okAt] at this
                omega
            subst hbf
            clear HB
            obtain ⟨w0, w1, w2⟩ := less_yes v0
            clear v0
            have v6 : 32 < (key.size : Int) := by omega
            go_wp2_with fail
            all_goals go_ret
            all_goals exact ⟨rfl, hBa _⟩
        · have v0' : Op.bytesLess pk.toList key.toList = false := by simpa using v0
          clear v0
          have hbf : b = false := by
            cases b with
            | false => rfl
            | true =>
              have := (HB.out.1 rfl).1 k (by omega)
              rw [HQ.out, HPK.out] at this
              simp [Wr.okAt, v0'] at this
          subst hbf
          clear HB
          have v1 := less_no v0'
          clear v0'
          go_wp2_with fail
          go_ret
          exact ⟨rfl, hBa _⟩
      · obtain rfl : n = k := by omega
        obtain rfl : b = true := HB.out.2 ⟨fun j h => HOK.out j h (by omega), by omega⟩
        clear HB
        go_wp2_with fail
        go_ret
        exact ⟨rfl, hB⟩
  · have hbf : b = false := by
      cases b with
      | false => rfl
      | true => exact absurd ((HB.out.1 rfl).2) (by omega)
    subst hbf
    clear HB
    have h17 : 16 < (n : Int) := by omega
    go_enter Try.func55, Try.ntmps55
    go_wp2_with fail
    go_ret
    exact ⟨rfl, Below.refl _ _⟩
end
end Go.Proofs.Ytofocdigbcdfaaa
