/- The disk of chapter 6 as plain data, and what holds of it; no program in sight. -/
namespace Go.Proofs.Ytofocdigbcdfaaa.Disk

/-- A slot: its bytes, and how many of them are synced. -/
structure Sl where
  b : List UInt8
  s : Nat

/-- A disk. -/
structure Dk where
  room : Nat
  a : Sl
  b : Sl

/-- A step of a script. -/
structure St where
  kind : Int
  on : Int
  slot : Int
  n : Int
  m : Int
  s : ByteArray

def Sl.cut (s : Sl) (n : Nat) : Sl := ⟨s.b.take n, min s.s n⟩
def Sl.kept (s : Sl) (keep : Int) : Nat := s.s + min keep.toNat (s.b.length - s.s)
def Sl.crash (s : Sl) (keep : Int) : Sl := ⟨s.b.take (s.kept keep), s.kept keep⟩
def Sl.sync (s : Sl) : Sl := ⟨s.b, s.b.length⟩

def Dk.used (d : Dk) : Nat := d.a.b.length + d.b.b.length
def Dk.free (d : Dk) : Nat := d.room - d.used

structure Dk.ok (d : Dk) : Prop where
  sa : d.a.s ≤ d.a.b.length
  sb : d.b.s ≤ d.b.b.length
  fit : d.a.b.length + d.b.b.length ≤ d.room
  top : d.room ≤ 1048576

def Dk.get (d : Dk) (i : Int) : Sl := if i = 0 then d.a else d.b
def Dk.set (d : Dk) (i : Int) (s : Sl) : Dk := if i = 0 then { d with a := s } else { d with b := s }

/-- Is it a slot's number? -/
def right (i : Int) : Prop := i = 0 ∨ i = 1
instance (i : Int) : Decidable (right i) := by unfold right; infer_instance

def roomOf (cap : Int) : Nat := min cap.toNat 1048576
def Dk.new (cap : Int) : Dk := ⟨roomOf cap, ⟨[], 0⟩, ⟨[], 0⟩⟩

def Dk.appE (d : Dk) (i : Int) (s : List UInt8) : Int := if right i then (if s.length ≤ d.free then 0 else 60) else 61
def Dk.app (d : Dk) (i : Int) (s : List UInt8) : Dk := if right i ∧ s.length ≤ d.free then d.set i ⟨(d.get i).b ++ s, (d.get i).s⟩ else d
def Dk.sync (d : Dk) : Dk := { d with a := d.a.sync, b := d.b.sync }
def Dk.bytes (d : Dk) (i : Int) : List UInt8 := if right i then (d.get i).b else []
def Dk.synced (d : Dk) (i : Int) : Nat := if right i then (d.get i).s else 0
def Dk.truncE (d : Dk) (i n : Int) : Int := if right i ∧ 0 ≤ n ∧ n ≤ (d.get i).b.length then 0 else 61
def Dk.trunc (d : Dk) (i n : Int) : Dk := if right i ∧ 0 ≤ n ∧ n ≤ (d.get i).b.length then d.set i ((d.get i).cut n.toNat) else d
def Dk.crash (d : Dk) (k0 k1 : Int) : Dk := { d with a := d.a.crash k0, b := d.b.crash k1 }

def Dk.act (d : Dk) (st : St) : Dk :=
  if st.kind = 2 then d.app st.slot st.s.data.toList
  else if st.kind = 3 then d.sync
  else if st.kind = 6 then d.trunc st.slot st.n
  else if st.kind = 7 then d.trunc st.slot 0
  else if st.kind = 10 then d.crash st.n st.m
  else d

def Dk.acts (d : Dk) (l : List St) : Dk := l.foldl Dk.act d

theorem Sl.kept_le (s : Sl) (h : s.s ≤ s.b.length) (k : Int) : s.s ≤ s.kept k ∧ s.kept k ≤ s.b.length := by
  unfold Sl.kept; omega

theorem Dk.new_ok (c : Int) : (Dk.new c).ok := ⟨Nat.le_refl _, Nat.le_refl _, by simp [Dk.new], by simp only [Dk.new, roomOf]; omega⟩

section
variable {d : Dk} (h : d.ok)
include h

theorem Dk.ok.app (i : Int) (s : List UInt8) : (d.app i s).ok := by
  unfold Dk.app
  have h1 := h.sa; have h2 := h.sb; have h3 := h.fit; have h4 := h.top
  split
  · rename_i hc
    have hf := hc.2
    unfold Dk.free Dk.used at hf
    unfold Dk.set Dk.get
    split
    · exact ⟨by simp; omega, h2, by simp; omega, h4⟩
    · exact ⟨h1, by simp; omega, by simp; omega, h4⟩
  · exact h

theorem Dk.ok.sync : d.sync.ok := ⟨Nat.le_refl _, Nat.le_refl _, h.fit, h.top⟩

theorem Dk.ok.trunc (i n : Int) : (d.trunc i n).ok := by
  unfold Dk.trunc
  have h1 := h.sa; have h2 := h.sb; have h3 := h.fit; have h4 := h.top
  split
  · unfold Dk.set Dk.get Sl.cut
    split
    · exact ⟨by simp [List.length_take]; omega, h2, by simp [List.length_take]; omega, h4⟩
    · exact ⟨h1, by simp [List.length_take]; omega, by simp [List.length_take]; omega, h4⟩
  · exact h

theorem Dk.ok.crash (k0 k1 : Int) : (d.crash k0 k1).ok := by
  have h3 := h.fit; have h4 := h.top
  have ha := d.a.kept_le h.sa k0
  have hb := d.b.kept_le h.sb k1
  unfold Dk.crash Sl.crash
  exact ⟨by simp [List.length_take]; omega, by simp [List.length_take]; omega, by simp [List.length_take]; omega, h4⟩

theorem Dk.ok.act (st : St) : (d.act st).ok := by
  unfold Dk.act
  repeat' split
  · exact h.app _ _
  · exact h.sync
  · exact h.trunc _ _
  · exact h.trunc _ _
  · exact h.crash _ _
  · exact h

end

theorem Dk.ok.acts {d : Dk} (h : d.ok) (l : List St) : (d.acts l).ok := by
  induction l generalizing d with
  | nil => exact h
  | cons x l ih => exact ih (h.act x)

theorem Dk.room_app (d : Dk) (i : Int) (s : List UInt8) : (d.app i s).room = d.room := by unfold Dk.app Dk.set; (repeat' split) <;> rfl
theorem Dk.room_trunc (d : Dk) (i n : Int) : (d.trunc i n).room = d.room := by unfold Dk.trunc Dk.set; (repeat' split) <;> rfl
theorem Dk.room_act (d : Dk) (st : St) : (d.act st).room = d.room := by
  unfold Dk.act; repeat' split
  all_goals first | exact d.room_app _ _ | exact d.room_trunc _ _ | rfl

/-! ### what was synced stays -/

structure Stands (b0 b1 : List UInt8) (d : Dk) : Prop where
  a : b0 <+: d.a.b
  b : b1 <+: d.b.b
  sa : b0.length ≤ d.a.s
  sb : b1.length ≤ d.b.s

theorem prefix_take {l m : List UInt8} (h : l <+: m) {n : Nat} (hn : l.length ≤ n) : l <+: m.take n := by
  obtain ⟨t, rfl⟩ := h
  exact ⟨t.take (n - l.length), by rw [List.take_append, List.take_of_length_le hn]⟩

theorem Stands.sync {b0 b1 : List UInt8} {d : Dk} (h : Stands b0 b1 d) : Stands b0 b1 d.sync :=
  ⟨h.a, h.b, h.a.length_le, h.b.length_le⟩

theorem stands_sync (d : Dk) : Stands d.sync.a.b d.sync.b.b d.sync := ⟨List.prefix_refl _, List.prefix_refl _, Nat.le_refl _, Nat.le_refl _⟩

theorem Stands.app {b0 b1 : List UInt8} {d : Dk} (h : Stands b0 b1 d) (i : Int) (s : List UInt8) : Stands b0 b1 (d.app i s) := by
  unfold Dk.app Dk.set Dk.get
  (repeat' split) <;> first
    | exact h
    | exact ⟨h.a.trans (List.prefix_append _ _), h.b, h.sa, h.sb⟩
    | exact ⟨h.a, h.b.trans (List.prefix_append _ _), h.sa, h.sb⟩

theorem Stands.crash {b0 b1 : List UInt8} {d : Dk} (h : Stands b0 b1 d) (k0 k1 : Int) : Stands b0 b1 (d.crash k0 k1) := by
  have h1 := h.sa; have h2 := h.sb
  unfold Dk.crash Sl.crash
  exact ⟨prefix_take h.a (by unfold Sl.kept; omega), prefix_take h.b (by unfold Sl.kept; omega), by show _ ≤ d.a.kept k0; unfold Sl.kept; omega, by show _ ≤ d.b.kept k1; unfold Sl.kept; omega⟩

/-- may the step cut off what was synced? -/
def St.cuts (s : St) : Bool := (s.kind = 6 ∨ s.kind = 7) ∧ right s.slot

theorem Stands.act {b0 b1 : List UInt8} {d : Dk} (h : Stands b0 b1 d) (st : St) (hc : st.cuts = false) : Stands b0 b1 (d.act st) := by
  unfold St.cuts at hc
  unfold Dk.act
  split
  · exact h.app _ _
  split
  · exact h.sync
  split
  · rename_i h6; have hr : ¬ right st.slot := by simpa [h6] using hc
    unfold Dk.trunc; rw [if_neg (by simp [hr])]; exact h
  split
  · rename_i h6; have hr : ¬ right st.slot := by simpa [h6] using hc
    unfold Dk.trunc; rw [if_neg (by simp [hr])]; exact h
  split
  · exact h.crash _ _
  · exact h

/-- DiskDurable's run behind the sync. -/
def Dk.durs (d : Dk) (l : List St) : Dk := l.foldl (fun d s => if s.cuts then d else d.act s) d

theorem Stands.durs {b0 b1 : List UInt8} (l : List St) : ∀ {d : Dk}, Stands b0 b1 d → Stands b0 b1 (d.durs l) := by
  induction l with
  | nil => exact fun h => h
  | cons x l ih =>
    intro d h
    show Stands b0 b1 (Dk.durs (if x.cuts then d else d.act x) l)
    split
    · exact ih h
    · rename_i hc; exact ih (h.act x (by simpa using hc))

theorem Dk.ok.durs (l : List St) : ∀ {d : Dk}, d.ok → (d.durs l).ok := by
  induction l with
  | nil => exact fun h => h
  | cons x l ih =>
    intro d h
    show (Dk.durs (if x.cuts then d else d.act x) l).ok
    split
    · exact ih h
    · exact ih (h.act x)

/-- The test of a slot in DiskDurable. -/
theorem Stands.tests {b0 b1 : List UInt8} {d : Dk} (h : Stands b0 b1 d) :
    (b0.length ≤ d.a.b.length ∧ d.a.b.take b0.length = b0 ∧ b0.length ≤ d.a.s) ∧ (b1.length ≤ d.b.b.length ∧ d.b.b.take b1.length = b1 ∧ b1.length ≤ d.b.s) :=
  ⟨⟨h.a.length_le, (List.prefix_iff_eq_take.1 h.a).symm, h.sa⟩, ⟨h.b.length_le, (List.prefix_iff_eq_take.1 h.b).symm, h.sb⟩⟩

end Go.Proofs.Ytofocdigbcdfaaa.Disk
