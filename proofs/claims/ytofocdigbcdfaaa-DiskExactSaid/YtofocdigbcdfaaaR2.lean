import Derived.Test.YtofocdigbcdfaaaPairs
namespace Go.Proofs.Ytofocdigbcdfaaa
open Go.RowKit Mem Disk

theorem ownBlock_blk (A : Option Addr) (n c k : Nat) : (Value.slice A n c).ownBlock = some k ↔ blk A k := by
  cases A with
  | none => simp [Value.ownBlock, blk]
  | some a => simp [Value.ownBlock, blk_some]; exact eq_comm

theorem own_kept {w w' : World} {base : Nat} {E : TypeId} {sz : Nat} {A : Option Addr} {m c n : Nat} {xs : List Value} (h : w.ownsRow base E sz (.slice A m c) n xs) (hb : ∀ k, blk A k → w'.heap[k]? = w.heap[k]?) :
    w'.ownsRow base E sz (.slice A m c) n xs := by
  refine ⟨h.1, ?_⟩
  rcases h.2 with h0 | ⟨g, cap, cur, hv, hg, hh, r⟩
  · exact .inl h0
  · refine .inr ⟨g, cap, cur, hv, hg, ?_, r⟩
    injection hv with hA
    rw [hb g (by rw [hA, blk_some]), hh]

theorem own_lt {w : World} {base : Nat} {E : TypeId} {sz : Nat} {A : Option Addr} {m c n : Nat} {xs : List Value} (h : w.ownsRow base E sz (.slice A m c) n xs) : ∀ k, blk A k → base ≤ k ∧ k < w.heap.size :=
  fun k hk => h.lt k ((ownBlock_blk A m c k).2 hk)

theorem own_base {w : World} {base : Nat} {E : TypeId} {sz : Nat} {v : Value} {n : Nat} {xs : List Value} (h : w.ownsRow base E sz v n xs) : w.ownsRow 0 E sz v n xs := by
  refine ⟨h.1, ?_⟩
  rcases h.2 with h0 | ⟨g, cap, cur, hv, _, r⟩
  · exact .inl h0
  · exact .inr ⟨g, cap, cur, hv, Nat.zero_le _, r⟩

theorem own_slice {w : World} {base : Nat} {E : TypeId} {sz : Nat} {v : Value} {n : Nat} {xs : List Value} (h : w.ownsRow base E sz v n xs) : ∃ A c, v = .slice A n c := by
  rcases h.2 with ⟨h0, h1⟩ | ⟨g, cap, cur, hv, _⟩
  · exact ⟨none, 0, by rw [h0, h1]⟩
  · exact ⟨_, _, hv⟩

theorem own_ne {w : World} {base : Nat} {E : TypeId} {sz : Nat} {A : Option Addr} {m c n : Nat} {xs : List Value} (h : w.ownsRow base E sz (.slice A m c) n xs) {d : Nat} {cs : Array Value} {T : TypeId} {fr : Nat × Nat} (hd : w.heap[d]? = some (.cells cs T fr)) (hT : E ≠ T) :
    ∀ k, blk A k → k ≠ d := by
  rintro k hk rfl
  rcases h.2 with ⟨h0, _⟩ | ⟨g, cap, cur, hv, _, hh, _⟩
  · injection h0 with h0; subst h0; exact blk_none _ hk
  · injection hv with hA
    subst hA
    rw [blk_some] at hk
    have hk' : k = g := hk
    subst hk'
    rw [hh] at hd
    injection hd with hd
    injection hd with _ hd _
    exact hT hd

/-- The document's disk in block e. -/
structure RIn (w : World) (e : Nat) (D : Dk) (A0 A1 : Option Addr) (c0 c1 : Nat) : Prop where
  ok : D.ok
  row : w.heap[e]? = some (.cells #[.int .i64 D.room, .slice A0 D.a.b.length c0, .slice A1 D.b.b.length c1] 92 (0, 0))
  b0 : w.ownsRow 0 98 2 (.slice A0 D.a.b.length c0) D.a.b.length (pc (prs D.a))
  b1 : w.ownsRow 0 98 2 (.slice A1 D.b.b.length c1) D.b.b.length (pc (prs D.b))
  apart : ∀ k, blk A0 k → ¬ blk A1 k

def RDsk (w : World) (e : Nat) (D : Dk) (G : Nat → Prop) : Prop := ∃ A0 A1 c0 c1, RIn w e D A0 A1 c0 c1 ∧ G = own e A0 A1
def RGoes (w : World) (e : Nat) (G : Nat → Prop) (D' : Dk) (w' : World) : Prop :=
  ∃ G', RDsk w' e D' G' ∧ Only G w w' ∧ ∀ k, G' k → G k ∨ w.heap.size ≤ k

section
variable {w w' : World} {e : Nat} {D : Dk} {G : Nat → Prop} {A0 A1 : Option Addr} {c0 c1 : Nat}

theorem RIn.lt (h : RIn w e D A0 A1 c0 c1) : e < w.heap.size := (Array.getElem?_eq_some_iff.1 h.row).1
theorem RIn.kept (h : RIn w e D A0 A1 c0 c1) (hd : w'.heap[e]? = w.heap[e]?) (h0 : ∀ k, blk A0 k → w'.heap[k]? = w.heap[k]?) (h1 : ∀ k, blk A1 k → w'.heap[k]? = w.heap[k]?) : RIn w' e D A0 A1 c0 c1 :=
  ⟨h.ok, hd.trans h.row, own_kept h.b0 h0, own_kept h.b1 h1, h.apart⟩
theorem RIn.cells (h : RIn w e D A0 A1 c0 c1) :
    w.cell? ⟨e, 0, none⟩ = some (.int .i64 D.room) ∧ w.cell? ⟨e, 1, none⟩ = some (.slice A0 D.a.b.length c0) ∧ w.cell? ⟨e, 2, none⟩ = some (.slice A1 D.b.b.length c1) ∧ (∀ i, w.frozen? ⟨e, i, none⟩ = false) := by
  have hc := (cellsAt h.row).1
  exact ⟨hc 0, hc 1, hc 2, (cellsAt h.row).2⟩
theorem RIn.own_lt (h : RIn w e D A0 A1 c0 c1) : ∀ k, own e A0 A1 k → k < w.heap.size := by
  rintro k (rfl | hk | hk)
  · exact h.lt
  · exact (Go.Proofs.Ytofocdigbcdfaaa.own_lt h.b0 k hk).2
  · exact (Go.Proofs.Ytofocdigbcdfaaa.own_lt h.b1 k hk).2
theorem RIn.dsk (h : RIn w e D A0 A1 c0 c1) : RDsk w e D (own e A0 A1) := ⟨A0, A1, c0, c1, h, rfl⟩
theorem RDsk.ok (h : RDsk w e D G) : D.ok := by obtain ⟨_, _, _, _, h, _⟩ := h; exact h.ok
theorem RDsk.lt (h : RDsk w e D G) : ∀ k, G k → k < w.heap.size := by obtain ⟨_, _, _, _, h, rfl⟩ := h; exact h.own_lt
theorem RDsk.kept (h : RDsk w e D G) (hb : ∀ k, G k → w'.heap[k]? = w.heap[k]?) : RDsk w' e D G := by
  obtain ⟨A0, A1, c0, c1, h, rfl⟩ := h
  exact (h.kept (hb e (.inl rfl)) (fun k hk => hb k (.inr (.inl hk))) (fun k hk => hb k (.inr (.inr hk)))).dsk
theorem RDsk.only {S : Nat → Prop} (h : RDsk w e D G) (ho : Only S w w') (hd : ∀ k, G k → ¬ S k) : RDsk w' e D G := h.kept fun k hk => ho.block k (h.lt k hk) (hd k hk)
theorem RDsk.below (h : RDsk w e D G) (hb : Below w.heap.size w w') : RDsk w' e D G := h.kept fun k hk => hb.block k (h.lt k hk)
theorem RDsk.drew (h : RDsk w e D G) : RDsk w.drew e D G := h.kept fun _ _ => rfl
theorem RDsk.drewN (h : RDsk w e D G) (n : Nat) : RDsk (w.drewN n) e D G := h.kept fun _ _ => rfl
theorem RDsk.goes (h : RDsk w e D G) : RGoes w e G D w := ⟨G, h, Only.refl _ _, fun _ hk => .inl hk⟩
theorem RGoes.after {D' : Dk} {w1 : World} (h : RGoes w1 e G D' w') (hb : Below w.heap.size w w1) : RGoes w e G D' w' := by
  obtain ⟨F', g1, g2, g3⟩ := h
  exact ⟨F', g1, (Only.of_below hb).trans g2 (fun _ _ h => h), fun k hk => (g3 k hk).imp id (fun h => Nat.le_trans hb.size h)⟩
theorem RGoes.drewN {D' : Dk} (h : RGoes w e G D' w') (n : Nat) : RGoes w e G D' (w'.drewN n) := by
  obtain ⟨F', g1, g2, g3⟩ := h
  exact ⟨F', g1.drewN n, g2.drewN n, g3⟩
theorem RGoes.drew {D' : Dk} (h : RGoes w e G D' w') : RGoes w e G D' w'.drew := by
  obtain ⟨F', g1, g2, g3⟩ := h
  exact ⟨F', g1.drew, g2.drew, g3⟩
theorem RGoes.trans {D1 D2 : Dk} {w1 w2 : World} (h : RGoes w e G D1 w1) (h2 : ∀ G', RDsk w1 e D1 G' → RGoes w1 e G' D2 w2) : RGoes w e G D2 w2 := by
  obtain ⟨G1, a1, a2, a3⟩ := h
  obtain ⟨G2, b1, b2, b3⟩ := h2 G1 a1
  refine ⟨G2, b1, a2.trans b2 (fun i hi hG1 => (a3 i hG1).elim id (fun h => by omega)), fun k hk => (b3 k hk).elim (fun h => a3 k h) (fun h => .inr (Nat.le_trans a2.size h))⟩

set_option maxHeartbeats 400000 in
theorem right_yes {i : Int} (h : right i) (w : World) : Calls Try.prog 56 #[.int .i64 i] w fun e w' => e = .returned (.bool true) ∧ w = w' := by
  rcases h with rfl | rfl
  · go_enter Try.func56, Try.ntmps56
    go_wp2
    go_ret
    exact ⟨rfl, rfl⟩
  · go_enter Try.func56, Try.ntmps56
    go_wp2
    go_ret
    exact ⟨rfl, rfl⟩

set_option maxHeartbeats 400000 in
theorem right_no {i : Int} (h : ¬ right i) (w : World) : Calls Try.prog 56 #[.int .i64 i] w fun e w' => e = .returned (.bool false) ∧ w = w' := by
  have h0 : (i == 0) = false := beq_eq_false_iff_ne.2 (fun e => h (.inl e))
  have h1 : (i == 1) = false := beq_eq_false_iff_ne.2 (fun e => h (.inr e))
  go_enter Try.func56, Try.ntmps56
  go_wp2
  go_ret
  exact ⟨rfl, rfl⟩

set_option maxHeartbeats 400000 in
theorem rnew_at (c : Int) (w : World) (e : Nat) (he : w.heap.size = e) :
    Calls Try.prog 25 #[.int .i64 c] w fun x w' => x = .returned (.pointer (some ⟨e, 0, none⟩)) ∧ RGoes w e (fun _ => False) (Dk.new c) w' := by
  subst he
  have hG : RGoes w w.heap.size (fun _ => False) (Dk.new c) (w.alloc (.cells #[.int .i64 (roomOf c), .slice none 0 0, .slice none 0 0] 92)) := by
    refine ⟨own w.heap.size none none, ⟨none, none, 0, 0, ⟨Dk.new_ok c, heap_alloc_new w _, ⟨rfl, .inl ⟨rfl, rfl⟩⟩, ⟨rfl, .inl ⟨rfl, rfl⟩⟩, fun k h => (blk_none k h).elim⟩, rfl⟩, (Only.refl _ _).alloc _, ?_⟩
    rintro k (rfl | hk | hk)
    · exact .inr (Nat.le_refl _)
    · exact (blk_none k hk).elim
    · exact (blk_none k hk).elim
  by_cases h0 : c < 0
  · have hr : ((roomOf c : Nat) : Int) = 0 := by unfold roomOf; omega
    rw [hr] at hG
    clear hr
    go_enter Try.func25, Try.ntmps25
    go_wp2
    go_ret
    exact ⟨rfl, hG⟩
  · by_cases h1 : 1048576 < c
    · have hr : ((roomOf c : Nat) : Int) = 1048576 := by unfold roomOf; omega
      rw [hr] at hG
      clear hr
      go_enter Try.func25, Try.ntmps25
      go_wp2
      go_ret
      exact ⟨rfl, hG⟩
    · have hr : ((roomOf c : Nat) : Int) = c := by unfold roomOf; omega
      rw [hr] at hG
      clear hr
      go_enter Try.func25, Try.ntmps25
      go_wp2
      go_ret
      exact ⟨rfl, hG⟩

set_option maxHeartbeats 400000 in
theorem rused_any (h : RDsk w e D G) (u : Int) (hu : (D.used : Int) = u) :
    Calls Try.prog 47 #[.pointer (some ⟨e, 0, none⟩)] w fun x w' => x = .returned (.int .i64 u) ∧ ∃ n, w' = w.drewN n := by
  obtain ⟨A0, A1, c0, c1, hI, rfl⟩ := h
  obtain ⟨q0, q1, q2, fz⟩ := hI.cells
  have h1 := hI.ok.fit; have h2 := hI.ok.top
  have hu' : (D.a.b.length : Int) + D.b.b.length = u := by rw [← hu]; simp [Dk.used]
  have HU := Lib.hid hu'
  clear hu hu'
  go_enter Try.func47, Try.ntmps47
  go_wp2_with fail
  go_quiet (fail)
  go_wp2_with fail
  go_ret
  exact ⟨ret_int (by rw [← HU.out]), ⟨_, rfl⟩⟩

set_option maxHeartbeats 400000 in
theorem rfree_any (h : RDsk w e D G) (u : Int) (hu : (D.free : Int) = u) :
    Calls Try.prog 48 #[.pointer (some ⟨e, 0, none⟩)] w fun x w' => x = .returned (.int .i64 u) ∧ ∃ n, w' = w.drewN n := by
  have hD := h
  obtain ⟨A0, A1, c0, c1, hI, rfl⟩ := h
  obtain ⟨q0, q1, q2, fz⟩ := hI.cells
  have h1 := hI.ok.fit; have h2 := hI.ok.top
  have hu' : (D.room : Int) - D.used = u := by rw [← hu]; unfold Dk.free Dk.used; omega
  have hl : D.used ≤ D.room := h1
  have HU := Lib.hid hu'
  clear hu hu'
  go_enter Try.func48, Try.ntmps48
  go_wp2_with fail
  go_quiet ((go_at_call 47; exact Calls.quiet_of (rused_any (hD.drewN _) _ rfl)))
  go_wp2_with fail
  go_ret
  exact ⟨ret_int (by rw [← HU.out]), ⟨_, rfl⟩⟩
end
end Go.Proofs.Ytofocdigbcdfaaa
