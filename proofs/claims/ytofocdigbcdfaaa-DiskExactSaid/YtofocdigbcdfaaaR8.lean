/- The contract of does: both disks take one step. -/
import Derived.Test.YtofocdigbcdfaaaR6
import Derived.Test.YtofocdigbcdfaaaR7
namespace Go.Proofs.Ytofocdigbcdfaaa
open Go.RowKit Mem Disk

/-- What a step makes of a disk. -/
def Disk.Dk.does (d : Dk) (st : St) : Dk :=
  if st.kind = 2 then d.app st.slot st.s.data.toList
  else if st.kind = 3 then d.sync
  else if st.kind = 6 then d.trunc st.slot st.n
  else if st.kind = 7 then d.trunc st.slot 0
  else if st.kind = 10 then d.crash st.n st.m
  else d

section
variable {w w1 w' : World} {d e : Nat} {D D' : Dk} {F G : Nat → Prop}

/-- The disk and the document's disk, side by side. -/
structure Duo (w : World) (d e : Nat) (D : Dk) (F G : Nat → Prop) : Prop where
  hd : Dsk w d D F
  hr : RDsk w e D G
  ap : ∀ k, F k → ¬ G k

def DGoes (w : World) (d e : Nat) (F G : Nat → Prop) (D' : Dk) (w' : World) : Prop :=
  ∃ F' G', Duo w' d e D' F' G' ∧ Only (fun k => F k ∨ G k) w w' ∧ (∀ k, F' k → F k ∨ w.heap.size ≤ k) ∧ ∀ k, G' k → G k ∨ w.heap.size ≤ k

theorem Mem.Only.wide {S T : Nat → Prop} (h : Only S w w') (hs : ∀ k, S k → T k) : Only T w w' := ⟨h.os, h.tape, h.output, h.size, fun k hk ht => h.block k hk (fun h' => ht (hs k h'))⟩

theorem Duo.goes (h : Duo w d e D F G) : DGoes w d e F G D w := ⟨F, G, h, Only.refl _ _, fun _ h => .inl h, fun _ h => .inl h⟩
theorem Duo.kept (h : Duo w d e D F G) (hb : Below w.heap.size w w') : Duo w' d e D F G := ⟨h.hd.below hb, h.hr.below hb, h.ap⟩
theorem DGoes.after (h : DGoes w1 d e F G D' w') (hb : Below w.heap.size w w1) : DGoes w d e F G D' w' := by
  obtain ⟨F', G', h1, h2, h3, h4⟩ := h
  exact ⟨F', G', h1, (Only.of_below hb).trans h2 (fun _ _ h => h), fun k hk => (h3 k hk).imp id (fun h => Nat.le_trans hb.size h), fun k hk => (h4 k hk).imp id (fun h => Nat.le_trans hb.size h)⟩
/-- The disk first, then the document's. -/
theorem Duo.left (h : Duo w d e D F G) (hg : Goes w d F D' w1) : RDsk w1 e D G ∧ ∀ w2, RGoes w1 e G D' w2 → DGoes w d e F G D' w2 := by
  obtain ⟨F', a1, a2, a3⟩ := hg
  have hl := h.hr.lt
  refine ⟨h.hr.only a2 (fun k hk hf => h.ap k hf hk), ?_⟩
  rintro w2 ⟨G', b1, b2, b3⟩
  have hFG : ∀ k, F' k → ¬ G k := fun k hk hg => (a3 k hk).elim (fun h' => h.ap k h' hg) (fun h' => by have := hl k hg; omega)
  refine ⟨F', G', ⟨a1.only b2 (fun k hk hg => hFG k hk hg), b1, fun k hk hg => (b3 k hg).elim (hFG k hk) (fun h' => by have := a1.lt k hk; omega)⟩, ?_, a3, fun k hk => (b3 k hk).imp id (fun h' => Nat.le_trans a2.size h')⟩
  exact (a2.wide fun _ => .inl).trans (b2.wide fun _ => .inr) (fun _ _ h => h)
/-- The document's disk first. -/
theorem Duo.right (h : Duo w d e D F G) (hg : RGoes w e G D' w1) : Dsk w1 d D F ∧ ∀ w2, Goes w1 d F D' w2 → DGoes w d e F G D' w2 := by
  obtain ⟨G', a1, a2, a3⟩ := hg
  have hl := h.hd.lt
  refine ⟨h.hd.only a2 (fun k hk hf => h.ap k hk hf), ?_⟩
  rintro w2 ⟨F', b1, b2, b3⟩
  have hFG : ∀ k, G' k → ¬ F k := fun k hk hg => (a3 k hk).elim (fun h' => h.ap k hg h') (fun h' => by have := hl k hg; omega)
  refine ⟨F', G', ⟨b1, a1.only b2 (fun k hk hg => hFG k hk hg), fun k hk hg => (b3 k hk).elim (hFG k hg) (fun h' => by have := a1.lt k hg; omega)⟩, ?_, fun k hk => (b3 k hk).imp id (fun h' => Nat.le_trans a2.size h'), a3⟩
  exact (a2.wide fun _ => .inr).trans (b2.wide fun _ => .inl) (fun _ _ h => h)

theorem Goes.cell (hg : Goes w d F D' w1) {p : Addr} {v : Value} (hp : p.block < w.heap.size) (hn : ¬ F p.block) (hc : w.cell? p = some v) : w1.cell? p = some v := by
  obtain ⟨F', a1, a2, a3⟩ := hg
  exact (a2.cell hp hn).trans hc
theorem RGoes.cell (hg : RGoes w e G D' w1) {p : Addr} {v : Value} (hp : p.block < w.heap.size) (hn : ¬ G p.block) (hc : w.cell? p = some v) : w1.cell? p = some v := by
  obtain ⟨F', a1, a2, a3⟩ := hg
  exact (a2.cell hp hn).trans hc

theorem Goes.size (hg : Goes w d F D' w1) : w.heap.size ≤ w1.heap.size := by obtain ⟨_, _, h, _⟩ := hg; exact h.size
theorem RGoes.size (hg : RGoes w e G D' w1) : w.heap.size ≤ w1.heap.size := by obtain ⟨_, _, h, _⟩ := hg; exact h.size

theorem trunc_is (h : Dsk w d D F) (i n x : Int) (hx : D.truncE i n = x) :
    Calls Try.prog 30 #[.pointer (some ⟨d, 0, none⟩), .int .i64 i, .int .i64 n] w fun e w' => e = .returned (.int .i64 x) ∧ Goes w d F (D.trunc i n) w' := by
  subst hx; exact trunc_any h i n
theorem remove_is (h : Dsk w d D F) (i x : Int) (hx : D.truncE i 0 = x) :
    Calls Try.prog 31 #[.pointer (some ⟨d, 0, none⟩), .int .i64 i] w fun e w' => e = .returned (.int .i64 x) ∧ Goes w d F (D.trunc i 0) w' := by
  subst hx; exact remove_any h i
theorem qleft {P : Program} {f : FuncId} {args : Array Value} {w : World} {n : Nat} {v : Value}
    (h : Calls P f args (w.drewN n) fun e w' => e = .returned v ∧ w.drewN n = w') : Calls P f args (w.drewN n) fun e w'' => e = .returned v ∧ ∃ m, w'' = w.drewN m :=
  h.mono fun _ _ ⟨he, hm⟩ => ⟨he, n, hm.symm⟩
theorem rsynced_is (h : RDsk w e D G) (i x : Int) (hx : (D.synced i : Int) = x) :
    Calls Try.prog 44 #[.pointer (some ⟨e, 0, none⟩), .int .i64 i] w fun y w' => y = .returned (.int .i64 x) ∧ w = w' := by
  subst hx; exact rsynced_any h i

set_option maxRecDepth 100000 in
set_option maxHeartbeats 1000000 in
theorem does_2 (h : Duo w d e D F G) (on slot n m : Int) (s : ByteArray) :
    Calls Try.prog 28 #[.pointer (some ⟨d, 0, none⟩), .pointer (some ⟨e, 0, none⟩), .agg #[.int .i64 2, .int .i64 on, .int .i64 slot, .int .i64 n, .int .i64 m, .string s]] w fun y w' => y = .returned (.bool true) ∧ DGoes w d e F G (D.app slot s.data.toList) w' := by
  have hb0 : Below w.heap.size w (w.alloc (.cells #[.int .i64 2, .int .i64 on, .int .i64 slot, .int .i64 n, .int .i64 m, .string s] 29 (0, 0))) := (Below.refl _ _).alloc (Nat.le_refl _) _
  have h00 := h.kept hb0
  have h0 := h.kept hb0.drew
  have nF : ¬ F w.heap.size := fun hf => by have := h.hd.lt _ hf; omega
  have nG : ¬ G w.heap.size := fun hf => by have := h.hr.lt _ hf; omega
  obtain ⟨x, hx⟩ : ∃ x, D.appE slot s.data.toList = x := ⟨_, rfl⟩
  have c2 : (w.alloc (.cells #[.int .i64 2, .int .i64 on, .int .i64 slot, .int .i64 n, .int .i64 m, .string s] 29 (0, 0))).drew.cell? ⟨w.heap.size, 2, none⟩ = some (.int .i64 slot) := by simp [go_sem]
  have c5 : (w.alloc (.cells #[.int .i64 2, .int .i64 on, .int .i64 slot, .int .i64 n, .int .i64 m, .string s] 29 (0, 0))).drew.cell? ⟨w.heap.size, 5, none⟩ = some (.string s) := by simp [go_sem]
  have bl : w.heap.size < (w.alloc (.cells #[.int .i64 2, .int .i64 on, .int .i64 slot, .int .i64 n, .int .i64 m, .string s] 29 (0, 0))).drew.heap.size := by simp
  go_enter Try.func28, Try.ntmps28
  go_wp2_with fail
  go_region_held3 (fun w' => w'.cell? ⟨w.heap.size, 2, none⟩ = some (.int .i64 slot) ∧ w'.cell? ⟨w.heap.size, 5, none⟩ = some (.string s)) (first | exact ⟨c2, c5⟩ | exact ⟨z2, z5⟩ | exact ⟨y2, y5⟩)
    (first
     | (go_at_call 13; refine (append_is h0.hd slot s x hx).mono ?_; rintro y w2 ⟨rfl, hg⟩; have z2 := hg.cell (p := ⟨w.heap.size, 2, none⟩) bl nF c2; have z5 := hg.cell (p := ⟨w.heap.size, 5, none⟩) bl nF c5; have bl2 := Nat.lt_of_lt_of_le bl hg.size; obtain ⟨hq, hfin⟩ := h0.left hg)
     | (go_at_call 41; refine (rappend_any h0.hr slot s x hx).mono ?_; rintro y w2 ⟨rfl, hg⟩; have z2 := hg.cell (p := ⟨w.heap.size, 2, none⟩) bl nG c2; have z5 := hg.cell (p := ⟨w.heap.size, 5, none⟩) bl nG c5; have bl2 := Nat.lt_of_lt_of_le bl hg.size; obtain ⟨hq, hfin⟩ := h0.right hg)
     | (go_at_call 13; refine (append_is hq slot s x hx).mono ?_; rintro y w3 ⟨rfl, hg2⟩; have y2 := hg2.cell (p := ⟨w.heap.size, 2, none⟩) bl2 nF z2; have y5 := hg2.cell (p := ⟨w.heap.size, 5, none⟩) bl2 nF z5; have hend := hfin _ hg2)
     | (go_at_call 41; refine (rappend_any hq slot s x hx).mono ?_; rintro y w3 ⟨rfl, hg2⟩; have y2 := hg2.cell (p := ⟨w.heap.size, 2, none⟩) bl2 nG z2; have y5 := hg2.cell (p := ⟨w.heap.size, 5, none⟩) bl2 nG z5; have hend := hfin _ hg2))
  all_goals go_wp2_with fail
  all_goals go_ret
  all_goals exact ⟨rfl, hend.after hb0.drew⟩

set_option maxRecDepth 100000 in
set_option maxHeartbeats 1000000 in
theorem does_6 (h : Duo w d e D F G) (on slot n m : Int) (s : ByteArray) :
    Calls Try.prog 28 #[.pointer (some ⟨d, 0, none⟩), .pointer (some ⟨e, 0, none⟩), .agg #[.int .i64 6, .int .i64 on, .int .i64 slot, .int .i64 n, .int .i64 m, .string s]] w fun y w' => y = .returned (.bool true) ∧ DGoes w d e F G (D.trunc slot n) w' := by
  have hb0 : Below w.heap.size w (w.alloc (.cells #[.int .i64 6, .int .i64 on, .int .i64 slot, .int .i64 n, .int .i64 m, .string s] 29 (0, 0))) := (Below.refl _ _).alloc (Nat.le_refl _) _
  have h00 := h.kept hb0
  have h0 := h.kept hb0.drew
  have nF : ¬ F w.heap.size := fun hf => by have := h.hd.lt _ hf; omega
  have nG : ¬ G w.heap.size := fun hf => by have := h.hr.lt _ hf; omega
  obtain ⟨x, hx⟩ : ∃ x, D.truncE slot n = x := ⟨_, rfl⟩
  have c2 : (w.alloc (.cells #[.int .i64 6, .int .i64 on, .int .i64 slot, .int .i64 n, .int .i64 m, .string s] 29 (0, 0))).drew.cell? ⟨w.heap.size, 2, none⟩ = some (.int .i64 slot) := by simp [go_sem]
  have c3 : (w.alloc (.cells #[.int .i64 6, .int .i64 on, .int .i64 slot, .int .i64 n, .int .i64 m, .string s] 29 (0, 0))).drew.cell? ⟨w.heap.size, 3, none⟩ = some (.int .i64 n) := by simp [go_sem]
  have bl : w.heap.size < (w.alloc (.cells #[.int .i64 6, .int .i64 on, .int .i64 slot, .int .i64 n, .int .i64 m, .string s] 29 (0, 0))).drew.heap.size := by simp
  go_enter Try.func28, Try.ntmps28
  go_wp2_with fail
  go_region_held3 (fun w' => w'.cell? ⟨w.heap.size, 2, none⟩ = some (.int .i64 slot) ∧ w'.cell? ⟨w.heap.size, 3, none⟩ = some (.int .i64 n)) (first | exact ⟨c2, c3⟩ | exact ⟨z2, z3⟩ | exact ⟨y2, y3⟩)
    (first
     | (go_at_call 30; refine (trunc_is h0.hd slot n x hx).mono ?_; rintro y w2 ⟨rfl, hg⟩; have z2 := hg.cell (p := ⟨w.heap.size, 2, none⟩) bl nF c2; have z3 := hg.cell (p := ⟨w.heap.size, 3, none⟩) bl nF c3; have bl2 := Nat.lt_of_lt_of_le bl hg.size; obtain ⟨hq, hfin⟩ := h0.left hg)
     | (go_at_call 45; refine (rtrunc_any h0.hr slot n x hx).mono ?_; rintro y w2 ⟨rfl, hg⟩; have z2 := hg.cell (p := ⟨w.heap.size, 2, none⟩) bl nG c2; have z3 := hg.cell (p := ⟨w.heap.size, 3, none⟩) bl nG c3; have bl2 := Nat.lt_of_lt_of_le bl hg.size; obtain ⟨hq, hfin⟩ := h0.right hg)
     | (go_at_call 30; refine (trunc_is hq slot n x hx).mono ?_; rintro y w3 ⟨rfl, hg2⟩; have y2 := hg2.cell (p := ⟨w.heap.size, 2, none⟩) bl2 nF z2; have y3 := hg2.cell (p := ⟨w.heap.size, 3, none⟩) bl2 nF z3; have hend := hfin _ hg2)
     | (go_at_call 45; refine (rtrunc_any hq slot n x hx).mono ?_; rintro y w3 ⟨rfl, hg2⟩; have y2 := hg2.cell (p := ⟨w.heap.size, 2, none⟩) bl2 nG z2; have y3 := hg2.cell (p := ⟨w.heap.size, 3, none⟩) bl2 nG z3; have hend := hfin _ hg2))
  all_goals go_wp2_with fail
  all_goals go_ret
  all_goals exact ⟨rfl, hend.after hb0.drew⟩

set_option maxRecDepth 100000 in
set_option maxHeartbeats 1000000 in
theorem does_7 (h : Duo w d e D F G) (on slot n m : Int) (s : ByteArray) :
    Calls Try.prog 28 #[.pointer (some ⟨d, 0, none⟩), .pointer (some ⟨e, 0, none⟩), .agg #[.int .i64 7, .int .i64 on, .int .i64 slot, .int .i64 n, .int .i64 m, .string s]] w fun y w' => y = .returned (.bool true) ∧ DGoes w d e F G (D.trunc slot 0) w' := by
  have hb0 : Below w.heap.size w (w.alloc (.cells #[.int .i64 7, .int .i64 on, .int .i64 slot, .int .i64 n, .int .i64 m, .string s] 29 (0, 0))) := (Below.refl _ _).alloc (Nat.le_refl _) _
  have h00 := h.kept hb0
  have h0 := h.kept hb0.drew
  have nF : ¬ F w.heap.size := fun hf => by have := h.hd.lt _ hf; omega
  have nG : ¬ G w.heap.size := fun hf => by have := h.hr.lt _ hf; omega
  obtain ⟨x, hx⟩ : ∃ x, D.truncE slot 0 = x := ⟨_, rfl⟩
  have c2 : (w.alloc (.cells #[.int .i64 7, .int .i64 on, .int .i64 slot, .int .i64 n, .int .i64 m, .string s] 29 (0, 0))).drew.cell? ⟨w.heap.size, 2, none⟩ = some (.int .i64 slot) := by simp [go_sem]
  have bl : w.heap.size < (w.alloc (.cells #[.int .i64 7, .int .i64 on, .int .i64 slot, .int .i64 n, .int .i64 m, .string s] 29 (0, 0))).drew.heap.size := by simp
  go_enter Try.func28, Try.ntmps28
  go_wp2_with fail
  go_region_held3 (fun w' => w'.cell? ⟨w.heap.size, 2, none⟩ = some (.int .i64 slot)) (first | exact c2 | exact z2 | exact y2)
    (first
     | (go_at_call 31; refine (remove_is h0.hd slot x hx).mono ?_; rintro y w2 ⟨rfl, hg⟩; have z2 := hg.cell (p := ⟨w.heap.size, 2, none⟩) bl nF c2; have bl2 := Nat.lt_of_lt_of_le bl hg.size; obtain ⟨hq, hfin⟩ := h0.left hg)
     | (go_at_call 46; refine (rremove_any h0.hr slot x hx).mono ?_; rintro y w2 ⟨rfl, hg⟩; have z2 := hg.cell (p := ⟨w.heap.size, 2, none⟩) bl nG c2; have bl2 := Nat.lt_of_lt_of_le bl hg.size; obtain ⟨hq, hfin⟩ := h0.right hg)
     | (go_at_call 31; refine (remove_is hq slot x hx).mono ?_; rintro y w3 ⟨rfl, hg2⟩; have y2 := hg2.cell (p := ⟨w.heap.size, 2, none⟩) bl2 nF z2; have hend := hfin _ hg2)
     | (go_at_call 46; refine (rremove_any hq slot x hx).mono ?_; rintro y w3 ⟨rfl, hg2⟩; have y2 := hg2.cell (p := ⟨w.heap.size, 2, none⟩) bl2 nG z2; have hend := hfin _ hg2))
  all_goals go_wp2_with fail
  all_goals go_ret
  all_goals exact ⟨rfl, hend.after hb0.drew⟩

set_option maxRecDepth 100000 in
set_option maxHeartbeats 1000000 in
theorem does_3 (h : Duo w d e D F G) (on slot n m : Int) (s : ByteArray) :
    Calls Try.prog 28 #[.pointer (some ⟨d, 0, none⟩), .pointer (some ⟨e, 0, none⟩), .agg #[.int .i64 3, .int .i64 on, .int .i64 slot, .int .i64 n, .int .i64 m, .string s]] w fun y w' => y = .returned (.bool true) ∧ DGoes w d e F G (D.sync) w' := by
  have hb0 : Below w.heap.size w (w.alloc (.cells #[.int .i64 3, .int .i64 on, .int .i64 slot, .int .i64 n, .int .i64 m, .string s] 29 (0, 0))) := (Below.refl _ _).alloc (Nat.le_refl _) _
  have h00 := h.kept hb0
  have h0 := h.kept hb0.drew
  have nF : ¬ F w.heap.size := fun hf => by have := h.hd.lt _ hf; omega
  have nG : ¬ G w.heap.size := fun hf => by have := h.hr.lt _ hf; omega
  go_enter Try.func28, Try.ntmps28
  go_wp2_with (first
     | (go_at_call 20; refine (sync_any h00.hd).mono ?_; rintro y w2 ⟨rfl, hg⟩; obtain ⟨hq, hfin⟩ := h00.left hg)
     | (go_at_call 42; refine (rsync_any hq).mono ?_; rintro y w3 ⟨rfl, hg2⟩; have hend := hfin _ hg2))
  go_ret
  exact ⟨rfl, hend.after hb0⟩

set_option maxRecDepth 100000 in
set_option maxHeartbeats 1000000 in
theorem does_10 (h : Duo w d e D F G) (on slot n m : Int) (s : ByteArray) (n0 : -9223372036854775808 ≤ n) (n1 : n ≤ 9223372036854775807) (m0 : -9223372036854775808 ≤ m) (m1 : m ≤ 9223372036854775807) :
    Calls Try.prog 28 #[.pointer (some ⟨d, 0, none⟩), .pointer (some ⟨e, 0, none⟩), .agg #[.int .i64 10, .int .i64 on, .int .i64 slot, .int .i64 n, .int .i64 m, .string s]] w fun y w' => y = .returned (.bool true) ∧ DGoes w d e F G (D.crash n m) w' := by
  have hb0 : Below w.heap.size w (w.alloc (.cells #[.int .i64 10, .int .i64 on, .int .i64 slot, .int .i64 n, .int .i64 m, .string s] 29 (0, 0))) := (Below.refl _ _).alloc (Nat.le_refl _) _
  have h00 := h.kept hb0
  have h0 := h.kept hb0.drew
  have nF : ¬ F w.heap.size := fun hf => by have := h.hd.lt _ hf; omega
  have nG : ¬ G w.heap.size := fun hf => by have := h.hr.lt _ hf; omega
  have c3 : (w.alloc (.cells #[.int .i64 10, .int .i64 on, .int .i64 slot, .int .i64 n, .int .i64 m, .string s] 29 (0, 0))).cell? ⟨w.heap.size, 3, none⟩ = some (.int .i64 n) := by simp [go_sem]
  have c4 : (w.alloc (.cells #[.int .i64 10, .int .i64 on, .int .i64 slot, .int .i64 n, .int .i64 m, .string s] 29 (0, 0))).cell? ⟨w.heap.size, 4, none⟩ = some (.int .i64 m) := by simp [go_sem]
  have bl : w.heap.size < (w.alloc (.cells #[.int .i64 10, .int .i64 on, .int .i64 slot, .int .i64 n, .int .i64 m, .string s] 29 (0, 0))).heap.size := by simp
  go_enter Try.func28, Try.ntmps28
  go_wp2_with (first
     | (go_at_call 24; refine (crash_any h00.hd n m).mono ?_; rintro y w2 ⟨rfl, hg⟩; have z3 := hg.cell (p := ⟨w.heap.size, 3, none⟩) bl nF c3; have z4 := hg.cell (p := ⟨w.heap.size, 4, none⟩) bl nF c4; obtain ⟨hq, hfin⟩ := h00.left hg)
     | (go_at_call 49; refine (rcrash_any hq n m n0 n1 m0 m1).mono ?_; rintro y w3 ⟨rfl, hg2⟩; have hend := hfin _ hg2))
  go_ret
  exact ⟨rfl, hend.after hb0⟩

set_option maxRecDepth 100000 in
set_option maxHeartbeats 1000000 in
theorem does_4 (h : Duo w d e D F G) (on slot n m : Int) (s : ByteArray) :
    Calls Try.prog 28 #[.pointer (some ⟨d, 0, none⟩), .pointer (some ⟨e, 0, none⟩), .agg #[.int .i64 4, .int .i64 on, .int .i64 slot, .int .i64 n, .int .i64 m, .string s]] w fun y w' => y = .returned (.bool true) ∧ DGoes w d e F G (D) w' := by
  have hb0 : Below w.heap.size w (w.alloc (.cells #[.int .i64 4, .int .i64 on, .int .i64 slot, .int .i64 n, .int .i64 m, .string s] 29 (0, 0))) := (Below.refl _ _).alloc (Nat.le_refl _) _
  have h00 := h.kept hb0
  have h0 := h.kept hb0.drew
  have nF : ¬ F w.heap.size := fun hf => by have := h.hd.lt _ hf; omega
  have nG : ¬ G w.heap.size := fun hf => by have := h.hr.lt _ hf; omega
  obtain ⟨x, hx⟩ : ∃ x, str (D.bytes slot) = x := ⟨_, rfl⟩
  have c2 : (w.alloc (.cells #[.int .i64 4, .int .i64 on, .int .i64 slot, .int .i64 n, .int .i64 m, .string s] 29 (0, 0))).drew.cell? ⟨w.heap.size, 2, none⟩ = some (.int .i64 slot) := by simp [go_sem]
  have bl : w.heap.size < (w.alloc (.cells #[.int .i64 4, .int .i64 on, .int .i64 slot, .int .i64 n, .int .i64 m, .string s] 29 (0, 0))).drew.heap.size := by simp
  go_enter Try.func28, Try.ntmps28
  go_wp2_with fail
  go_region_held3 (fun w' => w'.cell? ⟨w.heap.size, 2, none⟩ = some (.int .i64 slot)) (first | exact c2 | exact z2)
    (first
     | (go_at_call 12; refine (bytes_is h0.hd slot x hx).mono ?_; rintro y w2 ⟨rfl, rfl⟩)
     | (go_at_call 43; refine (rbytes_any h0.hr slot x hx).mono ?_; rintro y w3 ⟨rfl, hb3⟩; have hk := h0.kept hb3; have z2 := (hb3.cell (p := ⟨w.heap.size, 2, none⟩) bl).trans c2)
     | (go_at_call 12; refine (bytes_is hk.hd slot x hx).mono ?_; rintro y w2 ⟨rfl, rfl⟩))
  all_goals go_wp2_with fail
  all_goals go_ret
  all_goals exact ⟨rfl, (hk.goes.after hb3).after hb0.drew⟩

set_option maxRecDepth 100000 in
set_option maxHeartbeats 1000000 in
theorem does_5 (h : Duo w d e D F G) (on slot n m : Int) (s : ByteArray) :
    Calls Try.prog 28 #[.pointer (some ⟨d, 0, none⟩), .pointer (some ⟨e, 0, none⟩), .agg #[.int .i64 5, .int .i64 on, .int .i64 slot, .int .i64 n, .int .i64 m, .string s]] w fun y w' => y = .returned (.bool true) ∧ DGoes w d e F G (D) w' := by
  have hb0 : Below w.heap.size w (w.alloc (.cells #[.int .i64 5, .int .i64 on, .int .i64 slot, .int .i64 n, .int .i64 m, .string s] 29 (0, 0))) := (Below.refl _ _).alloc (Nat.le_refl _) _
  have h00 := h.kept hb0
  have h0 := h.kept hb0.drew
  have nF : ¬ F w.heap.size := fun hf => by have := h.hd.lt _ hf; omega
  have nG : ¬ G w.heap.size := fun hf => by have := h.hr.lt _ hf; omega
  obtain ⟨x, hx⟩ : ∃ x, (D.synced slot : Int) = x := ⟨_, rfl⟩
  have hqn : ∀ k, Duo ((w.alloc (.cells #[.int .i64 5, .int .i64 on, .int .i64 slot, .int .i64 n, .int .i64 m, .string s] 29 (0, 0))).drewN k) d e D F G := fun k => ⟨h00.hd.kept fun _ _ => rfl, h00.hr.drewN k, h00.ap⟩
  go_enter Try.func28, Try.ntmps28
  go_wp2_with fail
  go_quiet ((first | (go_at_call 21; exact qleft (synced_at (hqn _).hd slot x hx)) | (go_at_call 44; exact qleft (rsynced_is (hqn _).hr slot x hx))))
  go_wp2_with fail
  go_ret
  exact ⟨rfl, (hqn _).goes.after (below_drewN hb0 _)⟩

set_option maxRecDepth 100000 in
set_option maxHeartbeats 1000000 in
theorem does_8 (h : Duo w d e D F G) (on slot n m : Int) (s : ByteArray) :
    Calls Try.prog 28 #[.pointer (some ⟨d, 0, none⟩), .pointer (some ⟨e, 0, none⟩), .agg #[.int .i64 8, .int .i64 on, .int .i64 slot, .int .i64 n, .int .i64 m, .string s]] w fun y w' => y = .returned (.bool true) ∧ DGoes w d e F G (D) w' := by
  have hb0 : Below w.heap.size w (w.alloc (.cells #[.int .i64 8, .int .i64 on, .int .i64 slot, .int .i64 n, .int .i64 m, .string s] 29 (0, 0))) := (Below.refl _ _).alloc (Nat.le_refl _) _
  have h00 := h.kept hb0
  have h0 := h.kept hb0.drew
  have nF : ¬ F w.heap.size := fun hf => by have := h.hd.lt _ hf; omega
  have nG : ¬ G w.heap.size := fun hf => by have := h.hr.lt _ hf; omega
  obtain ⟨x, hx⟩ : ∃ x, (D.used : Int) = x := ⟨_, rfl⟩
  go_enter Try.func28, Try.ntmps28
  go_wp2_with (first
     | (go_at_call 14; refine (used_is h00.hd x hx).mono ?_; rintro y w2 ⟨rfl, hb2⟩; have hk := h00.kept hb2)
     | (go_at_call 47; refine (rused_any hk.hr x hx).mono ?_; rintro y w3 ⟨rfl, nq, rfl⟩))
  go_ret
  exact ⟨rfl, (show Duo (w2.drewN nq) d e D F G from ⟨hk.hd.kept fun _ _ => rfl, hk.hr.drewN nq, hk.ap⟩).goes.after (below_drewN (hb0.trans (hb2.mono (by simp))) _)⟩

set_option maxRecDepth 100000 in
set_option maxHeartbeats 1000000 in
theorem does_9 (h : Duo w d e D F G) (on slot n m : Int) (s : ByteArray) :
    Calls Try.prog 28 #[.pointer (some ⟨d, 0, none⟩), .pointer (some ⟨e, 0, none⟩), .agg #[.int .i64 9, .int .i64 on, .int .i64 slot, .int .i64 n, .int .i64 m, .string s]] w fun y w' => y = .returned (.bool true) ∧ DGoes w d e F G (D) w' := by
  have hb0 : Below w.heap.size w (w.alloc (.cells #[.int .i64 9, .int .i64 on, .int .i64 slot, .int .i64 n, .int .i64 m, .string s] 29 (0, 0))) := (Below.refl _ _).alloc (Nat.le_refl _) _
  have h00 := h.kept hb0
  have h0 := h.kept hb0.drew
  have nF : ¬ F w.heap.size := fun hf => by have := h.hd.lt _ hf; omega
  have nG : ¬ G w.heap.size := fun hf => by have := h.hr.lt _ hf; omega
  obtain ⟨x, hx⟩ : ∃ x, (D.free : Int) = x := ⟨_, rfl⟩
  go_enter Try.func28, Try.ntmps28
  go_wp2_with (first
     | (go_at_call 10; refine (free_is h00.hd x hx).mono ?_; rintro y w2 ⟨rfl, hb2⟩; have hk := h00.kept hb2)
     | (go_at_call 48; refine (rfree_any hk.hr x hx).mono ?_; rintro y w3 ⟨rfl, nq, rfl⟩))
  go_ret
  exact ⟨rfl, (show Duo (w2.drewN nq) d e D F G from ⟨hk.hd.kept fun _ _ => rfl, hk.hr.drewN nq, hk.ap⟩).goes.after (below_drewN (hb0.trans (hb2.mono (by simp))) _)⟩

set_option maxRecDepth 100000 in
set_option maxHeartbeats 1000000 in
theorem does_any (h : Duo w d e D F G) (kind on slot n m : Int) (s : ByteArray) (n0 : -9223372036854775808 ≤ n) (n1 : n ≤ 9223372036854775807) (m0 : -9223372036854775808 ≤ m) (m1 : m ≤ 9223372036854775807) :
    Calls Try.prog 28 #[.pointer (some ⟨d, 0, none⟩), .pointer (some ⟨e, 0, none⟩), .agg #[.int .i64 kind, .int .i64 on, .int .i64 slot, .int .i64 n, .int .i64 m, .string s]] w fun y w' => y = .returned (.bool true) ∧ DGoes w d e F G (D.does ⟨kind, on, slot, n, m, s⟩) w' := by
  by_cases h2 : kind = 2
  · subst h2
    have hD : D.does ⟨2, on, slot, n, m, s⟩ = D.app slot s.data.toList := by simp [Dk.does]
    rw [hD]; exact does_2 h on slot n m s
  by_cases h3 : kind = 3
  · subst h3
    have hD : D.does ⟨3, on, slot, n, m, s⟩ = D.sync := by simp [Dk.does]
    rw [hD]; exact does_3 h on slot n m s
  by_cases h4 : kind = 4
  · subst h4
    have hD : D.does ⟨4, on, slot, n, m, s⟩ = D := by simp [Dk.does]
    rw [hD]; exact does_4 h on slot n m s
  by_cases h5 : kind = 5
  · subst h5
    have hD : D.does ⟨5, on, slot, n, m, s⟩ = D := by simp [Dk.does]
    rw [hD]; exact does_5 h on slot n m s
  by_cases h6 : kind = 6
  · subst h6
    have hD : D.does ⟨6, on, slot, n, m, s⟩ = D.trunc slot n := by simp [Dk.does]
    rw [hD]; exact does_6 h on slot n m s
  by_cases h7 : kind = 7
  · subst h7
    have hD : D.does ⟨7, on, slot, n, m, s⟩ = D.trunc slot 0 := by simp [Dk.does]
    rw [hD]; exact does_7 h on slot n m s
  by_cases h8 : kind = 8
  · subst h8
    have hD : D.does ⟨8, on, slot, n, m, s⟩ = D := by simp [Dk.does]
    rw [hD]; exact does_8 h on slot n m s
  by_cases h9 : kind = 9
  · subst h9
    have hD : D.does ⟨9, on, slot, n, m, s⟩ = D := by simp [Dk.does]
    rw [hD]; exact does_9 h on slot n m s
  by_cases h10 : kind = 10
  · subst h10
    have hD : D.does ⟨10, on, slot, n, m, s⟩ = D.crash n m := by simp [Dk.does]
    rw [hD]; exact does_10 h on slot n m s n0 n1 m0 m1
  have hD : D.does ⟨kind, on, slot, n, m, s⟩ = D := by simp [Dk.does, h2, h3, h6, h7, h10]
  rw [hD]; clear hD
  have b2 : (kind == 2) = false := beq_eq_false_iff_ne.2 h2
  have b3 : (kind == 3) = false := beq_eq_false_iff_ne.2 h3
  have b4 : (kind == 4) = false := beq_eq_false_iff_ne.2 h4
  have b5 : (kind == 5) = false := beq_eq_false_iff_ne.2 h5
  have b6 : (kind == 6) = false := beq_eq_false_iff_ne.2 h6
  have b7 : (kind == 7) = false := beq_eq_false_iff_ne.2 h7
  have b8 : (kind == 8) = false := beq_eq_false_iff_ne.2 h8
  have b9 : (kind == 9) = false := beq_eq_false_iff_ne.2 h9
  have b10 : (kind == 10) = false := beq_eq_false_iff_ne.2 h10
  clear h2 h3 h4 h5 h6 h7 h8 h9 h10
  have hb0 : Below w.heap.size w (w.alloc (.cells #[.int .i64 kind, .int .i64 on, .int .i64 slot, .int .i64 n, .int .i64 m, .string s] 29 (0, 0))) := (Below.refl _ _).alloc (Nat.le_refl _) _
  have h00 := h.kept hb0
  go_enter Try.func28, Try.ntmps28
  go_wp2_with fail
  go_ret
  exact ⟨rfl, h00.goes.after hb0⟩
end
end Go.Proofs.Ytofocdigbcdfaaa
