/- Words for memory: what a call leaves untouched, and a slice of bytes that reads as a list, with the laws of append, copy, make and string conversion. -/
import Derived.WalkKit
import Derived.Deep.AppendSrc
import Derived.Laws.BytesString
import Derived.Laws.BytesArg
import Derived.Laws.CopyOwn
import Derived.Deep.Draws
namespace Go.Proofs.Ytofocdigbcdfaaa.Mem
open Go.RowKit

/-- From w to w' only the blocks in S may have turned (and blocks are added). -/
structure Only (S : Nat → Prop) (w w' : World) : Prop where
  os : w'.os = w.os
  tape : w'.tape = w.tape
  output : w'.output = w.output
  size : w.heap.size ≤ w'.heap.size
  block : ∀ k, k < w.heap.size → ¬ S k → w'.heap[k]? = w.heap[k]?

theorem Only.refl (S : Nat → Prop) (w : World) : Only S w w := ⟨rfl, rfl, rfl, Nat.le_refl _, fun _ _ _ => rfl⟩

theorem Only.trans {S T : Nat → Prop} {a b c : World} (h : Only S a b) (k : Only T b c) (hST : ∀ i, i < a.heap.size → T i → S i) : Only S a c :=
  ⟨k.os.trans h.os, k.tape.trans h.tape, k.output.trans h.output, Nat.le_trans h.size k.size,
    fun i hi hs => (k.block i (Nat.lt_of_lt_of_le hi h.size) (fun ht => hs (hST i hi ht))).trans (h.block i hi hs)⟩

theorem Only.mono {S T : Nat → Prop} {a b : World} (h : Only S a b) (hST : ∀ i, i < a.heap.size → S i → T i) : Only T a b :=
  ⟨h.os, h.tape, h.output, h.size, fun i hi ht => h.block i hi (fun hs => ht (hST i hi hs))⟩

theorem Only.drew {S : Nat → Prop} {a b : World} (h : Only S a b) : Only S a b.drew := ⟨h.os, h.tape, h.output, h.size, h.block⟩
theorem Only.drewN {S : Nat → Prop} {a b : World} (h : Only S a b) (n : Nat) : Only S a (b.drewN n) := ⟨h.os, h.tape, h.output, h.size, h.block⟩

theorem Only.alloc {S : Nat → Prop} {a b : World} (h : Only S a b) (o : Obj) : Only S a (b.alloc o) :=
  ⟨h.os, h.tape, h.output, Nat.le_trans h.size (by simp), fun i hi hs => (Below.heap_alloc b o i (Nat.lt_of_lt_of_le hi h.size)).trans (h.block i hi hs)⟩

theorem Only.setCell {S : Nat → Prop} {a b : World} (h : Only S a b) {p : Addr} (hp : p.block < a.heap.size → S p.block) (u : Value) : Only S a (b.setCell p u) :=
  ⟨h.os, h.tape, h.output, by simpa [World.setCell] using h.size, fun i hi hs => (Below.heap_setCell b p u i (by rintro rfl; exact hs (hp hi))).trans (h.block i hi hs)⟩

theorem Only.below {S : Nat → Prop} {a b : World} {B : Nat} (h : Only S a b) (hB : B ≤ a.heap.size) (hS : ∀ k, S k → B ≤ k) : Below B a b :=
  ⟨h.os, h.tape, h.output, h.size, fun k hk => h.block k (by omega) (fun hs => by have := hS k hs; omega)⟩

theorem Only.of_below {S : Nat → Prop} {a b : World} (h : Below a.heap.size a b) : Only S a b :=
  ⟨h.os, h.tape, h.output, h.size, fun k hk _ => h.block k hk⟩

theorem Only.cell {S : Nat → Prop} {a b : World} (h : Only S a b) {p : Addr} (hp : p.block < a.heap.size) (hs : ¬ S p.block) : b.cell? p = a.cell? p :=
  World.cell?_of_block (w := a) (h.block p.block hp hs)


/-- The blocks that a slice's address names. -/
def blk (A : Option Addr) (k : Nat) : Prop := ∃ a, A = some a ∧ a.block = k

theorem blk_none (k : Nat) : ¬ blk none k := by rintro ⟨a, h, _⟩; cases h
theorem blk_some (a : Addr) (k : Nat) : blk (some a) k ↔ k = a.block := ⟨fun ⟨b, h, e⟩ => by injection h with h; subst h; exact e.symm, fun h => ⟨a, rfl, h.symm⟩⟩

/-- A byte as a cell. -/
def u8 (x : UInt8) : Value := .int .u8 x.toNat
def u8s (b : List UInt8) : List Value := b.map u8

/-- A text as Go's string. -/
def str (b : List UInt8) : ByteArray := ⟨b.toArray⟩
theorem str_size (b : List UInt8) : (str b).size = b.length := by simp [str, ByteArray.size]
theorem str_data (b : List UInt8) : (str b).data.toList = b := rfl
theorem str_of (s : ByteArray) : str s.data.toList = s := by cases s; simp [str]
theorem str_inj {a b : List UInt8} (h : str a = str b) : a = b := by simpa [str] using h

/-- The slice value '.slice A n cap' of bytes (E: byte's type) holds b. Its block is its own from the head on. -/
structure Bts (E : TypeId) (w : World) (A : Option Addr) (n cap : Nat) (b : List UInt8) : Prop where
  len : b.length = n
  le : n ≤ cap
  top : cap ≤ maxLen
  row : (A = none ∧ cap = 0) ∨ ∃ g cur, A = some ⟨g, 0, none⟩ ∧ w.heap[g]? = some (.cells cur E (0, 0)) ∧ cap ≤ cur.size ∧ cur.toList.take n = u8s b

theorem Bts.nil (E : TypeId) (w : World) : Bts E w none 0 0 [] := ⟨rfl, Nat.le_refl _, Nat.zero_le _, .inl ⟨rfl, rfl⟩⟩

section
variable {E : TypeId} {w w' : World} {A : Option Addr} {n cap : Nat} {b : List UInt8}

theorem Bts.lt (h : Bts E w A n cap b) : ∀ k, blk A k → k < w.heap.size := by
  intro k hk
  rcases h.row with ⟨rfl, _⟩ | ⟨g, cur, rfl, hg, _⟩
  · exact absurd hk (blk_none k)
  · rw [blk_some] at hk; subst hk; exact (Array.getElem?_eq_some_iff.1 hg).1

theorem Bts.kept (h : Bts E w A n cap b) (hb : ∀ k, blk A k → w'.heap[k]? = w.heap[k]?) : Bts E w' A n cap b := by
  refine ⟨h.len, h.le, h.top, ?_⟩
  rcases h.row with h0 | ⟨g, cur, rfl, hg, r⟩
  · exact .inl h0
  · exact .inr ⟨g, cur, rfl, (hb g ((blk_some _ _).2 rfl)).trans hg, r⟩

theorem Bts.only {S : Nat → Prop} (h : Bts E w A n cap b) (ho : Only S w w') (hS : ∀ k, blk A k → ¬ S k) : Bts E w' A n cap b :=
  h.kept fun k hk => ho.block k (h.lt k hk) (hS k hk)

/-- Its block is no block of another element type. -/
theorem Bts.ne (h : Bts E w A n cap b) {d : Nat} {cs : Array Value} {T : TypeId} {fr : Nat × Nat} (hd : w.heap[d]? = some (.cells cs T fr)) (hT : E ≠ T) : ∀ k, blk A k → k ≠ d := by
  rintro k hk rfl
  rcases h.row with ⟨rfl, _⟩ | ⟨g, cur, rfl, hg, _⟩
  · exact blk_none _ hk
  · rw [blk_some] at hk
    have hk' : k = g := hk
    subst hk'
    rw [hg] at hd
    injection hd with hd
    injection hd with _ hd _
    exact hT hd

theorem Bts.cut (h : Bts E w A n cap b) {m : Nat} (hm : m ≤ n) : Bts E w A m m (b.take m) := by
  refine ⟨by rw [List.length_take, h.len]; omega, Nat.le_refl _, Nat.le_trans hm (Nat.le_trans h.le h.top), ?_⟩
  rcases h.row with ⟨rfl, rfl⟩ | ⟨g, cur, rfl, hg, hc, ht⟩
  · have := h.le; exact .inl ⟨rfl, by omega⟩
  · refine .inr ⟨g, cur, rfl, hg, by have := h.le; omega, ?_⟩
    have e : cur.toList.take m = (cur.toList.take n).take m := by rw [List.take_take, Nat.min_eq_left hm]
    rw [e, ht, u8s, u8s, List.map_take]

theorem Bts.cell (h : Bts E w A n cap b) {j : Nat} (hj : j < n) : ∃ g, A = some ⟨g, 0, none⟩ ∧ w.cell? ⟨g, j, none⟩ = some (u8 (b.getD j 0)) := by
  rcases h.row with ⟨rfl, h0⟩ | ⟨g, cur, rfl, hg, hc, ht⟩
  · have := h.le; omega
  · refine ⟨g, rfl, ?_⟩
    rw [cell_of_row w g j cur E (0, 0) hg]
    have e : (cur.toList.take n)[j]? = (u8s b)[j]? := by rw [ht]
    have hl := h.len
    rw [List.getElem?_take, if_pos hj, Array.getElem?_toList, u8s, List.getElem?_map] at e
    rw [e]
    simp [List.getElem?_eq_getElem (show j < b.length by omega)]

end

section
variable {P : Program} {E : TypeId} {w : World} {A : Option Addr} {n cap : Nat} {b : List UInt8}

theorem Bts.loads (h : Bts E w A n cap b) {A' : Addr} (hA : A = some A') : (loadCells A' n).run P w = .ok (u8s b).toArray w := by
  rcases h.row with ⟨rfl, _⟩ | ⟨g, cur, rfl, hg, hc, ht⟩
  · cases hA
  · injection hA with hA
    subst hA
    have := run_loadCells_list (P := P) w ⟨g, 0, none⟩ (u8s b) (fun j v hj => by
      have hplain : (⟨g, 0, none⟩ : Addr).add j = ⟨g, j, none⟩ := by unfold Addr.add; split <;> simp_all
      have hjn : j < n := by
        rcases Nat.lt_or_ge j n with h' | h'
        · exact h'
        · rw [List.getElem?_eq_none (by simp [u8s, h.len]; omega)] at hj; cases hj
      rw [hplain, cell_of_row w g j cur E (0, 0) hg, ← hj, ← ht, List.getElem?_take, if_pos hjn, Array.getElem?_toList])
    rw [show (u8s b).length = n from by simp [u8s, h.len]] at this
    exact this

theorem u8s_nums (b : List UInt8) : u8s b = (b.map fun x => (x.toNat : Int)).map (Value.int .u8) := by simp [u8s, u8]

/-- string(xs) of a slice of bytes. -/
theorem Bts.toString (h : Bts E w A n cap b) (src : TypeId) (hs : P.underlying src = some (.slice E)) (he : P.underlying E = some (.int .u8)) (dst : TypeId) (hd : P.underlying dst = some .string) :
    (convert src dst (.slice A n cap)).run P w = .ok (.string (str b)) w := by
  rw [run_convert_bytes_string w src dst E _ n cap hs he hd]
  rcases hA : A with _ | A'
  · subst hA
    have : b = [] := by
      rcases h.row with ⟨_, h0⟩ | ⟨g, cur, hA, _⟩
      · have h1 := h.le; have h2 := h.len; exact List.eq_nil_of_length_eq_zero (by omega)
      · cases hA
    subst this
    simp [Conv.bytesToString, str]
    rfl
  · have hl := h.loads (P := P) hA
    rw [u8s_nums] at hl
    rw [run_bytesToString w _ n cap _ hl, foldl_push_bytes]
    congr 2
    simp [str, ByteArray.empty, ByteArray.emptyWithCapacity]
    rw [show ((fun n : Int => UInt8.ofNat n.toNat) ∘ fun x : UInt8 => (x.toNat : Int)) = id from by funext x; simp]
    simp
    rfl

/-- append(xs, s...), s a string. -/
theorem Bts.append (h : Bts E w A n cap b) (t tx ty : TypeId) (i : TypeInfo) (ht : P.underlying t = some (.slice E)) (htx : P.underlying tx = some .string) (hi : P.info? E = some i) (hz : i.zero = some (.int .u8 0))
    (hsz : i.size = 1) (hby : i.bytes = 1) (s : ByteArray) (hn : n + s.size ≤ 1099511627776) :
    ∃ A' cap' w', (Builtin.append_ #[t, tx] ty #[.slice A n cap, .string s]).run P w = .ok (.slice A' (n + s.size) cap') w' ∧ Bts E w' A' (n + s.size) cap' (b ++ s.data.toList) ∧
      Only (blk A) w w' ∧ (A' = A ∨ A' = some ⟨w.heap.size, 0, none⟩) := by
  have hbc : byteCells s = u8s s.data.toList := rfl
  have hlen : (b ++ s.data.toList).length = n + s.size := by rw [List.length_append, h.len]; rfl
  by_cases hroom : n + s.size ≤ cap
  · rcases h.row with ⟨rfl, h0⟩ | ⟨g, cur, rfl, hg, hc, htk⟩
    · have hs0 : s.size = 0 := by omega
      have hn0 : n = 0 := by omega
      subst hn0
      have hb : b = [] := List.eq_nil_of_length_eq_zero h.len
      have hsd : s.data.toList = [] := List.eq_nil_of_length_eq_zero (by simpa using hs0)
      subst hb
      refine ⟨none, cap, w, ?_, ⟨hlen, hroom, h.top, .inl ⟨rfl, h0⟩⟩, Only.refl _ _, .inl rfl⟩
      simp [Builtin.append_, run_underlying ht, run_underlying htx, sizeOf, typeInfo, hi, Builtin.lenOf, hs0, Builtin.firstCells]
    · have hcl : n * 1 + (byteCells s).length ≤ cur.size := by rw [byteCells_length]; omega
      have hf := (Src.ofString (P := P) w htx s).cells
      have hst := run_storeCells_at P g (n * 1) E (byteCells s) 0 cur w hg (by simpa using hcl) (Src.ofString (P := P) w htx s).one
      simp only [Nat.add_zero, Nat.mul_one] at hst
      refine ⟨some ⟨g, 0, none⟩, cap, _, ?_, ⟨hlen, hroom, h.top, .inr ⟨g, _, rfl, setRow_heap w g cur (cur.toList.take n ++ byteCells s ++ cur.toList.drop (n + (byteCells s).length)).toArray E (0, 0) hg, ?_, ?_⟩⟩, ?_, .inl rfl⟩
      · simp [Builtin.append_, run_underlying ht, run_underlying htx, sizeOf, typeInfo, hi, Builtin.lenOf, hroom, hsz, hf, Addr.add_lit, hst]
      · simp only [List.size_toArray, List.length_append, List.length_take, List.length_drop, Array.length_toList]
        rw [byteCells_length] at hcl ⊢
        omega
      · have e : n + s.size = (cur.toList.take n ++ byteCells s).length := by
          rw [List.length_append, byteCells_length, htk]; simp [u8s, h.len]
        rw [e, List.take_left, htk, hbc, u8s, u8s, u8s, List.map_append]
      · exact ⟨rfl, rfl, rfl, by simp, fun k _ hk => setRow_other w g k _ (fun e => hk ((blk_some _ _).2 e))⟩
  · have holds : (Builtin.firstCells i.size n (.slice A n cap)).run P w.drew = .ok (u8s b).toArray w.drew := by
      rcases hA : A with _ | A'
      · subst hA
        have : b = [] := by
          rcases h.row with ⟨_, h0⟩ | ⟨g, cur, hA, _⟩
          · have h1 := h.le; have h2 := h.len; exact List.eq_nil_of_length_eq_zero (by omega)
          · cases hA
        subst this
        simp [Builtin.firstCells, u8s]
      · have h' : Bts E w.drew A n cap b := h.kept fun _ _ => rfl
        simp only [Builtin.firstCells, hsz, Nat.mul_one]
        exact h'.loads hA
    have hS := Src.ofString (P := P) w htx s
    rw [← hsz] at hS
    have hr := run_append_grow_src (P := P) w t tx ty E i (.int .u8 0) ht hi hz A n cap (u8s b) holds (.string s) s.size (byteCells s) hS (by omega) (by omega)
      (by have := growslice_fits (need := n + s.size) (old := cap) (bytes := i.bytes) (by omega) (by rw [hby]; omega); exact this)
    refine ⟨_, _, _, hr, ⟨hlen, ?_, grownCap_le_maxLen w (n + s.size) cap E (by simp only [maxLen]; omega), .inr ⟨w.heap.size, _, rfl, heap_alloc_new w.drew _, ?_, ?_⟩⟩, ?_, .inr rfl⟩
    · exact grownCap_ge w (n + s.size) cap E
    · have hge := grownCap_ge w (n + s.size) cap E
      simp only [Array.size_append, List.size_toArray, size_zeroCells, List.length_append, byteCells_length]
      rw [show (u8s b).length = n from by simp [u8s, h.len]]
      simp [Value.cells]
      omega
    · have e : n + s.size = (u8s b ++ byteCells s).length := by rw [List.length_append, byteCells_length]; simp [u8s, h.len]
      rw [Array.toList_append, e]
      rw [show ((u8s b ++ byteCells s).toArray).toList = u8s b ++ byteCells s from rfl, List.take_left, hbc, u8s, u8s, u8s, List.map_append]
    · exact ((Only.refl (blk A) w).drew).alloc _


theorem wp_append_bts {o : Oper} {a : Act} {K : Act → World → Prop} {Q : Exit → Act → World → Prop} (s x : Operand) (t tx : TypeId)
    (ho : o.op = .call { callee := .builtin .append, args := #[s, x], argTypes := #[t, tx] })
    (i : TypeInfo) (ht : P.underlying t = some (.slice E)) (htx : P.underlying tx = some .string) (hi : P.info? E = some i) (hz : i.zero = some (.int .u8 0)) (hsz : i.size = 1) (hby : i.bytes = 1)
    (hs : a.eval s = .slice A n cap) (h : Bts E w A n cap b) (y : ByteArray) (hx : a.eval x = .string y) (hn : n + y.size ≤ 1099511627776)
    (hK : ∀ A' cap' w', Bts E w' A' (n + y.size) cap' (b ++ y.data.toList) → Only (blk A) w w' → (A' = A ∨ A' = some ⟨w.heap.size, 0, none⟩) → K (a.put o.dst (.slice A' (n + y.size) cap')) w') : o.wp P a w K Q := by
  obtain ⟨A', cap', w', hr, h1, h2, h3⟩ := h.append (P := P) t tx o.type i ht htx hi hz hsz hby y hn
  unfold Oper.wp execOp
  simp only [ho, resolve, invoke, builtin, Sem.run_bind, Sem.run_pure, Result.andThen_ok, List.map_toArray, List.map_cons, List.map_nil, hs, hx, hr]
  exact hK A' cap' w' h1 h2 h3

theorem wpList_append_bts {ops : Array Oper} {rest : List Oper} {o : Oper} {a : Act} {Q : Exit → Act → World → Prop} (hgd : o.guard = none) (s x : Operand) (t tx : TypeId)
    (ho : o.op = .call { callee := .builtin .append, args := #[s, x], argTypes := #[t, tx] })
    (i : TypeInfo) (ht : P.underlying t = some (.slice E)) (htx : P.underlying tx = some .string) (hi : P.info? E = some i) (hz : i.zero = some (.int .u8 0)) (hsz : i.size = 1) (hby : i.bytes = 1)
    (hs : a.eval s = .slice A n cap) (h : Bts E w A n cap b) (y : ByteArray) (hx : a.eval x = .string y) (hn : n + y.size ≤ 1099511627776)
    (hK : ∀ A' cap' w', Bts E w' A' (n + y.size) cap' (b ++ y.data.toList) → Only (blk A) w w' → (A' = A ∨ A' = some ⟨w.heap.size, 0, none⟩) → wpList P ops Q rest (a.put o.dst (.slice A' (n + y.size) cap')) w') : wpList P ops Q (o :: rest) a w :=
  wpList_plain hgd fun _ hk => wp_append_bts s x t tx ho i ht htx hi hz hsz hby hs h y hx hn fun A' cap' w' h1 h2 h3 => hk _ _ (hK A' cap' w' h1 h2 h3)

theorem step_append_bts {ops : Array Oper} {o : Oper} {a : Act} {K : Act → World → Prop} {Q : Exit → Act → World → Prop} {Z : Prop} (hgd : o.guard = none) (s x : Operand) (t tx : TypeId)
    (ho : o.op = .call { callee := .builtin .append, args := #[s, x], argTypes := #[t, tx] })
    (i : TypeInfo) (ht : P.underlying t = some (.slice E)) (htx : P.underlying tx = some .string) (hi : P.info? E = some i) (hz : i.zero = some (.int .u8 0)) (hsz : i.size = 1) (hby : i.bytes = 1)
    (hs : a.eval s = .slice A n cap) (h : Bts E w A n cap b) (y : ByteArray) (hx : a.eval x = .string y) (hn : n + y.size ≤ 1099511627776)
    (hK : ∀ A' cap' w', Bts E w' A' (n + y.size) cap' (b ++ y.data.toList) → Only (blk A) w w' → (A' = A ∨ A' = some ⟨w.heap.size, 0, none⟩) → K (a.put o.dst (.slice A' (n + y.size) cap')) w') :
    if Region.wanted o (yielded ops a.tmps) = true then Oper.wp P o a w K Q else Z := by
  have hw : Region.wanted o (yielded ops a.tmps) = true := by simp [Region.wanted, hgd]
  rw [if_pos hw]
  exact wp_append_bts s x t tx ho i ht htx hi hz hsz hby hs h y hx hn hK


/-- copy(ys, xs), ys a row of its own, as long as xs. -/
theorem Bts.copies (h : Bts E w A n cap b) (t ty : TypeId) (i : TypeInfo) (ht : P.underlying t = some (.slice E)) (hi : P.info? E = some i) (hsz : i.size = 1)
    (g : Nat) (cur : Array Value) (hg : w.heap[g]? = some (.cells cur E (0, 0))) (hc : cur.size = n) (c' : Nat) (hc' : n ≤ c' ∧ c' ≤ cur.size) :
    ∃ w', (Builtin.copy_ #[t, t] ty #[.slice (some ⟨g, 0, none⟩) n c', .slice A n cap]).run P w = .ok (goInt n) w' ∧ Bts E w' (some ⟨g, 0, none⟩) n c' b ∧ Only (· = g) w w' := by
  have hlen : (u8s b).length = n := by simp [u8s, h.len]
  have htop := h.top; have hle := h.le
  rcases hA : A with _ | A'
  · subst hA
    have hb : b = [] := by
      rcases h.row with ⟨_, h0⟩ | ⟨g, cur, hA, _⟩
      · have h1 := h.le; have h2 := h.len; exact List.eq_nil_of_length_eq_zero (by omega)
      · cases hA
    subst hb
    have hn : n = 0 := by simpa using h.len.symm
    subst hn
    refine ⟨w, ?_, ⟨rfl, hc'.1, by omega, .inr ⟨g, cur, rfl, hg, hc'.2, by simp [u8s]⟩⟩, Only.refl _ _⟩
    simp [Builtin.copy_, run_underlying ht, Builtin.lenOf, Builtin.firstCells, sizeOf, typeInfo, hi, storeCells]
  · have hl := h.loads (P := P) hA
    subst hA
    have hst := run_storeCells_at P g 0 E (u8s b) 0 cur w hg (by rw [hlen]; omega) (by intro v hv; obtain ⟨x, _, rfl⟩ := List.mem_map.1 hv; rfl)
    simp only [Nat.add_zero, List.take_zero, List.nil_append] at hst
    refine ⟨_, ?_, ⟨h.len, hc'.1, by omega, .inr ⟨g, _, rfl, setRow_heap w g cur (u8s b ++ cur.toList.drop (0 + (u8s b).length)).toArray E (0, 0) hg, ?_, ?_⟩⟩, ⟨rfl, rfl, rfl, by simp, fun k _ hk => setRow_other w g k _ hk⟩⟩
    · simp [Builtin.copy_, run_underlying ht, Builtin.lenOf, Builtin.firstCells, sizeOf, typeInfo, hi, hsz, hl, hst]
    · simp only [List.size_toArray, List.length_append, List.length_drop, Array.length_toList, hlen]
      omega
    · have e : n = (u8s b).length := hlen.symm
      rw [e, List.take_left]

theorem step_copy_bts {ops : Array Oper} {o : Oper} {a : Act} {K : Act → World → Prop} {Q : Exit → Act → World → Prop} {Z : Prop} (hgd : o.guard = none) (s x : Operand) (t : TypeId)
    (ho : o.op = .call { callee := .builtin .copy, args := #[s, x], argTypes := #[t, t] })
    (i : TypeInfo) (ht : P.underlying t = some (.slice E)) (hi : P.info? E = some i) (hsz : i.size = 1)
    (hx : a.eval x = .slice A n cap) (h : Bts E w A n cap b) (g : Nat) (cur : Array Value) (hg : w.heap[g]? = some (.cells cur E (0, 0))) (hc : cur.size = n) (c' : Nat) (hc' : n ≤ c' ∧ c' ≤ cur.size)
    (hs : a.eval s = .slice (some ⟨g, 0, none⟩) n c')
    (hK : ∀ w', Bts E w' (some ⟨g, 0, none⟩) n c' b → Only (· = g) w w' → K (a.put o.dst (goInt n)) w') :
    if Region.wanted o (yielded ops a.tmps) = true then Oper.wp P o a w K Q else Z := by
  have hw : Region.wanted o (yielded ops a.tmps) = true := by simp [Region.wanted, hgd]
  rw [if_pos hw]
  obtain ⟨w', hr, h1, h2⟩ := h.copies (P := P) t o.type i ht hi hsz g cur hg hc c' hc'
  unfold Oper.wp execOp
  simp only [ho, resolve, invoke, builtin, Sem.run_bind, Sem.run_pure, Result.andThen_ok, List.map_toArray, List.map_cons, List.map_nil, hs, hx, hr]
  exact hK w' h1 h2

/-- make([]byte, n). -/
theorem run_make_bts (t : TypeId) (i : TypeInfo) (ht : P.underlying t = some (.slice E)) (hi : P.info? E = some i) (hz : i.zero = some (.int .u8 0)) (hsz : i.size = 1) (hby : i.bytes = 1) (n : Nat) (hn : n ≤ 1099511627776) (w : World) :
    (Instr.makeSlice t (.int .i64 (n : Int)) (.int .i64 (n : Int))).run P w = .ok (.slice (some ⟨w.heap.size, 0, none⟩) n n) (w.alloc (.cells (madeCells #[.int .u8 0] n) E)) := by
  have hr := run_make (P := P) w t E i _ ht hi hz .i64 .i64 n n (by omega) (by omega) (by rw [hby]; omega) (by omega)
  simpa [hsz, Value.cells] using hr

end
end Go.Proofs.Ytofocdigbcdfaaa.Mem
