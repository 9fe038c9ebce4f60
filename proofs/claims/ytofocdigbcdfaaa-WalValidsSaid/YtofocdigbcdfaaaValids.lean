/- WalValids: for every input the law returns true, and its argument reads as before; no condition. -/
import Derived.Test.YtofocdigbcdfaaaV15
namespace Go.Proofs.Ytofocdigbcdfaaa
open Go.ChangeShapes Go.WideShapes Go.ChangeAt Go.RowKit Go.Joins Go.Deep Mem

/-- From a walk to the row's step: a law of one argument, no variable, no condition; the reach is handed on. -/
theorem lifted_sized {H : Type} {enc : TypeId × Value → H} {C : Checked} {os : Os} {f : FuncId} {fn : Func} {s : ChangeSpec} {T B : TypeId}
    (own : ownKnob C.prog.godebug = none) (started : os.Started) (noInit : C.prog.inits.idxOf? f = none) (hfn : C.prog.funcs[f]? = some fn)
    (laid : laidOutB C.prog = true) (hrd : C.prog.readableRec T = true) (hT : T < C.prog.types.size) (hB : C.prog.underlying B = some .bool)
    (hp : fn.params = #[T]) (hres : fn.resultTypes = #[B]) (hv : s.vars = []) (hs : ∀ d : DataW H, s.fn H [d] = { results := [.lit (.bool true)], args := [d] })
    (witness : ∃ (w : World) (tape : Tape) (i : Input), w.os = os ∧ (w.forCall tape i).Shaped C.prog ∧ i.vars = [] ∧ Input.okWide C.prog (w.forCall tape i) .any w.heap.size f i ∧
      s.pre6 enc C.prog fn [] false (w.forCall tape i).memory i.args ∧ ({} : Assume).holds C.prog (lone (Frame.enter C.prog f i.args .normal) [] (w.forCall tape i)))
    (walk : ∀ (W : World) (base : Nat) (v : Value) (d : DataW H) (p : List MemPlace), Value.okWide C.prog W .any base T v → DataW.Trod enc C.prog W 0 (fun _ => true) true T v d p →
      (∀ x ∈ p, x.block < W.heap.size) → (∀ k ∈ d.weights C.prog T, k ≤ reachBytes) → Calls C.prog f #[v] W fun e W' => e = .returned (.bool true) ∧ Below W.heap.size W W') :
    ReturnsInHanded {} C os f .any (s.pre6 enc C.prog fn [] false) (s.post enc C.prog fn false true false false) := by
  refine returnsInHanded_of_change_sized (C := C) own started noInit hfn witness ?_
  intro W base args ds gs before hval hW _ hsz _
  have hW' := hW
  obtain ⟨p, q, hA, hV, rfl, hfz, hnd⟩ := hW
  rw [hp] at hA hsz
  have hA' : DataW.TrodAll enc C.prog W 0 (fun _ => true) true [T] args.toList ds p := hA
  obtain ⟨v0, d0, hargs, rfl, h0⟩ := trodAll_one hA'
  rw [hv] at hV
  obtain ⟨rfl, rfl⟩ := trodVars_none hV
  obtain rfl : args = #[v0] := by cases args; simp_all
  have hlt : ∀ x ∈ p, x.block < W.heap.size := fun x hx => hW'.lt x (List.mem_append.2 (.inl hx))
  have hwt : ∀ k ∈ d0.weights C.prog T, k ≤ reachBytes := fun k hk => by
    have := List.all_eq_true.1 hsz k (DataW.weights_mem_each (j := 0) (t := T) (d := d0) rfl rfl k hk)
    simpa using this
  refine (walk W base v0 d0 p (hval 0 T v0 (by rw [hp]; rfl) rfl) h0 hlt hwt).mono fun e W' ⟨he, hb⟩ => ?_
  subst he
  refine ⟨_, rfl, _, _, _, [], p, [], hW', ?_, ?_, ?_, hb.frame _, fun h => by cases h⟩
  · rw [hres, List.append_nil, hs]
    exact trodAll_mk1 (shut_bool hB true)
  · rw [hp, List.append_nil, hs]
    exact trodAll_mk1 (Below.trod laid hrd hT h0 hb hlt)
  · rw [hv, List.append_nil, hs]
    rfl

theorem reach_num : reachBytes = 140737488351232 := by decide

theorem valids_over : Rows.walValidsRow.holds Try.pinned (OpenSpec.ofChange Rows.walValidsSpec) :=
  OpenClaim.holds_of_wide 4 Try.f4 rfl rfl rfl rfl rfl rfl rfl ⟨rfl, rfl, rfl, rfl, rfl⟩ rfl rfl rfl rfl rfl (by kernel_rfl) Try.func4 (by kernel_rfl)
    (of_decide_eq_true (by kernel_rfl)) (by unfold Func.isWrapper; first | (rw [if_pos (by decide +kernel)]; kernel_rfl) | (rw [if_neg (by decide +kernel)]; exact ⟨rfl, rfl⟩))
    (fun os started H enc _ => lifted_sized (C := Try.checked) (s := Rows.walValidsSpec) (T := 46) (B := 4) own_knob started (by kernel_rfl) Try.func4 laid_out (by kernel_rfl) (of_decide_eq_true (by kernel_rfl)) Try.underlying4 rfl rfl rfl (fun _ => rfl)
      (ChangeSpec.witness6 (enc := enc) (C := Try.checked) false ⟨#[], #[.agg #[.int .i64 0, .int .u64 0, .int .u32 0, .int .u32 0, .int .u32 0, .int .i64 0, .int .u64 0, .int .u32 0, .int .u32 0, .slice none 0 0, .slice none 0 0, .string ⟨#[]⟩]], []⟩ 8 (by kernel_rfl) (by kernel_rfl) (by kernel_rfl) (by kernel_rfl))
      (fun W base v d p hv ht _ hwt => by
        obtain ⟨cs, rfl, hsz⟩ := okWide_struct Try.underlying46 hv
        obtain ⟨fuel, ht⟩ := ht
        obtain ⟨r, A, B, n, m, c, e, ls, lw, hcs, hn, hm, hS, hT, hwide, hb⟩ := rec_of ht
        obtain ⟨b1, b2, -⟩ := hb reachBytes hwt
        rw [reach_num] at b1 b2
        have hcs' : cs = r.cells A B n m c e := by
          have : cs.toList = (r.cells A B n m c e).toList := by simpa [Value.cells] using hcs
          exact Array.toList_inj.1 this
        subst hcs'
        exact valids_any r hS hT hn hm (by omega) (by omega) hwide.seq.1))

/-- WalValids, for every input. -/
theorem valids_proved : Rows.WalValidsSaid := valids_over
#print axioms valids_proved
end Go.Proofs.Ytofocdigbcdfaaa
