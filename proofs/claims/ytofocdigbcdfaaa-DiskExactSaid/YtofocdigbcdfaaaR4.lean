import Derived.Test.YtofocdigbcdfaaaR3
namespace Go.Proofs.Ytofocdigbcdfaaa
open Go.RowKit Mem Disk

theorem bts_of_own {w : World} {base : Nat} {A : Option Addr} {n c : Nat} {b : List UInt8} (h : w.ownsRow base 5 1 (.slice A n c) n (u8s b)) : Bts 5 w A n c b := by
  have hl : b.length = n := by have := h.1; simpa [u8s] using this
  rcases h.2 with ⟨h0, h1⟩ | ⟨g, cap, cur, hv, _, hh, hle, hm, hcs, ht⟩
  · injection h0 with hA hn hc
    subst hA; subst hn; subst hc
    exact ⟨hl, Nat.le_refl _, Nat.zero_le _, .inl ⟨rfl, rfl⟩⟩
  · injection hv with hA _ hc
    subst hA; subst hc
    exact ⟨hl, hle, hm, .inr ⟨g, cur, rfl, hh, by omega, by simpa using ht⟩⟩

theorem u8s_take (l : List UInt8) (k : Nat) (h : k < l.length) : u8s (l.take (k + 1)) = u8s (l.take k) ++ [Value.int .u8 l[k].toNat] := by
  unfold u8s; rw [List.take_succ_eq_append_getElem h, List.map_append]; rfl

section
variable {w w' : World} {e : Nat} {D : Dk} {G : Nat → Prop} {A0 A1 : Option Addr} {c0 c1 : Nat}

/-- The cells of slot 0 by their index. -/
theorem RIn.at0 (h : RIn w e D A0 A1 c0 c1) {k : Nat} (hk : k < D.a.b.length) : ∃ g, A0 = some ⟨g, 0, none⟩ ∧ g < w.heap.size ∧ w.cell? ⟨g, k * 2, none⟩ = some (.int .u8 D.a.b[k].toNat) ∧ w.cell? ⟨g, k * 2 + 1, none⟩ = some (.bool (decide (k < D.a.s))) := by
  have hl : k < (prs D.a).length := by rw [prs_len]; exact hk
  obtain ⟨g, h1, h2, h3, h4⟩ := (cs_of_own h.b0).at_ k hl
  refine ⟨g, h1, h2, ?_, by rw [← prs_at D.a k hl]; exact h4⟩
  have e : ((prs D.a).map (·.1))[k]? = D.a.b[k]? := by rw [prs_fst]
  rw [List.getElem?_map, List.getElem?_eq_getElem hl, List.getElem?_eq_getElem hk] at e
  simp only [Option.map_some, Option.some.injEq] at e
  rw [← e]; exact h3

theorem RIn.at1 (h : RIn w e D A0 A1 c0 c1) {k : Nat} (hk : k < D.b.b.length) : ∃ g, A1 = some ⟨g, 0, none⟩ ∧ g < w.heap.size ∧ w.cell? ⟨g, k * 2, none⟩ = some (.int .u8 D.b.b[k].toNat) ∧ w.cell? ⟨g, k * 2 + 1, none⟩ = some (.bool (decide (k < D.b.s))) := by
  have hl : k < (prs D.b).length := by rw [prs_len]; exact hk
  obtain ⟨g, h1, h2, h3, h4⟩ := (cs_of_own h.b1).at_ k hl
  refine ⟨g, h1, h2, ?_, by rw [← prs_at D.b k hl]; exact h4⟩
  have e : ((prs D.b).map (·.1))[k]? = D.b.b[k]? := by rw [prs_fst]
  rw [List.getElem?_map, List.getElem?_eq_getElem hl, List.getElem?_eq_getElem hk] at e
  simp only [Option.map_some, Option.some.injEq] at e
  rw [← e]; exact h3

set_option maxRecDepth 100000 in
set_option maxHeartbeats 1000000 in
theorem rbytes_any (h : RDsk w e D G) (i : Int) (s : ByteArray) (hs : str (D.bytes i) = s) :
    Calls Try.prog 43 #[.pointer (some ⟨e, 0, none⟩), .int .i64 i] w fun y w' => y = .returned (.string s) ∧ Below w.heap.size w w' := by
  subst hs
  obtain ⟨A0, A1, c0, c1, hI, rfl⟩ := h
  have f1 := hI.ok.fit; have f2 := hI.ok.top
  obtain ⟨i5, hi0, hz0, hz1, hz2⟩ := info_parts info5
  by_cases hr : right i
  · rcases hr with rfl | rfl
    · have hd : D.bytes 0 = D.a.b := rfl
      rw [hd]; clear hd
      go_enter Try.func43, Try.ntmps43
      go_wp2_with (first | (go_at_call 56; refine (right_yes (.inl rfl) _).mono ?_; rintro y w' ⟨rfl, rfl⟩))
      go_loopw [5, 6] (fun v i wr => ∃ k : Nat, k ≤ D.a.b.length ∧ i = .int .i64 k ∧ wr.ownsRow w.heap.size 5 1 v k (u8s (D.a.b.take k)) ∧ Below w.heap.size w wr) (fun _ i _ => D.a.b.length - (intOf i).toNat)
      case atStart => exact ⟨0, Nat.zero_le _, rfl, ⟨by simp [u8s], .inl ⟨rfl, rfl⟩⟩, Below.refl _ _⟩
      case round =>
        obtain ⟨k, hk, rfl, hown, hB⟩ := hrel
        have hIr := hI.kept (hB.block e hI.lt) (fun j hj => hB.block j (hI.own_lt j (.inr (.inl hj)))) (fun j hj => hB.block j (hI.own_lt j (.inr (.inr hj))))
        obtain ⟨q0, q1, q2, fz⟩ := hIr.cells
        by_cases hlt : k < D.a.b.length
        · obtain ⟨g, rfl, hg, y0, y1⟩ := hIr.at0 hlt
          have hp := u8s_take D.a.b k hlt
          have HP := Lib.hid hp
          clear hp
          obtain ⟨x, hx⟩ : ∃ x, x = D.a.b[k] := ⟨_, rfl⟩
          rw [← hx] at y0
          have HP2 : Hid (u8s (D.a.b.take (k + 1)) = u8s (D.a.b.take k) ++ [Value.int .u8 x.toNat]) := by rw [hx]; exact HP
          clear HP hx
          go_wp2_with (at_builtin; refine wpList_append_lies _ rfl _ _ _ rfl w.heap.size 5 i5 _ 1 1 Try.underlying70 hi0 hz0 hz1 hz2 rfl (by omega) _ _ _ rfl (hown.alloc _) ⟨wr.heap.size, 0, none⟩ 1 1 [Value.int .u8 x.toNat] rfl rfl (World.news_of_block (cs := #[Value.int .u8 x.toNat]) (t := 5) (fr := (0, 0)) (heap_alloc_new wr _)) (by simp [Value.oneCell']) (by omega) (by unfold maxLen; omega) (by omega) (by have := hB.size; simp; omega) (wr.heap.size + 1) (by simp) ?_; intro gg cap w1 hown1 hgrow hat hlt1)
          go_roundw
          case rel => exact ⟨k + 1, by omega, by go_num, by rw [HP2.out]; exact hown1, (hB.alloc hB.size _).grown hgrow (by have := hB.size; simp; omega) (fun j hj => (hown.lt j hj).1)⟩
          case measure => simp [intOf]; omega
        · have hke : k = D.a.b.length := by omega
          rw [List.take_of_length_le (by omega)] at hown
          obtain ⟨A, c, rfl⟩ := own_slice hown
          have hconv := (bts_of_own hown).toString (P := Try.prog) 70 Try.underlying70 Try.underlying5 9 Try.underlying9
          clear hke
          go_wp2_with fail
          go_ret
          exact ⟨rfl, hB⟩
    · have hd : D.bytes 1 = D.b.b := rfl
      rw [hd]; clear hd
      go_enter Try.func43, Try.ntmps43
      go_wp2_with (first | (go_at_call 56; refine (right_yes (.inr rfl) _).mono ?_; rintro y w' ⟨rfl, rfl⟩))
      go_loopw [5, 6] (fun v i wr => ∃ k : Nat, k ≤ D.b.b.length ∧ i = .int .i64 k ∧ wr.ownsRow w.heap.size 5 1 v k (u8s (D.b.b.take k)) ∧ Below w.heap.size w wr) (fun _ i _ => D.b.b.length - (intOf i).toNat)
      case atStart => exact ⟨0, Nat.zero_le _, rfl, ⟨by simp [u8s], .inl ⟨rfl, rfl⟩⟩, Below.refl _ _⟩
      case round =>
        obtain ⟨k, hk, rfl, hown, hB⟩ := hrel
        have hIr := hI.kept (hB.block e hI.lt) (fun j hj => hB.block j (hI.own_lt j (.inr (.inl hj)))) (fun j hj => hB.block j (hI.own_lt j (.inr (.inr hj))))
        obtain ⟨q0, q1, q2, fz⟩ := hIr.cells
        by_cases hlt : k < D.b.b.length
        · obtain ⟨g, rfl, hg, y0, y1⟩ := hIr.at1 hlt
          have hp := u8s_take D.b.b k hlt
          have HP := Lib.hid hp
          clear hp
          obtain ⟨x, hx⟩ : ∃ x, x = D.b.b[k] := ⟨_, rfl⟩
          rw [← hx] at y0
          have HP2 : Hid (u8s (D.b.b.take (k + 1)) = u8s (D.b.b.take k) ++ [Value.int .u8 x.toNat]) := by rw [hx]; exact HP
          clear HP hx
          go_wp2_with (at_builtin; refine wpList_append_lies _ rfl _ _ _ rfl w.heap.size 5 i5 _ 1 1 Try.underlying70 hi0 hz0 hz1 hz2 rfl (by omega) _ _ _ rfl (hown.alloc _) ⟨wr.heap.size, 0, none⟩ 1 1 [Value.int .u8 x.toNat] rfl rfl (World.news_of_block (cs := #[Value.int .u8 x.toNat]) (t := 5) (fr := (0, 0)) (heap_alloc_new wr _)) (by simp [Value.oneCell']) (by omega) (by unfold maxLen; omega) (by omega) (by have := hB.size; simp; omega) (wr.heap.size + 1) (by simp) ?_; intro gg cap w1 hown1 hgrow hat hlt1)
          go_roundw
          case rel => exact ⟨k + 1, by omega, by go_num, by rw [HP2.out]; exact hown1, (hB.alloc hB.size _).grown hgrow (by have := hB.size; simp; omega) (fun j hj => (hown.lt j hj).1)⟩
          case measure => simp [intOf]; omega
        · have hke : k = D.b.b.length := by omega
          rw [List.take_of_length_le (by omega)] at hown
          obtain ⟨A, c, rfl⟩ := own_slice hown
          have hconv := (bts_of_own hown).toString (P := Try.prog) 70 Try.underlying70 Try.underlying5 9 Try.underlying9
          clear hke
          go_wp2_with fail
          go_ret
          exact ⟨rfl, hB⟩
  · have hd : D.bytes i = [] := if_neg hr
    rw [hd]; clear hd
    go_enter Try.func43, Try.ntmps43
    go_wp2_with (go_at_call 56; refine (right_no hr _).mono ?_; rintro e w' ⟨rfl, rfl⟩)
    go_ret
    exact ⟨rfl, Below.refl _ _⟩

set_option maxRecDepth 100000 in
set_option maxHeartbeats 1000000 in
theorem rsynced_any (h : RDsk w e D G) (i : Int) :
    Calls Try.prog 44 #[.pointer (some ⟨e, 0, none⟩), .int .i64 i] w fun y w' => y = .returned (.int .i64 (D.synced i)) ∧ w = w' := by
  obtain ⟨A0, A1, c0, c1, hI, rfl⟩ := h
  have f1 := hI.ok.fit; have f2 := hI.ok.top
  by_cases hr : right i
  · rcases hr with rfl | rfl
    · have hd : ((D.synced 0 : Nat) : Int) = ((D.a.s : Nat) : Int) := rfl
      rw [hd]; clear hd
      have hss : D.a.s ≤ D.a.b.length := hI.ok.sa
      go_enter Try.func44, Try.ntmps44
      go_wp2_with (first | (go_at_call 56; refine (right_yes (.inl rfl) _).mono ?_; rintro y w' ⟨rfl, rfl⟩))
      go_loop [5, 6] (fun v i => ∃ k : Nat, k ≤ D.a.b.length ∧ i = .int .i64 k ∧ v = .int .i64 (min k D.a.s : Nat)) (fun _ i => D.a.b.length - (intOf i).toNat)
      case atStart => exact ⟨0, Nat.zero_le _, rfl, by simp⟩
      case round =>
        obtain ⟨k, hk, rfl, rfl⟩ := hrel
        obtain ⟨q0, q1, q2, fz⟩ := hI.cells
        by_cases hlt : k < D.a.b.length
        · obtain ⟨g, rfl, hg, y0, y1⟩ := hI.at0 hlt
          by_cases hks : k < D.a.s
          · rw [decide_eq_true hks] at y1
            obtain ⟨c, hc⟩ : ∃ c, c = min k D.a.s := ⟨_, rfl⟩
            rw [← hc]
            have hc1 : c ≤ k := by omega
            have hc2 : min (k + 1) D.a.s = c + 1 := by omega
            have HC := Lib.hid hc2
            clear hc hc2
            go_wp2_with fail
            go_round
            case rel => exact ⟨k + 1, by omega, by go_num, by rw [HC.out]; go_num⟩
            case measure => simp [intOf]; omega
          · rw [decide_eq_false hks] at y1
            obtain ⟨c, hc⟩ : ∃ c, c = min k D.a.s := ⟨_, rfl⟩
            rw [← hc]
            have hc2 : min (k + 1) D.a.s = c := by omega
            have HC := Lib.hid hc2
            clear hc hc2
            go_wp2_with fail
            go_round
            case rel => exact ⟨k + 1, by omega, by go_num, by rw [HC.out]⟩
            case measure => simp [intOf]; omega
        · have hc : min k D.a.s = D.a.s := by omega
          rw [hc]; clear hc
          go_wp2_with fail
          go_ret
          exact ⟨rfl, rfl⟩
    · have hd : ((D.synced 1 : Nat) : Int) = ((D.b.s : Nat) : Int) := rfl
      rw [hd]; clear hd
      have hss : D.b.s ≤ D.b.b.length := hI.ok.sb
      go_enter Try.func44, Try.ntmps44
      go_wp2_with (first | (go_at_call 56; refine (right_yes (.inr rfl) _).mono ?_; rintro y w' ⟨rfl, rfl⟩))
      go_loop [5, 6] (fun v i => ∃ k : Nat, k ≤ D.b.b.length ∧ i = .int .i64 k ∧ v = .int .i64 (min k D.b.s : Nat)) (fun _ i => D.b.b.length - (intOf i).toNat)
      case atStart => exact ⟨0, Nat.zero_le _, rfl, by simp⟩
      case round =>
        obtain ⟨k, hk, rfl, rfl⟩ := hrel
        obtain ⟨q0, q1, q2, fz⟩ := hI.cells
        by_cases hlt : k < D.b.b.length
        · obtain ⟨g, rfl, hg, y0, y1⟩ := hI.at1 hlt
          by_cases hks : k < D.b.s
          · rw [decide_eq_true hks] at y1
            obtain ⟨c, hc⟩ : ∃ c, c = min k D.b.s := ⟨_, rfl⟩
            rw [← hc]
            have hc1 : c ≤ k := by omega
            have hc2 : min (k + 1) D.b.s = c + 1 := by omega
            have HC := Lib.hid hc2
            clear hc hc2
            go_wp2_with fail
            go_round
            case rel => exact ⟨k + 1, by omega, by go_num, by rw [HC.out]; go_num⟩
            case measure => simp [intOf]; omega
          · rw [decide_eq_false hks] at y1
            obtain ⟨c, hc⟩ : ∃ c, c = min k D.b.s := ⟨_, rfl⟩
            rw [← hc]
            have hc2 : min (k + 1) D.b.s = c := by omega
            have HC := Lib.hid hc2
            clear hc hc2
            go_wp2_with fail
            go_round
            case rel => exact ⟨k + 1, by omega, by go_num, by rw [HC.out]⟩
            case measure => simp [intOf]; omega
        · have hc : min k D.b.s = D.b.s := by omega
          rw [hc]; clear hc
          go_wp2_with fail
          go_ret
          exact ⟨rfl, rfl⟩
  · have hd : D.synced i = 0 := if_neg hr
    rw [hd]; clear hd
    go_enter Try.func44, Try.ntmps44
    go_wp2_with (go_at_call 56; refine (right_no hr _).mono ?_; rintro e w' ⟨rfl, rfl⟩)
    go_ret
    exact ⟨rfl, rfl⟩
end
end Go.Proofs.Ytofocdigbcdfaaa
