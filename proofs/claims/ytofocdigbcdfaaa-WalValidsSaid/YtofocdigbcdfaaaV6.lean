/- The contract of the document's Same. -/
import Derived.Test.YtofocdigbcdfaaaV6a
import Derived.Deep.Cut
import Derived.Deep.CutRange
import Derived.Deep.DeepCutAuto
namespace Go.Proofs.Ytofocdigbcdfaaa
open Go.RowKit Mem

/-- Have two records the same plain fields? -/
def Rc.same (a b : Rc) : Prop := a.kind = b.kind ∧ a.wall = b.wall ∧ (a.client = b.client ∧ a.seq = b.seq) ∧ a.home = b.home ∧ a.outcome = b.outcome ∧ (a.aw = b.aw ∧ a.al = b.al ∧ a.an = b.an) ∧ a.image.toList = b.image.toList

section
variable {w : World} {A B A' B' : Option Addr} {n m c e n' m' c' e' : Nat} {ls ls' : List Sp} {lw lw' : List Wr}

set_option maxRecDepth 100000 in
set_option maxHeartbeats 2000000 in
theorem same_any (r r' : Rc) (hs : Spans w A ls) (ht : Writes w B lw) (hs' : Spans w A' ls') (ht' : Writes w B' lw') (hn : ls.length = n) (hm : lw.length = m) (hn' : ls'.length = n') (hm' : lw'.length = m')
    (hn1 : n ≤ 9223372036854775807) (hm1 : m ≤ 9223372036854775807) (hn2 : n' ≤ 9223372036854775807) (hm2 : m' ≤ 9223372036854775807) (b : Bool) (hb : b = true ↔ (r.same r' ∧ ls = ls' ∧ lw = lw')) :
    Calls Try.prog 38 #[.agg (r.cells A B n m c e), .agg (r'.cells A' B' n' m' c' e')] w fun y w' => y = .returned (.bool b) ∧ Below w.heap.size w w' := by
  have HB := Lib.hid hb
  clear hb
  obtain ⟨kind, wall, client, seq, home, outcome, aw, al, an, image⟩ := r
  obtain ⟨kind', wall', client', seq', home', outcome', aw', al', an', image'⟩ := r'
  have hw2 : ∀ o o', Below w.heap.size w ((w.alloc o).alloc o') := fun o o' => ((Below.refl _ _).alloc (Nat.le_refl _) o).alloc (by simp) o'
  have hno : ¬ Rc.same ⟨kind, wall, client, seq, home, outcome, aw, al, an, image⟩ ⟨kind', wall', client', seq', home', outcome', aw', al', an', image'⟩ → b = false := fun h => by
    rw [← Bool.not_eq_true, HB.out]; exact fun h' => h h'.1
  have HNO := Lib.hid hno
  clear hno
  by_cases d0 : kind = kind'
  case neg =>
    obtain rfl : b = false := HNO.out (fun h => by simp [Rc.same] at h; exact d0 (by simp [h]))
    have g0 : (kind == kind') = false := beq_eq_false_iff_ne.2 d0
    have k0 : (kind != kind') = true := bne_iff_ne.2 d0
    clear HB HNO d0
    unfold Rc.cells at *
    go_enter Try.func38, Try.ntmps38
    go_wp2_with fail
    go_ret
    exact ⟨rfl, hw2 _ _⟩
  subst d0
  by_cases d1 : wall = wall'
  case neg =>
    obtain rfl : b = false := HNO.out (fun h => by simp [Rc.same] at h; exact d1 (by simp [h]))
    have g1 : (wall == wall') = false := beq_eq_false_iff_ne.2 d1
    have k1 : (wall != wall') = true := bne_iff_ne.2 d1
    clear HB HNO d1
    unfold Rc.cells at *
    go_enter Try.func38, Try.ntmps38
    go_wp2_with fail
    go_ret
    exact ⟨rfl, hw2 _ _⟩
  subst d1
  by_cases d2 : client = client'
  case neg =>
    obtain rfl : b = false := HNO.out (fun h => by simp [Rc.same] at h; exact d2 (by simp [h]))
    have g2 : (client == client') = false := beq_eq_false_iff_ne.2 d2
    have k2 : (client != client') = true := bne_iff_ne.2 d2
    clear HB HNO d2
    unfold Rc.cells at *
    go_enter Try.func38, Try.ntmps38
    go_wp2_with fail
    go_ret
    exact ⟨rfl, hw2 _ _⟩
  subst d2
  by_cases d3 : seq = seq'
  case neg =>
    obtain rfl : b = false := HNO.out (fun h => by simp [Rc.same] at h; exact d3 (by simp [h]))
    have g3 : (seq == seq') = false := beq_eq_false_iff_ne.2 d3
    have k3 : (seq != seq') = true := bne_iff_ne.2 d3
    clear HB HNO d3
    unfold Rc.cells at *
    go_enter Try.func38, Try.ntmps38
    go_wp2_with fail
    go_ret
    exact ⟨rfl, hw2 _ _⟩
  subst d3
  by_cases d4 : home = home'
  case neg =>
    obtain rfl : b = false := HNO.out (fun h => by simp [Rc.same] at h; exact d4 (by simp [h]))
    have g4 : (home == home') = false := beq_eq_false_iff_ne.2 d4
    have k4 : (home != home') = true := bne_iff_ne.2 d4
    clear HB HNO d4
    unfold Rc.cells at *
    go_enter Try.func38, Try.ntmps38
    go_wp2_with fail
    go_ret
    exact ⟨rfl, hw2 _ _⟩
  subst d4
  by_cases d5 : outcome = outcome'
  case neg =>
    obtain rfl : b = false := HNO.out (fun h => by simp [Rc.same] at h; exact d5 (by simp [h]))
    have g5 : (outcome == outcome') = false := beq_eq_false_iff_ne.2 d5
    have k5 : (outcome != outcome') = true := bne_iff_ne.2 d5
    clear HB HNO d5
    unfold Rc.cells at *
    go_enter Try.func38, Try.ntmps38
    go_wp2_with fail
    go_ret
    exact ⟨rfl, hw2 _ _⟩
  subst d5
  by_cases d6 : aw = aw'
  case neg =>
    obtain rfl : b = false := HNO.out (fun h => by simp [Rc.same] at h; exact d6 (by simp [h]))
    have g6 : (aw == aw') = false := beq_eq_false_iff_ne.2 d6
    have k6 : (aw != aw') = true := bne_iff_ne.2 d6
    clear HB HNO d6
    unfold Rc.cells at *
    go_enter Try.func38, Try.ntmps38
    go_wp2_with fail
    go_ret
    exact ⟨rfl, hw2 _ _⟩
  subst d6
  by_cases d7 : al = al'
  case neg =>
    obtain rfl : b = false := HNO.out (fun h => by simp [Rc.same] at h; exact d7 (by simp [h]))
    have g7 : (al == al') = false := beq_eq_false_iff_ne.2 d7
    have k7 : (al != al') = true := bne_iff_ne.2 d7
    clear HB HNO d7
    unfold Rc.cells at *
    go_enter Try.func38, Try.ntmps38
    go_wp2_with fail
    go_ret
    exact ⟨rfl, hw2 _ _⟩
  subst d7
  by_cases d8 : an = an'
  case neg =>
    obtain rfl : b = false := HNO.out (fun h => by simp [Rc.same] at h; exact d8 (by simp [h]))
    have g8 : (an == an') = false := beq_eq_false_iff_ne.2 d8
    have k8 : (an != an') = true := bne_iff_ne.2 d8
    clear HB HNO d8
    unfold Rc.cells at *
    go_enter Try.func38, Try.ntmps38
    go_wp2_with fail
    go_ret
    exact ⟨rfl, hw2 _ _⟩
  subst d8
  by_cases d9 : image.toList = image'.toList
  case neg =>
    obtain rfl : b = false := HNO.out (fun h => by simp [Rc.same] at h; exact d9 h)
    have g9 : (image.toList == image'.toList) = false := beq_eq_false_iff_ne.2 d9
    have k9 : (image.toList != image'.toList) = true := bne_iff_ne.2 d9
    clear HB HNO d9
    unfold Rc.cells at *
    go_enter Try.func38, Try.ntmps38
    go_wp2_with fail
    go_ret
    exact ⟨rfl, hw2 _ _⟩
  obtain rfl : image = image' := by
    rw [Lib.toList_data, Lib.toList_data] at d9
    exact ByteArray.ext (Array.toList_inj.1 d9)
  clear d9
  by_cases l10 : n = n'
  case neg =>
    obtain rfl : b = false := by
      rw [← Bool.not_eq_true, HB.out]; rintro ⟨_, h1, h2⟩
      first | exact l10 (by rw [← hn, ← hn', h1]) | exact l10 (by rw [← hm, ← hm', h2])
    have g10 : ((n : Int) == (n' : Int)) = false := beq_eq_false_iff_ne.2 (by omega)
    have k10 : ((n : Int) != (n' : Int)) = true := bne_iff_ne.2 (by omega)
    clear HB HNO
    unfold Rc.cells at *
    go_enter Try.func38, Try.ntmps38
    go_wp2_with fail
    go_ret
    exact ⟨rfl, hw2 _ _⟩
  subst l10
  by_cases l11 : m = m'
  case neg =>
    obtain rfl : b = false := by
      rw [← Bool.not_eq_true, HB.out]; rintro ⟨_, h1, h2⟩
      first | exact l11 (by rw [← hn, ← hn', h1]) | exact l11 (by rw [← hm, ← hm', h2])
    have g11 : ((m : Int) == (m' : Int)) = false := beq_eq_false_iff_ne.2 (by omega)
    have k11 : ((m : Int) != (m' : Int)) = true := bne_iff_ne.2 (by omega)
    clear HB HNO
    unfold Rc.cells at *
    go_enter Try.func38, Try.ntmps38
    go_wp2_with fail
    go_ret
    exact ⟨rfl, hw2 _ _⟩
  subst l11
  exact same_eq _ hs ht hs' ht' hn hm hn' hm' hn1 hm1 b (HB.out.trans ⟨fun h => h.2, fun h => ⟨by simp [Rc.same], h⟩⟩)
end
end Go.Proofs.Ytofocdigbcdfaaa
