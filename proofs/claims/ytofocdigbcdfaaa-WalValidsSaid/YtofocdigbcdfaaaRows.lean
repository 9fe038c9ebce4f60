/-
  No cell of these rows narrows 'for every input' (looked for: loops, veiled, ifaces, maps, wideKeys, modest, calm, conditions, laid).
  DERIVED. THE GIVEN ROWS OF THIS SEAT. 6 by the template 'for every input the law returns true; each argument reads behind the call as it read before'; 0 by the template 'total and deterministic' (their statements: YtofocdigbcdfaaaTotals.lean).
  GIVEN WITH THE SEED: the statements are not yours to turn. If you find one false, say at which input.
  Laid BY PROGRAM, IN A SANDBOX (cutbox-rows.mjs): the forced cells as the released guide's own fill.sh prints them over the translation 7fd82cd076a6b360… (all of the seat's roots in one cut). By AI agents, Wed Nov 11 2026. No macro, syntax, notation, axiom, sorry.
-/
import Derived.Test.YtofocdigbcdfaaaChecked
import GoSem.Claim
import GoSem.ClaimJoined
import GoSem.ClaimMapViews
import Derived.JoinedTies
import Derived.KernelRfl
namespace Go.Proofs.Ytofocdigbcdfaaa
/- THE CELL 'sum', in the pinned program and in every row, IS THE sha256 OF THE DUMP (.gsa) THAT YtofocdigbcdfaaaProg.lean LOADS. Nothing in Lean hashes anything: it is a label: what it is worth is what the hold of that sum in a sandbox is worth. -/
noncomputable def Try.pinned : Pinned := { name := "ytofocdigbcdfaaa", sum := "7fd82cd076a6b3608aa8f55681a91e051ce83f251ab9275badf48e4c506f7052", checked := Try.checked }
namespace Rows
def none {H : Type} : Left H := { results := [], args := [] }

/-- 'tidemarklaw6.DiskRoom': WHATEVER THE INPUT: true; the input reads as it did. -/
def diskRoomSpec : ChangeSpec := { name := "diskRoom", fn := fun _ => fun
  | [d] => { results := [.lit (.bool true)], args := [d] }
  | _ => none }
def diskRoomRow : OpenClaim := { program := "ytofocdigbcdfaaa", sum := "7fd82cd076a6b3608aa8f55681a91e051ce83f251ab9275badf48e4c506f7052", func := "tidemark/tidemarklaw6.DiskRoom", spec := "diskRoom", apart := false }
def DiskRoomSaid : Prop := diskRoomRow.holds Try.pinned (OpenSpec.ofChange diskRoomSpec)

/-- ITS FALSE NEIGHBOUR: 'it returns false'. Refute it at one input. -/
def diskRoomWrong : ChangeSpec := { name := "diskRoom", fn := fun _ => fun
  | [d] => { results := [.lit (.bool false)], args := [d] }
  | _ => none }
def DiskRoomWrongFalsely : Prop := diskRoomRow.holds Try.pinned (OpenSpec.ofChange diskRoomWrong)

/-- 'tidemarklaw7.WalValids': WHATEVER THE INPUT: true; the input reads as it did. -/
def walValidsSpec : ChangeSpec := { name := "walValids", fn := fun _ => fun
  | [d] => { results := [.lit (.bool true)], args := [d] }
  | _ => none }
def walValidsRow : OpenClaim := { program := "ytofocdigbcdfaaa", sum := "7fd82cd076a6b3608aa8f55681a91e051ce83f251ab9275badf48e4c506f7052", func := "tidemark/tidemarklaw7.WalValids", spec := "walValids", apart := false }
def WalValidsSaid : Prop := walValidsRow.holds Try.pinned (OpenSpec.ofChange walValidsSpec)

/-- ITS FALSE NEIGHBOUR: 'it returns false'. Refute it at one input. -/
def walValidsWrong : ChangeSpec := { name := "walValids", fn := fun _ => fun
  | [d] => { results := [.lit (.bool false)], args := [d] }
  | _ => none }
def WalValidsWrongFalsely : Prop := walValidsRow.holds Try.pinned (OpenSpec.ofChange walValidsWrong)

/-- 'tidemarklaw6.DiskDurable': WHATEVER THE INPUT: true; the input reads as it did. -/
def diskDurableSpec : ChangeSpec := { name := "diskDurable", fn := fun _ => fun
  | [d] => { results := [.lit (.bool true)], args := [d] }
  | _ => none }
def diskDurableRow : OpenClaim := { program := "ytofocdigbcdfaaa", sum := "7fd82cd076a6b3608aa8f55681a91e051ce83f251ab9275badf48e4c506f7052", func := "tidemark/tidemarklaw6.DiskDurable", spec := "diskDurable", apart := false }
def DiskDurableSaid : Prop := diskDurableRow.holds Try.pinned (OpenSpec.ofChange diskDurableSpec)

/-- ITS FALSE NEIGHBOUR: 'it returns false'. Refute it at one input. -/
def diskDurableWrong : ChangeSpec := { name := "diskDurable", fn := fun _ => fun
  | [d] => { results := [.lit (.bool false)], args := [d] }
  | _ => none }
def DiskDurableWrongFalsely : Prop := diskDurableRow.holds Try.pinned (OpenSpec.ofChange diskDurableWrong)

/-- 'tidemarklaw6.DiskCrash': WHATEVER THE INPUT: true; the input reads as it did. -/
def diskCrashSpec : ChangeSpec := { name := "diskCrash", fn := fun _ => fun
  | [d] => { results := [.lit (.bool true)], args := [d] }
  | _ => none }
def diskCrashRow : OpenClaim := { program := "ytofocdigbcdfaaa", sum := "7fd82cd076a6b3608aa8f55681a91e051ce83f251ab9275badf48e4c506f7052", func := "tidemark/tidemarklaw6.DiskCrash", spec := "diskCrash", apart := false }
def DiskCrashSaid : Prop := diskCrashRow.holds Try.pinned (OpenSpec.ofChange diskCrashSpec)

/-- ITS FALSE NEIGHBOUR: 'it returns false'. Refute it at one input. -/
def diskCrashWrong : ChangeSpec := { name := "diskCrash", fn := fun _ => fun
  | [d] => { results := [.lit (.bool false)], args := [d] }
  | _ => none }
def DiskCrashWrongFalsely : Prop := diskCrashRow.holds Try.pinned (OpenSpec.ofChange diskCrashWrong)

/-- 'tidemarklaw6.DiskExact': WHATEVER THE INPUT: true; the input reads as it did. -/
def diskExactSpec : ChangeSpec := { name := "diskExact", fn := fun _ => fun
  | [d] => { results := [.lit (.bool true)], args := [d] }
  | _ => none }
def diskExactRow : OpenClaim := { program := "ytofocdigbcdfaaa", sum := "7fd82cd076a6b3608aa8f55681a91e051ce83f251ab9275badf48e4c506f7052", func := "tidemark/tidemarklaw6.DiskExact", spec := "diskExact", apart := false }
def DiskExactSaid : Prop := diskExactRow.holds Try.pinned (OpenSpec.ofChange diskExactSpec)

/-- ITS FALSE NEIGHBOUR: 'it returns false'. Refute it at one input. -/
def diskExactWrong : ChangeSpec := { name := "diskExact", fn := fun _ => fun
  | [d] => { results := [.lit (.bool false)], args := [d] }
  | _ => none }
def DiskExactWrongFalsely : Prop := diskExactRow.holds Try.pinned (OpenSpec.ofChange diskExactWrong)

/-- 'tidemarklaw6.DiskClone': WHATEVER THE INPUT: true; the input reads as it did. -/
def diskCloneSpec : ChangeSpec := { name := "diskClone", fn := fun _ => fun
  | [d] => { results := [.lit (.bool true)], args := [d] }
  | _ => none }
def diskCloneRow : OpenClaim := { program := "ytofocdigbcdfaaa", sum := "7fd82cd076a6b3608aa8f55681a91e051ce83f251ab9275badf48e4c506f7052", func := "tidemark/tidemarklaw6.DiskClone", spec := "diskClone", apart := false }
def DiskCloneSaid : Prop := diskCloneRow.holds Try.pinned (OpenSpec.ofChange diskCloneSpec)

/-- ITS FALSE NEIGHBOUR: 'it returns false'. Refute it at one input. -/
def diskCloneWrong : ChangeSpec := { name := "diskClone", fn := fun _ => fun
  | [d] => { results := [.lit (.bool false)], args := [d] }
  | _ => none }
def DiskCloneWrongFalsely : Prop := diskCloneRow.holds Try.pinned (OpenSpec.ofChange diskCloneWrong)

/- THE SECOND FORM. 'bulk': how many values and letters a reading holds, each counted each time it is reached (what is shared counts as often as it is met; a slice's spare places count too). A statement '..UptoSaid' is the law's where the arguments, and the package variables that the reading takes, are together of bulk at most 1048576: NARROWER than '..Said'. Prove '..Said' where nothing that the law and all that it calls make is longer than what came in: it says more and counts as full. Else prove '..UptoSaid'. A law counts once. -/
mutual
def uptoBulk {H : Type} : DataW H → Nat
  | .lit (.string bytes) => bytes.length + 1
  | .lit _ => 1
  | .nil => 1
  | .ptr d => uptoBulk d + 1
  | .slice elems spare => uptoBulkAll elems + uptoBulkAll spare + 1
  | .agg parts => uptoBulkAll parts + 1
  | .iface _ d => uptoBulk d + 1
  | .map entries => uptoBulkEntries entries + 1
  | .held _ => 1
def uptoBulkAll {H : Type} : List (DataW H) → Nat
  | [] => 0
  | d :: r => uptoBulk d + uptoBulkAll r
def uptoBulkEntries {H : Type} : List (Lit × DataW H) → Nat
  | [] => 0
  | x :: r => uptoBulkEntry x + uptoBulkEntries r
def uptoBulkEntry {H : Type} : Lit × DataW H → Nat
  | (.string bytes, d) => bytes.length + uptoBulk d + 1
  | (_, d) => uptoBulk d + 1
 end
def uptoSmall : (H : Type) → List (DataW H) → Bool := fun _ ds => decide (uptoBulkAll ds ≤ 1048576)
def OpenSpec.upto (s : _root_.Go.ChangeSpec) : _root_.Go.OpenSpec := { _root_.Go.OpenSpec.ofChange s with cond := some uptoSmall }

/-- 'tidemarklaw6.DiskRoom', WHERE WHAT IT READS IS OF BULK AT MOST 1048576: true; the input reads as it did. -/
def diskRoomUptoRow : OpenClaim := { program := "ytofocdigbcdfaaa", sum := "7fd82cd076a6b3608aa8f55681a91e051ce83f251ab9275badf48e4c506f7052", func := "tidemark/tidemarklaw6.DiskRoom", spec := "diskRoom", apart := false, narrowed := true }
def DiskRoomUptoSaid : Prop := diskRoomUptoRow.holds Try.pinned (OpenSpec.upto diskRoomSpec)

/-- 'tidemarklaw7.WalValids', WHERE WHAT IT READS IS OF BULK AT MOST 1048576: true; the input reads as it did. -/
def walValidsUptoRow : OpenClaim := { program := "ytofocdigbcdfaaa", sum := "7fd82cd076a6b3608aa8f55681a91e051ce83f251ab9275badf48e4c506f7052", func := "tidemark/tidemarklaw7.WalValids", spec := "walValids", apart := false, narrowed := true }
def WalValidsUptoSaid : Prop := walValidsUptoRow.holds Try.pinned (OpenSpec.upto walValidsSpec)

/-- 'tidemarklaw6.DiskDurable', WHERE WHAT IT READS IS OF BULK AT MOST 1048576: true; the input reads as it did. -/
def diskDurableUptoRow : OpenClaim := { program := "ytofocdigbcdfaaa", sum := "7fd82cd076a6b3608aa8f55681a91e051ce83f251ab9275badf48e4c506f7052", func := "tidemark/tidemarklaw6.DiskDurable", spec := "diskDurable", apart := false, narrowed := true }
def DiskDurableUptoSaid : Prop := diskDurableUptoRow.holds Try.pinned (OpenSpec.upto diskDurableSpec)

/-- 'tidemarklaw6.DiskCrash', WHERE WHAT IT READS IS OF BULK AT MOST 1048576: true; the input reads as it did. -/
def diskCrashUptoRow : OpenClaim := { program := "ytofocdigbcdfaaa", sum := "7fd82cd076a6b3608aa8f55681a91e051ce83f251ab9275badf48e4c506f7052", func := "tidemark/tidemarklaw6.DiskCrash", spec := "diskCrash", apart := false, narrowed := true }
def DiskCrashUptoSaid : Prop := diskCrashUptoRow.holds Try.pinned (OpenSpec.upto diskCrashSpec)

/-- 'tidemarklaw6.DiskExact', WHERE WHAT IT READS IS OF BULK AT MOST 1048576: true; the input reads as it did. -/
def diskExactUptoRow : OpenClaim := { program := "ytofocdigbcdfaaa", sum := "7fd82cd076a6b3608aa8f55681a91e051ce83f251ab9275badf48e4c506f7052", func := "tidemark/tidemarklaw6.DiskExact", spec := "diskExact", apart := false, narrowed := true }
def DiskExactUptoSaid : Prop := diskExactUptoRow.holds Try.pinned (OpenSpec.upto diskExactSpec)

/-- 'tidemarklaw6.DiskClone', WHERE WHAT IT READS IS OF BULK AT MOST 1048576: true; the input reads as it did. -/
def diskCloneUptoRow : OpenClaim := { program := "ytofocdigbcdfaaa", sum := "7fd82cd076a6b3608aa8f55681a91e051ce83f251ab9275badf48e4c506f7052", func := "tidemark/tidemarklaw6.DiskClone", spec := "diskClone", apart := false, narrowed := true }
def DiskCloneUptoSaid : Prop := diskCloneUptoRow.holds Try.pinned (OpenSpec.upto diskCloneSpec)

end Rows
end Go.Proofs.Ytofocdigbcdfaaa
