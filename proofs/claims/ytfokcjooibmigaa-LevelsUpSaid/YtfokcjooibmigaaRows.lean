/-
  No cell of these rows narrows 'for every input' (looked for: loops, veiled, ifaces, maps, wideKeys, modest, calm, conditions, laid).
  DERIVED. THE GIVEN ROWS OF THIS SEAT. 8 by the template 'for every input the law returns true; each argument reads behind the call as it read before'; 0 by the template 'total and deterministic' (their statements: YtfokcjooibmigaaTotals.lean).
  GIVEN WITH THE SEED: the statements are not yours to turn. If you find one false, say at which input.
  Laid BY PROGRAM, IN A SANDBOX (cutbox-rows.mjs): the forced cells as the released guide's own fill.sh prints them over the translation 4336c2d4f0e54be6… (all of the seat's roots in one cut). By AI agents, Wed Nov 11 2026. No macro, syntax, notation, axiom, sorry.
-/
import Derived.Test.YtfokcjooibmigaaChecked
import GoSem.Claim
import GoSem.ClaimJoined
import GoSem.ClaimMapViews
import Derived.JoinedTies
import Derived.KernelRfl
namespace Go.Proofs.Ytfokcjooibmigaa
/- THE CELL 'sum', in the pinned program and in every row, IS THE sha256 OF THE DUMP (.gsa) THAT YtfokcjooibmigaaProg.lean LOADS. Nothing in Lean hashes anything: it is a label: what it is worth is what the hold of that sum in a sandbox is worth. -/
noncomputable def Try.pinned : Pinned := { name := "ytfokcjooibmigaa", sum := "4336c2d4f0e54be6a454a20ba6778c439f3df8605acbe483653bc6198e431d4c", checked := Try.checked }
namespace Rows
def none {H : Type} : Left H := { results := [], args := [] }

/-- 'framelaw1.Names': WHATEVER THE INPUT: true; the input reads as it did. -/
def namesSpec : ChangeSpec := { name := "names", fn := fun _ => fun
  | [] => { results := [.lit (.bool true)], args := [] }
  | _ => none }
def namesRow : OpenClaim := { program := "ytfokcjooibmigaa", sum := "4336c2d4f0e54be6a454a20ba6778c439f3df8605acbe483653bc6198e431d4c", func := "framekeep/framelaw1.Names", spec := "names", apart := false }
def NamesSaid : Prop := namesRow.holds Try.pinned (OpenSpec.ofChange namesSpec)

/-- ITS FALSE NEIGHBOUR: 'it returns false'. Refute it at one input. -/
def namesWrong : ChangeSpec := { name := "names", fn := fun _ => fun
  | [] => { results := [.lit (.bool false)], args := [] }
  | _ => none }
def NamesWrongFalsely : Prop := namesRow.holds Try.pinned (OpenSpec.ofChange namesWrong)

/-- 'framelaw4.WireFull': WHATEVER THE INPUT: true; the input reads as it did. -/
def wireFullSpec : ChangeSpec := { name := "wireFull", fn := fun _ => fun
  | [d1, d2] => { results := [.lit (.bool true)], args := [d1, d2] }
  | _ => none }
def wireFullRow : OpenClaim := { program := "ytfokcjooibmigaa", sum := "4336c2d4f0e54be6a454a20ba6778c439f3df8605acbe483653bc6198e431d4c", func := "framekeep/framelaw4.WireFull", spec := "wireFull", apart := false }
def WireFullSaid : Prop := wireFullRow.holds Try.pinned (OpenSpec.ofChange wireFullSpec)

/-- ITS FALSE NEIGHBOUR: 'it returns false'. Refute it at one input. -/
def wireFullWrong : ChangeSpec := { name := "wireFull", fn := fun _ => fun
  | [d1, d2] => { results := [.lit (.bool false)], args := [d1, d2] }
  | _ => none }
def WireFullWrongFalsely : Prop := wireFullRow.holds Try.pinned (OpenSpec.ofChange wireFullWrong)

/-- 'framelaw1.WireOrders': WHATEVER THE INPUT: true; the input reads as it did. -/
def wireOrdersSpec : ChangeSpec := { name := "wireOrders", fn := fun _ => fun
  | [d1, d2] => { results := [.lit (.bool true)], args := [d1, d2] }
  | _ => none }
def wireOrdersRow : OpenClaim := { program := "ytfokcjooibmigaa", sum := "4336c2d4f0e54be6a454a20ba6778c439f3df8605acbe483653bc6198e431d4c", func := "framekeep/framelaw1.WireOrders", spec := "wireOrders", apart := false }
def WireOrdersSaid : Prop := wireOrdersRow.holds Try.pinned (OpenSpec.ofChange wireOrdersSpec)

/-- ITS FALSE NEIGHBOUR: 'it returns false'. Refute it at one input. -/
def wireOrdersWrong : ChangeSpec := { name := "wireOrders", fn := fun _ => fun
  | [d1, d2] => { results := [.lit (.bool false)], args := [d1, d2] }
  | _ => none }
def WireOrdersWrongFalsely : Prop := wireOrdersRow.holds Try.pinned (OpenSpec.ofChange wireOrdersWrong)

/-- 'framelaw1.FlowUp': WHATEVER THE INPUT: true; the input reads as it did. -/
def flowUpSpec : ChangeSpec := { name := "flowUp", fn := fun _ => fun
  | [d1, d2, d3, d4, d5, d6] => { results := [.lit (.bool true)], args := [d1, d2, d3, d4, d5, d6] }
  | _ => none }
def flowUpRow : OpenClaim := { program := "ytfokcjooibmigaa", sum := "4336c2d4f0e54be6a454a20ba6778c439f3df8605acbe483653bc6198e431d4c", func := "framekeep/framelaw1.FlowUp", spec := "flowUp", apart := false }
def FlowUpSaid : Prop := flowUpRow.holds Try.pinned (OpenSpec.ofChange flowUpSpec)

/-- ITS FALSE NEIGHBOUR: 'it returns false'. Refute it at one input. -/
def flowUpWrong : ChangeSpec := { name := "flowUp", fn := fun _ => fun
  | [d1, d2, d3, d4, d5, d6] => { results := [.lit (.bool false)], args := [d1, d2, d3, d4, d5, d6] }
  | _ => none }
def FlowUpWrongFalsely : Prop := flowUpRow.holds Try.pinned (OpenSpec.ofChange flowUpWrong)

/-- 'framelaw4.FlowChain': WHATEVER THE INPUT: true; the input reads as it did. -/
def flowChainSpec : ChangeSpec := { name := "flowChain", fn := fun _ => fun
  | [d] => { results := [.lit (.bool true)], args := [d] }
  | _ => none }
def flowChainRow : OpenClaim := { program := "ytfokcjooibmigaa", sum := "4336c2d4f0e54be6a454a20ba6778c439f3df8605acbe483653bc6198e431d4c", func := "framekeep/framelaw4.FlowChain", spec := "flowChain", apart := false }
def FlowChainSaid : Prop := flowChainRow.holds Try.pinned (OpenSpec.ofChange flowChainSpec)

/-- ITS FALSE NEIGHBOUR: 'it returns false'. Refute it at one input. -/
def flowChainWrong : ChangeSpec := { name := "flowChain", fn := fun _ => fun
  | [d] => { results := [.lit (.bool false)], args := [d] }
  | _ => none }
def FlowChainWrongFalsely : Prop := flowChainRow.holds Try.pinned (OpenSpec.ofChange flowChainWrong)

/-- 'framelaw4.FrameOne': WHATEVER THE INPUT: true; the input reads as it did. -/
def frameOneSpec : ChangeSpec := { name := "frameOne", fn := fun _ => fun
  | [d1, d2] => { results := [.lit (.bool true)], args := [d1, d2] }
  | _ => none }
def frameOneRow : OpenClaim := { program := "ytfokcjooibmigaa", sum := "4336c2d4f0e54be6a454a20ba6778c439f3df8605acbe483653bc6198e431d4c", func := "framekeep/framelaw4.FrameOne", spec := "frameOne", unfollowed := true, recurses := true, apart := false }
def FrameOneSaid : Prop := frameOneRow.holds Try.pinned (OpenSpec.ofChange frameOneSpec)

/-- ITS FALSE NEIGHBOUR: 'it returns false'. Refute it at one input. -/
def frameOneWrong : ChangeSpec := { name := "frameOne", fn := fun _ => fun
  | [d1, d2] => { results := [.lit (.bool false)], args := [d1, d2] }
  | _ => none }
def FrameOneWrongFalsely : Prop := frameOneRow.holds Try.pinned (OpenSpec.ofChange frameOneWrong)

/-- 'framelaw2.LevelsUp': WHATEVER THE INPUT: true; the input reads as it did. -/
def levelsUpSpec : ChangeSpec := { name := "levelsUp", fn := fun _ => fun
  | [d1, d2] => { results := [.lit (.bool true)], args := [d1, d2] }
  | _ => none }
def levelsUpRow : OpenClaim := { program := "ytfokcjooibmigaa", sum := "4336c2d4f0e54be6a454a20ba6778c439f3df8605acbe483653bc6198e431d4c", func := "framekeep/framelaw2.LevelsUp", spec := "levelsUp", apart := false }
def LevelsUpSaid : Prop := levelsUpRow.holds Try.pinned (OpenSpec.ofChange levelsUpSpec)

/-- ITS FALSE NEIGHBOUR: 'it returns false'. Refute it at one input. -/
def levelsUpWrong : ChangeSpec := { name := "levelsUp", fn := fun _ => fun
  | [d1, d2] => { results := [.lit (.bool false)], args := [d1, d2] }
  | _ => none }
def LevelsUpWrongFalsely : Prop := levelsUpRow.holds Try.pinned (OpenSpec.ofChange levelsUpWrong)

/-- 'framelaw3.SupplyWaits': WHATEVER THE INPUT: true; the input reads as it did. -/
def supplyWaitsSpec : ChangeSpec := { name := "supplyWaits", fn := fun _ => fun
  | [d1, d2, d3, d4, d5, d6] => { results := [.lit (.bool true)], args := [d1, d2, d3, d4, d5, d6] }
  | _ => none }
def supplyWaitsRow : OpenClaim := { program := "ytfokcjooibmigaa", sum := "4336c2d4f0e54be6a454a20ba6778c439f3df8605acbe483653bc6198e431d4c", func := "framekeep/framelaw3.SupplyWaits", spec := "supplyWaits", unfollowed := true, recurses := true, apart := false }
def SupplyWaitsSaid : Prop := supplyWaitsRow.holds Try.pinned (OpenSpec.ofChange supplyWaitsSpec)

/-- ITS FALSE NEIGHBOUR: 'it returns false'. Refute it at one input. -/
def supplyWaitsWrong : ChangeSpec := { name := "supplyWaits", fn := fun _ => fun
  | [d1, d2, d3, d4, d5, d6] => { results := [.lit (.bool false)], args := [d1, d2, d3, d4, d5, d6] }
  | _ => none }
def SupplyWaitsWrongFalsely : Prop := supplyWaitsRow.holds Try.pinned (OpenSpec.ofChange supplyWaitsWrong)

/- THE SECOND FORM. 'bulk': how many values and letters a reading holds, each counted each time it is reached (what is shared counts as often as it is met; a slice's spare places count too). A statement '..UptoSaid' is the law's where the arguments, and the package variables that the reading takes, are together of bulk at most 1048576: NARROWER than '..Said'. Prove '..Said' where nothing that the law and all that it calls make is longer than what came in: it says more and counts as full. Else prove '..UptoSaid'. A law counts once. -/
mutual
def uptoBulk {H : Type} : DataW H → Nat
  | .lit (.string bytes) => bytes.length + 1
  | .lit _ => 1
  | .nil => 1
  | .ptr d => uptoBulk d + 1
  | .slice elems spare => uptoBulkAll elems + uptoBulkAll spare + 1
  | .agg parts => uptoBulkAll parts + 1
  | .iface _ d => uptoBulk d + 1
  | .map entries => uptoBulkEntries entries + 1
  | .held _ => 1
def uptoBulkAll {H : Type} : List (DataW H) → Nat
  | [] => 0
  | d :: r => uptoBulk d + uptoBulkAll r
def uptoBulkEntries {H : Type} : List (Lit × DataW H) → Nat
  | [] => 0
  | x :: r => uptoBulkEntry x + uptoBulkEntries r
def uptoBulkEntry {H : Type} : Lit × DataW H → Nat
  | (.string bytes, d) => bytes.length + uptoBulk d + 1
  | (_, d) => uptoBulk d + 1
 end
def uptoSmall : (H : Type) → List (DataW H) → Bool := fun _ ds => decide (uptoBulkAll ds ≤ 1048576)
def OpenSpec.upto (s : _root_.Go.ChangeSpec) : _root_.Go.OpenSpec := { _root_.Go.OpenSpec.ofChange s with cond := some uptoSmall }

/-- 'framelaw1.Names', WHERE WHAT IT READS IS OF BULK AT MOST 1048576: true; the input reads as it did. -/
def namesUptoRow : OpenClaim := { program := "ytfokcjooibmigaa", sum := "4336c2d4f0e54be6a454a20ba6778c439f3df8605acbe483653bc6198e431d4c", func := "framekeep/framelaw1.Names", spec := "names", apart := false, narrowed := true }
def NamesUptoSaid : Prop := namesUptoRow.holds Try.pinned (OpenSpec.upto namesSpec)

/-- 'framelaw4.WireFull', WHERE WHAT IT READS IS OF BULK AT MOST 1048576: true; the input reads as it did. -/
def wireFullUptoRow : OpenClaim := { program := "ytfokcjooibmigaa", sum := "4336c2d4f0e54be6a454a20ba6778c439f3df8605acbe483653bc6198e431d4c", func := "framekeep/framelaw4.WireFull", spec := "wireFull", apart := false, narrowed := true }
def WireFullUptoSaid : Prop := wireFullUptoRow.holds Try.pinned (OpenSpec.upto wireFullSpec)

/-- 'framelaw1.WireOrders', WHERE WHAT IT READS IS OF BULK AT MOST 1048576: true; the input reads as it did. -/
def wireOrdersUptoRow : OpenClaim := { program := "ytfokcjooibmigaa", sum := "4336c2d4f0e54be6a454a20ba6778c439f3df8605acbe483653bc6198e431d4c", func := "framekeep/framelaw1.WireOrders", spec := "wireOrders", apart := false, narrowed := true }
def WireOrdersUptoSaid : Prop := wireOrdersUptoRow.holds Try.pinned (OpenSpec.upto wireOrdersSpec)

/-- 'framelaw1.FlowUp', WHERE WHAT IT READS IS OF BULK AT MOST 1048576: true; the input reads as it did. -/
def flowUpUptoRow : OpenClaim := { program := "ytfokcjooibmigaa", sum := "4336c2d4f0e54be6a454a20ba6778c439f3df8605acbe483653bc6198e431d4c", func := "framekeep/framelaw1.FlowUp", spec := "flowUp", apart := false, narrowed := true }
def FlowUpUptoSaid : Prop := flowUpUptoRow.holds Try.pinned (OpenSpec.upto flowUpSpec)

/-- 'framelaw4.FlowChain', WHERE WHAT IT READS IS OF BULK AT MOST 1048576: true; the input reads as it did. -/
def flowChainUptoRow : OpenClaim := { program := "ytfokcjooibmigaa", sum := "4336c2d4f0e54be6a454a20ba6778c439f3df8605acbe483653bc6198e431d4c", func := "framekeep/framelaw4.FlowChain", spec := "flowChain", apart := false, narrowed := true }
def FlowChainUptoSaid : Prop := flowChainUptoRow.holds Try.pinned (OpenSpec.upto flowChainSpec)

/-- 'framelaw4.FrameOne', WHERE WHAT IT READS IS OF BULK AT MOST 1048576: true; the input reads as it did. -/
def frameOneUptoRow : OpenClaim := { program := "ytfokcjooibmigaa", sum := "4336c2d4f0e54be6a454a20ba6778c439f3df8605acbe483653bc6198e431d4c", func := "framekeep/framelaw4.FrameOne", spec := "frameOne", unfollowed := true, recurses := true, apart := false, narrowed := true }
def FrameOneUptoSaid : Prop := frameOneUptoRow.holds Try.pinned (OpenSpec.upto frameOneSpec)

/-- 'framelaw2.LevelsUp', WHERE WHAT IT READS IS OF BULK AT MOST 1048576: true; the input reads as it did. -/
def levelsUpUptoRow : OpenClaim := { program := "ytfokcjooibmigaa", sum := "4336c2d4f0e54be6a454a20ba6778c439f3df8605acbe483653bc6198e431d4c", func := "framekeep/framelaw2.LevelsUp", spec := "levelsUp", apart := false, narrowed := true }
def LevelsUpUptoSaid : Prop := levelsUpUptoRow.holds Try.pinned (OpenSpec.upto levelsUpSpec)

/-- 'framelaw3.SupplyWaits', WHERE WHAT IT READS IS OF BULK AT MOST 1048576: true; the input reads as it did. -/
def supplyWaitsUptoRow : OpenClaim := { program := "ytfokcjooibmigaa", sum := "4336c2d4f0e54be6a454a20ba6778c439f3df8605acbe483653bc6198e431d4c", func := "framekeep/framelaw3.SupplyWaits", spec := "supplyWaits", unfollowed := true, recurses := true, apart := false, narrowed := true }
def SupplyWaitsUptoSaid : Prop := supplyWaitsUptoRow.holds Try.pinned (OpenSpec.upto supplyWaitsSpec)

end Rows
end Go.Proofs.Ytfokcjooibmigaa
