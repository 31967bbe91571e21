/-
  No cell of these rows narrows 'for every input' (looked for: loops, veiled, ifaces, maps, wideKeys, modest, calm, conditions, laid).
  DERIVED. THE GIVEN ROWS OF THIS SEAT. 11 by the template 'for every input the law returns true; each argument reads behind the call as it read before'; 0 by the template 'total and deterministic' (their statements: YtfnhcbbfhoiemaaTotals.lean).
  GIVEN WITH THE SEED: the statements are not yours to turn. If you find one false, say at which input.
  Laid BY PROGRAM, IN A SANDBOX (cutbox-rows.mjs): the forced cells as the released guide's own fill.sh prints them over the translation fe4ec3e0eef8b1ca… (all of the seat's roots in one cut). By AI agents, Wed Nov 11 2026. No macro, syntax, notation, axiom, sorry.
-/
import Derived.Test.YtfnhcbbfhoiemaaChecked
import GoSem.Claim
import GoSem.ClaimJoined
import GoSem.ClaimMapViews
import Derived.JoinedTies
import Derived.KernelRfl
namespace Go.Proofs.Ytfnhcbbfhoiemaa
/- THE CELL 'sum', in the pinned program and in every row, IS THE sha256 OF THE DUMP (.gsa) THAT YtfnhcbbfhoiemaaProg.lean LOADS. Nothing in Lean hashes anything: it is a label: what it is worth is what the hold of that sum in a sandbox is worth. -/
noncomputable def Try.pinned : Pinned := { name := "ytfnhcbbfhoiemaa", sum := "fe4ec3e0eef8b1cac5adfeac284a86c89bcd7a663381d6c08ea1119fe84e849c", checked := Try.checked }
namespace Rows
def none {H : Type} : Left H := { results := [], args := [] }

/-- 'laws.FnRecalls': WHATEVER THE INPUT: true; the input reads as it did. -/
def fnRecallsSpec : ChangeSpec := { name := "fnRecalls", fn := fun _ => fun
  | [d] => { results := [.lit (.bool true)], args := [d] }
  | _ => none }
def fnRecallsRow : OpenClaim := { program := "ytfnhcbbfhoiemaa", sum := "fe4ec3e0eef8b1cac5adfeac284a86c89bcd7a663381d6c08ea1119fe84e849c", func := "loop.example/g00992/laws.FnRecalls", spec := "fnRecalls", apart := false }
def FnRecallsSaid : Prop := fnRecallsRow.holds Try.pinned (OpenSpec.ofChange fnRecallsSpec)

/-- ITS FALSE NEIGHBOUR: 'it returns false'. Refute it at one input. -/
def fnRecallsWrong : ChangeSpec := { name := "fnRecalls", fn := fun _ => fun
  | [d] => { results := [.lit (.bool false)], args := [d] }
  | _ => none }
def FnRecallsWrongFalsely : Prop := fnRecallsRow.holds Try.pinned (OpenSpec.ofChange fnRecallsWrong)

/-- 'laws.FnExactAverageOf': WHATEVER THE INPUT: true; the input reads as it did. -/
def fnExactAverageOfSpec : ChangeSpec := { name := "fnExactAverageOf", fn := fun _ => fun
  | [d] => { results := [.lit (.bool true)], args := [d] }
  | _ => none }
def fnExactAverageOfRow : OpenClaim := { program := "ytfnhcbbfhoiemaa", sum := "fe4ec3e0eef8b1cac5adfeac284a86c89bcd7a663381d6c08ea1119fe84e849c", func := "loop.example/g00992/laws.FnExactAverageOf", spec := "fnExactAverageOf", apart := false }
def FnExactAverageOfSaid : Prop := fnExactAverageOfRow.holds Try.pinned (OpenSpec.ofChange fnExactAverageOfSpec)

/-- ITS FALSE NEIGHBOUR: 'it returns false'. Refute it at one input. -/
def fnExactAverageOfWrong : ChangeSpec := { name := "fnExactAverageOf", fn := fun _ => fun
  | [d] => { results := [.lit (.bool false)], args := [d] }
  | _ => none }
def FnExactAverageOfWrongFalsely : Prop := fnExactAverageOfRow.holds Try.pinned (OpenSpec.ofChange fnExactAverageOfWrong)

/-- 'laws.FnExactLeastMore': WHATEVER THE INPUT: true; the input reads as it did. -/
def fnExactLeastMoreSpec : ChangeSpec := { name := "fnExactLeastMore", fn := fun _ => fun
  | [d] => { results := [.lit (.bool true)], args := [d] }
  | _ => none }
def fnExactLeastMoreRow : OpenClaim := { program := "ytfnhcbbfhoiemaa", sum := "fe4ec3e0eef8b1cac5adfeac284a86c89bcd7a663381d6c08ea1119fe84e849c", func := "loop.example/g00992/laws.FnExactLeastMore", spec := "fnExactLeastMore", apart := false }
def FnExactLeastMoreSaid : Prop := fnExactLeastMoreRow.holds Try.pinned (OpenSpec.ofChange fnExactLeastMoreSpec)

/-- ITS FALSE NEIGHBOUR: 'it returns false'. Refute it at one input. -/
def fnExactLeastMoreWrong : ChangeSpec := { name := "fnExactLeastMore", fn := fun _ => fun
  | [d] => { results := [.lit (.bool false)], args := [d] }
  | _ => none }
def FnExactLeastMoreWrongFalsely : Prop := fnExactLeastMoreRow.holds Try.pinned (OpenSpec.ofChange fnExactLeastMoreWrong)

/-- 'laws.FnExactAffectedBy': WHATEVER THE INPUT: true; the input reads as it did. -/
def fnExactAffectedBySpec : ChangeSpec := { name := "fnExactAffectedBy", fn := fun _ => fun
  | [d1, d2, d3, d4] => { results := [.lit (.bool true)], args := [d1, d2, d3, d4] }
  | _ => none }
def fnExactAffectedByRow : OpenClaim := { program := "ytfnhcbbfhoiemaa", sum := "fe4ec3e0eef8b1cac5adfeac284a86c89bcd7a663381d6c08ea1119fe84e849c", func := "loop.example/g00992/laws.FnExactAffectedBy", spec := "fnExactAffectedBy", apart := false }
def FnExactAffectedBySaid : Prop := fnExactAffectedByRow.holds Try.pinned (OpenSpec.ofChange fnExactAffectedBySpec)

/-- ITS FALSE NEIGHBOUR: 'it returns false'. Refute it at one input. -/
def fnExactAffectedByWrong : ChangeSpec := { name := "fnExactAffectedBy", fn := fun _ => fun
  | [d1, d2, d3, d4] => { results := [.lit (.bool false)], args := [d1, d2, d3, d4] }
  | _ => none }
def FnExactAffectedByWrongFalsely : Prop := fnExactAffectedByRow.holds Try.pinned (OpenSpec.ofChange fnExactAffectedByWrong)

/-- 'laws.FnExactFirstGood': WHATEVER THE INPUT: true; the input reads as it did. -/
def fnExactFirstGoodSpec : ChangeSpec := { name := "fnExactFirstGood", fn := fun _ => fun
  | [d1, d2, d3, d4, d5] => { results := [.lit (.bool true)], args := [d1, d2, d3, d4, d5] }
  | _ => none }
def fnExactFirstGoodRow : OpenClaim := { program := "ytfnhcbbfhoiemaa", sum := "fe4ec3e0eef8b1cac5adfeac284a86c89bcd7a663381d6c08ea1119fe84e849c", func := "loop.example/g00992/laws.FnExactFirstGood", spec := "fnExactFirstGood", apart := false }
def FnExactFirstGoodSaid : Prop := fnExactFirstGoodRow.holds Try.pinned (OpenSpec.ofChange fnExactFirstGoodSpec)

/-- ITS FALSE NEIGHBOUR: 'it returns false'. Refute it at one input. -/
def fnExactFirstGoodWrong : ChangeSpec := { name := "fnExactFirstGood", fn := fun _ => fun
  | [d1, d2, d3, d4, d5] => { results := [.lit (.bool false)], args := [d1, d2, d3, d4, d5] }
  | _ => none }
def FnExactFirstGoodWrongFalsely : Prop := fnExactFirstGoodRow.holds Try.pinned (OpenSpec.ofChange fnExactFirstGoodWrong)

/-- 'laws.FnExactHouseOk': WHATEVER THE INPUT: true; the input reads as it did. -/
def fnExactHouseOkSpec : ChangeSpec := { name := "fnExactHouseOk", fn := fun _ => fun
  | [d] => { results := [.lit (.bool true)], args := [d] }
  | _ => none }
def fnExactHouseOkRow : OpenClaim := { program := "ytfnhcbbfhoiemaa", sum := "fe4ec3e0eef8b1cac5adfeac284a86c89bcd7a663381d6c08ea1119fe84e849c", func := "loop.example/g00992/laws.FnExactHouseOk", spec := "fnExactHouseOk", apart := false }
def FnExactHouseOkSaid : Prop := fnExactHouseOkRow.holds Try.pinned (OpenSpec.ofChange fnExactHouseOkSpec)

/-- ITS FALSE NEIGHBOUR: 'it returns false'. Refute it at one input. -/
def fnExactHouseOkWrong : ChangeSpec := { name := "fnExactHouseOk", fn := fun _ => fun
  | [d] => { results := [.lit (.bool false)], args := [d] }
  | _ => none }
def FnExactHouseOkWrongFalsely : Prop := fnExactHouseOkRow.holds Try.pinned (OpenSpec.ofChange fnExactHouseOkWrong)

/-- 'laws.FnExactNewHouse': WHATEVER THE INPUT: true; the input reads as it did. -/
def fnExactNewHouseSpec : ChangeSpec := { name := "fnExactNewHouse", fn := fun _ => fun
  | [d1, d2] => { results := [.lit (.bool true)], args := [d1, d2] }
  | _ => none }
def fnExactNewHouseRow : OpenClaim := { program := "ytfnhcbbfhoiemaa", sum := "fe4ec3e0eef8b1cac5adfeac284a86c89bcd7a663381d6c08ea1119fe84e849c", func := "loop.example/g00992/laws.FnExactNewHouse", spec := "fnExactNewHouse", apart := false }
def FnExactNewHouseSaid : Prop := fnExactNewHouseRow.holds Try.pinned (OpenSpec.ofChange fnExactNewHouseSpec)

/-- ITS FALSE NEIGHBOUR: 'it returns false'. Refute it at one input. -/
def fnExactNewHouseWrong : ChangeSpec := { name := "fnExactNewHouse", fn := fun _ => fun
  | [d1, d2] => { results := [.lit (.bool false)], args := [d1, d2] }
  | _ => none }
def FnExactNewHouseWrongFalsely : Prop := fnExactNewHouseRow.holds Try.pinned (OpenSpec.ofChange fnExactNewHouseWrong)

/-- 'laws.FnExactSampleHouse': WHATEVER THE INPUT: true; the input reads as it did. -/
def fnExactSampleHouseSpec : ChangeSpec := { name := "fnExactSampleHouse", fn := fun _ => fun
  | [] => { results := [.lit (.bool true)], args := [] }
  | _ => none }
def fnExactSampleHouseRow : OpenClaim := { program := "ytfnhcbbfhoiemaa", sum := "fe4ec3e0eef8b1cac5adfeac284a86c89bcd7a663381d6c08ea1119fe84e849c", func := "loop.example/g00992/laws.FnExactSampleHouse", spec := "fnExactSampleHouse", apart := false }
def FnExactSampleHouseSaid : Prop := fnExactSampleHouseRow.holds Try.pinned (OpenSpec.ofChange fnExactSampleHouseSpec)

/-- ITS FALSE NEIGHBOUR: 'it returns false'. Refute it at one input. -/
def fnExactSampleHouseWrong : ChangeSpec := { name := "fnExactSampleHouse", fn := fun _ => fun
  | [] => { results := [.lit (.bool false)], args := [] }
  | _ => none }
def FnExactSampleHouseWrongFalsely : Prop := fnExactSampleHouseRow.holds Try.pinned (OpenSpec.ofChange fnExactSampleHouseWrong)

/-- 'laws.FnExactSafeCopies': WHATEVER THE INPUT: true; the input reads as it did. -/
def fnExactSafeCopiesSpec : ChangeSpec := { name := "fnExactSafeCopies", fn := fun _ => fun
  | [d] => { results := [.lit (.bool true)], args := [d] }
  | _ => none }
def fnExactSafeCopiesRow : OpenClaim := { program := "ytfnhcbbfhoiemaa", sum := "fe4ec3e0eef8b1cac5adfeac284a86c89bcd7a663381d6c08ea1119fe84e849c", func := "loop.example/g00992/laws.FnExactSafeCopies", spec := "fnExactSafeCopies", apart := false }
def FnExactSafeCopiesSaid : Prop := fnExactSafeCopiesRow.holds Try.pinned (OpenSpec.ofChange fnExactSafeCopiesSpec)

/-- ITS FALSE NEIGHBOUR: 'it returns false'. Refute it at one input. -/
def fnExactSafeCopiesWrong : ChangeSpec := { name := "fnExactSafeCopies", fn := fun _ => fun
  | [d] => { results := [.lit (.bool false)], args := [d] }
  | _ => none }
def FnExactSafeCopiesWrongFalsely : Prop := fnExactSafeCopiesRow.holds Try.pinned (OpenSpec.ofChange fnExactSafeCopiesWrong)

/-- 'laws.FnExactPassDays': WHATEVER THE INPUT: true; the input reads as it did. -/
def fnExactPassDaysSpec : ChangeSpec := { name := "fnExactPassDays", fn := fun _ => fun
  | [d1, d2] => { results := [.lit (.bool true)], args := [d1, d2] }
  | _ => none }
def fnExactPassDaysRow : OpenClaim := { program := "ytfnhcbbfhoiemaa", sum := "fe4ec3e0eef8b1cac5adfeac284a86c89bcd7a663381d6c08ea1119fe84e849c", func := "loop.example/g00992/laws.FnExactPassDays", spec := "fnExactPassDays", apart := false }
def FnExactPassDaysSaid : Prop := fnExactPassDaysRow.holds Try.pinned (OpenSpec.ofChange fnExactPassDaysSpec)

/-- ITS FALSE NEIGHBOUR: 'it returns false'. Refute it at one input. -/
def fnExactPassDaysWrong : ChangeSpec := { name := "fnExactPassDays", fn := fun _ => fun
  | [d1, d2] => { results := [.lit (.bool false)], args := [d1, d2] }
  | _ => none }
def FnExactPassDaysWrongFalsely : Prop := fnExactPassDaysRow.holds Try.pinned (OpenSpec.ofChange fnExactPassDaysWrong)

/-- 'laws.FnExactMakeCopy': WHATEVER THE INPUT: true; the input reads as it did. -/
def fnExactMakeCopySpec : ChangeSpec := { name := "fnExactMakeCopy", fn := fun _ => fun
  | [d1, d2, d3, d4, d5] => { results := [.lit (.bool true)], args := [d1, d2, d3, d4, d5] }
  | _ => none }
def fnExactMakeCopyRow : OpenClaim := { program := "ytfnhcbbfhoiemaa", sum := "fe4ec3e0eef8b1cac5adfeac284a86c89bcd7a663381d6c08ea1119fe84e849c", func := "loop.example/g00992/laws.FnExactMakeCopy", spec := "fnExactMakeCopy", apart := false }
def FnExactMakeCopySaid : Prop := fnExactMakeCopyRow.holds Try.pinned (OpenSpec.ofChange fnExactMakeCopySpec)

/-- ITS FALSE NEIGHBOUR: 'it returns false'. Refute it at one input. -/
def fnExactMakeCopyWrong : ChangeSpec := { name := "fnExactMakeCopy", fn := fun _ => fun
  | [d1, d2, d3, d4, d5] => { results := [.lit (.bool false)], args := [d1, d2, d3, d4, d5] }
  | _ => none }
def FnExactMakeCopyWrongFalsely : Prop := fnExactMakeCopyRow.holds Try.pinned (OpenSpec.ofChange fnExactMakeCopyWrong)

/- THE SECOND FORM. 'bulk': how many values and letters a reading holds, each counted each time it is reached (what is shared counts as often as it is met; a slice's spare places count too). A statement '..UptoSaid' is the law's where the arguments, and the package variables that the reading takes, are together of bulk at most 1048576: NARROWER than '..Said'. Prove '..Said' where nothing that the law and all that it calls make is longer than what came in: it says more and counts as full. Else prove '..UptoSaid'. A law counts once. -/
mutual
def uptoBulk {H : Type} : DataW H → Nat
  | .lit (.string bytes) => bytes.length + 1
  | .lit _ => 1
  | .nil => 1
  | .ptr d => uptoBulk d + 1
  | .slice elems spare => uptoBulkAll elems + uptoBulkAll spare + 1
  | .agg parts => uptoBulkAll parts + 1
  | .iface _ d => uptoBulk d + 1
  | .map entries => uptoBulkEntries entries + 1
  | .held _ => 1
def uptoBulkAll {H : Type} : List (DataW H) → Nat
  | [] => 0
  | d :: r => uptoBulk d + uptoBulkAll r
def uptoBulkEntries {H : Type} : List (Lit × DataW H) → Nat
  | [] => 0
  | x :: r => uptoBulkEntry x + uptoBulkEntries r
def uptoBulkEntry {H : Type} : Lit × DataW H → Nat
  | (.string bytes, d) => bytes.length + uptoBulk d + 1
  | (_, d) => uptoBulk d + 1
 end
def uptoSmall : (H : Type) → List (DataW H) → Bool := fun _ ds => decide (uptoBulkAll ds ≤ 1048576)
def OpenSpec.upto (s : _root_.Go.ChangeSpec) : _root_.Go.OpenSpec := { _root_.Go.OpenSpec.ofChange s with cond := some uptoSmall }

/-- 'laws.FnRecalls', WHERE WHAT IT READS IS OF BULK AT MOST 1048576: true; the input reads as it did. -/
def fnRecallsUptoRow : OpenClaim := { program := "ytfnhcbbfhoiemaa", sum := "fe4ec3e0eef8b1cac5adfeac284a86c89bcd7a663381d6c08ea1119fe84e849c", func := "loop.example/g00992/laws.FnRecalls", spec := "fnRecalls", apart := false, narrowed := true }
def FnRecallsUptoSaid : Prop := fnRecallsUptoRow.holds Try.pinned (OpenSpec.upto fnRecallsSpec)

/-- 'laws.FnExactAverageOf', WHERE WHAT IT READS IS OF BULK AT MOST 1048576: true; the input reads as it did. -/
def fnExactAverageOfUptoRow : OpenClaim := { program := "ytfnhcbbfhoiemaa", sum := "fe4ec3e0eef8b1cac5adfeac284a86c89bcd7a663381d6c08ea1119fe84e849c", func := "loop.example/g00992/laws.FnExactAverageOf", spec := "fnExactAverageOf", apart := false, narrowed := true }
def FnExactAverageOfUptoSaid : Prop := fnExactAverageOfUptoRow.holds Try.pinned (OpenSpec.upto fnExactAverageOfSpec)

/-- 'laws.FnExactLeastMore', WHERE WHAT IT READS IS OF BULK AT MOST 1048576: true; the input reads as it did. -/
def fnExactLeastMoreUptoRow : OpenClaim := { program := "ytfnhcbbfhoiemaa", sum := "fe4ec3e0eef8b1cac5adfeac284a86c89bcd7a663381d6c08ea1119fe84e849c", func := "loop.example/g00992/laws.FnExactLeastMore", spec := "fnExactLeastMore", apart := false, narrowed := true }
def FnExactLeastMoreUptoSaid : Prop := fnExactLeastMoreUptoRow.holds Try.pinned (OpenSpec.upto fnExactLeastMoreSpec)

/-- 'laws.FnExactAffectedBy', WHERE WHAT IT READS IS OF BULK AT MOST 1048576: true; the input reads as it did. -/
def fnExactAffectedByUptoRow : OpenClaim := { program := "ytfnhcbbfhoiemaa", sum := "fe4ec3e0eef8b1cac5adfeac284a86c89bcd7a663381d6c08ea1119fe84e849c", func := "loop.example/g00992/laws.FnExactAffectedBy", spec := "fnExactAffectedBy", apart := false, narrowed := true }
def FnExactAffectedByUptoSaid : Prop := fnExactAffectedByUptoRow.holds Try.pinned (OpenSpec.upto fnExactAffectedBySpec)

/-- 'laws.FnExactFirstGood', WHERE WHAT IT READS IS OF BULK AT MOST 1048576: true; the input reads as it did. -/
def fnExactFirstGoodUptoRow : OpenClaim := { program := "ytfnhcbbfhoiemaa", sum := "fe4ec3e0eef8b1cac5adfeac284a86c89bcd7a663381d6c08ea1119fe84e849c", func := "loop.example/g00992/laws.FnExactFirstGood", spec := "fnExactFirstGood", apart := false, narrowed := true }
def FnExactFirstGoodUptoSaid : Prop := fnExactFirstGoodUptoRow.holds Try.pinned (OpenSpec.upto fnExactFirstGoodSpec)

/-- 'laws.FnExactHouseOk', WHERE WHAT IT READS IS OF BULK AT MOST 1048576: true; the input reads as it did. -/
def fnExactHouseOkUptoRow : OpenClaim := { program := "ytfnhcbbfhoiemaa", sum := "fe4ec3e0eef8b1cac5adfeac284a86c89bcd7a663381d6c08ea1119fe84e849c", func := "loop.example/g00992/laws.FnExactHouseOk", spec := "fnExactHouseOk", apart := false, narrowed := true }
def FnExactHouseOkUptoSaid : Prop := fnExactHouseOkUptoRow.holds Try.pinned (OpenSpec.upto fnExactHouseOkSpec)

/-- 'laws.FnExactNewHouse', WHERE WHAT IT READS IS OF BULK AT MOST 1048576: true; the input reads as it did. -/
def fnExactNewHouseUptoRow : OpenClaim := { program := "ytfnhcbbfhoiemaa", sum := "fe4ec3e0eef8b1cac5adfeac284a86c89bcd7a663381d6c08ea1119fe84e849c", func := "loop.example/g00992/laws.FnExactNewHouse", spec := "fnExactNewHouse", apart := false, narrowed := true }
def FnExactNewHouseUptoSaid : Prop := fnExactNewHouseUptoRow.holds Try.pinned (OpenSpec.upto fnExactNewHouseSpec)

/-- 'laws.FnExactSampleHouse', WHERE WHAT IT READS IS OF BULK AT MOST 1048576: true; the input reads as it did. -/
def fnExactSampleHouseUptoRow : OpenClaim := { program := "ytfnhcbbfhoiemaa", sum := "fe4ec3e0eef8b1cac5adfeac284a86c89bcd7a663381d6c08ea1119fe84e849c", func := "loop.example/g00992/laws.FnExactSampleHouse", spec := "fnExactSampleHouse", apart := false, narrowed := true }
def FnExactSampleHouseUptoSaid : Prop := fnExactSampleHouseUptoRow.holds Try.pinned (OpenSpec.upto fnExactSampleHouseSpec)

/-- 'laws.FnExactSafeCopies', WHERE WHAT IT READS IS OF BULK AT MOST 1048576: true; the input reads as it did. -/
def fnExactSafeCopiesUptoRow : OpenClaim := { program := "ytfnhcbbfhoiemaa", sum := "fe4ec3e0eef8b1cac5adfeac284a86c89bcd7a663381d6c08ea1119fe84e849c", func := "loop.example/g00992/laws.FnExactSafeCopies", spec := "fnExactSafeCopies", apart := false, narrowed := true }
def FnExactSafeCopiesUptoSaid : Prop := fnExactSafeCopiesUptoRow.holds Try.pinned (OpenSpec.upto fnExactSafeCopiesSpec)

/-- 'laws.FnExactPassDays', WHERE WHAT IT READS IS OF BULK AT MOST 1048576: true; the input reads as it did. -/
def fnExactPassDaysUptoRow : OpenClaim := { program := "ytfnhcbbfhoiemaa", sum := "fe4ec3e0eef8b1cac5adfeac284a86c89bcd7a663381d6c08ea1119fe84e849c", func := "loop.example/g00992/laws.FnExactPassDays", spec := "fnExactPassDays", apart := false, narrowed := true }
def FnExactPassDaysUptoSaid : Prop := fnExactPassDaysUptoRow.holds Try.pinned (OpenSpec.upto fnExactPassDaysSpec)

/-- 'laws.FnExactMakeCopy', WHERE WHAT IT READS IS OF BULK AT MOST 1048576: true; the input reads as it did. -/
def fnExactMakeCopyUptoRow : OpenClaim := { program := "ytfnhcbbfhoiemaa", sum := "fe4ec3e0eef8b1cac5adfeac284a86c89bcd7a663381d6c08ea1119fe84e849c", func := "loop.example/g00992/laws.FnExactMakeCopy", spec := "fnExactMakeCopy", apart := false, narrowed := true }
def FnExactMakeCopyUptoSaid : Prop := fnExactMakeCopyUptoRow.holds Try.pinned (OpenSpec.upto fnExactMakeCopySpec)

end Rows
end Go.Proofs.Ytfnhcbbfhoiemaa
