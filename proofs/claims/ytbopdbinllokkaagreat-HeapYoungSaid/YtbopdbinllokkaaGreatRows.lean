/-
  No cell of these rows narrows 'for every input' (looked for: loops, veiled, ifaces, maps, wideKeys, modest, calm, conditions, laid).
  DERIVED. THE GIVEN ROWS OF THIS SEAT. 7 by the template 'for every input the law returns true; each argument reads behind the call as it read before'; 0 by the template 'total and deterministic' (their statements: YtbopdbinllokkaaGreatTotals.lean).
  GIVEN WITH THE SEED: the statements are not yours to turn. If you find one false, say at which input.
  Laid BY PROGRAM, IN A SANDBOX (cutbox-rows.mjs): the forced cells as the released guide's own fill.sh prints them over the translation 9fb76f33f68bd143… (all of the seat's roots in one cut). By AI agents, Wed Nov 11 2026. No macro, syntax, notation, axiom, sorry.
-/
import Derived.Test.YtbopdbinllokkaaGreatChecked
import GoSem.Claim
import GoSem.ClaimJoined
import GoSem.ClaimMapViews
import Derived.JoinedTies
import Derived.KernelRfl
namespace Go.Proofs.YtbopdbinllokkaaGreat
/- THE CELL 'sum', in the pinned program and in every row, IS THE sha256 OF THE DUMP (.gsa) THAT YtbopdbinllokkaaGreatProg.lean LOADS. Nothing in Lean hashes anything: it is a label: what it is worth is what the hold of that sum in a sandbox is worth. -/
noncomputable def Tryz.pinned : Pinned := { name := "ytbopdbinllokkaagreat", sum := "9fb76f33f68bd14353493e09220fc096c4665aed8605ef42794beea7b6f0870f", checked := Tryz.checked }
namespace Rows
def none {H : Type} : Left H := { results := [], args := [] }

/-- 'arguslaw17.HeapDoes': WHATEVER THE INPUT: true; the input reads as it did. -/
def heapDoesSpec : ChangeSpec := { name := "heapDoes", fn := fun _ => fun
  | [d1, d2] => { results := [.lit (.bool true)], args := [d1, d2] }
  | _ => none }
def heapDoesRow : OpenClaim := { program := "ytbopdbinllokkaagreat", sum := "9fb76f33f68bd14353493e09220fc096c4665aed8605ef42794beea7b6f0870f", func := "argus/arguslaw17.HeapDoes", spec := "heapDoes", unfollowed := true, recurses := true, apart := false }
def HeapDoesSaid : Prop := heapDoesRow.holds Tryz.pinned (OpenSpec.ofChange heapDoesSpec)

/-- ITS FALSE NEIGHBOUR: 'it returns false'. Refute it at one input. -/
def heapDoesWrong : ChangeSpec := { name := "heapDoes", fn := fun _ => fun
  | [d1, d2] => { results := [.lit (.bool false)], args := [d1, d2] }
  | _ => none }
def HeapDoesWrongFalsely : Prop := heapDoesRow.holds Tryz.pinned (OpenSpec.ofChange heapDoesWrong)

/-- 'arguslaw17.HeapKeeps': WHATEVER THE INPUT: true; the input reads as it did. -/
def heapKeepsSpec : ChangeSpec := { name := "heapKeeps", fn := fun _ => fun
  | [d1, d2, d3, d4] => { results := [.lit (.bool true)], args := [d1, d2, d3, d4] }
  | _ => none }
def heapKeepsRow : OpenClaim := { program := "ytbopdbinllokkaagreat", sum := "9fb76f33f68bd14353493e09220fc096c4665aed8605ef42794beea7b6f0870f", func := "argus/arguslaw17.HeapKeeps", spec := "heapKeeps", unfollowed := true, recurses := true, apart := false }
def HeapKeepsSaid : Prop := heapKeepsRow.holds Tryz.pinned (OpenSpec.ofChange heapKeepsSpec)

/-- ITS FALSE NEIGHBOUR: 'it returns false'. Refute it at one input. -/
def heapKeepsWrong : ChangeSpec := { name := "heapKeeps", fn := fun _ => fun
  | [d1, d2, d3, d4] => { results := [.lit (.bool false)], args := [d1, d2, d3, d4] }
  | _ => none }
def HeapKeepsWrongFalsely : Prop := heapKeepsRow.holds Tryz.pinned (OpenSpec.ofChange heapKeepsWrong)

/-- 'arguslaw17.HeapMemory': WHATEVER THE INPUT: true; the input reads as it did. -/
def heapMemorySpec : ChangeSpec := { name := "heapMemory", fn := fun _ => fun
  | [d1, d2, d3] => { results := [.lit (.bool true)], args := [d1, d2, d3] }
  | _ => none }
def heapMemoryRow : OpenClaim := { program := "ytbopdbinllokkaagreat", sum := "9fb76f33f68bd14353493e09220fc096c4665aed8605ef42794beea7b6f0870f", func := "argus/arguslaw17.HeapMemory", spec := "heapMemory", unfollowed := true, recurses := true, apart := false }
def HeapMemorySaid : Prop := heapMemoryRow.holds Tryz.pinned (OpenSpec.ofChange heapMemorySpec)

/-- ITS FALSE NEIGHBOUR: 'it returns false'. Refute it at one input. -/
def heapMemoryWrong : ChangeSpec := { name := "heapMemory", fn := fun _ => fun
  | [d1, d2, d3] => { results := [.lit (.bool false)], args := [d1, d2, d3] }
  | _ => none }
def HeapMemoryWrongFalsely : Prop := heapMemoryRow.holds Tryz.pinned (OpenSpec.ofChange heapMemoryWrong)

/-- 'arguslaw17.HeapNil': WHATEVER THE INPUT: true; the input reads as it did. -/
def heapNilSpec : ChangeSpec := { name := "heapNil", fn := fun _ => fun
  | [d1, d2, d3, d4] => { results := [.lit (.bool true)], args := [d1, d2, d3, d4] }
  | _ => none }
def heapNilRow : OpenClaim := { program := "ytbopdbinllokkaagreat", sum := "9fb76f33f68bd14353493e09220fc096c4665aed8605ef42794beea7b6f0870f", func := "argus/arguslaw17.HeapNil", spec := "heapNil", unfollowed := true, recurses := true, apart := false }
def HeapNilSaid : Prop := heapNilRow.holds Tryz.pinned (OpenSpec.ofChange heapNilSpec)

/-- ITS FALSE NEIGHBOUR: 'it returns false'. Refute it at one input. -/
def heapNilWrong : ChangeSpec := { name := "heapNil", fn := fun _ => fun
  | [d1, d2, d3, d4] => { results := [.lit (.bool false)], args := [d1, d2, d3, d4] }
  | _ => none }
def HeapNilWrongFalsely : Prop := heapNilRow.holds Tryz.pinned (OpenSpec.ofChange heapNilWrong)

/-- 'arguslaw17.HeapSlices': WHATEVER THE INPUT: true; the input reads as it did. -/
def heapSlicesSpec : ChangeSpec := { name := "heapSlices", fn := fun _ => fun
  | [d1, d2, d3, d4, d5] => { results := [.lit (.bool true)], args := [d1, d2, d3, d4, d5] }
  | _ => none }
def heapSlicesRow : OpenClaim := { program := "ytbopdbinllokkaagreat", sum := "9fb76f33f68bd14353493e09220fc096c4665aed8605ef42794beea7b6f0870f", func := "argus/arguslaw17.HeapSlices", spec := "heapSlices", unfollowed := true, recurses := true, apart := false }
def HeapSlicesSaid : Prop := heapSlicesRow.holds Tryz.pinned (OpenSpec.ofChange heapSlicesSpec)

/-- ITS FALSE NEIGHBOUR: 'it returns false'. Refute it at one input. -/
def heapSlicesWrong : ChangeSpec := { name := "heapSlices", fn := fun _ => fun
  | [d1, d2, d3, d4, d5] => { results := [.lit (.bool false)], args := [d1, d2, d3, d4, d5] }
  | _ => none }
def HeapSlicesWrongFalsely : Prop := heapSlicesRow.holds Tryz.pinned (OpenSpec.ofChange heapSlicesWrong)

/-- 'arguslaw17.HeapYoung': WHATEVER THE INPUT: true; the input reads as it did. -/
def heapYoungSpec : ChangeSpec := { name := "heapYoung", fn := fun _ => fun
  | [d1, d2, d3] => { results := [.lit (.bool true)], args := [d1, d2, d3] }
  | _ => none }
def heapYoungRow : OpenClaim := { program := "ytbopdbinllokkaagreat", sum := "9fb76f33f68bd14353493e09220fc096c4665aed8605ef42794beea7b6f0870f", func := "argus/arguslaw17.HeapYoung", spec := "heapYoung", unfollowed := true, recurses := true, apart := false }
def HeapYoungSaid : Prop := heapYoungRow.holds Tryz.pinned (OpenSpec.ofChange heapYoungSpec)

/-- ITS FALSE NEIGHBOUR: 'it returns false'. Refute it at one input. -/
def heapYoungWrong : ChangeSpec := { name := "heapYoung", fn := fun _ => fun
  | [d1, d2, d3] => { results := [.lit (.bool false)], args := [d1, d2, d3] }
  | _ => none }
def HeapYoungWrongFalsely : Prop := heapYoungRow.holds Tryz.pinned (OpenSpec.ofChange heapYoungWrong)

/-- 'arguslaw17.HeapPlaces': WHATEVER THE INPUT: true; the input reads as it did. -/
def heapPlacesSpec : ChangeSpec := { name := "heapPlaces", fn := fun _ => fun
  | [d1, d2] => { results := [.lit (.bool true)], args := [d1, d2] }
  | _ => none }
def heapPlacesRow : OpenClaim := { program := "ytbopdbinllokkaagreat", sum := "9fb76f33f68bd14353493e09220fc096c4665aed8605ef42794beea7b6f0870f", func := "argus/arguslaw17.HeapPlaces", spec := "heapPlaces", unfollowed := true, recurses := true, apart := false }
def HeapPlacesSaid : Prop := heapPlacesRow.holds Tryz.pinned (OpenSpec.ofChange heapPlacesSpec)

/-- ITS FALSE NEIGHBOUR: 'it returns false'. Refute it at one input. -/
def heapPlacesWrong : ChangeSpec := { name := "heapPlaces", fn := fun _ => fun
  | [d1, d2] => { results := [.lit (.bool false)], args := [d1, d2] }
  | _ => none }
def HeapPlacesWrongFalsely : Prop := heapPlacesRow.holds Tryz.pinned (OpenSpec.ofChange heapPlacesWrong)

/- THE SECOND FORM. 'bulk': how many values and letters a reading holds, each counted each time it is reached (what is shared counts as often as it is met; a slice's spare places count too). A statement '..UptoSaid' is the law's where the arguments, and the package variables that the reading takes, are together of bulk at most 1048576: NARROWER than '..Said'. Prove '..Said' where nothing that the law and all that it calls make is longer than what came in: it says more and counts as full. Else prove '..UptoSaid'. A law counts once. -/
mutual
def uptoBulk {H : Type} : DataW H → Nat
  | .lit (.string bytes) => bytes.length + 1
  | .lit _ => 1
  | .nil => 1
  | .ptr d => uptoBulk d + 1
  | .slice elems spare => uptoBulkAll elems + uptoBulkAll spare + 1
  | .agg parts => uptoBulkAll parts + 1
  | .iface _ d => uptoBulk d + 1
  | .map entries => uptoBulkEntries entries + 1
  | .held _ => 1
def uptoBulkAll {H : Type} : List (DataW H) → Nat
  | [] => 0
  | d :: r => uptoBulk d + uptoBulkAll r
def uptoBulkEntries {H : Type} : List (Lit × DataW H) → Nat
  | [] => 0
  | x :: r => uptoBulkEntry x + uptoBulkEntries r
def uptoBulkEntry {H : Type} : Lit × DataW H → Nat
  | (.string bytes, d) => bytes.length + uptoBulk d + 1
  | (_, d) => uptoBulk d + 1
 end
def uptoSmall : (H : Type) → List (DataW H) → Bool := fun _ ds => decide (uptoBulkAll ds ≤ 1048576)
def OpenSpec.upto (s : _root_.Go.ChangeSpec) : _root_.Go.OpenSpec := { _root_.Go.OpenSpec.ofChange s with cond := some uptoSmall }

/-- 'arguslaw17.HeapDoes', WHERE WHAT IT READS IS OF BULK AT MOST 1048576: true; the input reads as it did. -/
def heapDoesUptoRow : OpenClaim := { program := "ytbopdbinllokkaagreat", sum := "9fb76f33f68bd14353493e09220fc096c4665aed8605ef42794beea7b6f0870f", func := "argus/arguslaw17.HeapDoes", spec := "heapDoes", unfollowed := true, recurses := true, apart := false, narrowed := true }
def HeapDoesUptoSaid : Prop := heapDoesUptoRow.holds Tryz.pinned (OpenSpec.upto heapDoesSpec)

/-- 'arguslaw17.HeapKeeps', WHERE WHAT IT READS IS OF BULK AT MOST 1048576: true; the input reads as it did. -/
def heapKeepsUptoRow : OpenClaim := { program := "ytbopdbinllokkaagreat", sum := "9fb76f33f68bd14353493e09220fc096c4665aed8605ef42794beea7b6f0870f", func := "argus/arguslaw17.HeapKeeps", spec := "heapKeeps", unfollowed := true, recurses := true, apart := false, narrowed := true }
def HeapKeepsUptoSaid : Prop := heapKeepsUptoRow.holds Tryz.pinned (OpenSpec.upto heapKeepsSpec)

/-- 'arguslaw17.HeapMemory', WHERE WHAT IT READS IS OF BULK AT MOST 1048576: true; the input reads as it did. -/
def heapMemoryUptoRow : OpenClaim := { program := "ytbopdbinllokkaagreat", sum := "9fb76f33f68bd14353493e09220fc096c4665aed8605ef42794beea7b6f0870f", func := "argus/arguslaw17.HeapMemory", spec := "heapMemory", unfollowed := true, recurses := true, apart := false, narrowed := true }
def HeapMemoryUptoSaid : Prop := heapMemoryUptoRow.holds Tryz.pinned (OpenSpec.upto heapMemorySpec)

/-- 'arguslaw17.HeapNil', WHERE WHAT IT READS IS OF BULK AT MOST 1048576: true; the input reads as it did. -/
def heapNilUptoRow : OpenClaim := { program := "ytbopdbinllokkaagreat", sum := "9fb76f33f68bd14353493e09220fc096c4665aed8605ef42794beea7b6f0870f", func := "argus/arguslaw17.HeapNil", spec := "heapNil", unfollowed := true, recurses := true, apart := false, narrowed := true }
def HeapNilUptoSaid : Prop := heapNilUptoRow.holds Tryz.pinned (OpenSpec.upto heapNilSpec)

/-- 'arguslaw17.HeapSlices', WHERE WHAT IT READS IS OF BULK AT MOST 1048576: true; the input reads as it did. -/
def heapSlicesUptoRow : OpenClaim := { program := "ytbopdbinllokkaagreat", sum := "9fb76f33f68bd14353493e09220fc096c4665aed8605ef42794beea7b6f0870f", func := "argus/arguslaw17.HeapSlices", spec := "heapSlices", unfollowed := true, recurses := true, apart := false, narrowed := true }
def HeapSlicesUptoSaid : Prop := heapSlicesUptoRow.holds Tryz.pinned (OpenSpec.upto heapSlicesSpec)

/-- 'arguslaw17.HeapYoung', WHERE WHAT IT READS IS OF BULK AT MOST 1048576: true; the input reads as it did. -/
def heapYoungUptoRow : OpenClaim := { program := "ytbopdbinllokkaagreat", sum := "9fb76f33f68bd14353493e09220fc096c4665aed8605ef42794beea7b6f0870f", func := "argus/arguslaw17.HeapYoung", spec := "heapYoung", unfollowed := true, recurses := true, apart := false, narrowed := true }
def HeapYoungUptoSaid : Prop := heapYoungUptoRow.holds Tryz.pinned (OpenSpec.upto heapYoungSpec)

/-- 'arguslaw17.HeapPlaces', WHERE WHAT IT READS IS OF BULK AT MOST 1048576: true; the input reads as it did. -/
def heapPlacesUptoRow : OpenClaim := { program := "ytbopdbinllokkaagreat", sum := "9fb76f33f68bd14353493e09220fc096c4665aed8605ef42794beea7b6f0870f", func := "argus/arguslaw17.HeapPlaces", spec := "heapPlaces", unfollowed := true, recurses := true, apart := false, narrowed := true }
def HeapPlacesUptoSaid : Prop := heapPlacesUptoRow.holds Tryz.pinned (OpenSpec.upto heapPlacesSpec)

end Rows
end Go.Proofs.YtbopdbinllokkaaGreat
