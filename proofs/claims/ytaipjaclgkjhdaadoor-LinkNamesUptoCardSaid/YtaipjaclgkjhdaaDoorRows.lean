/-
  NARROWER THAN 'FOR EVERY INPUT', by the rows' own cells (each row's printed sentence says how): LinkImages: laid · LinkBytes: laid · LinkOrders: laid · LinkPlaces: laid · LinkNames: laid · LinkMemory: laid · LinkReaches: laid · LinkLeast: laid · LinkChecks: laid · LinkLinks: laid.
  DERIVED. THE GIVEN ROWS OF THIS SEAT. 10 by the template 'for every input the law returns true; each argument reads behind the call as it read before'; 0 by the template 'total and deterministic' (their statements: YtaipjaclgkjhdaaDoorTotals.lean).
  GIVEN WITH THE SEED: the statements are not yours to turn. If you find one false, say at which input.
  Laid BY PROGRAM, IN A SANDBOX (cutbox-rows.mjs): the forced cells as the released guide's own fill.sh prints them over the translation 713bf5255f042f04… (all of the seat's roots in one cut). By AI agents, Wed Nov 11 2026. No macro, syntax, notation, axiom, sorry.
-/
import Derived.Test.YtaipjaclgkjhdaaDoorChecked
import GoSem.Claim
import GoSem.ClaimJoined
import GoSem.ClaimMapViews
import Derived.JoinedTies
import Derived.KernelRfl
namespace Go.Proofs.YtaipjaclgkjhdaaDoor
/- THE CELL 'sum', in the pinned program and in every row, IS THE sha256 OF THE DUMP (.gsa) THAT YtaipjaclgkjhdaaDoorProg.lean LOADS. Nothing in Lean hashes anything: it is a label: what it is worth is what the hold of that sum in a sandbox is worth. -/
noncomputable def Tryd.pinned : Pinned := { name := "ytaipjaclgkjhdaadoor", sum := "713bf5255f042f04d8f671af86ae87146e2da9facf8ee06403563b04d4f60a63", checked := Tryd.checked }
namespace Rows
def none {H : Type} : Left H := { results := [], args := [] }

/- WHAT THE LISTED PACKAGE-LEVEL VARIABLES READ AS WHEN THE CALL BEGINS. Each datum BY PROGRAM (the guide's laid-datum.mjs) off the statement by which the dump's own 'gosem.cut.vars' lays the variable. In a bare row this is a premise. The card (YtaipjaclgkjhdaaDoorCards.lean) ties it to the program's text. -/
def laid_bytes_ErrTooLarge {H : Type} : DataW H := .iface "*errors.errorString" (.ptr (.agg [.lit (.string [98, 121, 116, 101, 115, 46, 66, 117, 102, 102, 101, 114, 58, 32, 116, 111, 111, 32, 108, 97, 114, 103, 101])]))

/-- 'arguslaw16.LinkImages': WHATEVER THE INPUT: true; the input reads as it did. -/
def linkImagesSpec : ChangeSpec := { name := "linkImages", fn := fun _ => fun
  | [d1, d2, d3] => { results := [.lit (.bool true)], args := [d1, d2, d3] }
  | _ => none }
def linkImagesRow : OpenClaim := { program := "ytaipjaclgkjhdaadoor", sum := "713bf5255f042f04d8f671af86ae87146e2da9facf8ee06403563b04d4f60a63", func := "argus/arguslaw16.LinkImages", spec := "linkImages", unfollowed := true, recurses := true, named := ["bytes.ErrTooLarge"], apart := false, laid := [("bytes.ErrTooLarge", laid_bytes_ErrTooLarge)] }
def LinkImagesSaid : Prop := linkImagesRow.holds Tryd.pinned (OpenSpec.ofChange linkImagesSpec)

/-- ITS FALSE NEIGHBOUR: 'it returns false'. Refute it at one input. -/
def linkImagesWrong : ChangeSpec := { name := "linkImages", fn := fun _ => fun
  | [d1, d2, d3] => { results := [.lit (.bool false)], args := [d1, d2, d3] }
  | _ => none }
def LinkImagesWrongFalsely : Prop := linkImagesRow.holds Tryd.pinned (OpenSpec.ofChange linkImagesWrong)

/-- 'arguslaw16.LinkBytes': WHATEVER THE INPUT: true; the input reads as it did. -/
def linkBytesSpec : ChangeSpec := { name := "linkBytes", fn := fun _ => fun
  | [d1, d2] => { results := [.lit (.bool true)], args := [d1, d2] }
  | _ => none }
def linkBytesRow : OpenClaim := { program := "ytaipjaclgkjhdaadoor", sum := "713bf5255f042f04d8f671af86ae87146e2da9facf8ee06403563b04d4f60a63", func := "argus/arguslaw16.LinkBytes", spec := "linkBytes", unfollowed := true, recurses := true, named := ["bytes.ErrTooLarge"], apart := false, laid := [("bytes.ErrTooLarge", laid_bytes_ErrTooLarge)] }
def LinkBytesSaid : Prop := linkBytesRow.holds Tryd.pinned (OpenSpec.ofChange linkBytesSpec)

/-- ITS FALSE NEIGHBOUR: 'it returns false'. Refute it at one input. -/
def linkBytesWrong : ChangeSpec := { name := "linkBytes", fn := fun _ => fun
  | [d1, d2] => { results := [.lit (.bool false)], args := [d1, d2] }
  | _ => none }
def LinkBytesWrongFalsely : Prop := linkBytesRow.holds Tryd.pinned (OpenSpec.ofChange linkBytesWrong)

/-- 'arguslaw16.LinkOrders': WHATEVER THE INPUT: true; the input reads as it did. -/
def linkOrdersSpec : ChangeSpec := { name := "linkOrders", fn := fun _ => fun
  | [d1, d2, d3, d4] => { results := [.lit (.bool true)], args := [d1, d2, d3, d4] }
  | _ => none }
def linkOrdersRow : OpenClaim := { program := "ytaipjaclgkjhdaadoor", sum := "713bf5255f042f04d8f671af86ae87146e2da9facf8ee06403563b04d4f60a63", func := "argus/arguslaw16.LinkOrders", spec := "linkOrders", unfollowed := true, recurses := true, named := ["bytes.ErrTooLarge"], apart := false, laid := [("bytes.ErrTooLarge", laid_bytes_ErrTooLarge)] }
def LinkOrdersSaid : Prop := linkOrdersRow.holds Tryd.pinned (OpenSpec.ofChange linkOrdersSpec)

/-- ITS FALSE NEIGHBOUR: 'it returns false'. Refute it at one input. -/
def linkOrdersWrong : ChangeSpec := { name := "linkOrders", fn := fun _ => fun
  | [d1, d2, d3, d4] => { results := [.lit (.bool false)], args := [d1, d2, d3, d4] }
  | _ => none }
def LinkOrdersWrongFalsely : Prop := linkOrdersRow.holds Tryd.pinned (OpenSpec.ofChange linkOrdersWrong)

/-- 'arguslaw16.LinkPlaces': WHATEVER THE INPUT: true; the input reads as it did. -/
def linkPlacesSpec : ChangeSpec := { name := "linkPlaces", fn := fun _ => fun
  | [d1, d2] => { results := [.lit (.bool true)], args := [d1, d2] }
  | _ => none }
def linkPlacesRow : OpenClaim := { program := "ytaipjaclgkjhdaadoor", sum := "713bf5255f042f04d8f671af86ae87146e2da9facf8ee06403563b04d4f60a63", func := "argus/arguslaw16.LinkPlaces", spec := "linkPlaces", unfollowed := true, recurses := true, named := ["bytes.ErrTooLarge"], apart := false, laid := [("bytes.ErrTooLarge", laid_bytes_ErrTooLarge)] }
def LinkPlacesSaid : Prop := linkPlacesRow.holds Tryd.pinned (OpenSpec.ofChange linkPlacesSpec)

/-- ITS FALSE NEIGHBOUR: 'it returns false'. Refute it at one input. -/
def linkPlacesWrong : ChangeSpec := { name := "linkPlaces", fn := fun _ => fun
  | [d1, d2] => { results := [.lit (.bool false)], args := [d1, d2] }
  | _ => none }
def LinkPlacesWrongFalsely : Prop := linkPlacesRow.holds Tryd.pinned (OpenSpec.ofChange linkPlacesWrong)

/-- 'arguslaw16.LinkNames': WHATEVER THE INPUT: true; the input reads as it did. -/
def linkNamesSpec : ChangeSpec := { name := "linkNames", fn := fun _ => fun
  | [d1, d2, d3] => { results := [.lit (.bool true)], args := [d1, d2, d3] }
  | _ => none }
def linkNamesRow : OpenClaim := { program := "ytaipjaclgkjhdaadoor", sum := "713bf5255f042f04d8f671af86ae87146e2da9facf8ee06403563b04d4f60a63", func := "argus/arguslaw16.LinkNames", spec := "linkNames", unfollowed := true, recurses := true, named := ["bytes.ErrTooLarge"], apart := false, laid := [("bytes.ErrTooLarge", laid_bytes_ErrTooLarge)] }
def LinkNamesSaid : Prop := linkNamesRow.holds Tryd.pinned (OpenSpec.ofChange linkNamesSpec)

/-- ITS FALSE NEIGHBOUR: 'it returns false'. Refute it at one input. -/
def linkNamesWrong : ChangeSpec := { name := "linkNames", fn := fun _ => fun
  | [d1, d2, d3] => { results := [.lit (.bool false)], args := [d1, d2, d3] }
  | _ => none }
def LinkNamesWrongFalsely : Prop := linkNamesRow.holds Tryd.pinned (OpenSpec.ofChange linkNamesWrong)

/-- 'arguslaw16.LinkMemory': WHATEVER THE INPUT: true; the input reads as it did. -/
def linkMemorySpec : ChangeSpec := { name := "linkMemory", fn := fun _ => fun
  | [d1, d2] => { results := [.lit (.bool true)], args := [d1, d2] }
  | _ => none }
def linkMemoryRow : OpenClaim := { program := "ytaipjaclgkjhdaadoor", sum := "713bf5255f042f04d8f671af86ae87146e2da9facf8ee06403563b04d4f60a63", func := "argus/arguslaw16.LinkMemory", spec := "linkMemory", unfollowed := true, recurses := true, named := ["bytes.ErrTooLarge"], apart := false, laid := [("bytes.ErrTooLarge", laid_bytes_ErrTooLarge)] }
def LinkMemorySaid : Prop := linkMemoryRow.holds Tryd.pinned (OpenSpec.ofChange linkMemorySpec)

/-- ITS FALSE NEIGHBOUR: 'it returns false'. Refute it at one input. -/
def linkMemoryWrong : ChangeSpec := { name := "linkMemory", fn := fun _ => fun
  | [d1, d2] => { results := [.lit (.bool false)], args := [d1, d2] }
  | _ => none }
def LinkMemoryWrongFalsely : Prop := linkMemoryRow.holds Tryd.pinned (OpenSpec.ofChange linkMemoryWrong)

/-- 'arguslaw16.LinkReaches': WHATEVER THE INPUT: true; the input reads as it did. -/
def linkReachesSpec : ChangeSpec := { name := "linkReaches", fn := fun _ => fun
  | [d1, d2] => { results := [.lit (.bool true)], args := [d1, d2] }
  | _ => none }
def linkReachesRow : OpenClaim := { program := "ytaipjaclgkjhdaadoor", sum := "713bf5255f042f04d8f671af86ae87146e2da9facf8ee06403563b04d4f60a63", func := "argus/arguslaw16.LinkReaches", spec := "linkReaches", unfollowed := true, recurses := true, named := ["bytes.ErrTooLarge"], apart := false, laid := [("bytes.ErrTooLarge", laid_bytes_ErrTooLarge)] }
def LinkReachesSaid : Prop := linkReachesRow.holds Tryd.pinned (OpenSpec.ofChange linkReachesSpec)

/-- ITS FALSE NEIGHBOUR: 'it returns false'. Refute it at one input. -/
def linkReachesWrong : ChangeSpec := { name := "linkReaches", fn := fun _ => fun
  | [d1, d2] => { results := [.lit (.bool false)], args := [d1, d2] }
  | _ => none }
def LinkReachesWrongFalsely : Prop := linkReachesRow.holds Tryd.pinned (OpenSpec.ofChange linkReachesWrong)

/-- 'arguslaw16.LinkLeast': WHATEVER THE INPUT: true; the input reads as it did. -/
def linkLeastSpec : ChangeSpec := { name := "linkLeast", fn := fun _ => fun
  | [d1, d2, d3] => { results := [.lit (.bool true)], args := [d1, d2, d3] }
  | _ => none }
def linkLeastRow : OpenClaim := { program := "ytaipjaclgkjhdaadoor", sum := "713bf5255f042f04d8f671af86ae87146e2da9facf8ee06403563b04d4f60a63", func := "argus/arguslaw16.LinkLeast", spec := "linkLeast", unfollowed := true, recurses := true, named := ["bytes.ErrTooLarge"], apart := false, laid := [("bytes.ErrTooLarge", laid_bytes_ErrTooLarge)] }
def LinkLeastSaid : Prop := linkLeastRow.holds Tryd.pinned (OpenSpec.ofChange linkLeastSpec)

/-- ITS FALSE NEIGHBOUR: 'it returns false'. Refute it at one input. -/
def linkLeastWrong : ChangeSpec := { name := "linkLeast", fn := fun _ => fun
  | [d1, d2, d3] => { results := [.lit (.bool false)], args := [d1, d2, d3] }
  | _ => none }
def LinkLeastWrongFalsely : Prop := linkLeastRow.holds Tryd.pinned (OpenSpec.ofChange linkLeastWrong)

/-- 'arguslaw16.LinkChecks': WHATEVER THE INPUT: true; the input reads as it did. -/
def linkChecksSpec : ChangeSpec := { name := "linkChecks", fn := fun _ => fun
  | [d] => { results := [.lit (.bool true)], args := [d] }
  | _ => none }
def linkChecksRow : OpenClaim := { program := "ytaipjaclgkjhdaadoor", sum := "713bf5255f042f04d8f671af86ae87146e2da9facf8ee06403563b04d4f60a63", func := "argus/arguslaw16.LinkChecks", spec := "linkChecks", unfollowed := true, recurses := true, named := ["bytes.ErrTooLarge"], apart := false, laid := [("bytes.ErrTooLarge", laid_bytes_ErrTooLarge)] }
def LinkChecksSaid : Prop := linkChecksRow.holds Tryd.pinned (OpenSpec.ofChange linkChecksSpec)

/-- ITS FALSE NEIGHBOUR: 'it returns false'. Refute it at one input. -/
def linkChecksWrong : ChangeSpec := { name := "linkChecks", fn := fun _ => fun
  | [d] => { results := [.lit (.bool false)], args := [d] }
  | _ => none }
def LinkChecksWrongFalsely : Prop := linkChecksRow.holds Tryd.pinned (OpenSpec.ofChange linkChecksWrong)

/-- 'arguslaw16.LinkLinks': WHATEVER THE INPUT: true; the input reads as it did. -/
def linkLinksSpec : ChangeSpec := { name := "linkLinks", fn := fun _ => fun
  | [d1, d2, d3] => { results := [.lit (.bool true)], args := [d1, d2, d3] }
  | _ => none }
def linkLinksRow : OpenClaim := { program := "ytaipjaclgkjhdaadoor", sum := "713bf5255f042f04d8f671af86ae87146e2da9facf8ee06403563b04d4f60a63", func := "argus/arguslaw16.LinkLinks", spec := "linkLinks", unfollowed := true, recurses := true, named := ["bytes.ErrTooLarge"], apart := false, laid := [("bytes.ErrTooLarge", laid_bytes_ErrTooLarge)] }
def LinkLinksSaid : Prop := linkLinksRow.holds Tryd.pinned (OpenSpec.ofChange linkLinksSpec)

/-- ITS FALSE NEIGHBOUR: 'it returns false'. Refute it at one input. -/
def linkLinksWrong : ChangeSpec := { name := "linkLinks", fn := fun _ => fun
  | [d1, d2, d3] => { results := [.lit (.bool false)], args := [d1, d2, d3] }
  | _ => none }
def LinkLinksWrongFalsely : Prop := linkLinksRow.holds Tryd.pinned (OpenSpec.ofChange linkLinksWrong)

/- THE SECOND FORM. 'bulk': how many values and letters a reading holds, each counted each time it is reached (what is shared counts as often as it is met; a slice's spare places count too). A statement '..UptoSaid' is the law's where the arguments, and the package variables that the reading takes, are together of bulk at most 1048576: NARROWER than '..Said'. Prove '..Said' where nothing that the law and all that it calls make is longer than what came in: it says more and counts as full. Else prove '..UptoSaid'. A law counts once. -/
mutual
def uptoBulk {H : Type} : DataW H → Nat
  | .lit (.string bytes) => bytes.length + 1
  | .lit _ => 1
  | .nil => 1
  | .ptr d => uptoBulk d + 1
  | .slice elems spare => uptoBulkAll elems + uptoBulkAll spare + 1
  | .agg parts => uptoBulkAll parts + 1
  | .iface _ d => uptoBulk d + 1
  | .map entries => uptoBulkEntries entries + 1
  | .held _ => 1
def uptoBulkAll {H : Type} : List (DataW H) → Nat
  | [] => 0
  | d :: r => uptoBulk d + uptoBulkAll r
def uptoBulkEntries {H : Type} : List (Lit × DataW H) → Nat
  | [] => 0
  | x :: r => uptoBulkEntry x + uptoBulkEntries r
def uptoBulkEntry {H : Type} : Lit × DataW H → Nat
  | (.string bytes, d) => bytes.length + uptoBulk d + 1
  | (_, d) => uptoBulk d + 1
 end
def uptoSmall : (H : Type) → List (DataW H) → Bool := fun _ ds => decide (uptoBulkAll ds ≤ 1048576)
def OpenSpec.upto (s : _root_.Go.ChangeSpec) : _root_.Go.OpenSpec := { _root_.Go.OpenSpec.ofChange s with cond := some uptoSmall }

/-- 'arguslaw16.LinkImages', WHERE WHAT IT READS IS OF BULK AT MOST 1048576: true; the input reads as it did. -/
def linkImagesUptoRow : OpenClaim := { program := "ytaipjaclgkjhdaadoor", sum := "713bf5255f042f04d8f671af86ae87146e2da9facf8ee06403563b04d4f60a63", func := "argus/arguslaw16.LinkImages", spec := "linkImages", unfollowed := true, recurses := true, named := ["bytes.ErrTooLarge"], apart := false, laid := [("bytes.ErrTooLarge", laid_bytes_ErrTooLarge)], narrowed := true }
def LinkImagesUptoSaid : Prop := linkImagesUptoRow.holds Tryd.pinned (OpenSpec.upto linkImagesSpec)

/-- 'arguslaw16.LinkBytes', WHERE WHAT IT READS IS OF BULK AT MOST 1048576: true; the input reads as it did. -/
def linkBytesUptoRow : OpenClaim := { program := "ytaipjaclgkjhdaadoor", sum := "713bf5255f042f04d8f671af86ae87146e2da9facf8ee06403563b04d4f60a63", func := "argus/arguslaw16.LinkBytes", spec := "linkBytes", unfollowed := true, recurses := true, named := ["bytes.ErrTooLarge"], apart := false, laid := [("bytes.ErrTooLarge", laid_bytes_ErrTooLarge)], narrowed := true }
def LinkBytesUptoSaid : Prop := linkBytesUptoRow.holds Tryd.pinned (OpenSpec.upto linkBytesSpec)

/-- 'arguslaw16.LinkOrders', WHERE WHAT IT READS IS OF BULK AT MOST 1048576: true; the input reads as it did. -/
def linkOrdersUptoRow : OpenClaim := { program := "ytaipjaclgkjhdaadoor", sum := "713bf5255f042f04d8f671af86ae87146e2da9facf8ee06403563b04d4f60a63", func := "argus/arguslaw16.LinkOrders", spec := "linkOrders", unfollowed := true, recurses := true, named := ["bytes.ErrTooLarge"], apart := false, laid := [("bytes.ErrTooLarge", laid_bytes_ErrTooLarge)], narrowed := true }
def LinkOrdersUptoSaid : Prop := linkOrdersUptoRow.holds Tryd.pinned (OpenSpec.upto linkOrdersSpec)

/-- 'arguslaw16.LinkPlaces', WHERE WHAT IT READS IS OF BULK AT MOST 1048576: true; the input reads as it did. -/
def linkPlacesUptoRow : OpenClaim := { program := "ytaipjaclgkjhdaadoor", sum := "713bf5255f042f04d8f671af86ae87146e2da9facf8ee06403563b04d4f60a63", func := "argus/arguslaw16.LinkPlaces", spec := "linkPlaces", unfollowed := true, recurses := true, named := ["bytes.ErrTooLarge"], apart := false, laid := [("bytes.ErrTooLarge", laid_bytes_ErrTooLarge)], narrowed := true }
def LinkPlacesUptoSaid : Prop := linkPlacesUptoRow.holds Tryd.pinned (OpenSpec.upto linkPlacesSpec)

/-- 'arguslaw16.LinkNames', WHERE WHAT IT READS IS OF BULK AT MOST 1048576: true; the input reads as it did. -/
def linkNamesUptoRow : OpenClaim := { program := "ytaipjaclgkjhdaadoor", sum := "713bf5255f042f04d8f671af86ae87146e2da9facf8ee06403563b04d4f60a63", func := "argus/arguslaw16.LinkNames", spec := "linkNames", unfollowed := true, recurses := true, named := ["bytes.ErrTooLarge"], apart := false, laid := [("bytes.ErrTooLarge", laid_bytes_ErrTooLarge)], narrowed := true }
def LinkNamesUptoSaid : Prop := linkNamesUptoRow.holds Tryd.pinned (OpenSpec.upto linkNamesSpec)

/-- 'arguslaw16.LinkMemory', WHERE WHAT IT READS IS OF BULK AT MOST 1048576: true; the input reads as it did. -/
def linkMemoryUptoRow : OpenClaim := { program := "ytaipjaclgkjhdaadoor", sum := "713bf5255f042f04d8f671af86ae87146e2da9facf8ee06403563b04d4f60a63", func := "argus/arguslaw16.LinkMemory", spec := "linkMemory", unfollowed := true, recurses := true, named := ["bytes.ErrTooLarge"], apart := false, laid := [("bytes.ErrTooLarge", laid_bytes_ErrTooLarge)], narrowed := true }
def LinkMemoryUptoSaid : Prop := linkMemoryUptoRow.holds Tryd.pinned (OpenSpec.upto linkMemorySpec)

/-- 'arguslaw16.LinkReaches', WHERE WHAT IT READS IS OF BULK AT MOST 1048576: true; the input reads as it did. -/
def linkReachesUptoRow : OpenClaim := { program := "ytaipjaclgkjhdaadoor", sum := "713bf5255f042f04d8f671af86ae87146e2da9facf8ee06403563b04d4f60a63", func := "argus/arguslaw16.LinkReaches", spec := "linkReaches", unfollowed := true, recurses := true, named := ["bytes.ErrTooLarge"], apart := false, laid := [("bytes.ErrTooLarge", laid_bytes_ErrTooLarge)], narrowed := true }
def LinkReachesUptoSaid : Prop := linkReachesUptoRow.holds Tryd.pinned (OpenSpec.upto linkReachesSpec)

/-- 'arguslaw16.LinkLeast', WHERE WHAT IT READS IS OF BULK AT MOST 1048576: true; the input reads as it did. -/
def linkLeastUptoRow : OpenClaim := { program := "ytaipjaclgkjhdaadoor", sum := "713bf5255f042f04d8f671af86ae87146e2da9facf8ee06403563b04d4f60a63", func := "argus/arguslaw16.LinkLeast", spec := "linkLeast", unfollowed := true, recurses := true, named := ["bytes.ErrTooLarge"], apart := false, laid := [("bytes.ErrTooLarge", laid_bytes_ErrTooLarge)], narrowed := true }
def LinkLeastUptoSaid : Prop := linkLeastUptoRow.holds Tryd.pinned (OpenSpec.upto linkLeastSpec)

/-- 'arguslaw16.LinkChecks', WHERE WHAT IT READS IS OF BULK AT MOST 1048576: true; the input reads as it did. -/
def linkChecksUptoRow : OpenClaim := { program := "ytaipjaclgkjhdaadoor", sum := "713bf5255f042f04d8f671af86ae87146e2da9facf8ee06403563b04d4f60a63", func := "argus/arguslaw16.LinkChecks", spec := "linkChecks", unfollowed := true, recurses := true, named := ["bytes.ErrTooLarge"], apart := false, laid := [("bytes.ErrTooLarge", laid_bytes_ErrTooLarge)], narrowed := true }
def LinkChecksUptoSaid : Prop := linkChecksUptoRow.holds Tryd.pinned (OpenSpec.upto linkChecksSpec)

/-- 'arguslaw16.LinkLinks', WHERE WHAT IT READS IS OF BULK AT MOST 1048576: true; the input reads as it did. -/
def linkLinksUptoRow : OpenClaim := { program := "ytaipjaclgkjhdaadoor", sum := "713bf5255f042f04d8f671af86ae87146e2da9facf8ee06403563b04d4f60a63", func := "argus/arguslaw16.LinkLinks", spec := "linkLinks", unfollowed := true, recurses := true, named := ["bytes.ErrTooLarge"], apart := false, laid := [("bytes.ErrTooLarge", laid_bytes_ErrTooLarge)], narrowed := true }
def LinkLinksUptoSaid : Prop := linkLinksUptoRow.holds Tryd.pinned (OpenSpec.upto linkLinksSpec)

end Rows
end Go.Proofs.YtaipjaclgkjhdaaDoor
