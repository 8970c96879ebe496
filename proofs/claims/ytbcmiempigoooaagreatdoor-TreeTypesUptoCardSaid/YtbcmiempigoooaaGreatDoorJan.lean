/- Texts of mine for the claims about layer 2 (tree), joined: EngN. -/
import Derived.Test.YtbcmiempigoooaaGreatDoorJam
set_option linter.all false
set_option linter.unusedSimpArgs false
set_option linter.unusedVariables false
namespace Go.Eng
open Go.RowKit Go.MapKept
structure RangeB (w:World) (R B:Nat) (ps:List (ByteArray×Value)) (vis:List ByteArray) (cur:Option (ByteArray×Value)):Prop where
  ex:∃(es:Array MapEntry) (clock since:Nat) (seen:Array Nat) (c0:Nat),w.heap[B]? =some (.map es clock)∧Stamped es clock∧es.toList.map (fun e=>(e.key,e.val))=ps.map (fun p=>(Value.string p.1,p.2))∧
    w.heap[R]? =some (.mapIter (some B) since seen c0)∧(∀x∈es.toList,x.born<since)∧since≤c0∧since≤clock∧(∀e∈es.toList,∀k,e.key= .string k→(seen.contains e.born=true↔k∈vis))∧
    (∀k v,cur=some (k,v)→c0=clock∧∃e∈es.toList,e.key= .string k∧e.val=v∧∃s:Array Nat,seen=s.push e.born)
theorem RangeB.block {w w':World} {R B:Nat} {ps:List (ByteArray×Value)} {vis:List ByteArray} {cur:Option (ByteArray×Value)} (h:RangeB w R B ps vis cur) (hB:w'.heap[B]? =w.heap[B]?) (hR:w'.heap[R]? =w.heap[R]?):RangeB w' R B ps vis cur:=by
  obtain ⟨es,clock,since,seen,c0,h1,h2,h3,h4,r⟩:=h.ex
  exact ⟨es,clock,since,seen,c0,hB.trans h1,h2,h3,hR.trans h4,r⟩
theorem RangeB.lt {w:World} {R B:Nat} {ps:List (ByteArray×Value)} {vis:List ByteArray} {cur:Option (ByteArray×Value)} (h:RangeB w R B ps vis cur):B<w.heap.size∧R<w.heap.size:=by
  obtain ⟨es,clock,since,seen,c0,h1,h2,h3,h4,r⟩:=h.ex
  exact ⟨(Array.getElem?_eq_some_iff.1 h1).1,(Array.getElem?_eq_some_iff.1 h4).1⟩
section
variable {P:Program} {Q:Ks} {d:Option Nat} {ty:TypeId} {K:Env→World→Prop} {ρ:Env} {w:World}
end
end Go.Eng
