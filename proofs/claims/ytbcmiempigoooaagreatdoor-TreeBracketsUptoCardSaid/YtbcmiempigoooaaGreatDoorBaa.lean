/- Lemmas for a claim about layer 2 (tree). No conditions but those they state. -/
import Derived.Below
import Derived.Deep.Quiet
import Derived.Laws.Slices
import Derived.Laws.Strings
import Derived.Laws.Cells
import Derived.Laws.Small
import Derived.Laws.Entries
set_option linter.all false
namespace Go.Eng
open Go.RowKit
abbrev qc (w w':World):Prop:=Below w.heap.size w w'
abbrev qa:=Nat→Value
def qn (ρ:qa) (i:Nat) (v:Value):qa:=fun j=>if j=i then v else ρ j
@[simp] theorem qBQ (ρ:qa) (i:Nat) (v:Value):qn ρ i v i=v:=by simp [qn]
theorem qrz (ρ:qa) (i j:Nat) (v:Value) (h:j≠i):qn ρ i v j=ρ j:=by simp [qn,h]
def qh:Value→Nat| .slice _ n _=>n|_=>0
def qx:Value→Nat| .slice _ _ c=>c|_=>0
def qM:Value→Nat→Addr
  | .slice (some ⟨b,o,_⟩) _ _,j=>⟨b,o+j,none⟩
  |_,j=>⟨0,j,none⟩
def qt:Value→Bool
  | .slice (some ⟨_,_,none⟩) n c=>n≤c
  | .slice (some ⟨_,_,some _⟩) 0 0=>true
  | .slice none 0 0=>true
  |_=>false
def qL (v:Value) (sz l h m:Nat):Value:=
  match v with
  | .slice a _ _=> .slice (if m=l then a else a.map (·.add (l*sz))) (h - l) (m - l)
  |v=>v
inductive K1 where
  |load1|loadN (n:Nat)|fadr (off:Nat)|fld (off:Nat)|fldN (off n:Nat)
  |lenS|lenT|capS|not|neg|bnot|conv (k:IntKind)|ext (i:Nat)|mkif (t:TypeId)|nilc|same|strid|b2s
  deriving DecidableEq,Repr
inductive K2 where
  |ibin (op:BinOp) (k:IntKind)|sbin (op:BinOp)|bbin (op:BinOp)|shf (op:BinOp)
  |ixa (sz:Nat)|ixs|slLo (sz:Nat)|stLo
  deriving DecidableEq,Repr
inductive K3 where
  |slLoHi (sz:Nat)|stLoHi
  deriving DecidableEq,Repr
inductive K4 where
  |slMax (sz:Nat)
  deriving DecidableEq,Repr
def jq (w:World) (a:Addr):Nat→Nat→Option (List Value)
  |_,0=>some []
  |i,n+1=>(w.cell? (a.add i)).bind fun v=>(jq w a (i+1) n).bind fun l=>some (v::l)
def kJ:List Value→Option (List Int)
  |[]=>some []
  | .int .u8 n::l=>(kJ l).map (n:: ·)
  |_::_=>none
def qaY (ns:List Int):ByteArray:=ns.foldl (fun r n=>r.push (UInt8.ofNat n.toNat)) ByteArray.empty
def qaJ (op:BinOp) (k:IntKind) (a b:Int):Option Value:=
  match op with
  | .add=>some (.int k (k.wrap (a+b)))
  | .sub=>some (.int k (k.wrap (a - b)))
  | .mul=>some (.int k (k.wrap (a*b)))
  | .quo=>if b=0 then none else some (.int k (k.wrap (a.tdiv b)))
  | .rem=>if b=0 then none else some (.int k (a.tmod b))
  | .and=>some (.int k (k.wrap (BitVec.ofInt k.bits a&&&BitVec.ofInt k.bits b).toNat))
  | .or=>some (.int k (k.wrap (BitVec.ofInt k.bits a|||BitVec.ofInt k.bits b).toNat))
  | .xor=>some (.int k (k.wrap (BitVec.ofInt k.bits a^^^BitVec.ofInt k.bits b).toNat))
  | .andNot=>some (.int k (k.wrap (BitVec.ofInt k.bits a&&& ~~~BitVec.ofInt k.bits b).toNat))
  | .eql=>some (.bool (a==b))
  | .neq=>some (.bool (a !=b))
  | .lss=>some (.bool (decide (a<b)))
  | .leq=>some (.bool (decide (a≤b)))
  | .gtr=>some (.bool (decide (b<a)))
  | .geq=>some (.bool (decide (b≤a)))
  |_=>none
def kj (op:BinOp) (x y:ByteArray):Option Value:=
  match op with
  | .add=>if x.size+y.size≤maxLen then some (.string (x++y)) else none
  | .eql=>some (.bool (decide (x=y)))
  | .neq=>some (.bool (!decide (x=y)))
  | .lss=>some (.bool (Op.bytesLess x.data.toList y.data.toList))
  | .leq=>some (.bool (Op.bytesLess x.data.toList y.data.toList||decide (x=y)))
  | .gtr=>some (.bool (!(Op.bytesLess x.data.toList y.data.toList||decide (x=y))))
  | .geq=>some (.bool (!Op.bytesLess x.data.toList y.data.toList))
  |_=>none
def qcR (op:BinOp) (k:IntKind) (a b:Int):Option Value:=
  if b<0 then none else
  match op with
  | .shl=>some (.int k (k.wrap (a*2^(min b.toNat k.bits))))
  | .shr=>some (.int k (a.fdiv (2^(min b.toNat k.bits))))
  |_=>none
def qJ (w:World):K1→Value→Option Value
  | .same,v=>some v
  | .load1, .pointer (some a)=>w.cell? a
  | .loadN n, .pointer (some a)=>(jq w a 0 n).map fun l=> .agg l.toArray
  | .fadr off, .pointer (some a)=>some (.pointer (some (a.add off)))
  | .fld off, .agg cs=>cs[off]?
  | .fldN off n, .agg cs=>some (.agg (cs.extract off (off+n)))
  | .lenS,v=>if qt v then some (.int .i64 (qh v)) else none
  | .capS,v=>if qt v then some (.int .i64 (qx v)) else none
  | .lenT, .string s=>some (.int .i64 s.size)
  | .not, .bool b=>some (.bool !b)
  | .neg, .int k n=>some (.int k (k.wrap (0 - n)))
  | .bnot, .int k n=>qaJ .xor k (if k.signed then -1 else k.max) n
  | .conv k, .int _ n=>some (.int k (k.wrap n))
  | .ext i, .tuple vs=>vs[i]?
  | .mkif t,v=>some (.iface t v)
  | .nilc, .pointer (some a)=>some (.pointer (some a))
  | .nilc, .iface t v=>some (.iface t v)
  | .strid, .string s=>some (.string s)
  | .b2s,v=>if qt v then (jq w (qM v 0) 0 (qh v)).bind fun l=>(kJ l).map fun ns=> .string (qaY ns) else none
  |_,_=>none
def jA (_w:World):K2→Value→Value→Option Value
  | .ibin op _, .int k a, .int k' b=>if k=k' then qaJ op k a b else none
  | .sbin op, .string x, .string y=>kj op x y
  | .bbin .eql, .bool a, .bool b=>some (.bool (a==b))
  | .bbin .neq, .bool a, .bool b=>some (.bool (!(a==b)))
  | .shf op, .int k a, .int _ b=>qcR op k a b
  | .ixa sz,v, .int _ i=>if qt v∧0≤i∧i<qh v then some (.pointer (some (qM v (i.toNat*sz)))) else none
  | .ixs, .string s, .int _ i=>if 0≤i then (s[i.toNat]?).map fun b=> .int .u8 b.toNat else none
  | .slLo sz,v, .int _ l=>if qt v∧0≤l∧l≤qh v then some (qL v sz l.toNat (qh v) (qx v)) else none
  | .stLo, .string s, .int _ l=>if 0≤l∧l≤s.size then some (.string (s.extract l.toNat s.size)) else none
  |_,_,_=>none
def wq (_w:World):K3→Value→Value→Value→Option Value
  | .slLoHi sz,v, .int _ l, .int _ h=>if qt v∧0≤l∧l≤h∧h≤qx v then some (qL v sz l.toNat h.toNat (qx v)) else none
  | .stLoHi, .string s, .int _ l, .int _ h=>if 0≤l∧l≤h∧h≤s.size then some (.string (s.extract l.toNat h.toNat)) else none
  |_,_,_,_=>none
def pv4 (_w:World):K4→Value→Value→Value→Value→Option Value
  | .slMax sz,v, .int _ l, .int _ h, .int _ m=>if qt v∧0≤l∧l≤h∧h≤m∧m≤qx v then some (qL v sz l.toNat h.toNat m.toNat) else none
  |_,_,_,_,_=>none
inductive PO where
  |k1 (k:K1) (x:Operand)
  |k2 (k:K2) (x y:Operand)
  |k3 (k:K3) (x y z:Operand)
  |k4 (k:K4) (x y z u:Operand)
def zj:Operand:= .const (.int .i64 0)
def xP (P:Program) (t:TypeId):Option Bool:=
  match P.underlying t with
  |some (.struct _)|some (.array ..)=>some true
  |some _=>some false
  |none=>none
def qi5 (P : Program) : Callee → List Operand → List TypeId → Option PO
  | .builtin .len,[x],[t]=>match P.underlying t with
    |some .string=>some (.k1 .lenT x)
    |some (.slice _)=>some (.k1 .lenS x)
    |_=>none
  | .builtin .cap,[x],[t]=>match P.underlying t with
    |some (.slice _)=>some (.k1 .capS x)
    |_=>none
  |_,_,_=>none
def qcB (P : Program) : Op → Option PO
  | .move x| .assign x=>some (.k1 .same x)
  | .load t a=>match xP P t,P.info? t with
    |some true,some i=>some (.k1 (.loadN i.size) a)
    |some false,_=>some (.k1 .load1 a)
    |_,_=>none
  | .binOp op t x y _=>match P.underlying t with
    |some (.int k)=>if op= .shl∨op= .shr then some (.k2 (.shf op) x y) else some (.k2 (.ibin op k) x y)
    |some .string=>some (.k2 (.sbin op) x y)
    |some .bool=>some (.k2 (.bbin op) x y)
    |_=>none
  | .unOp .not _ x=>some (.k1 .not x)
  | .unOp .neg _ x=>some (.k1 .neg x)
  | .unOp .xor _ x=>some (.k1 .bnot x)
  | .convert s d x=>match P.underlying s,P.underlying d with
    |some _,some (.int k)=>some (.k1 (.conv k) x)
    |some .string,some .string=>some (.k1 .strid x)
    |some (.slice e),some .string=>match P.underlying e with
      |some (.int .u8)=>some (.k1 .b2s x)
      |_=>none
    |_,_=>none
  | .slice t x lo hi mx=>match P.underlying t with
    |some (.slice e)=>match P.info? e,hi,mx with
      |some i,none,none=>some (.k2 (.slLo i.size) x (lo.getD zj))
      |some i,some h,none=>some (.k3 (.slLoHi i.size) x (lo.getD zj) h)
      |some i,some h,some m=>some (.k4 (.slMax i.size) x (lo.getD zj) h m)
      |_,_,_=>none
    |some .string=>match hi,mx with
      |none,none=>some (.k2 .stLo x (lo.getD zj))
      |some h,none=>some (.k3 .stLoHi x (lo.getD zj) h)
      |_,_=>none
    |_=>none
  | .fieldAddr s x f=>match P.underlying s with
    |some (.struct fs)=>match fs[f]? with
      |some fd=>match P.info? fd.type with
        |some i=>if i.size=0 then none else some (.k1 (.fadr fd.offset) x)
        |none=>none
      |none=>none
    |_=>none
  | .field s x f=>match P.underlying s with
    |some (.struct fs)=>match fs[f]? with
      |some fd=>match xP P fd.type,P.info? fd.type with
        |some true,some i=>some (.k1 (.fldN fd.offset i.size) x)
        |some false,_=>some (.k1 (.fld fd.offset) x)
        |_,_=>none
      |none=>none
    |_=>none
  | .indexAddr t x i=>match P.underlying t with
    |some (.slice e)=>match P.info? e with
      |some inf=>some (.k2 (.ixa inf.size) x i)
      |none=>none
    |_=>none
  | .index t x i=>match P.underlying t with
    |some .string=>some (.k2 .ixs x i)
    |_=>none
  | .extract x i=>some (.k1 (.ext i) x)
  | .makeInterface t x=>match P.underlying t with
    |some (.interface _)=>none
    |some _=>some (.k1 (.mkif t) x)
    |none=>none
  | .nilCheck x=>some (.k1 .nilc x)
  | .call c=>qi5 P c.callee c.args.toList c.argTypes.toList
  |_=>none
def PO.val (w:World) (f:Operand→Value):PO→Option Value
  | .k1 k x=>qJ w k (f x)
  | .k2 k x y=>jA w k (f x) (f y)
  | .k3 k x y z=>wq w k (f x) (f y) (f z)
  | .k4 k x y z u=>pv4 w k (f x) (f y) (f z) (f u)
theorem qc.cell {w w':World} (h:qc w w') {a:Addr} {v:Value} (b:w.cell? a=some v):w'.cell? a=some v:=by
  have c:=World.block_lt_of_cell? w a b;exact (World.cell?_of_block (h.block a.block c)).trans b
theorem qfI {w w':World} (h:qc w w') (a:Addr):∀(n i:Nat) (l:List Value),jq w a i n=some l→jq w' a i n=some l
  |0,_,_,b=>b
  |n+1,i,l,b=>by
    simp only [jq,Option.bind_eq_some_iff] at b⊢;obtain ⟨v,j,g,c,e⟩:=b;exact ⟨v,h.cell j,g,qfI h a n (i+1) g c,e⟩
theorem que {w w':World} (h:qc w w') {k:K1} {x v:Value} (b:qJ w k x=some v):qJ w' k x=some v:=by
  unfold qJ at b⊢;split at b<;>first|exact h.cell b|exact b|skip
  · rename_i n a;obtain ⟨l,c,e⟩:=Option.map_eq_some_iff.1 b;exact Option.map_eq_some_iff.2 ⟨l,qfI h a n 0 l c,e⟩
  · split at b
    · rename_i g;obtain ⟨l,c,e⟩:=Option.bind_eq_some_iff.1 b;simp only [g,if_true];exact Option.bind_eq_some_iff.2 ⟨l,qfI h _ _ 0 l c,e⟩
    · cases b
theorem PO.val_ext {w w':World} (h:qc w w') {f:Operand→Value} {p:PO} {v:Value} (a:p.val w f=some v):p.val w' f=some v:=by
  cases p with
  |k1 k x=>exact que h a
  |k2 k x y=>exact a
  |k3 k x y z=>exact a
  |k4 k x y z u=>exact a
end Go.Eng
