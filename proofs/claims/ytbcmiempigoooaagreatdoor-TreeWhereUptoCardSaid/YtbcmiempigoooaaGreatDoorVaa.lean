/- Lemmas for a claim about layer 2 (tree). No conditions but those they state. -/
import Derived.Below
import Derived.Deep.Quiet
import Derived.Laws.Slices
import Derived.Laws.Strings
import Derived.Laws.Cells
import Derived.Laws.Small
import Derived.Laws.Entries
set_option linter.all false
namespace Go
abbrev AA:=World
abbrev AB:=Value
def q3:=@if_neg
def j0:=@if_pos
def kh:=@Nat.le_refl
def km:=@Bool.and_eq_true
def ky:=@List.length_append
def wh:=@if_true
def ua:=@List.append_nil
def ub:=@Ne.symm
def uc:=@Option.map_eq_some_iff
def ud:=@if_false
def ue:=@decide_eq_true_eq
def uf:=@Nat.zero_le
def ug:=@List.mem_cons
def uh:=@Option.bind_eq_some_iff
def ui:=@Option.some.injEq
def uj:=@List.getElem?_eq_getElem
def uk:=@Bool.false_eq_true
def ul:=@Array.getElem?_eq_some_iff
def um:=@Nat.eq_of_beq_eq_true
def un:=@List.append_assoc
def uo:=@List.getElem_mem
def uq:=@List.length_map
def ur:=@Nat.zero_add
def ut:=@List.all_eq_true
def uu:=@List.mem_singleton
def uv:=@List.mem_append
def uw:=@List.mem_map
def ux:=@Bool.not_eq_true'
def uy:=@List.map_append
def uz:=@List.take_of_length_le
def uB:=@Nat.add_assoc
def uC:=@Prod.mk.inj
def uD:=@Prod.mk.injEq
def uE:=@List.cons.injEq
def uF:=@List.length_take
def uG:=@Array.getElem?_eq_getElem
def uH:=@List.getD_eq_getElem?_getD
def uI:=@Nat.le_of_ble_eq_true
def uJ:=@List.length_eq_zero_iff
def uK:=@Nat.add_mul
def uL:=@beq_iff_eq
def uM:=@List.drop_eq_getElem_cons
def uN:=@List.mem_nil_iff
def uO:=@List.take_succ_eq_append_getElem
def uP:=@Nat.ble_eq
def uQ:=@or_false
def uR:=@Bool.eq_iff_iff
def uS:=@Bool.or_eq_true
def uT:=@Nat.lt_of_lt_of_le
def uU:=@List.length_drop
def uV:=@Nat.blt_eq
def uW:=@Nat.mul_one
def uX:=@decide_eq_false_iff_not
def uY:=@Array.toList_inj
def uZ:=@Bool.or_eq_false_iff
def u0:=@List.getElem?_drop
def u4:=@List.getElem?_eq_some_iff
def u5:=@List.take_append_drop
def u6:=@and_true
def u7:=@Int.toNat_of_nonneg
def u9:=@List.all_takeWhile
def yt:=@List.getElem?_eq_none
def Jf:=@List.length_pos_iff
def Jg:=@List.take_length
def Jh:=@decide_eq_decide
def Ji:=@List.cons_ne_nil
def Jj:=@List.drop_drop
def Jk:=@List.drop_eq_nil_iff
def Jl:=@List.mem_of_getElem?
def Jm:=@List.takeWhile_prefix
def Jn:=@List.take_left
def Jo:=@Nat.le_of_lt
def Jp:=@Option.some.inj
def Jq:=@Array.toList_map
def Jr:=@List.drop_eq_nil_of_le
def Js:=@List.drop_left
def Jt:=@List.flatMap_cons
def Ju:=@List.flatten_append
def Jv:=@List.getElem?_take
def Jw:=@List.getElem?_take_of_lt
def Jx:=@List.getElem_map
def Jy:=@List.mem_of_mem_take
def Jz:=@List.takeWhile_append_of_pos
def JA:=@Nat.lt_or_ge
def JB:=@Prod.exists
def JC:=@Array.foldl_toList
def JD:=@Array.getElem?_modify
def JE:=@Array.isEmpty_iff
def JF:=@Bool.and_eq_false_iff
def JG:=@ByteArray.ext
def JH:=@Int.eq_ofNat_of_zero_le
def JI:=@List.contains_eq_mem
def JJ:=@List.contains_iff_mem
def JK:=@List.getElem?_append_left
def JL:=@List.getElem?_append_right
def JM:=@List.getElem_append_left
def JN:=@List.getElem_append_right
def JO:=@List.mem_cons_of_mem
def JP:=@List.range_eq_range'
def JQ:=@List.take_add_one
def JR:=@List.take_append_of_le_length
def JS:=@Nat.le_add_right
def JT:=@Nat.mul_le_mul_right
def JU:=@Nat.sub_self
def JV:=@beq_eq_false_iff_ne
def JY:=@Array.getElem?_eq_none
def JZ:=@Array.mem_of_getElem?
def J0:=@Array.mem_toList_iff
def J1:=@List.drop_length
def J3:=@List.ext_getElem?
def J4:=@List.getElem?_map
def J5:=@List.getElem_of_mem
def J7:=@List.mem_append_left
def J9:=@List.mem_of_find?_eq_some
def Va:=@List.mem_of_mem_drop
def Vb:=@List.prefix_append
def Vc:=@List.size_toArray
def Vd:=@List.take_append
def Vf:=@Nat.add_sub_cancel_left
def Vg:=@Nat.le_of_mul_le_mul_right
def Vh:=@Nat.lt_succ_self
def Vj:=@Nat.pow_le_pow_right
def Vl:=@Option.isSome_iff_exists
def Vr:=@Array.getElem?_setIfInBounds_ne
def Vs:=@Array.getElem?_setIfInBounds_self_of_lt
end Go
namespace Go.Eng
open Go.RowKit
abbrev qc (w w':AA):Prop:=Below w.heap.size w w'
abbrev qa:=Nat->AB
def qx (ρ:qa) (i:Nat) (v:AB):qa:=fun j=>if j=i then v else ρ j
@[simp] theorem qKu (ρ:qa) (i:Nat) (v:AB):qx ρ i v i=v:=by simp [qx]
def qxs (ρ:qa) (i j:Nat) (v:AB) (h:j≠i):qx ρ i v j=ρ j:=by simp [qx,h]
def qm:AB->Nat| .slice _ n _=>n|_=>0
def qI:AB->Nat| .slice _ _ c=>c|_=>0
def qN:AB->Nat->Addr
  | .slice (some ⟨b,o,_⟩) _ _,j=>⟨b,o+j,none⟩
  |_,j=>⟨0,j,none⟩
def qA:AB->Bool
  | .slice (some ⟨_,_,none⟩) n c=>n<=c
  | .slice (some ⟨_,_,some _⟩) 0 0=>true
  | .slice none 0 0=>true
  |_=>false
def q8 (v:AB) (sz l h m:Nat):AB:=
  match v with
  | .slice a _ _=> .slice (if m=l then a else a.map (·.add (l*sz))) (h - l) (m - l)
  |v=>v
inductive K1 where
  |load1|loadN (n:Nat)|fadr (off:Nat)|fld (off:Nat)|fldN (off n:Nat)
  |lenS|lenT|capS|not|neg|bnot|conv (k:IntKind)|ext (i:Nat)|mkif (t:TypeId)|nilc|same|strid|b2s
  deriving DecidableEq,Repr
inductive K2 where
  |ibin (op:BinOp) (k:IntKind)|sbin (op:BinOp)|bbin (op:BinOp)|shf (op:BinOp)
  |ixa (sz:Nat)|ixs|slLo (sz:Nat)|stLo
  deriving DecidableEq,Repr
inductive K3 where
  |slLoHi (sz:Nat)|stLoHi
  deriving DecidableEq,Repr
inductive K4 where
  |slMax (sz:Nat)
  deriving DecidableEq,Repr
def q4 (w:AA) (a:Addr):Nat->Nat->Option (List AB)
  |_,0=>some []
  |i,n+1=>(w.cell? (a.add i)).bind fun v=>(q4 w a (i+1) n).bind fun l=>some (v::l)
def wH:List AB->Option (List Int)
  |[]=>some []
  | .int .u8 n::l=>(wH l).map (n:: ·)
  |_::_=>none
def qcD (ns:List Int):ByteArray:=ns.foldl (fun r n=>r.push (UInt8.ofNat n.toNat)) ByteArray.empty
def qcn (op:BinOp) (k:IntKind) (a b:Int):Option AB:=
  match op with
  | .add=>some (.int k (k.wrap (a+b)))
  | .sub=>some (.int k (k.wrap (a - b)))
  | .mul=>some (.int k (k.wrap (a*b)))
  | .quo=>if b=0 then none else some (.int k (k.wrap (a.tdiv b)))
  | .rem=>if b=0 then none else some (.int k (a.tmod b))
  | .and=>some (.int k (k.wrap (BitVec.ofInt k.bits a&&&BitVec.ofInt k.bits b).toNat))
  | .or=>some (.int k (k.wrap (BitVec.ofInt k.bits a|||BitVec.ofInt k.bits b).toNat))
  | .xor=>some (.int k (k.wrap (BitVec.ofInt k.bits a^^^BitVec.ofInt k.bits b).toNat))
  | .andNot=>some (.int k (k.wrap (BitVec.ofInt k.bits a&&& ~~~BitVec.ofInt k.bits b).toNat))
  | .eql=>some (.bool (a==b))
  | .neq=>some (.bool (a !=b))
  | .lss=>some (.bool (decide (a<b)))
  | .leq=>some (.bool (decide (a<=b)))
  | .gtr=>some (.bool (decide (b<a)))
  | .geq=>some (.bool (decide (b<=a)))
  |_=>none
def qaq (op:BinOp) (x y:ByteArray):Option AB:=
  match op with
  | .add=>if x.size+y.size<=maxLen then some (.string (x++y)) else none
  | .eql=>some (.bool (decide (x=y)))
  | .neq=>some (.bool (!decide (x=y)))
  | .lss=>some (.bool (Op.bytesLess x.data.toList y.data.toList))
  | .leq=>some (.bool (Op.bytesLess x.data.toList y.data.toList||decide (x=y)))
  | .gtr=>some (.bool (!(Op.bytesLess x.data.toList y.data.toList||decide (x=y))))
  | .geq=>some (.bool (!Op.bytesLess x.data.toList y.data.toList))
  |_=>none
def qeC (op:BinOp) (k:IntKind) (a b:Int):Option AB:=
  if b<0 then none else
  match op with
  | .shl=>some (.int k (k.wrap (a*2^(min b.toNat k.bits))))
  | .shr=>some (.int k (a.fdiv (2^(min b.toNat k.bits))))
  |_=>none
def q9 (w:AA):K1->AB->Option AB
  | .same,v=>some v
  | .load1,.pointer (some a)=>w.cell? a
  | .loadN n,.pointer (some a)=>(q4 w a 0 n).map fun l=> .agg l.toArray
  | .fadr off,.pointer (some a)=>some (.pointer (some (a.add off)))
  | .fld off,.agg cs=>cs[off]?
  | .fldN off n,.agg cs=>some (.agg (cs.extract off (off+n)))
  | .lenS,v=>if qA v then some (.int .i64 (qm v)) else none
  | .capS,v=>if qA v then some (.int .i64 (qI v)) else none
  | .lenT,.string s=>some (.int .i64 s.size)
  | .not,.bool b=>some (.bool !b)
  | .neg,.int k n=>some (.int k (k.wrap (0 - n)))
  | .bnot,.int k n=>qcn .xor k (if k.signed then -1 else k.max) n
  | .conv k,.int _ n=>some (.int k (k.wrap n))
  | .ext i,.tuple vs=>vs[i]?
  | .mkif t,v=>some (.iface t v)
  | .nilc,.pointer (some a)=>some (.pointer (some a))
  | .nilc,.iface t v=>some (.iface t v)
  | .strid,.string s=>some (.string s)
  | .b2s,v=>if qA v then (q4 w (qN v 0) 0 (qm v)).bind fun l=>(wH l).map fun ns=> .string (qcD ns) else none
  |_,_=>none
def vf (_w:AA):K2->AB->AB->Option AB
  | .ibin op _,.int k a,.int k' b=>if k=k' then qcn op k a b else none
  | .sbin op,.string x,.string y=>qaq op x y
  | .bbin .eql,.bool a,.bool b=>some (.bool (a==b))
  | .bbin .neq,.bool a,.bool b=>some (.bool (!(a==b)))
  | .shf op,.int k a,.int _ b=>qeC op k a b
  | .ixa sz,v,.int _ i=>if qA v/\0<=i/\i<qm v then some (.pointer (some (qN v (i.toNat*sz)))) else none
  | .ixs,.string s,.int _ i=>if 0<=i then (s[i.toNat]?).map fun b=> .int .u8 b.toNat else none
  | .slLo sz,v,.int _ l=>if qA v/\0<=l/\l<=qm v then some (q8 v sz l.toNat (qm v) (qI v)) else none
  | .stLo,.string s,.int _ l=>if 0<=l/\l<=s.size then some (.string (s.extract l.toNat s.size)) else none
  |_,_,_=>none
def yz (_w:AA):K3->AB->AB->AB->Option AB
  | .slLoHi sz,v,.int _ l,.int _ h=>if qA v/\0<=l/\l<=h/\h<=qI v then some (q8 v sz l.toNat h.toNat (qI v)) else none
  | .stLoHi,.string s,.int _ l,.int _ h=>if 0<=l/\l<=h/\h<=s.size then some (.string (s.extract l.toNat h.toNat)) else none
  |_,_,_,_=>none
def pv4 (_w:AA):K4->AB->AB->AB->AB->Option AB
  | .slMax sz,v,.int _ l,.int _ h,.int _ m=>if qA v/\0<=l/\l<=h/\h<=m/\m<=qI v then some (q8 v sz l.toNat h.toNat m.toNat) else none
  |_,_,_,_,_=>none
inductive PO where
  |k1 (k:K1) (x:Operand)
  |k2 (k:K2) (x y:Operand)
  |k3 (k:K3) (x y z:Operand)
  |k4 (k:K4) (x y z u:Operand)
def xj:Operand:=.const (.int .i64 0)
def kB (P:Program) (t:TypeId):Option Bool:=
  match P.underlying t with
  |some (.struct _)|some (.array ..)=>some true
  |some _=>some false
  |none=>none
def qlM (P : Program) : Callee -> List Operand -> List TypeId -> Option PO
  | .builtin .len,[x],[t]=>match P.underlying t with
    |some .string=>some (.k1 .lenT x)
    |some (.slice _)=>some (.k1 .lenS x)
    |_=>none
  | .builtin .cap,[x],[t]=>match P.underlying t with
    |some (.slice _)=>some (.k1 .capS x)
    |_=>none
  |_,_,_=>none
def qep (P : Program) : Op -> Option PO
  | .move x| .assign x=>some (.k1 .same x)
  | .load t a=>match kB P t,P.info? t with
    |some true,some i=>some (.k1 (.loadN i.size) a)
    |some false,_=>some (.k1 .load1 a)
    |_,_=>none
  | .binOp op t x y _=>match P.underlying t with
    |some (.int k)=>if op=.shl\/op=.shr then some (.k2 (.shf op) x y) else some (.k2 (.ibin op k) x y)
    |some .string=>some (.k2 (.sbin op) x y)
    |some .bool=>some (.k2 (.bbin op) x y)
    |_=>none
  | .unOp .not _ x=>some (.k1 .not x)
  | .unOp .neg _ x=>some (.k1 .neg x)
  | .unOp .xor _ x=>some (.k1 .bnot x)
  | .convert s d x=>match P.underlying s,P.underlying d with
    |some _,some (.int k)=>some (.k1 (.conv k) x)
    |some .string,some .string=>some (.k1 .strid x)
    |some (.slice e),some .string=>match P.underlying e with
      |some (.int .u8)=>some (.k1 .b2s x)
      |_=>none
    |_,_=>none
  | .slice t x lo hi mx=>match P.underlying t with
    |some (.slice e)=>match P.info? e,hi,mx with
      |some i,none,none=>some (.k2 (.slLo i.size) x (lo.getD xj))
      |some i,some h,none=>some (.k3 (.slLoHi i.size) x (lo.getD xj) h)
      |some i,some h,some m=>some (.k4 (.slMax i.size) x (lo.getD xj) h m)
      |_,_,_=>none
    |some .string=>match hi,mx with
      |none,none=>some (.k2 .stLo x (lo.getD xj))
      |some h,none=>some (.k3 .stLoHi x (lo.getD xj) h)
      |_,_=>none
    |_=>none
  | .fieldAddr s x f=>match P.underlying s with
    |some (.struct fs)=>match fs[f]? with
      |some fd=>match P.info? fd.type with
        |some i=>if i.size=0 then none else some (.k1 (.fadr fd.offset) x)
        |none=>none
      |none=>none
    |_=>none
  | .field s x f=>match P.underlying s with
    |some (.struct fs)=>match fs[f]? with
      |some fd=>match kB P fd.type,P.info? fd.type with
        |some true,some i=>some (.k1 (.fldN fd.offset i.size) x)
        |some false,_=>some (.k1 (.fld fd.offset) x)
        |_,_=>none
      |none=>none
    |_=>none
  | .indexAddr t x i=>match P.underlying t with
    |some (.slice e)=>match P.info? e with
      |some inf=>some (.k2 (.ixa inf.size) x i)
      |none=>none
    |_=>none
  | .index t x i=>match P.underlying t with
    |some .string=>some (.k2 .ixs x i)
    |_=>none
  | .extract x i=>some (.k1 (.ext i) x)
  | .makeInterface t x=>match P.underlying t with
    |some (.interface _)=>none
    |some _=>some (.k1 (.mkif t) x)
    |none=>none
  | .nilCheck x=>some (.k1 .nilc x)
  | .call c=>qlM P c.callee c.args.toList c.argTypes.toList
  |_=>none
def PO.val (w:AA) (f:Operand->AB):PO->Option AB
  | .k1 k x=>q9 w k (f x)
  | .k2 k x y=>vf w k (f x) (f y)
  | .k3 k x y z=>yz w k (f x) (f y) (f z)
  | .k4 k x y z u=>pv4 w k (f x) (f y) (f z) (f u)
def qc.cell {w w':AA} (h:qc w w') {a:Addr} {v:AB} (b:w.cell? a=some v):w'.cell? a=some v:=by
  have c:=World.block_lt_of_cell? w a b;exact (World.cell?_of_block (h.block a.block c)).trans b
def qhN {w w':AA} (h:qc w w') (a:Addr):∀(n i:Nat) (l:List AB),q4 w a i n=some l->q4 w' a i n=some l
  |0,_,_,b=>b
  |n+1,i,l,b=>by
    simp only [q4,uh] at b⊢;obtain ⟨v,g,l',c,e⟩:=b;exact ⟨v,h.cell g,l',qhN h a n (i+1) l' c,e⟩
def qAy {w w':AA} (h:qc w w') {k:K1} {x v:AB} (b:q9 w k x=some v):q9 w' k x=some v:=by
  unfold q9 at b⊢;split at b<;>first|exact h.cell b|exact b|skip
  · rename_i n a;obtain ⟨l,c,e⟩:=uc.1 b;exact uc.2 ⟨l,qhN h a n 0 l c,e⟩
  · split at b
    · rename_i g;obtain ⟨l,c,e⟩:=uh.1 b;simp only [g,wh];exact uh.2 ⟨l,qhN h _ _ 0 l c,e⟩
    · cases b
def PO.val_ext {w w':AA} (h:qc w w') {f:Operand->AB} {p:PO} {v:AB} (a:p.val w f=some v):p.val w' f=some v:=by
  cases p with
  |k1 k x=>exact qAy h a
  |k2 k x y=>exact a
  |k3 k x y z=>exact a
  |k4 k x y z u=>exact a
end Go.Eng
