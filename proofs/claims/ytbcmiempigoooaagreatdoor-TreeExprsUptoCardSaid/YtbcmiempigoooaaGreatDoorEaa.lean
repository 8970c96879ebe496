/- Lemmas for a claim about layer 2 (tree). No conditions but those they state. -/
import Derived.Below
import Derived.Deep.Quiet
import Derived.Laws.Slices
import Derived.Laws.Strings
import Derived.Laws.Cells
import Derived.Laws.Small
import Derived.Laws.Entries
set_option linter.all false
namespace Go
def j0:=@Bool.and_eq_true
def j1:=@Nat.le_refl
def kh:=@List.length_append
def kk:=@if_true
def km:=@if_false
def kr:=@decide_eq_true_eq
def kA:=@Bool.and_true
def wh:=@List.mem_cons
def wm:=@or_false
def wz:=@List.getElem_mem
def ua:=@Option.map_eq_some_iff
def ub:=@Option.some.injEq
def uc:=@Option.bind_eq_some_iff
def ud:=@Bool.true_and
def ue:=@Prod.mk.inj
def uf:=@Bool.false_eq_true
def ug:=@List.getElem?_eq_getElem
def uh:=@List.length_map
def ui:=@Bool.and_assoc
def uj:=@Bool.false_or
def uk:=@Bool.or_eq_true
def ul:=@List.take_of_length_le
def um:=@List.all_eq_true
def un:=@List.mem_map
def uo:=@Nat.eq_of_beq_eq_true
def uq:=@Array.getElem?_eq_some_iff
def ur:=@beq_iff_eq
def ut:=@Nat.zero_add
def uu:=@false_or
def uv:=@Bool.true_or
def uw:=@beq_false_of_ne
def ux:=@Bool.and_comm
def uy:=@List.append_nil
def uz:=@Nat.zero_le
def uB:=@List.append_assoc
def uC:=@List.mem_append
def uD:=@Bool.and_left_comm
def uE:=@Bool.not_eq_true'
def uF:=@List.length_take
def uG:=@List.take_succ_eq_append_getElem
def uH:=@List.mem_singleton
def uI:=@List.mem_nil_iff
def uJ:=@Bool.eq_iff_iff
def uK:=@or_true
def uL:=@true_or
def uM:=@List.cons.injEq
def uN:=@Nat.add_assoc
def uO:=@Bool.or_false
def uP:=@List.map_append
def uQ:=@Prod.mk.injEq
def uR:=@List.length_drop
def uS:=@decide_eq_false_iff_not
def uT:=@Array.getElem?_eq_getElem
def uU:=@List.length_eq_zero_iff
def uV:=@Nat.le_of_ble_eq_true
def uW:=@List.getD_eq_getElem?_getD
def uX:=@Nat.add_mul
def uY:=@List.drop_eq_nil_of_le
def uZ:=@Nat.ble_eq
def u0:=@List.drop_eq_getElem_cons
def u4:=@List.getElem?_eq_none
def u6:=@List.getElem_map
def yt:=@Bool.or_eq_false_iff
def y0:=@Nat.mul_one
def y4:=@decide_true
def y5:=@Array.toList_inj
def Jl:=@List.contains_iff_mem
def Jm:=@List.getElem?_drop
def Jn:=@List.length_pos_iff
def Jo:=@Nat.blt_eq
def Jp:=@Option.some.inj
def Jq:=@and_true
def Jr:=@Bool.and_eq_false_iff
def Js:=@Int.eq_ofNat_of_zero_le
def Jt:=@Int.toNat_of_nonneg
def Ju:=@List.all_takeWhile
def Jv:=@List.getElem?_eq_some_iff
def Jw:=@List.take_append_drop
def Jx:=@List.take_length
def Jy:=@Nat.lt_of_lt_of_le
def Jz:=@Array.toList_map
def JA:=@Classical.em
def JB:=@List.flatMap_cons
def JC:=@List.map_map
def JD:=@List.mem_of_getElem?
def JE:=@List.takeWhile_prefix
def JF:=@Array.ext'
def JG:=@List.cons_ne_nil
def JH:=@List.drop_drop
def JI:=@List.mem_of_mem_take
def JJ:=@List.mem_range
def JK:=@List.takeWhile_append_of_pos
def JL:=@Nat.le_max_right
def JM:=@Nat.lt_or_ge
def JN:=@UInt8.toNat_inj
def JO:=@ByteArray.ext
def JP:=@List.all_append
def JQ:=@List.drop_append
def JR:=@List.drop_left
def JS:=@List.getElem?_append_right
def JT:=@List.getElem?_map
def JU:=@List.getElem?_take
def JV:=@List.getElem?_take_of_lt
def JW:=@List.getElem_of_mem
def JX:=@List.mem_of_mem_drop
def JY:=@List.sizeOf_lt_of_mem
def JZ:=@List.take_append
def J0:=@Nat.le_of_lt
def J1:=@Nat.min_eq_left
def J2:=@Nat.sub_self
def J3:=@Prod.exists
def J4:=@beq_eq_false_iff_ne
def J5:=@decide_eq_decide
def J6:=@Array.foldl_toList
def J7:=@Array.getElem?_modify
def J9:=@Array.isEmpty_iff
def Va:=@Bool.false_and
def Vb:=@Bool.not_eq_false'
def Vc:=@List.contains_eq_mem
def Vd:=@List.ext_getElem?
def Ve:=@List.getElem?_append_left
def Vf:=@List.getLast?_eq_getElem?
def Vg:=@List.mem_cons_of_mem
def Vh:=@List.mem_iff_getElem
def Vi:=@List.mem_map_of_mem
def Vj:=@List.mem_of_find?_eq_some
def Vk:=@List.range_eq_range'
def Vl:=@List.take_left
def Vm:=@List.take_take
def Vn:=@Nat.mul_le_mul_right
def Vo:=@decide_eq_true
def Vp:=@decide_false
def Vr:=@of_decide_eq_true
def Vs:=@Array.getElem?_eq_none
def Vt:=@Array.mem_of_getElem?
def Vu:=@Array.mem_toList_iff
def Vx:=@List.all_eq_false
def Vz:=@List.drop_eq_nil_iff
def VA:=@List.drop_length
def VD:=@List.ext_getElem
def VE:=@List.findIdx?_eq_some_iff_getElem
def VF:=@List.getElem_drop
def VG:=@List.getLast?_cons_cons
def VI:=@List.mem_append_left
def VK:=@List.mem_take_iff_getElem
def VN:=@Nat.add_sub_cancel_left
def VO:=@Nat.eq_zero_or_pos
def VS:=@Nat.le_of_mul_le_mul_right
def VT:=@Nat.lt_succ_self
def VU:=@Nat.pow_le_pow_right
def VW:=@Option.isSome_iff_exists
def VX:=@not_true_eq_false
def VZ:=@Array.getElem?_setIfInBounds_ne
def V0:=@Array.getElem?_setIfInBounds_self_of_lt
def Zm:=@List.prefix_of_prefix_length_le
end Go
namespace Go.Eng
open Go.RowKit
abbrev qc (w w':World):Prop:=Below w.heap.size w w'
abbrev qa:=Nat->Value
def qw (ρ:qa) (i:Nat) (v:Value):qa:=fun j=>if j=i then v else ρ j
@[simp] theorem qK3 (ρ:qa) (i:Nat) (v:Value):qw ρ i v i=v:=by simp [qw]
def qyn (ρ:qa) (i j:Nat) (v:Value) (h:j≠i):qw ρ i v j=ρ j:=by simp [qw,h]
def ql:Value->Nat| .slice _ n _=>n|_=>0
def qy:Value->Nat| .slice _ _ c=>c|_=>0
def qQ:Value->Nat->Addr
  | .slice (some ⟨b,o,_⟩) _ _,j=>⟨b,o+j,none⟩
  |_,j=>⟨0,j,none⟩
def qu:Value->Bool
  | .slice (some ⟨_,_,none⟩) n c=>n<=c
  | .slice (some ⟨_,_,some _⟩) 0 0=>true
  | .slice none 0 0=>true
  |_=>false
def qZ (v:Value) (sz l h m:Nat):Value:=
  match v with
  | .slice a _ _=> .slice (if m=l then a else a.map (·.add (l*sz))) (h - l) (m - l)
  |v=>v
inductive K1 where
  |load1|loadN (n:Nat)|fadr (off:Nat)|fld (off:Nat)|fldN (off n:Nat)
  |lenS|lenT|capS|not|neg|bnot|conv (k:IntKind)|ext (i:Nat)|mkif (t:TypeId)|nilc|same|strid|b2s
  deriving DecidableEq,Repr
inductive K2 where
  |ibin (op:BinOp) (k:IntKind)|sbin (op:BinOp)|bbin (op:BinOp)|shf (op:BinOp)
  |ixa (sz:Nat)|ixs|slLo (sz:Nat)|stLo
  deriving DecidableEq,Repr
inductive K3 where
  |slLoHi (sz:Nat)|stLoHi
  deriving DecidableEq,Repr
inductive K4 where
  |slMax (sz:Nat)
  deriving DecidableEq,Repr
def jG (w:World) (a:Addr):Nat->Nat->Option (List Value)
  |_,0=>some []
  |i,n+1=>(w.cell? (a.add i)).bind fun v=>(jG w a (i+1) n).bind fun l=>some (v::l)
def wc:List Value->Option (List Int)
  |[]=>some []
  | .int .u8 n::l=>(wc l).map (n:: ·)
  |_::_=>none
def Jf (ns:List Int):ByteArray:=ns.foldl (fun r n=>r.push (UInt8.ofNat n.toNat)) ByteArray.empty
def qcu (op:BinOp) (k:IntKind) (a b:Int):Option Value:=
  match op with
  | .add=>some (.int k (k.wrap (a+b)))
  | .sub=>some (.int k (k.wrap (a - b)))
  | .mul=>some (.int k (k.wrap (a*b)))
  | .quo=>if b=0 then none else some (.int k (k.wrap (a.tdiv b)))
  | .rem=>if b=0 then none else some (.int k (a.tmod b))
  | .and=>some (.int k (k.wrap (BitVec.ofInt k.bits a&&&BitVec.ofInt k.bits b).toNat))
  | .or=>some (.int k (k.wrap (BitVec.ofInt k.bits a|||BitVec.ofInt k.bits b).toNat))
  | .xor=>some (.int k (k.wrap (BitVec.ofInt k.bits a^^^BitVec.ofInt k.bits b).toNat))
  | .andNot=>some (.int k (k.wrap (BitVec.ofInt k.bits a&&& ~~~BitVec.ofInt k.bits b).toNat))
  | .eql=>some (.bool (a==b))
  | .neq=>some (.bool (a !=b))
  | .lss=>some (.bool (decide (a<b)))
  | .leq=>some (.bool (decide (a<=b)))
  | .gtr=>some (.bool (decide (b<a)))
  | .geq=>some (.bool (decide (b<=a)))
  |_=>none
def qY (op:BinOp) (x y:ByteArray):Option Value:=
  match op with
  | .add=>if x.size+y.size<=maxLen then some (.string (x++y)) else none
  | .eql=>some (.bool (decide (x=y)))
  | .neq=>some (.bool (!decide (x=y)))
  | .lss=>some (.bool (Op.bytesLess x.data.toList y.data.toList))
  | .leq=>some (.bool (Op.bytesLess x.data.toList y.data.toList||decide (x=y)))
  | .gtr=>some (.bool (!(Op.bytesLess x.data.toList y.data.toList||decide (x=y))))
  | .geq=>some (.bool (!Op.bytesLess x.data.toList y.data.toList))
  |_=>none
def qeY (op:BinOp) (k:IntKind) (a b:Int):Option Value:=
  if b<0 then none else
  match op with
  | .shl=>some (.int k (k.wrap (a*2^(min b.toNat k.bits))))
  | .shr=>some (.int k (a.fdiv (2^(min b.toNat k.bits))))
  |_=>none
def jd (w:World):K1->Value->Option Value
  | .same,v=>some v
  | .load1,.pointer (some a)=>w.cell? a
  | .loadN n,.pointer (some a)=>(jG w a 0 n).map fun l=> .agg l.toArray
  | .fadr off,.pointer (some a)=>some (.pointer (some (a.add off)))
  | .fld off,.agg cs=>cs[off]?
  | .fldN off n,.agg cs=>some (.agg (cs.extract off (off+n)))
  | .lenS,v=>if qu v then some (.int .i64 (ql v)) else none
  | .capS,v=>if qu v then some (.int .i64 (qy v)) else none
  | .lenT,.string s=>some (.int .i64 s.size)
  | .not,.bool b=>some (.bool !b)
  | .neg,.int k n=>some (.int k (k.wrap (0 - n)))
  | .bnot,.int k n=>qcu .xor k (if k.signed then -1 else k.max) n
  | .conv k,.int _ n=>some (.int k (k.wrap n))
  | .ext i,.tuple vs=>vs[i]?
  | .mkif t,v=>some (.iface t v)
  | .nilc,.pointer (some a)=>some (.pointer (some a))
  | .nilc,.iface t v=>some (.iface t v)
  | .strid,.string s=>some (.string s)
  | .b2s,v=>if qu v then (jG w (qQ v 0) 0 (ql v)).bind fun l=>(wc l).map fun ns=> .string (Jf ns) else none
  |_,_=>none
def vl (_w:World):K2->Value->Value->Option Value
  | .ibin op _,.int k a,.int k' b=>if k=k' then qcu op k a b else none
  | .sbin op,.string x,.string y=>qY op x y
  | .bbin .eql,.bool a,.bool b=>some (.bool (a==b))
  | .bbin .neq,.bool a,.bool b=>some (.bool (!(a==b)))
  | .shf op,.int k a,.int _ b=>qeY op k a b
  | .ixa sz,v,.int _ i=>if qu v/\0<=i/\i<ql v then some (.pointer (some (qQ v (i.toNat*sz)))) else none
  | .ixs,.string s,.int _ i=>if 0<=i then (s[i.toNat]?).map fun b=> .int .u8 b.toNat else none
  | .slLo sz,v,.int _ l=>if qu v/\0<=l/\l<=ql v then some (qZ v sz l.toNat (ql v) (qy v)) else none
  | .stLo,.string s,.int _ l=>if 0<=l/\l<=s.size then some (.string (s.extract l.toNat s.size)) else none
  |_,_,_=>none
def yS (_w:World):K3->Value->Value->Value->Option Value
  | .slLoHi sz,v,.int _ l,.int _ h=>if qu v/\0<=l/\l<=h/\h<=qy v then some (qZ v sz l.toNat h.toNat (qy v)) else none
  | .stLoHi,.string s,.int _ l,.int _ h=>if 0<=l/\l<=h/\h<=s.size then some (.string (s.extract l.toNat h.toNat)) else none
  |_,_,_,_=>none
def pv4 (_w:World):K4->Value->Value->Value->Value->Option Value
  | .slMax sz,v,.int _ l,.int _ h,.int _ m=>if qu v/\0<=l/\l<=h/\h<=m/\m<=qy v then some (qZ v sz l.toNat h.toNat m.toNat) else none
  |_,_,_,_,_=>none
inductive PO where
  |k1 (k:K1) (x:Operand)
  |k2 (k:K2) (x y:Operand)
  |k3 (k:K3) (x y z:Operand)
  |k4 (k:K4) (x y z u:Operand)
def xJ:Operand:=.const (.int .i64 0)
def kY (P:Program) (t:TypeId):Option Bool:=
  match P.underlying t with
  |some (.struct _)|some (.array ..)=>some true
  |some _=>some false
  |none=>none
def qmR (P : Program) : Callee -> List Operand -> List TypeId -> Option PO
  | .builtin .len,[x],[t]=>match P.underlying t with
    |some .string=>some (.k1 .lenT x)
    |some (.slice _)=>some (.k1 .lenS x)
    |_=>none
  | .builtin .cap,[x],[t]=>match P.underlying t with
    |some (.slice _)=>some (.k1 .capS x)
    |_=>none
  |_,_,_=>none
def qeE (P : Program) : Op -> Option PO
  | .move x| .assign x=>some (.k1 .same x)
  | .load t a=>match kY P t,P.info? t with
    |some true,some i=>some (.k1 (.loadN i.size) a)
    |some false,_=>some (.k1 .load1 a)
    |_,_=>none
  | .binOp op t x y _=>match P.underlying t with
    |some (.int k)=>if op=.shl\/op=.shr then some (.k2 (.shf op) x y) else some (.k2 (.ibin op k) x y)
    |some .string=>some (.k2 (.sbin op) x y)
    |some .bool=>some (.k2 (.bbin op) x y)
    |_=>none
  | .unOp .not _ x=>some (.k1 .not x)
  | .unOp .neg _ x=>some (.k1 .neg x)
  | .unOp .xor _ x=>some (.k1 .bnot x)
  | .convert s d x=>match P.underlying s,P.underlying d with
    |some _,some (.int k)=>some (.k1 (.conv k) x)
    |some .string,some .string=>some (.k1 .strid x)
    |some (.slice e),some .string=>match P.underlying e with
      |some (.int .u8)=>some (.k1 .b2s x)
      |_=>none
    |_,_=>none
  | .slice t x lo hi mx=>match P.underlying t with
    |some (.slice e)=>match P.info? e,hi,mx with
      |some i,none,none=>some (.k2 (.slLo i.size) x (lo.getD xJ))
      |some i,some h,none=>some (.k3 (.slLoHi i.size) x (lo.getD xJ) h)
      |some i,some h,some m=>some (.k4 (.slMax i.size) x (lo.getD xJ) h m)
      |_,_,_=>none
    |some .string=>match hi,mx with
      |none,none=>some (.k2 .stLo x (lo.getD xJ))
      |some h,none=>some (.k3 .stLoHi x (lo.getD xJ) h)
      |_,_=>none
    |_=>none
  | .fieldAddr s x f=>match P.underlying s with
    |some (.struct fs)=>match fs[f]? with
      |some fd=>match P.info? fd.type with
        |some i=>if i.size=0 then none else some (.k1 (.fadr fd.offset) x)
        |none=>none
      |none=>none
    |_=>none
  | .field s x f=>match P.underlying s with
    |some (.struct fs)=>match fs[f]? with
      |some fd=>match kY P fd.type,P.info? fd.type with
        |some true,some i=>some (.k1 (.fldN fd.offset i.size) x)
        |some false,_=>some (.k1 (.fld fd.offset) x)
        |_,_=>none
      |none=>none
    |_=>none
  | .indexAddr t x i=>match P.underlying t with
    |some (.slice e)=>match P.info? e with
      |some inf=>some (.k2 (.ixa inf.size) x i)
      |none=>none
    |_=>none
  | .index t x i=>match P.underlying t with
    |some .string=>some (.k2 .ixs x i)
    |_=>none
  | .extract x i=>some (.k1 (.ext i) x)
  | .makeInterface t x=>match P.underlying t with
    |some (.interface _)=>none
    |some _=>some (.k1 (.mkif t) x)
    |none=>none
  | .nilCheck x=>some (.k1 .nilc x)
  | .call c=>qmR P c.callee c.args.toList c.argTypes.toList
  |_=>none
def PO.val (w:World) (f:Operand->Value):PO->Option Value
  | .k1 k x=>jd w k (f x)
  | .k2 k x y=>vl w k (f x) (f y)
  | .k3 k x y z=>yS w k (f x) (f y) (f z)
  | .k4 k x y z u=>pv4 w k (f x) (f y) (f z) (f u)
def qc.cell {w w':World} (h:qc w w') {a:Addr} {v:Value} (b:w.cell? a=some v):w'.cell? a=some v:=by
  have c:=World.block_lt_of_cell? w a b;exact (World.cell?_of_block (h.block a.block c)).trans b
def qe7 {w w':World} (h:qc w w') (a:Addr):∀(n i:Nat) (l:List Value),jG w a i n=some l->jG w' a i n=some l
  |0,_,_,b=>b
  |n+1,i,l,b=>by
    simp only [jG,uc] at b⊢;obtain ⟨v,j,g,c,e⟩:=b;exact ⟨v,h.cell j,g,qe7 h a n (i+1) g c,e⟩
def qoK {w w':World} (h:qc w w') {k:K1} {x v:Value} (b:jd w k x=some v):jd w' k x=some v:=by
  unfold jd at b⊢;split at b<;>first|exact h.cell b|exact b|skip
  · rename_i n a;obtain ⟨l,c,e⟩:=ua.1 b;exact ua.2 ⟨l,qe7 h a n 0 l c,e⟩
  · split at b
    · rename_i g;obtain ⟨l,c,e⟩:=uc.1 b;simp only [g,kk];exact uc.2 ⟨l,qe7 h _ _ 0 l c,e⟩
    · cases b
def PO.val_ext {w w':World} (h:qc w w') {f:Operand->Value} {p:PO} {v:Value} (a:p.val w f=some v):p.val w' f=some v:=by
  cases p with
  |k1 k x=>exact qoK h a
  |k2 k x y=>exact a
  |k3 k x y z=>exact a
  |k4 k x y z u=>exact a
end Go.Eng
