/- Lemmas for a claim about layer 2 (tree). No conditions but those they state. -/
import Derived.Test.YtbcmiempigoooaaGreatDoorBar
import Derived.Shelf.Strings.OnBuilder
import Derived.Test.YtbcmiempigoooaaGreatDoorProg
import Derived.KernelRfl
set_option linter.all false
namespace Go.Proofs
open Go.Shelf
def Tryz.lays156_ren:Go.Shelf.Ren:=⟨fun|156=>34|165=>88|166=>89|169=>90|240=>177|241=>178|276=>247|277=>248|n=>n,fun|31=>51|9=>9|3=>3|4=>4|0=>0|20=>20|72=>114|76=>127|70=>111|37=>112|75=>126|127=>196|164=>254|5=>5|80=>129|n=>n,fun|n=>n⟩
theorem Tryz.lays156:Go.Proofs.Lays.n156 Tryz.prog Tryz.lays156_ren:={
 mixed:=by kernel_rfl
 f156:=Tryz.func34.trans (congrArg some (by kernel_rfl))
 f165:=Tryz.func88.trans (congrArg some (by kernel_rfl))
 f166:=Tryz.func89.trans (congrArg some (by kernel_rfl))
 f169:=Tryz.func90.trans (congrArg some (by kernel_rfl))
 f240:=Tryz.func177.trans (congrArg some (by kernel_rfl))
 f241:=Tryz.func178.trans (congrArg some (by kernel_rfl))
 f276:=Tryz.func247.trans (congrArg some (by kernel_rfl))
 f277:=Tryz.func248.trans (congrArg some (by kernel_rfl))
 t0:=Tryz.underlying0
 a0:=Tryz.isAgg0
 z0:=Tryz.sizeOf0
 v0:=Tryz.zeroValue0
 t3:=Tryz.underlying3
 a3:=Tryz.isAgg3
 z3:=Tryz.sizeOf3
 v3:=Tryz.zeroValue3
 t4:=Tryz.underlying4
 a4:=Tryz.isAgg4
 z4:=Tryz.sizeOf4
 v4:=Tryz.zeroValue4
 t9:=Tryz.underlying9
 a9:=Tryz.isAgg9
 z9:=Tryz.sizeOf9
 v9:=Tryz.zeroValue9
 t20:=Tryz.underlying20
 a20:=Tryz.isAgg20
 z20:=Tryz.sizeOf20
 v20:=Tryz.zeroValue20
 t31:=Tryz.underlying51
 a31:=Tryz.isAgg51
 z31:=Tryz.sizeOf51
 v31:=Tryz.zeroValue51
 t37:=Tryz.underlying112
 a37:=Tryz.isAgg112
 z37:=Tryz.sizeOf112
 v37:=Tryz.zeroValue112
 t70:=Tryz.underlying111
 a70:=Tryz.isAgg111
 z70:=Tryz.sizeOf111
 v70:=Tryz.zeroValue111
 t72:=Tryz.underlying114
 a72:=Tryz.isAgg114
 z72:=Tryz.sizeOf114
 v72:=Tryz.zeroValue114
 t75:=Tryz.underlying126
 a75:=Tryz.isAgg126
 z75:=Tryz.sizeOf126
 v75:=Tryz.zeroValue126
 t76:=Tryz.underlying127
 a76:=Tryz.isAgg127
 z76:=Tryz.sizeOf127
 v76:=Tryz.zeroValue127
 t127:=Tryz.underlying196
 a127:=Tryz.isAgg196
 z127:=Tryz.sizeOf196
 v127:=Tryz.zeroValue196
 t164:=Tryz.underlying254
 a164:=Tryz.isAgg254
 z164:=Tryz.sizeOf254
 v164:=Tryz.zeroValue254}
theorem Tryz.extra156:Builder.Extra Tryz.prog Tryz.lays156_ren where
 sizeBuilder:=by kernel_rfl
 liesBuilder:=by kernel_rfl
 t5:=Tryz.underlying5
 a5:=Tryz.isAgg5
 z5:=Tryz.sizeOf5
 v5:=Tryz.zeroValue5
 infoByte:=by kernel_rfl
 cellsByte:=by kernel_rfl
 sizeByte:=by kernel_rfl
 neB5:=by decide
open Go.RowKit in
theorem Tryz.join (bk o c:Nat) (xs:List ByteArray) (sep:ByteArray) (w:World)
  (g:∀(j:Nat) x,xs[j]? =some x→w.cell? ⟨bk,o+j,none⟩=some (.string x))
  (q:bk<w.heap.size) (hN:xs.length≤140737488355328) (m:xs.length≤c)
  (l:(Lib.join (xs.map (·.data.toList)) sep.data.toList).length≤140737488355328):
  Calls Tryz.prog 34 #[.slice (some ⟨bk,o,none⟩) xs.length c, .string sep] w fun e w'=>e= .returned (.string ⟨(Lib.join (xs.map (·.data.toList)) sep.data.toList).toArray⟩)∧Below w.heap.size w w':=Any.strings_Join Tryz.lays156 Tryz.extra156 bk o c xs sep w g q hN m l
theorem Tryz.join0 (a:Option Addr) (c:Nat) (sep:ByteArray) (w:World):
  Calls Tryz.prog 34 #[.slice a 0 c, .string sep] w fun e w'=>e= .returned (.string ⟨#[]⟩)∧w'=w:=Any.strings_Join_none Tryz.lays156 Tryz.extra156 a c sep w
end Go.Proofs
namespace Go.L02
open Go Go.Eng Go.RowKit
open Go.Proofs hiding encI
open Go.L01 (Bs Own.same Tok qP qR qi qo)
set_option maxRecDepth 100000
set_option maxHeartbeats 2000000
@[simp] theorem qDu:qf Tryz.prog 34=true:=by kernel_rfl
@[simp] theorem qDt:qf Tryz.prog 88=true:=by kernel_rfl
@[simp] theorem qDv:qf Tryz.prog 177=true:=by kernel_rfl
theorem qgw (sep:Bs):∀ss:List Bs,Lib.join ss sep=kZ sep ss
 |[]=>by simp [kZ,Lib.join_nil]
 |[x]=>by simp [kZ,Lib.join_one]
 |x::y::ys=>by
  have h:=qgw sep (y::ys);rw [Lib.join_cons] at h;rw [Lib.join_cons,kZ,←h];simp [Lib.joinTail]
theorem qu0 {w:World} {v:Value} {ss:List Bs} (sep:Bs) (h:Cells w v 1 (ss.map qi)) (hn:ss.length≤100000000000000) (F:(kZ sep ss).length≤100000000000000):
  Calls Tryz.prog 34 #[v, .string (qb sep)] w fun e w'=>e= .returned (.string (qb (kZ sep ss)))∧qc w w':=by
 have u:qh v=ss.length:=by simpa using h.len.symm
 have g:∀(a:Option Addr) (c:Nat),v= .slice a 0 c→Calls Tryz.prog 34 #[v, .string (qb sep)] w fun e w'=>e= .returned (.string (qb (kZ sep ss)))∧qc w w':=by
  rintro a c rfl;have y:ss=[]:=by simpa [qh] using u.symm
  subst y;refine (Tryz.join0 a c (qb sep) w).mono ?_;rintro _ _ ⟨rfl,rfl⟩;exact ⟨by simp [kZ,qb],qV _⟩
 rcases xy h.is with ⟨b,o,n,c,m,E⟩|m|⟨b,o,sp,m⟩
 ·by_cases y:ss=[]
  ·have:n=0:=by rw [m] at u;simpa [qh,y] using u
   subst this;exact g _ _ m
  ·have J:0<ss.length:=List.length_pos_iff.2 y;have A:n=ss.length:=by rw [m] at u;simpa [qh] using u
   have l:∀(j:Nat) x,(ss.map qb)[j]? =some x→w.cell? ⟨b,o+j,none⟩=some (.string x):=fun j x z=>by
    obtain ⟨q,z⟩:=List.getElem?_eq_some_iff.1 z;have:=h.cell j (by simpa using q);rw [m] at this;simp [qM,qi] at this z;rw [this,z]
   have B:b<w.heap.size:=by
    have:=l 0 (qb ss[0]) (by simp [J]);refine Nat.lt_of_not_le fun E=> ?_;unfold World.cell? at this;simp only [Array.getElem?_eq_none E] at this;cases this
   have C:(ss.map qb).map (·.data.toList)=ss:=by simp [Function.comp_def,qb]
   have q:=Tryz.join b o c (ss.map qb) (qb sep) w l B (by simp;omega) (by simp;omega) (by rw [C];simp only [qb];rw [qgw];omega);rw [C] at q;simp only [qb,List.length_map] at q;rw [qgw,←A,←m] at q;refine q.mono ?_;rintro _ w' ⟨rfl,H⟩;exact ⟨rfl,H⟩
 ·exact g _ _ m
 ·exact g _ _ m
end Go.L02
namespace Go.L02
open Go.Eng
open Go.L01 (Bs Res Tok first jB jb je q9 qC qY qak qcq qo qp qr qw qy right wN wm wo yG ym)
def qdx (r:Row):Nat→List T→Bool
 |_,[]=>true
 |i,k::ks=>(match r.first[i]? with|some f=>f k.d.kind|none=>(match r.more with|some f=>f k.d.kind|none=>false))&&qdx r (i+1) ks
def qcr (n:Nat):Nat→List T→Bool
 |_,[]=>true
 |i,k::ks=>(qo k.d.name|| !(!decide (k.d.name=[])||decide (i+2<n)))&&qcr n (i+1) ks
def qfk (d:D) (ks:List T):Bool:=
 if d.kind=5 then qcc d
 else if d.kind=6 then decide (d.name=[110,111,116])==decide (ks.length=1)
 else if d.kind=32 then qcr ks.length 0 (ks.drop 1) else true
def qfM (d:D) (ks:List T):Bool:=
 match xu d.kind with
 |none=>false
 |some r=>vQ d.name r.name&&vQ d.vr r.vr&&vQ d.typ r.typ&&(match r.n with|none=>decide (d.n=0)|some f=>f d.n)&&
   (decide (r.least≤ks.length)&&decide (ks.length≤r.most))&&qdx r 0 ks&&qfk d ks
mutual
def okT:T→Bool| .mk d ks=>qfM d ks&&okTs ks
def okTs:List T→Bool|[]=>true|t::ts=>okT t&&okTs ts
end
theorem qlW (t:T) (c post:List Nd):(c++(t.flat c.length++post))[(((c.length:Int)+t.size - 1)).toNat]? =some ⟨t.d,qu c.length t.kids⟩:=by
 have g:=t.size_pos;have e:((c.length:Int)+t.size - 1).toNat=c.length+(t.size - 1):=by omega
 rw [e,List.getElem?_append_right (by omega),List.getElem?_append_left (by rw [T.flat_len];omega)];have:=qpF t c.length;rw [List.getLast?_eq_getElem?,T.flat_len] at this;rw [←this];congr 1;omega
theorem qlV (r:Row):∀(ks:List T) (i:Nat) (c post:List Nd),kH (c++(flats c.length ks++post)) r i (qu c.length ks)=qdx r i ks
 |[],_,_,_=>rfl
 |t::ks,i,c,post=>by
  have q:=qlW t c (flats (c.length+t.size) ks++post);have g:=qlV r ks (i+1) (c++t.flat c.length) post;have l:c++(flats c.length (t::ks)++post)=c++(t.flat c.length++(flats (c.length+t.size) ks++post)):=by simp [flats]
  have m:(c++t.flat c.length)++(flats (c++t.flat c.length).length ks++post)=c++(t.flat c.length++(flats (c.length+t.size) ks++post)):=by
   simp [List.length_append,T.flat_len]
  have j:(c++t.flat c.length).length=c.length+t.size:=by rw [List.length_append,T.flat_len]
  rw [m,j] at g;have o:yV (c++(t.flat c.length++(flats (c.length+t.size) ks++post))) ((c.length:Int)+t.size - 1)=t.d.kind:=by unfold yV;rw [q]
  rw [l];simp only [qu,kH,qdx,o,g];rfl
theorem qiR (n:Nat):∀(ks:List T) (i:Nat) (c post:List Nd),yd (c++(flats c.length ks++post)) n i (qu c.length ks)=qcr n i ks
 |[],_,_,_=>rfl
 |t::ks,i,c,post=>by
  have q:=qlW t c (flats (c.length+t.size) ks++post);have g:=qiR n ks (i+1) (c++t.flat c.length) post;have l:c++(flats c.length (t::ks)++post)=c++(t.flat c.length++(flats (c.length+t.size) ks++post)):=by simp [flats]
  have m:(c++t.flat c.length)++(flats (c++t.flat c.length).length ks++post)=c++(t.flat c.length++(flats (c.length+t.size) ks++post)):=by
   simp [List.length_append,T.flat_len]
  have j:(c++t.flat c.length).length=c.length+t.size:=by rw [List.length_append,T.flat_len]
  rw [m,j] at g;have o:yU (c++(t.flat c.length++(flats (c.length+t.size) ks++post))) ((c.length:Int)+t.size - 1)=t.d.name:=by unfold yU;rw [q]
  rw [l];simp only [qu,yd,qcr,o,g]
theorem qt0 (d:D) (ks:List T) (c post:List Nd):xF (c++(flats c.length ks++post)) ⟨d,qu c.length ks⟩=qfM d ks:=by
 unfold xF qfM;dsimp only;cases xu d.kind with
 |none=>rfl
 |some r=>
  have m:vJ (c++(flats c.length ks++post)) ⟨d,qu c.length ks⟩=qfk d ks:=by
   unfold vJ qfk;dsimp only;rw [wn];by_cases l:d.kind=5
   ·simp [l]
   by_cases j:d.kind=6
   ·simp [j]
   by_cases g:d.kind=32
   ·simp only [g];cases ks with
    |nil=>rfl
    |cons t ks=>
     have:=qiR (ks.length+1) ks 0 (c++t.flat c.length) post;have o:(c++t.flat c.length).length=c.length+t.size:=by rw [List.length_append,T.flat_len]
     have q:(c++t.flat c.length)++(flats (c++t.flat c.length).length ks++post)=c++(flats c.length (t::ks)++post):=by
      simp [flats,List.length_append,T.flat_len]
     rw [q,o] at this;simp [qu,this]
   ·simp [l,j,g]
  dsimp only;rw [qlV r ks 0 c post,m,wn];rfl
mutual
theorem qqT:∀(t:T) (c post:List Nd),(t.flat c.length).all (xF (c++(t.flat c.length++post)))=okT t
 | .mk d ks,c,post=>by
  have j:=all_rights ks c ([⟨d,qu c.length ks⟩]++post);have g:=qt0 d ks c ([⟨d,qu c.length ks⟩]++post);simp only [T.flat,List.append_assoc,List.all_append,List.all_cons,List.all_nil,Bool.and_true,okT];rw [j,g,Bool.and_comm]
theorem all_rights:∀(ts:List T) (c post:List Nd),(flats c.length ts).all (xF (c++(flats c.length ts++post)))=okTs ts
 |[],_,_=>rfl
 |t::ts,c,post=>by
  have j:=qqT t c (flats (c.length+t.size) ts++post);have g:=all_rights ts (c++t.flat c.length) post;have l:(c++t.flat c.length).length=c.length+t.size:=by rw [List.length_append,T.flat_len]
  rw [l] at g;simp only [flats,List.append_assoc,List.all_append,okTs] at j g⊢;rw [j,g]
end
theorem qru (l:List Nd) (root:Nat→Bool):whole l root=true↔∃t:T,l=t.flat 0∧t.size≤400∧root t.d.kind=true∧okT t=true:=by
 have key:∀t:T,(t.flat 0).all (xF (t.flat 0))=okT t:=fun t=>by
  have:=qqT t [] [];simpa using this
 constructor
 ·intro h;unfold whole at h;simp only [Bool.and_eq_true,decide_eq_true_eq] at h;obtain ⟨⟨⟨⟨q,j⟩,m⟩,c⟩,g⟩:=h;obtain ⟨t,rfl⟩:=qul m;rw [T.flat_len] at j;rw [qkv] at c;rw [key] at g;exact ⟨t,rfl,j,c,g⟩
 ·rintro ⟨t,rfl,j,c,g⟩;unfold whole;have o:=t.size_pos;simp only [Bool.and_eq_true,decide_eq_true_eq,T.flat_len,qkv,key];exact ⟨⟨⟨⟨by omega,j⟩,qun t⟩,c⟩,g⟩
def QH (k:Nat) (s:Bs) (c:UInt8):Bool:=if k=4 then qy (s++[c]) else if k=3 then qw c else L01.part c
theorem qzD {k:Nat} {s x:Bs} {c:UInt8} (h:right k s=true) (hg:QH k s c=false):first (s++c::x)=(k,s.length,0):=by
 obtain ⟨H,j⟩:=jB h;obtain ⟨a,s',rfl⟩:∃a s',s=a::s':=by cases s with|nil=>exact absurd rfl H|cons a s'=>exact ⟨a,s',rfl⟩
 have g:((a::s')++c::x).getD 0 0=a:=by simp
 have J:(a::s').getD 0 0=a:=rfl;have R:k=1∨k=2∨k=3∨k=4:=by
  unfold right at h;by_cases k1:k=1
  ·exact .inl k1
  by_cases k2:k=2
  ·exact .inr (.inl k2)
  by_cases k3:k=3
  ·exact .inr (.inr (.inl k3))
  by_cases k4:k=4
  ·exact .inr (.inr (.inr k4))
  simp [k1,k2,k3,k4] at h
 unfold first at j⊢
 rw [g];rw [J] at j;by_cases F:jb a=true
 ·rw [if_pos F] at j⊢;have l:qC (a::s')=(a::s').length:=by
   split at j
   ·exact (Prod.mk.inj (Prod.mk.inj j).2).1
   ·split at j
    ·have:=(Prod.mk.inj (Prod.mk.inj j).2).2;cases this
    ·exact (Prod.mk.inj (Prod.mk.inj j).2).1
  have o:k=1∨k=2:=by
   split at j
   ·exact .inr (Prod.mk.inj j).1.symm
   ·split at j
    ·have:=(Prod.mk.inj (Prod.mk.inj j).2).2;cases this
    ·exact .inl (Prod.mk.inj j).1.symm
  have C:L01.part c=false:=by
   unfold QH at hg;rcases o with rfl|rfl<;>simpa using hg
  have m:qC ((a::s')++c::x)=(a::s').length:=qak (r:=[]) (by simpa [qC] using l) (.inr ⟨c,x,rfl, .inl C⟩);rw [m] at*;rw [l] at j;have e:((a::s')++c::x).take (a::s').length=(a::s').take (a::s').length:=by rw [List.take_left' rfl,List.take_length]
  rw [e];exact j
 ·rw [if_neg F] at j⊢;by_cases E:qw a=true
  ·rw [if_pos E] at j⊢;have l:q9 (a::s')=(a::s').length:=by
    split at j
    ·exact (Prod.mk.inj (Prod.mk.inj j).2).1
    ·have:=(Prod.mk.inj (Prod.mk.inj j).2).2;cases this
   have A:k=3:=by
    split at j
    ·exact (Prod.mk.inj j).1.symm
    ·have:=(Prod.mk.inj (Prod.mk.inj j).2).2;cases this
   have C:qw c=false:=by
    unfold QH at hg;subst A;simpa using hg
   have m:q9 ((a::s')++c::x)=(a::s').length:=qak (r:=[]) (by simpa [q9] using l) (.inr ⟨c,x,rfl, .inl C⟩);rw [l] at j;rw [m];have e:((a::s')++c::x).take (a::s').length=(a::s').take (a::s').length:=by rw [List.take_left' rfl,List.take_length]
   rw [e];exact j
  ·rw [if_neg E] at j⊢;have y:k=4:=by
    split at j
    ·exact (Prod.mk.inj j).1.symm
    ·split at j
     ·exact (Prod.mk.inj j).1.symm
     ·have:=(Prod.mk.inj (Prod.mk.inj j).2).2;cases this
   subst y;have u:qy (a::s')=true:=by simpa [right] using h
   obtain ⟨q,_,_,_,_⟩:=yG (a::s') (by simpa [qy] using u);have z:qy ((a::s')++[c])=false:=by simpa [QH] using hg
   rcases q with e|e
   ·have O:s'=[]:=List.length_eq_zero_iff.1 (by simpa using e);subst O;have B:qy [a,c]=false:=z;simp [B,u]
   ·obtain ⟨b,rfl⟩:∃b,s'=[b]:=by
     match s',e with
     |[b],_=>exact ⟨b,rfl⟩
    simp [u]
structure At where
 k:Nat
 s:Bs
def ju (l:List At):Bs:=l.flatMap (·.s)
def we (l:List At):List (Nat×Bs):=(l.filter fun a=>decide (a.k≠0)).map fun a=>(a.k,a.s)
def At.ok (a:At):Prop:=if a.k=0 then a.s≠[]∧∀c∈a.s,L01.xe c=true else right a.k a.s=true
def At.then (a:At) (r:Bs):Prop:=a.k=0∨∀c x,r=c::x→QH a.k a.s c=false
def okAw:List At→Prop
 |[]=>True
 |a::l=>a.ok∧(match l with|[]=>True|b::_=>a.then b.s)∧okAw l
def wF (l:List At) (r:Bs):Prop:=match l.getLast? with|none=>True|some a=>a.then r
theorem At.ok.ne {a:At} (h:a.ok):a.s≠[]:=by
 unfold At.ok at h;split at h
 ·exact h.1
 ·exact (jB h).1
theorem At.then_head {a:At} {s r:Bs} (h:a.then s) (g:s≠[]):a.then (s++r):=by
 rcases h with h|h
 ·exact .inl h
 ·refine .inr fun c x e=> ?_;cases s with
  |nil=>exact absurd rfl g
  |cons b s'=>
   simp only [List.cons_append,List.cons.injEq] at e;exact h c s' (by rw [←e.1])
theorem qfs:∀(s r:Bs) (l:Int),(∀c∈s,L01.xe c=true)→∃g,qp (s++r) l=qp r g
 |[],r,l,_=>⟨l,rfl⟩
 |c::s,r,l,h=>by
  have m:=h c (by simp);have o:∀d∈s,L01.xe d=true:=fun d q=>h d (by simp [q]);simp only [L01.xe,Bool.or_eq_true,decide_eq_true_eq] at m;by_cases j:c=10
  ·subst j;obtain ⟨g,e⟩:=qfs s r (l+1) o;exact ⟨g,by rw [List.cons_append,wm,e]⟩
  ·obtain ⟨g,e⟩:=qfs s r l o;exact ⟨g,by rw [List.cons_append,wN _ _ (by rcases m with (h|h)|h<;>simp_all),e]⟩
def qD (t:Tok):Nat×Bs:=(t.kind,t.text)
theorem qcU:∀(a:List At) (r:Bs) (l:Int),okAw a→wF a r→∃ts q,qp (ju a++r) l=(qp r q).add ts []∧ts.map qD=we a
 |[],r,l,_,_=>⟨[],l,by simp [ju],rfl⟩
 |a::g,r,l,h,C=>by
  obtain ⟨m,H,y⟩:=h;have u:wF g r:=by
   cases g with
   |nil=>trivial
   |cons b g=>simpa [wF,List.getLast?_cons_cons] using C
  have E:a.then (ju g++r):=by
   cases g with
   |nil=>simpa [wF,ju] using C
   |cons b g=>
    have O:=(y.1).ne;have e:ju (b::g)++r=b.s++(ju g++r):=by simp [ju]
    rw [e];exact At.then_head H O
  have e:ju (a::g)++r=a.s++(ju g++r):=by simp [ju]
  rw [e];by_cases o:a.k=0
  ·have z:∀c∈a.s,L01.xe c=true:=by
    unfold At.ok at m;rw [if_pos o] at m;exact m.2
   obtain ⟨l1,F⟩:=qfs a.s (ju g++r) l z;obtain ⟨ts,q,A,B⟩:=qcU g r l1 y u;exact ⟨ts,q,by rw [F,A],by rw [B];simp [we,o]⟩
  ·have j:right a.k a.s=true:=by
    unfold At.ok at m;rw [if_neg o] at m;exact m
   have R:first (a.s++(ju g++r))=(a.k,a.s.length,0):=by
    cases J:ju g++r with
    |nil=>rw [List.append_nil];exact (jB j).2
    |cons c x=>
     refine qzD j ?_;rcases E with h|h
     ·exact absurd h o
     ·exact h c x J
   obtain ⟨ts,q,A,B⟩:=qcU g r l y u;refine ⟨⟨a.k,a.s,l⟩::ts,q, ?_, ?_⟩
   ·rw [ym (jB j).1 R (wo j),A,L01.Res.add_add];rfl
   ·rw [List.map_cons,B];simp [we,o,qD]
theorem qs4 {a:List At} (h:okAw a) (l:Int):∃ts,qp (ju a) l= .ok ts []∧ts.map qD=we a:=by
 obtain ⟨ts,j,e,g⟩:=qcU a [] l h (by
  unfold wF;split
  ·trivial
  ·exact .inr fun c x e=>by cases e)
 rw [List.append_nil,L01.qbp] at e;exact ⟨ts,by rw [e];simp [Res.add],g⟩
def Shp:Nat×List At→Prop
 |(0,l)=>∃s,l=[⟨0,s⟩]∧s≠[]∧∀c∈s,L01.xe c=true
 |(1,l)=>okAw l∧∃a,l.head? =some a∧a.k≠0∧(a.k=4→a.s≠[61])
 |(2,l)=>∃s,l=[⟨4,s⟩]∧qy s=true∧s≠[61]
 |(3,l)=>l=[⟨4,[61]⟩]
 |_=>False
theorem qzn {s:Bs} (h:qy s=true):∃c x,s=c::x∧L01.part c=false∧qw c=false∧(s≠[61]→c≠61):=by
 have:∀s∈L01.qU,∃c x,s=c::x∧L01.part c=false∧qw c=false∧(s≠[61]→c≠61):=by
  intro s g;simp only [L01.qU,List.mem_cons,List.mem_nil_iff,or_false] at g;rcases g with rfl|rfl|rfl|rfl|rfl|rfl|rfl|rfl|rfl|rfl|rfl|rfl|rfl|rfl|rfl|rfl|rfl|rfl|rfl|rfl|rfl<;>exact ⟨_,_,rfl,by decide,by decide,by decide⟩
 exact this s (by simpa [qy] using h)
theorem qjW {s:Bs} {c:UInt8} (h:qy (s++[c])=true) (l:s≠[]):c=61:=by
 have:∀t∈L01.qU,t.length=2→t.getD 1 0=61:=by decide
 obtain ⟨o,_⟩:=yG (s++[c]) (by simpa [qy] using h);have q:0<s.length:=List.length_pos_iff.2 l;have g:(s++[c]).length=2:=by rw [List.length_append,List.length_singleton] at o⊢;omega
 have j:=this (s++[c]) (by simpa [qy] using h) g;have m:s.length=1:=by simpa using g
 match s,m with
 |[a],_=>simpa using j
theorem At.then_sign {a:At} {s:Bs} (h:a.ok) (l:qy s=true) (g:s≠[61]):a.then s:=by
 by_cases q:a.k=0
 ·exact .inl q
 refine .inr fun c x e=> ?_;obtain ⟨u,x',e',o,m,j⟩:=qzn l;rw [e] at e';cases e';unfold QH;split
 ·cases hg:qy (a.s++[c]) with
  |false=>rfl
  |true=>exact absurd (qjW hg h.ne) (j g)
 ·split
  ·exact m
  ·exact o
theorem Shp.okAw:∀{p:Nat×List At},Shp p→okAw p.2∧p.2≠[]
 |(0,l),h=>by
  obtain ⟨s,rfl,c,g⟩:=h;exact ⟨⟨by unfold At.ok;rw [if_pos rfl];exact ⟨c,g⟩,trivial,trivial⟩,by simp⟩
 |(1,l),h=>by
  obtain ⟨c,a,g,_⟩:=h;exact ⟨c,by rintro rfl;cases g⟩
 |(2,l),h=>by
  obtain ⟨s,rfl,c,g⟩:=h;exact ⟨⟨by unfold At.ok;rw [if_neg (show¬(4:Nat)=0 by decide)];simpa [right] using c,trivial,trivial⟩,by simp⟩
 |(3,l),h=>by
  obtain rfl:l=[⟨4,[61]⟩]:=h;exact ⟨⟨by unfold At.ok;rw [if_neg (by decide)];decide,trivial,trivial⟩,by simp⟩
 |(n+4,l),h=>h.elim
def bk (s:Bs):Nat×List At:=(0,[⟨0,s⟩])
end Go.L02
namespace Go.L02
open Go Go.Eng Go.RowKit
open Go.Proofs hiding encI
open Go.L01 (Bd Bs Own.same SlK Tok fV jE jM jO jT jn jx qB qP qR qb3 qcj qe8 qfd qi qkG qo qqN qql qr qsT vx)
set_option maxRecDepth 100000
set_option maxHeartbeats 2000000
def qlX (i:Nat) (u:T) (j:Nat):Nat:=i+sizes (u.kids.take (j+1)) - u.size
structure NdR (w:World) (l:List Nd) (nv:Value) (N i:Nat) (u:T) (kv:Value):Prop where
 is:qt nv=true
 len:qh nv=N
 lt:i<N
 cell:∀j,j<6→w.cell? (qM nv (i*6+j))=[Value.int .u8 (u.d.kind:Int), .string (qb u.d.name), .string (qb u.d.vr), .string (qb u.d.typ), .int .i64 u.d.n,kv][j]?
 kis:qt kv=true
 klen:qh kv=u.kids.length
 kids:Cells w kv 1 ((qu (i+1 - u.size) u.kids).map encI)
 kcell:∀j (h:j<u.kids.length),w.cell? (qM kv j)=some (.int .i64 (qlX i u j:Int))∧xV l (qlX i u j) u.kids[j]∧u.kids[j].size<u.size
theorem NdR.ext {w w':World} {l:List Nd} {nv:Value} {N i:Nat} {u:T} {kv:Value} (h:NdR w l nv N i u kv) (c:qc w w'):NdR w' l nv N i u kv where
 is:=h.is
 len:=h.len
 lt:=h.lt
 cell j hj:=by
  have:=h.cell j hj;have g:j<[Value.int .u8 (u.d.kind:Int), .string (qb u.d.name), .string (qb u.d.vr), .string (qb u.d.typ), .int .i64 u.d.n,kv].length:=by simpa using hj
  rw [List.getElem?_eq_getElem g] at this⊢;exact c.cell this
 kis:=h.kis
 klen:=h.klen
 kids:=h.kids.ext c
 kcell j hj:=⟨c.cell (h.kcell j hj).1,(h.kcell j hj).2⟩
theorem NdR.row {w:World} {l:List Nd} {nv:Value} {N i:Nat} {u:T} {kv:Value} (h:NdR w l nv N i u kv):Eng.jq w (qM nv (i*6)) 0 6=some [Value.int .u8 (u.d.kind:Int), .string (qb u.d.name), .string (qb u.d.vr), .string (qb u.d.typ), .int .i64 u.d.n,kv]:=by
 have:=qal (w:=w) (a:=qM nv (i*6)) (l:=[Value.int .u8 (u.d.kind:Int), .string (qb u.d.name), .string (qb u.d.vr), .string (qb u.d.typ), .int .i64 u.d.n,kv]) (i:=0) fun j g=>by
  have c:j<6:=by simpa using g
  rw [qfm,Nat.zero_add,h.cell j c,List.getElem?_eq_getElem g]
 exact this
theorem qac {x y:Bs} (h:x.length+y.length≤1000000000000000000):kj .add (qb x) (qb y)=some (.string (qb (x++y))):=by
 simp only [kj,qvN,qgj];rw [if_pos (by unfold maxLen;omega)]
theorem qaz (l:Bs):ByteArray.mk l.toArray=qb l:=rfl
section
variable {w:World} {b:Nat} {nv:Value} {xs:List NV}
end
noncomputable def qmj:Code:=((Tryz.f90.body).getD .skip)
noncomputable def qmi:IR:= .ret
noncomputable def qml:IR:=zq [za 2 (.const (zs #[]))] <| .seq (.raw (qI qmj 1)) (qmi)
def qmk:List Nat:=zV 14 [1]
theorem qwG:C1 90 14 qmk qml [.tmp 2]:=c1 [1] Tryz.func90
noncomputable def qmh:OT:=zy 3 (zv 0)<|zy 4 (zN (zv 3))<|zy 5 (zf 1 (zv 4))<|zy 6 (zl (zv 5))<|zy 8 (zv 0)<|zy 9 (zN (zv 8))<|zy 10 (zf 1 (zv 9))<|zy 11 (zl (zv 10))<|zy 12 (zL (zv 11))<| .step (zE 7 (.call {callee:= .builtin .unsafeSliceData,args:= #[zt 6],argTypes:= #[112]}) 196) true<| .step (zE 13 (.call {callee:= .builtin .unsafeString,args:= #[zt 7,zt 12],argTypes:= #[196,3]}) 9) false<| .step (zm 2 13) false<| .done
theorem qwF:vT Tryz.prog 14 qmk 10 (qI qmj 1)=some qmh:=by kernel_rfl
def Pr (B b:Nat) (nv:Value) (op:Bool) (bs:Bs) (w:World):Prop:=B≤b∧∃p v,Blk w b #[p,v,nv, .bool op] 116∧(p= .pointer none∨p= .pointer (some ⟨b,0,none⟩))∧w.ownsRow B 5 1 v bs.length (bs.map jf)∧v.ownBlock≠some b
def prP:Nat→TypeId→Prop:=fun _ T=>T≠116∧T≠5
theorem qsZ {w:World} {b:Nat} {p v nv o:Value} (h:Blk w b #[p,v,nv,o] 116):w.shape? b=some (116,4):=by simp [World.shape?,h.heap]
theorem qwa:liesAt Tryz.prog Tryz.prog.depth 116 (4 / Tryz.prog.cellsOf 116) 0 114 1=true:=by kernel_rfl
theorem qui (b:Nat) (w:World) (c:w.cell? ⟨b,0,none⟩=some (.pointer (some ⟨b,0,none⟩))):
  Calls Tryz.prog 177 #[.pointer (some ⟨b,0,none⟩)] w fun e w'=>e= .returned (.tuple #[])∧w'=w:=L01.qiq b w c
theorem quj (b:Nat) (w:World) {v nv o:Value} (h:Blk w b #[.pointer none,v,nv,o] 116):
  Calls Tryz.prog 177 #[.pointer (some ⟨b,0,none⟩)] w fun e w'=>e= .returned (.tuple #[])∧w'=w.setCell ⟨b,0,none⟩ (.pointer (some ⟨b,0,none⟩)):=by
 obtain ⟨j,l,g⟩:=L01.qhn;have q:w.cell? ⟨b,0,none⟩=some (.pointer none):=by rw [h.cell];rfl
 have c:=qsZ h;have m:w.frozen? ⟨b,0,none⟩=false:=by simp [World.frozen?,h.heap]
 go_enter Tryz.func177,Tryz.ntmps177
 go_wp2
 rw [Lib.run_to_unsafe w ⟨b,0,none⟩ Tryz.underlying111 Tryz.underlying254 l (by rw [g];decide) c (Nat.zero_lt_succ 3)];simp only [Result.andThen];rw [Oper.upon_value]
 go_wp2
 rw [run_callFunc_extern Tryz.func247 (by kernel_rfl) (by kernel_rfl) (by kernel_rfl) (e:=Extern.AbiNoEscape.same) (by kernel_rfl),Lib.run_noEscape];simp only [Result.andThen];rw [Oper.upon_value]
 go_wp2
 rw [Lib.run_from_unsafe w ⟨b,0,none⟩ Tryz.underlying254 Tryz.underlying111 l c qwa];simp only [Result.andThen];rw [Oper.upon_value]
 go_wp2
 go_end0
 exact ⟨rfl,rfl⟩
theorem quk {w:World} {b:Nat} {p v nv o:Value} (h:Blk w b #[p,v,nv,o] 116) (c:p= .pointer none∨p= .pointer (some ⟨b,0,none⟩)):
  Calls Tryz.prog 177 #[.pointer (some ⟨b,0,none⟩)] w fun e w'=>e= .returned (.tuple #[])∧Blk w' b #[.pointer (some ⟨b,0,none⟩),v,nv,o] 116∧Only b w w':=by
 rcases c with rfl|rfl
 ·refine (quj b w h).mono ?_;rintro _ _ ⟨rfl,rfl⟩;exact ⟨rfl,by simpa using qen h 0 (.pointer (some ⟨b,0,none⟩)),qdj _ _ _ _⟩
 ·refine (qui b w (by rw [h.cell];rfl)).mono ?_;rintro _ _ ⟨rfl,rfl⟩;exact ⟨rfl,h,Only.refl _ _⟩
theorem qbL {w w':World} {B:Nat} {v:Value} {n:Nat} {xs:List Value} (h:w.ownsRow B 5 1 v n xs) (l:∀k,v.ownBlock=some k→w'.heap[k]? =w.heap[k]?):w'.ownsRow B 5 1 v n xs:=by
 refine ⟨h.1, ?_⟩;rcases h.2 with j|⟨g,cap,cur,rfl,hg,c,r⟩
 ·exact .inl j
 ·exact .inr ⟨g,cap,cur,rfl,hg,(l g rfl).trans c,r⟩
theorem qkn {w:World} {B:Nat} {v:Value} {n:Nat} {xs:List Value} (h:w.ownsRow B 5 1 v n xs) {k:Nat} (c:v.ownBlock=some k):∃cur,w.heap[k]? =some (.cells cur 5 (0,0)):=by
 rcases h.2 with ⟨rfl,_⟩|⟨g,cap,cur,rfl,hg,j,r⟩
 ·simp at c
 ·simp at c;subst c;exact ⟨cur,j⟩
theorem Pr.ext {w w':World} {B b:Nat} {nv:Value} {op:Bool} {bs:Bs} (h:Pr B b nv op bs w) (j:qc w w'):Pr B b nv op bs w':=by
 obtain ⟨l,p,v,q,u,g,c⟩:=h;exact ⟨l,p,v,q.ext j,u,qbL g (fun k o=>by obtain ⟨cur,m⟩:=qkn g o;exact j.block k (Array.getElem?_eq_some_iff.1 m).1),c⟩
theorem Pr.at' {p:Nat→TypeId→Prop} {w w':World} {B b:Nat} {nv:Value} {op:Bool} {bs:Bs} (h:Pr B b nv op bs w) (j:qv p w w') (z:∀k,p k 116) (m:∀k,p k 5):Pr B b nv op bs w':=by
 obtain ⟨l,q,v,x,y,g,c⟩:=h;exact ⟨l,q,v,x.at' j (z _),y,qbL g (fun k u=>by obtain ⟨cur,o⟩:=qkn g u;exact j k _ _ _ o (m _)),c⟩
theorem Pr.nodes {w:World} {B b:Nat} {nv:Value} {op:Bool} {bs:Bs} (h:Pr B b nv op bs w):w.cell? ⟨b,2,none⟩=some nv:=by
 obtain ⟨m,q,v,g,l,j,c⟩:=h;rw [g.cell];rfl
structure Chg (w0 w w':World):Prop where
 ext:qc w0 w'
 same:qv prP w w'
 size:w.heap.size≤w'.heap.size
theorem Chg.trans {w0 a b c:World} (h:Chg w0 a b) (k:Chg w0 b c):Chg w0 a c:=⟨k.ext,h.same.trans k.same,Nat.le_trans h.size k.size⟩
theorem qp3 {P:Program} {Q:Ks} {d:Option Nat} {b:Builtin} {args:Array Operand} {c:Array TypeId} {ty:TypeId} {K:qa→World→Prop} {ρ:qa} {w:World} (h:jV P Q d (.call {callee:= .builtin b,args:=args,argTypes:=c}) ty K ρ w):qm P Q d (.call {callee:= .builtin b,args:=args,argTypes:=c}) ty K ρ w:=h
def ndC (t:T) (kv:Value):List Value:=[Value.int .u8 (t.d.kind:Int), .string (qb t.d.name), .string (qb t.d.vr), .string (qb t.d.typ), .int .i64 t.d.n,kv]
structure StC (w0 W:World) (b:Nat) (nv:Value) (bs ind:Bs) (t:T) (kv:Value) (P I X:Nat):Prop where
 ext:qc w0 W
 pr:Pr w0.heap.size b nv true bs W
 bP:Blk W P #[.pointer (some ⟨b,0,none⟩)] 110
 bI:Blk W I #[.string (qb ind)] 9
 bX:Blk W X (ndC t kv).toArray 44
section
variable {w0 W:World} {b:Nat} {nv:Value} {bs ind:Bs} {t:T} {kv:Value} {P I X:Nat}
theorem StC.cs (h:StC w0 W b nv bs ind t kv P I X):W.cell? ⟨P,0,none⟩=some (.pointer (some ⟨b,0,none⟩))∧W.cell? ⟨I,0,none⟩=some (.string (qb ind))∧W.cell? ⟨X,0,none⟩=some (.int .u8 (t.d.kind:Int))∧W.cell? ⟨X,1,none⟩=some (.string (qb t.d.name))∧W.cell? ⟨X,3,none⟩=some (.string (qb t.d.typ))∧W.cell? ⟨X,5,none⟩=some kv:=
 ⟨by rw [h.bP.cell];rfl,by rw [h.bI.cell];rfl,by rw [h.bX.cell];rfl,by rw [h.bX.cell];rfl,by rw [h.bX.cell];rfl,by rw [h.bX.cell];rfl⟩
end
theorem kP.rd {q:Nat→Prop} {w:World} {v:Value} {l:List Nd} (h:kP q w v l):RdN w v l:=by
 obtain ⟨xs,e,c,j⟩:=h;exact ⟨xs,e,qky c fun x g=>(j x g).1⟩
theorem wZ.rd {g:Type} {b T sz:Nat} {C C':List Value→g→Prop} {w:World} {v:Value} {l:List g} (h:wZ b T sz C w v l) (m:∀c a,C c a→C' c a):xq sz C' w v l:=by
 obtain ⟨css,j,o⟩:=h;exact ⟨css,L01.vB j,o.imp m⟩
theorem Qa.rd {w:World} {cs:List Value} {s:Sig} (h:Qa w cs s):wB w cs s:=by
 obtain ⟨av,sv,e,c,g⟩:=h;exact ⟨av,sv,e,L01.vB c,L01.vB g⟩
theorem yx.rd {q:Nat→Prop} {w:World} {cs:List Value} {m:Mod} (h:yx (kP q w) w cs m):QV w cs m:=by
 obtain ⟨a,b,c,e,l,g,j⟩:=h;refine ⟨a,b,c,e,l.rd ?_,g.rd ?_,j.rd ?_⟩
 ·rintro _ _ ⟨c,e,h⟩;exact ⟨c,e,h.rd⟩
 ·rintro _ _ ⟨c,e,h⟩;exact ⟨c,e,h.rd⟩
 ·rintro _ _ ⟨c,u,o,e,l,g,j⟩;exact ⟨c,u,o,e,l.rd,L01.vB g,j.rd⟩
def RdM (w:World) (v:Value) (l:List Mod):Prop:=xq 7 (QV w) w v l
theorem RdM.ext {w w':World} {v:Value} {l:List Mod} (h:RdM w v l) (c:qc w w'):RdM w' v l:=xq.ext h c fun _ _ h=>h.ext c
theorem qBv {w W:World} {base:Nat} {v q:Value} {n:Nat} {xs:List Value} (s:ByteArray) (c:w.ownsRow base 5 1 v n xs) (F:n+s.size≤140737488355328) (u:(Builtin.append_ #[112,9] 112 #[v, .string s]).run Tryz.prog w= .ok q W) (o:q= .slice none 0 0↔v= .slice none 0 0∧s.size=0):q.ownBlock=v.ownBlock∨q.ownBlock=some w.heap.size:=by
 obtain ⟨i,A,C,B,m⟩:=qb3;have z:xs.length=n:=by simpa using c.1
 rcases c.2 with ⟨rfl,rfl⟩|⟨g,cap,cur,rfl,J,hg,H,O,y,x⟩
 ·by_cases R:s.size=0
  ·left;rw [o.2 ⟨rfl,R⟩]
  ·have j:=run_append_nil_string (P:=Tryz.prog) w 112 9 112 5 i (.int .u8 0) Tryz.underlying112 Tryz.underlying9 A C s (by omega) (by omega) (by rw [m];omega);rw [u] at j;cases j;right;rfl
 ·have E:cur.size=cap:=by simpa using y
  by_cases l:n+s.size≤cap
  ·have j:=Lib.run_append_room_string (P:=Tryz.prog) w 112 9 112 5 i Tryz.underlying112 Tryz.underlying9 A B g n cap cur hg s l (by omega);rw [u] at j;cases j;left;rfl
  ·have j:=Lib.run_append_grow_string (P:=Tryz.prog) w 112 9 112 5 i (.int .u8 0) Tryz.underlying112 Tryz.underlying9 A C ⟨g,0,none⟩ n cap xs (by rw [B];simpa using z) (c.cells (g:=g) rfl) s (by omega) (by omega) (by rw [m];exact growslice_fits (by omega) (by omega));rw [u] at j;cases j;right;rfl
def yb (B O:Nat) (v:Value) (bs:Bs) (w:World):Prop:=B≤O∧(∃p,(p= .pointer none∨p= .pointer (some ⟨O,0,none⟩))∧Blk w O #[p,v] 114)∧w.ownsRow B 5 1 v bs.length (bs.map jf)∧v.ownBlock≠some O
theorem yb.bd {B O:Nat} {v:Value} {bs:Bs} {w:World} (h:yb B O v bs w):Bd B O bs w:=by
 obtain ⟨j,⟨p,m,l⟩,g,c⟩:=h;rcases m with rfl|rfl
 ·exact .inl ⟨j,v,l.heap,by simpa using g,c⟩
 ·exact .inr ⟨j,v,l.heap,by simpa using g,c⟩
theorem yb.keep {B O:Nat} {v:Value} {bs:Bs} {w w':World} (h:yb B O v bs w) (j:w'.heap[O]? =w.heap[O]?) (o:∀k,v.ownBlock=some k→w'.heap[k]? =w.heap[k]?):yb B O v bs w':=by
 obtain ⟨m,⟨p,l,q⟩,g,c⟩:=h;exact ⟨m,⟨p,l,⟨j.trans q.heap⟩⟩,qbL g o,c⟩
theorem yb.lt {B O:Nat} {v:Value} {bs:Bs} {w:World} (h:yb B O v bs w):O<w.heap.size∧∀k,v.ownBlock=some k→k<w.heap.size:=by
 obtain ⟨o,⟨p,m,l⟩,c,g⟩:=h;exact ⟨l.lt,fun k j=>(c.lt k j).2⟩
theorem yb.ext {B O:Nat} {v:Value} {bs:Bs} {w w':World} (h:yb B O v bs w) (c:qc w w'):yb B O v bs w':=h.keep (c.block O h.lt.1) fun k g=>c.block k (h.lt.2 k g)
end Go.L02
namespace Go.L02
open Go Go.Eng
open Go.L01 (Bs Tok)
set_option maxRecDepth 100000
set_option maxHeartbeats 2000000
def exB:Bs:=[112,114,111,99,32,112,40,41,32,105,115,32,120,32,58,61,32,97,91,105,110,116,93,59,32,112,117,116,32,49,32,101,110,100]
def exC:Bs:=[112,114,111,99,32,112,40,41,32,115,105,103,110,97,108,115,40,98,44,32,97,41,32,105,115,32,101,110,100]
theorem ty1:xN [114,101,99,111,114,100,91,98,58,105,110,116,44,97,58,115,101,116,91,63,116,93,93]=true:=by decide+kernel
theorem op1:wa [103,101,116,95,102]=true:=by decide+kernel
theorem op2:wa [103,101,116,95]=false:=by decide+kernel
end Go.L02
namespace Go.L02
open Go Go.Eng Go.Proofs
set_option maxRecDepth 100000
set_option maxHeartbeats 2000000
noncomputable def qgC:Code:=((Tryz.f8.body).getD .skip)
noncomputable def qmt:IR:=zq [za 80 (zI .neq (zo 0 (zv 10)) (zo 0 (zv 12))),zg 80 false 81 (zv 9),zg 80 false 82 (zv 11),zh 80 false 83 20 #[zt 81,zt 82] #[29,29] 4,za 85 (.ite (zv 80) (zQ true) (zn (zv 83)))] <| .cond (zv 85) (zq [za 2 (zQ false)] <| .ret) .skip
noncomputable def qms:IR:= .reg [za 46 (zI .add (zv 46) (zK 1))]
noncomputable def qmr:IR:= .seq (.block 1 (zq [za 49 (zM 2 (zx 2 (zv 44) (zv 46))),zA 8 57,zw 57 (zt 8) (zt 49),zE 51 (.indexAddr 57 (zt 8) (zO 0)) 0,za 55 (zS .add (zS .add (zl (zv 51)) (zv 0)) (.const (zs #[10]))),zE 56 (.indexAddr 57 (zt 8) (zO 1)) 0,za 58 (zS .add (zv 55) (zl (zv 56))),zc 59 17 #[zt 58] #[9] 30,zm 50 59,za 60 (ze 0 (zv 50)),za 61 (ze 1 (zv 50)),zA 10 26,zm 9 60,zw 26 (zt 10) (zt 61)] <| .seq (.raw (qI qgC 13)) (qmt))) (qms)
noncomputable def qgB:IR:=zq [za 47 (zI .lss (zv 46) (zv 45))] <| .seq (.cond (zv 47) .skip (.exit 0)) (qmr)
noncomputable def qmq:IR:=zq [zc 87 14 #[] #[] 4,zm 2 87] <| .ret
noncomputable def qmp:IR:=zq [zE 41 (.build 57 #[(0,(zY #[102,40])),(1,(zY #[41]))]) 57,zE 42 (.build 57 #[(0,(zY #[120,91])),(1,(zY #[93]))]) 57,zE 43 (.build 57 #[(0,(zY #[117,112,40])),(1,(zY #[41]))]) 57,zE 44 (.buildSlice 58 3 #[(0,(zt 41)),(1,(zt 42)),(2,(zt 43))]) 58,za 45 (zL (zv 44)),za 46 (zK 0)] <| .seq (.block 0 (.loop qgB)) (qmq)
noncomputable def qmo:IR:=zq [za 32 (zM 2 (zv 6)),zE 33 (.build 26 #[]) 26,zE 34 (.binOp .neq 26 (zt 32) (zt 33) 26) 4,zm 35 34,zg 35 false 36 (zv 3),zg 35 false 37 (zv 5),zh 35 false 38 20 #[zt 36,zt 37] #[29,29] 4,za 40 (.ite (zv 35) (zQ true) (zn (zv 38)))] <| .seq (.cond (zv 40) (zq [za 2 (zQ false)] <| .ret) .skip) (qmp)
noncomputable def qmn:IR:=zq [zm 18 0,zc 19 17 #[zt 18] #[9] 30,zm 17 19,za 20 (ze 0 (zv 17)),za 21 (ze 1 (zv 17)),zA 4 26,zm 3 20,zw 26 (zt 4) (zt 21),zm 23 0,zc 24 36 #[zt 23] #[9] 9,zc 25 17 #[zt 24] #[9] 30,zm 22 25,za 26 (ze 0 (zv 22)),za 27 (ze 1 (zv 22)),zA 6 26,zm 5 26,zw 26 (zt 6) (zt 27),za 28 (zM 2 (zv 4)),zE 29 (.build 26 #[]) 26,zE 30 (.binOp .neq 26 (zt 28) (zt 29) 26) 4] <| .seq (.cond (zv 30) (zq [zc 31 14 #[] #[] 4,zm 2 31] <| .ret) .skip) (qmo)
noncomputable def ir8:IR:=zq [za 2 (zQ false),za 15 (zI .gtr (zT (zv 0)) (zK 1000))] <| .seq (.cond (zv 15) (zq [zc 16 14 #[] #[] 4,zm 2 16] <| .ret) .skip) (qmn)
def qmv:List Nat:=zV 88 [1,7,13,14,39,48,52,53,54,57,75,76,77,78,79,84,86]
theorem qwJ:C1 8 88 qmv ir8 [.tmp 2]:=c1 [13] Tryz.func8
noncomputable def qm4:IR:=zq [za 2 (.const (zs #[])),za 2 (zS .add (zS .add (.const (zs #[40,40])) (zv 0)) (.const (zs #[10,41,41])))] <| .ret
def qxf:List Nat:=[0,2]
theorem qxe:C1 36 6 qxf qm4 [.tmp 2]:=c1 [] Tryz.func36
end Go.L02
namespace Go.L02
open Go Go.Eng Go.RowKit
open Go.Proofs hiding encI
open Go.L01 (Bs Tok fV jO qB qb3 qi qo qr vE)
set_option maxRecDepth 100000
set_option maxHeartbeats 2000000
theorem g26:Tryz.prog.eqGuardType Tryz.prog.depth 26=false:=by kernel_rfl
theorem qzz : ((Tryz.prog.fieldsOf 26).toList.map fun f => (f.name == "_", f.type, f.offset)) = [(false, 24, 0), (false, 3, 1)] := by kernel_rfl
theorem qsz:Tryz.prog.underlying 26=some (.struct (Tryz.prog.fieldsOf 26)):=by kernel_rfl
theorem qzm:Tryz.prog.stoodInHeld 26=false:=by kernel_rfl
theorem qhv (a b c d:Int) (w:World):(Op.equalIn 10000 26 (.agg #[.int .i64 a, .int .i64 b]) (.agg #[.int .i64 c, .int .i64 d])).run Tryz.prog w= .ok (decide (a=c)&&decide (b=d)) w:=by
 have l:=qzz;obtain ⟨y,m,j⟩:∃y m,(Tryz.prog.fieldsOf 26).toList=[y,m]:=by
  match h:(Tryz.prog.fieldsOf 26).toList with
  |[y,m]=>exact ⟨y,m,rfl⟩
  |[] |[_] |_::_::_::_=>rw [h] at l;simp at l
 rw [j] at l;simp at l;obtain ⟨⟨C,R,J⟩,n2,H,U⟩:=l;have e:=run_equalIn_agg (P:=Tryz.prog) w 9999 26 #[.int .i64 a, .int .i64 b] #[.int .i64 c, .int .i64 d] qsz qzm;have o:∀(cs:Array Value) (v:Value) (off t:Nat),xP Tryz.prog t=some false→cs[off]? =some v→(Go.part t cs off).run Tryz.prog w= .ok v w:=fun cs v off t V F=>qfC V F;have g:xP Tryz.prog 24=some false:=by kernel_rfl
 have i3:xP Tryz.prog 3=some false:=by kernel_rfl
 have u:=run_equalIn_int (P:=Tryz.prog) w 9998 24 .i64 .i64 a c (by kernel_rfl);have q:=run_equalIn_int (P:=Tryz.prog) w 9998 3 .i64 .i64 b d (by kernel_rfl);refine e.trans ?_;rw [j];have O:=o #[.int .i64 a, .int .i64 b] (.int .i64 a) 0 24 g rfl;have S:=o #[.int .i64 a, .int .i64 b] (.int .i64 b) 1 3 i3 rfl;have E:=o #[.int .i64 c, .int .i64 d] (.int .i64 c) 0 24 g rfl;have b2:=o #[.int .i64 c, .int .i64 d] (.int .i64 d) 1 3 i3 rfl;have B:(a==c)=decide (a=c):=by rw [Bool.eq_iff_iff];simp
 have A:(b==d)=decide (b=d):=by rw [Bool.eq_iff_iff];simp
 rw [B] at u;rw [A] at q;generalize decide (a=c)=x at u;generalize decide (b=d)=z at q;simp only [Nat.reduceAdd] at u q;cases x<;>cases z<;>simp [Op.eqFields,C,n2,R,H,J,U,O,S,E,b2,u,q]
@[simp] theorem qDs:qf Tryz.prog 14=true:=by kernel_rfl
def QF (b:Bool) (o:Option Value) (d:Nat) (K:qa→World→Prop) (ρ:qa) (w:World):Prop:=if b then z7 o (fun v=>K (qn ρ d v) w) else K (qn ρ d undef) w
def QG (P:Program) (Q:Ks) (b:Bool) (d:Option Nat) (op:Op) (ty:TypeId) (K:qa→World→Prop) (ρ:qa) (w:World):Prop:=if b then qm P Q d op ty K ρ w else K (qk ρ d undef) w
section
variable {P:Program} {Q:Ks} {K:qa→World→Prop} {ρ:qa} {w:World} {r:List St}
theorem wa2 {g:Option (Nat×Bool)} {d:Nat} {e:Ex}:qQ P Q (.asg g d e::r) K ρ w=QF (gd ρ g) (e.ev ρ w) d (qQ P Q r K) ρ w:=rfl
theorem we2 {g:Option (Nat×Bool)} {d:Option Nat} {op:Op} {ty:TypeId}:qQ P Q (.eff g d op ty::r) K ρ w=QG P Q (gd ρ g) d op ty (qQ P Q r K) ρ w:=rfl
@[simp] theorem qzp {d:Nat} {v:Value}:QF true (some v) d K ρ w=K (qn ρ d v) w:=rfl
@[simp] theorem qzq {o:Option Value} {d:Nat}:QF false o d K ρ w=K (qn ρ d undef) w:=rfl
@[simp] theorem qzr {d:Option Nat} {op:Op} {ty:TypeId}:QG P Q true d op ty K ρ w=qm P Q d op ty K ρ w:=rfl
@[simp] theorem qzs {d:Option Nat} {op:Op} {ty:TypeId}:QG P Q false d op ty K ρ w=K (qk ρ d undef) w:=rfl
end
theorem qqr {Q:Ks} {d:Option Nat} {K:qa→World→Prop} {ρ:qa} {e:Ending} {w:World} (keep:List Nat) (h:∀c:qa,(∀i∈keep,c i=ρ i)→jR Q d K c e w):jR Q d K ρ e w:=h ρ fun _ _=>rfl
def okR (w:World):Ending→World→Prop:=fun e w'=>e= .returned (.bool true)∧qc w w'
noncomputable section
theorem qbT (b:ByteArray):qb b.data.toList=b:=by cases b;simp [qb]
section
variable {σ:Sg} {w0 w W:World} {s s':Sx}
theorem qvh (hI:Iv σ w0 s w) (U:qc w W) {V:Value} {t sz n i:Nat} {cs cs':List Value} (S:ql σ cs cs') (ho:Own w.heap.size t sz W V cs') (B:cs.length=n*sz) (h1:1≤cs.length) (u:sz≠0) {k:Option Nat} (h:xj s k ⟨cs,t,sz,false,false⟩=some (i,s')):
  ∃q,σ.le q∧Iv q w0 s' W∧VR q (.slice (some ⟨i,0,none⟩) n n) V:=by
 have y:=S.len;rcases ho with ⟨_,A⟩|⟨g,off,n',cap,cur,rfl,F,C,E,Y,hcm,J,l⟩
 ·rw [A,List.length_nil] at y;omega
 ·have hn:n'=n:=Nat.eq_of_mul_eq_mul_right (Nat.pos_of_ne_zero u) (by rw [←B,y,←E]);subst hn;obtain ⟨q,m,R,O⟩:=qdo hI h (b:=g) (f:=off) (x:=cap - n') (hI.mr.ext U) (hI.ext.trans' U) (Nat.le_trans hI.ext.size F) (fun j oj pj Z hp he=>by
   obtain ⟨p,z,aa⟩:=hI.mr.at' Z;rw [hp] at z;cases z;omega) fun q m R=>⟨fun hz=>absurd hz u,fun _=>⟨cur,R,C,by
    dsimp only;rw [B,l];exact S.mono m,by
    dsimp only;rw [B];have:n'*sz+(cap - n')*sz=cap*sz:=by rw [←Nat.add_mul];congr 1;omega
    omega,(fun H=>by cases H),fun _=>⟨n',B,by omega⟩,(fun H=>by cases H)⟩⟩
  refine ⟨q,m,O, ?_⟩;have:=VR.slc (σ:=q) (o:=0) (n:=n') (c:=n') R (Nat.le_refl _)
  rwa [show n'+(cap - n')=cap by omega] at this
theorem qi2 {a b g c:Value} (o:VR σ a g) (m:VR σ b c):VR σ (.tuple #[a,b]) (.tuple #[g,c]):=by
 obtain ⟨j,l⟩:=ql.arr (cs:= #[a,b]) (ds:= #[g,c]) ⟨o,m,trivial⟩;exact .tup j l
theorem qao {P:Program} {f:FuncId} {args:Array Value} {v:Value} (hI:Iv σ w0 s w) (g:qaT v=true) (h:Calls P f args w fun e w'=>e= .returned v∧qc w w'):Calls P f args w (vN σ w0 (.ret v s)):=
 h.mono fun _ w' c=>⟨σ,v,Sg.le_refl σ,hI.toExt c.2,wX g,c.1⟩
theorem qbg {b:ByteArray} {args':List Value} (h:ql σ [.string b] args'):args'=[.string (qb b.data.toList)]:=by
 rw [qbT]
 match args',h with
 |[x],h=>rw [h.1.uniq (.pln (v:= .string b) rfl)]
def qcK:List Value→Option (List Bs)
 |[]=>some []
 | .string b::l=>match qcK l with|some r=>some (b.data.toList::r)|none=>none
 |_=>none
theorem qjD:∀{l c:List Value} {ss:List Bs},ql σ l c→qcK l=some ss→c=ss.map qi
 |[],[],ss,_,h=>by cases h;rfl
 |a::l,b::m,ss,g,h=>by
  unfold qcK at h;split at h
  ·rename_i he;cases he
  ·rename_i o l1 he;cases he;split at h
   ·rename_i r j;cases h;rw [qjD g.2 j,g.1.uniq (.pln (v:= .string o) rfl)];simp [qi,qbT]
   ·cases h
  ·cases h
def qd0:List Value→Option (List Int)
 |[]=>some []
 | .int .i64 n::l=>match qd0 l with|some r=>some (n::r)|none=>none
 |_=>none
theorem qpq:∀{l g:List Value} {c:List Int},ql σ l g→qd0 l=some c→g=c.map encI
 |[],[],c,_,h=>by cases h;rfl
 |a::l,b::m,c,j,h=>by
  unfold qd0 at h;split at h
  ·rename_i he;cases he
  ·rename_i q l1 he;cases he;split at h
   ·rename_i r o;cases h;rw [qpq j.2 o,j.1.uniq (.pln (v:= .int .i64 q) rfl)];rfl
   ·cases h
  ·cases h
def qlr (H:vd) (k:Int) (a b c:ByteArray) (n:Int) (kv:Value):Option Nd:=
 match yF H 1 kv with
 |some ks=>match qd0 ks with
  |some is=>bif decide (0≤k) then some ⟨⟨k.toNat,a.data.toList,b.data.toList,c.data.toList,n⟩,is⟩ else none
  |none=>none
 |none=>none
def qdn (H:vd):List Value→Option (List Nd)
 |[]=>some []
 | .int .u8 k:: .string a:: .string b:: .string c:: .int .i64 n::kv::l=>match qlr H k a b c n kv,qdn H l with
  |some x,some r=>some (x::r)
  |_,_=>none
 |_=>none
theorem qlp (hI:Iv σ w0 s w):∀(n:Nat) {l j:List Value} {B:List Nd},l.length≤n→ql σ l j→qdn s.H l=some B→∃xs:List NV,ji xs=j∧xs.map (·.nd)=B∧∀x∈xs,Cells w x.kv 1 (x.nd.kids.map encI)
 |0,l,j,B,hn,o,h=>by
  obtain rfl:=List.length_eq_zero_iff.1 (Nat.le_zero.1 hn);cases h;cases j with
  |nil=>exact ⟨[],rfl,rfl,fun x g=>by simp at g⟩
  |cons _ _=>exact o.elim
 |n'+1,l,j,B,hn,o,h=>by
  unfold qdn at h;split at h
  ·cases h;cases j with
   |nil=>exact ⟨[],rfl,rfl,fun x g=>by simp at g⟩
   |cons _ _=>exact o.elim
  ·rename_i k a b c n kv l1;have J:l1.length≤n':=by simp at hn;omega
   obtain ⟨z,A,E,C,u,q,m,rfl⟩:∃z A E C u q m,j=z::A::E::C::u::q::m:=by
    have:=o.len
    match j,this with
    |z::A::E::C::u::q::m,_=>exact ⟨z,A,E,C,u,q,m,rfl⟩
    |[],e|[_],e|[_,_],e|[_,_,_],e|[_,_,_,_],e|[_,_,_,_,_],e=>simp at e
   obtain ⟨h1,h2,V,Y,h5,h6,o⟩:=o;split at h
   ·rename_i x r g U;cases h;obtain ⟨xs,Z,e2,e3⟩:=qlp hI n' J o U;unfold qlr at g;split at g
    ·rename_i ks F;split at g
     ·rename_i is R;obtain ⟨O,g⟩:=qZ g;have O:0≤k:=by simpa using O
      cases g;obtain ⟨ks',g1,g2⟩:=qbk hI h6 F;refine ⟨⟨⟨⟨k.toNat,a.data.toList,b.data.toList,c.data.toList,n⟩,is⟩,q⟩::xs, ?_,by simp [e2],fun y S=> ?_⟩
      ·show qj _++ji xs=_;rw [Z];have ek:((k.toNat:Nat):Int)=k:=Int.toNat_of_nonneg O;rw [h1.uniq (.pln (v:= .int .u8 k) rfl),h2.uniq (.pln (v:= .string a) rfl),V.uniq (.pln (v:= .string b) rfl),Y.uniq (.pln (v:= .string c) rfl),h5.uniq (.pln (v:= .int .i64 n) rfl)];simp [qj,qbT,ek]
      ·rcases List.mem_cons.1 S with rfl|S
       ·rw [←qpq g2 R];exact g1
       ·exact e3 y S
     ·cases g
    ·cases g
   ·cases h
  ·cases h
end
def p53 (s:Sx):List Value→Option (Value×Sx)
 |[.string b]=>bif Nat.blt b.size 4611686018427387904&&Nat.ble 1 (qB (qr b.data.toList).toks).length&&(qB (qr b.data.toList).toks).all zF then
   (match xj s none ⟨qB (qr b.data.toList).toks,53,3,false,false⟩ with
   |some (i,s')=>some (.tuple #[.slice (some ⟨i,0,none⟩) (qr b.data.toList).toks.length (qr b.data.toList).toks.length,fV b.data.toList],s')
   |none=>none) else none
 |_=>none
def p77 (s:Sx):List Value→Option (Value×Sx)
 |[.string b]=>some (.bool (qo b.data.toList),s)
 |_=>none
def p22 (s:Sx):List Value→Option (Value×Sx)
 |[.string b]=>bif Nat.blt b.size 4611686018427387904 then some (.bool (xN b.data.toList),s) else none
 |_=>none
def p24 (s:Sx):List Value→Option (Value×Sx)
 |[.string b]=>bif Nat.blt b.size 4294967281 then some (.bool (wa b.data.toList),s) else none
 |_=>none
def p34 (s:Sx):List Value→Option (Value×Sx)
 |[v, .string b]=>match yF s.H 1 v with
  |some l=>match qcK l with
   |some ss=>bif Nat.ble ss.length 100000000000000&&Nat.ble (kZ b.data.toList ss).length 100000000000000 then some (.string (qb (kZ b.data.toList ss)),s) else none
   |none=>none
  |none=>none
 |_=>none
def qku (g:FuncId):Option (Nat→Bool):=bif Nat.beq g 65 then some js else bif Nat.beq g 80 then some (vy 20) else none
def qed (x:Nd):Bool:=decide (x.d.kind<256)&&decide (x.d.name.length<4294967281)&&decide (x.d.vr.length<4294967281)&&decide (x.d.typ.length<4294967281)&&decide (x.kids.length≤1000000)
def p64 (s:Sx):List Value→Option (Value×Sx)
 |[v, .func (.func g) fs cs]=>match yF s.H 6 v with
  |some l=>match qdn s.H l,qku g with
   |some ns,some root=>bif fs.isEmpty&&cs.isEmpty&&ns.all qed then some (.bool (whole ns root),s) else none
   |_,_=>none
  |none=>none
 |_=>none
def qqO (b:Bs):Option Int:=match Lib.atoiAll b with| .ok n=>some n|_=>none
def qf4 (s:Sx):List Value→Option (Value×Sx)
 |[.string b]=>bif Nat.ble b.size 20 then (match qqO b.data.toList with|some n=>some (.tuple #[.int .i64 n, .nilIface],s)|none=>none) else none
 |_=>none
def GM (w:World):Prop:=L01.G w∧xA w
section
variable {σ:Sg} {w0 w:World} {s s':Sx} {args args':List Value} {v:Value}
theorem gm (hg:GM w0) (hI:Iv σ w0 s w):L01.G w∧xA w:=⟨hg.1.ext hI.ext,hg.2.ext hI.ext⟩
theorem qva (hg:GM w0) (hI:Iv σ w0 s w) (x:ql σ args args') (h:p53 s args=some (v,s')):Calls Tryz.prog 53 args'.toArray w (vN σ w0 (.ret v s')):=by
 unfold p53 at h;split at h
 ·rename_i b;obtain ⟨c,h⟩:=qZ h;simp only [Bool.and_eq_true,Nat.ble_eq,Nat.blt_eq] at c;rw [qbg x];split at h
  ·rename_i i s1 hn;cases h;refine (L01.qe4 (gm hg hI).1 b.data.toList c.1.1).mono ?_;rintro _ W ⟨u,rfl,l,j⟩;obtain ⟨o,q,g,m⟩:=qvh (n:=(qr b.data.toList).toks.length) hI j (Qs c.2) l (L01.jn _) c.1.2 (by decide) hn;exact ⟨o,_,q,g,qi2 m (wX rfl),rfl⟩
  ·cases h
 ·cases h
theorem qu8 (hg:GM w0) (hI:Iv σ w0 s w) (c:ql σ args args') (h:p77 s args=some (v,s')):Calls Tryz.prog 77 args'.toArray w (vN σ w0 (.ret v s')):=by
 unfold p77 at h;split at h
 ·rename_i b;cases h;rw [qbg c];exact qao hI rfl (L01.Qf (gm hg hI).1 b.data.toList)
 ·cases h
theorem qve (hg:GM w0) (hI:Iv σ w0 s w) (g:ql σ args args') (h:p22 s args=some (v,s')):Calls Tryz.prog 22 args'.toArray w (vN σ w0 (.ret v s')):=by
 unfold p22 at h;split at h
 ·rename_i b;obtain ⟨c,h⟩:=qZ h;cases h;rw [qbg g];exact qao hI rfl (qdf (gm hg hI).1 b.data.toList (by simpa [Nat.blt_eq] using c))
 ·cases h
theorem qvd (hg:GM w0) (hI:Iv σ w0 s w) (g:ql σ args args') (h:p24 s args=some (v,s')):Calls Tryz.prog 24 args'.toArray w (vN σ w0 (.ret v s')):=by
 unfold p24 at h;split at h
 ·rename_i b;obtain ⟨c,h⟩:=qZ h;cases h;rw [qbg g];exact qao hI rfl (qlb (gm hg hI).1 (gm hg hI).2 b.data.toList (by simpa [Nat.blt_eq] using c))
 ·cases h
theorem qvb (hI:Iv σ w0 s w) (c:ql σ args args') (h:p34 s args=some (v,s')):Calls Tryz.prog 34 args'.toArray w (vN σ w0 (.ret v s')):=by
 unfold p34 at h;split at h
 ·rename_i u b;split at h
  ·rename_i l q;split at h
   ·rename_i ss j;obtain ⟨g,h⟩:=qZ h;cases h;simp only [Bool.and_eq_true,Nat.ble_eq] at g
    match args',c with
    |[x,y],c=>
     obtain ⟨A,m,o⟩:=qbk hI c.1 q;rw [qjD o j] at m;have z:y= .string (qb b.data.toList):=by rw [qbT];exact c.2.1.uniq (.pln (v:= .string b) rfl)
     subst z;exact qao hI rfl (qu0 b.data.toList m g.1 g.2)
   ·cases h
  ·cases h
 ·cases h
theorem qu9 (hg:GM w0) (hI:Iv σ w0 s w) (q:ql σ args args') (h:p64 s args=some (v,s')):Calls Tryz.prog 64 args'.toArray w (vN σ w0 (.ret v s')):=by
 unfold p64 at h;split at h
 ·rename_i u g fs cs;split at h
  ·rename_i l R;split at h
   ·rename_i V root z c;obtain ⟨B,h⟩:=qZ h;cases h;simp only [Bool.and_eq_true,Array.isEmpty_iff] at B;obtain ⟨⟨rfl,rfl⟩,J⟩:=B
    match args',q with
    |[x,y],q=>
     obtain ⟨Y,U,F⟩:=qbk hI q.1 R;obtain ⟨xs,E,C,O⟩:=qlp hI l.length (Nat.le_refl _) F z;have S:y=qF g #[]:=q.2.1.uniq (wX (v:= .func (.func g) #[] #[]) rfl);subst S;have H:vz w (qF g #[]) root:=by
      unfold qku at c;cases m:Nat.beq g 65 with
      |true=>
       rw [m] at c;cases c;rw [Nat.eq_of_beq_eq_true m];exact qgu
      |false=>
       rw [m] at c;obtain ⟨A,c⟩:=qZ (b:=Nat.beq g 80) c;cases c;rw [Nat.eq_of_beq_eq_true A];exact qlZ
     have j:∀x∈xs,qed x.nd=true:=fun x o=>List.all_eq_true.1 J x.nd (by rw [←C];exact List.mem_map.2 ⟨x,o,rfl⟩);have:=qkY (gm hg hI).1 (gm hg hI).2 (xs:=xs) ⟨by rw [E];exact U,O⟩ (fun x o=>by
      have:=j x o;simp only [qed,Bool.and_eq_true,decide_eq_true_eq] at this;exact ⟨this.1.1.1.1,this.1.1.1.2,this.1.1.2,this.1.2⟩) (fun x o=>by
      have:=j x o;simp only [qed,Bool.and_eq_true,decide_eq_true_eq] at this;exact this.2) H
     rw [C] at this;exact qao hI rfl this
   ·cases h
  ·cases h
 ·cases h
theorem qvc (hI:Iv σ w0 s w) (l:ql σ args args') (h:qf4 s args=some (v,s')):Calls Tryz.prog 273 args'.toArray w (vN σ w0 (.ret v s')):=by
 unfold qf4 at h;split at h
 ·rename_i b;obtain ⟨j,h⟩:=qZ h;split at h
  ·rename_i n hn;cases h;rw [qbg l];unfold qqO at hn;split at hn
   ·rename_i m g;cases hn;refine qao hI rfl ((qk9 (by simpa [Nat.ble_eq] using j) g).mono ?_);rintro _ W ⟨c,rfl⟩;exact ⟨rfl,c⟩
   ·cases hn
  ·cases h
 ·cases h
end
end
theorem qbO {s:Sx} {i:Nat} {o:Ob} (h:QB s i o=true):s.H.get i=some o:=by
 unfold QB at h;split at h
 ·rename_i p c;rw [c,qbN h]
 ·cases h
def yJ:TrP:=⟨54,83,4,3,85,153⟩
theorem qAI {c:List PanicEntry} (h:chainB yJ c=true):c=yk:=by
 unfold chainB at h;split at h
 ·rename_i p;obtain ⟨v,j,l⟩:=p;simp only [Bool.and_eq_true,Bool.not_eq_true'] at h;obtain ⟨⟨g,rfl⟩,rfl⟩:=h;split at g
  ·rename_i t cs;simp only [Bool.and_eq_true,beq_iff_eq,Array.isEmpty_iff] at g;obtain ⟨rfl,rfl⟩:=g;rfl
  ·cases g
 ·cases h
theorem qdl {σ:Sg} {w0 w:World} {s:Sx} (hI:Iv σ w0 s w) {i b:Nat} {v:Value} {t:TypeId} (h:s.H.get i=some ⟨[v],t,1,true,false⟩) (m:zF v=true) (g:σ i=some (b,0,0)):Blk w b #[v] t:=by
 obtain ⟨o,cs',l,j,c⟩:=qcf hI h rfl (show (1:Nat)≠0 by decide);rw [g] at l;cases l
 match cs',j,c with
 |[x],j,c=>
  rw [j.1.uniq (.pln m)] at c;exact c
theorem qrM {r:Sx→Tk→Option Ou} (hr:Sound Tryz.prog GM r) {s:Sx} {o:Ou} {σ:Sg} {w0 w:World} (hg:GM w0) (hI:Iv σ w0 s w) {b B g i f n:Nat} {cs:List Value} {ds:Array Value} {tv' V:Value} (hσB:σ b=some (B,0,0)) (hB:Blk w B #[tv', .int .i64 (i:Int), .int .i64 (f:Int),V] 85)
  (hsl:qt V=true) (hln:qh V=n) (hcs:ql σ cs ds.toList) (hcb:qf Tryz.prog g=true) (h:qeQ r s yJ b g cs (i:Int) n=some o):
  Calls Tryz.prog 54 #[.pointer (some ⟨B,0,none⟩), .func (.func g) #[] ds] w (vN σ w0 o):=by
 unfold qeQ at h;split at h
 ·cases h
 rename_i iA s1 n1;split at h
 ·cases h
 rename_i iY s2 n2;split at h
 ·cases h
 rename_i iN s3 n3;split at h
 ·cases h
 rename_i iM s4 n4;generalize hR:vN σ w0 o=R;refine qgH fun ρ r0 r1 rg=> ?_;simp [qbY,r0];refine vY fun A W1 hA hE1 hbA hA1=> ?_;simp [Value.cells,r0] at hbA;simp;refine qK z4 fun Y W2 hY hE2 hbY hY1=> ?_;simp;have hB2:=hB.ext (hE1.trans' hE2);have hA2:=hbA.ext hE2;refine vS (hpn:=qeR (by decide)) qgG (fun W=>Blk W A #[.pointer (some ⟨B,0,none⟩)] 83∧Blk W B #[tv', .int .i64 (i:Int), .int .i64 (f:Int),V] 85) fun W3 aa _=> ?_;have E:=hB2.ext aa;have C:=hA2.ext aa;have hY3:=hbY.ext aa;have hJ:Blk W3 A #[.pointer (some ⟨B,0,none⟩)] 83∧Blk W3 B #[tv', .int .i64 (i:Int), .int .i64 (f:Int),V] 85:=⟨C,E⟩;refine ⟨hJ, ?_⟩;have cA:∀W,(Blk W A #[.pointer (some ⟨B,0,none⟩)] 83∧Blk W B #[tv', .int .i64 (i:Int), .int .i64 (f:Int),V] 85)→W.cell? ⟨A,0,none⟩=some (.pointer (some ⟨B,0,none⟩))∧W.cell? ⟨B,1,none⟩=some (.int .i64 (i:Int))∧W.cell? ⟨B,3,none⟩=some V:=fun W h=>⟨by rw [h.1.cell];rfl,by rw [h.2.cell];rfl,by rw [h.2.cell];rfl⟩;simp+contextual -implicitDefEqProofs [qdJ,cA,hJ,hsl];have rest:∀(J:qa) (W4:World) (X5 X6:Nat),qc W3 W4→W3.heap.size≤X5→W3.heap.size≤X6→X5≠X6→Blk W4 X5 #[.int .i64 (i:Int)] 3→Blk W4 X6 #[.int .i64 (n:Int)] 3→J 1=ρ 1→J 2= .pointer (some ⟨A,0,none⟩)→J 4= .pointer (some ⟨Y,0,none⟩)→J 5= .pointer (some ⟨X5,0,none⟩)→J 6= .pointer (some ⟨X6,0,none⟩)→J gS= .tuple #[]→
   QC.wp ⟨Tryz.prog,19,QD,ww⟩ (jH Tryz.prog [.cell1 4] R .returning) (vD Tryz.prog [.cell1 4] R) J W4:=by
  intro J W4 X5 X6 l q5 q6 q56 hb5 z e1 e2 e4 e5 e6 eg;have hA4:=C.ext l;have hY4:=hY3.ext l;have hE04:qc w W4:=((hE1.trans' hE2).trans' aa).trans' l;have z1:=hE1.size;have z2:=hE2.size;have z3:=aa.size;have hI4:=hI.toExt hE04;have wle:=hI.ext.size;have low:∀j o p,s.H.get j=some o→σ j=some p→p.1<w.heap.size:=fun j o p hj hp=>by
   obtain ⟨q,hq,hlt⟩:=hI.mr.at' hj;rw [hp] at hq;cases hq;exact hlt
  obtain ⟨τ1,l1,i1,I1,d1⟩:=qc7 (cs':=[.pointer (some ⟨B,0,none⟩)]) hI4 n1 (b:=A) (by omega) (fun j oj pj hj hp=>by have:=low j oj pj hj hp;omega) hA4 ⟨yL hσB,trivial⟩;obtain ⟨τ2,l2,i2,I2,d2⟩:=qc7 (cs':=[.bool false]) I1 n2 (b:=Y) (by omega) (fun j oj pj hj hp=>by
   rcases d1 j oj pj hj hp with e|⟨a1,a2⟩
   ·omega
   ·have:=low j oj pj a1 a2;omega) hY4 ⟨.pln rfl,trivial⟩
  have d2':∀j o p,s2.H.get j=some o→τ2 j=some p→p.1<W2.heap.size:=fun j o p hj hp=>by
   rcases d2 j o p hj hp with e|⟨a1,a2⟩
   ·omega
   ·rcases d1 j o p a1 a2 with e|⟨b1,b2⟩
    ·omega
    ·have:=low j o p b1 b2;omega
  obtain ⟨τ3,l3,i3,I3,d3⟩:=qc7 (cs':=[.int .i64 (i:Int)]) I2 n3 (b:=X5) (by omega) (fun j oj pj hj hp=>by have:=d2' j oj pj hj hp;omega) hb5 ⟨.pln rfl,trivial⟩;obtain ⟨τ4,l4,i4,I4,d4⟩:=qc7 (cs':=[.int .i64 (n:Int)]) I3 n4 (b:=X6) (by omega) (fun j oj pj hj hp=>by
   rcases d3 j oj pj hj hp with e|⟨a1,a2⟩
   ·omega
   ·have:=d2' j oj pj a1 a2;omega) z ⟨.pln rfl,trivial⟩
  have l04:σ.le τ4:=Sg.le_trans l1 (Sg.le_trans l2 (Sg.le_trans l3 l4));simp [QC];refine qd8 (f:=116) (caps:= #[.pointer (some ⟨X5,0,none⟩), .pointer (some ⟨A,0,none⟩), .pointer (some ⟨X6,0,none⟩), .pointer (some ⟨Y,0,none⟩)]) (by simp [e2,e4,e5,e6]) trivial ?_;have eg':J 1000000000= .tuple #[]:=eg;simp [gS,e1,r1,eg'];refine xT (f:=g) hcb (fs:= #[]) (caps:=ds) (by simp) ?_;simp;cases ho:r s4 (.call g cs) with
  |none=>rw [ho] at h;cases h
  |some o1=>
   rw [ho] at h;have hcall:=hr.call _ _ _ _ ho τ4 w0 W4 ds.toList hg I4 (hcs.mono l04);rw [Array.toArray_toList] at hcall;refine hcall.mono ?_;cases o1 with
   |ret v s'=>
    rintro e w5 ⟨τ,v',hl,F,hv',rfl⟩;obtain ⟨hc,h⟩:=qZ h;simp only [Bool.and_eq_true] at hc;obtain ⟨⟨c1,c2⟩,c3⟩:=hc;cases h;have hYo:=qbO c1;have iY5:=hl _ _ (l4 _ _ (l3 _ _ i2));have hY5:=qdl F hYo rfl iY5;simp;refine qS (B:=Y) (i:=0) (by simp [e4]) hY5 (by simp) (by simp [Value.cells]) (by simp) sz4 fun W6 y z=> ?_;simp at z;simp [vD,jH,gS,e4];refine jO (by simp) qaX (qh7.mono ?_);rintro e u' w' ⟨⟨v,rfl⟩,rfl,rfl⟩;refine yT ?_;have cY:w'.cell? ⟨Y,0,none⟩=some (.bool true):=by rw [z.cell];rfl
    simp [qz,vj,RV.val,e4,cY,kR,←hR];exact ⟨τ, .bool true,Sg.le_trans l04 hl,qqc F hYo (kK c2) iY5 y, .pln rfl,rfl⟩
   |pn c s'=>
    rintro e w5 ⟨τ,hl,F,rfl⟩;obtain ⟨hc,h9⟩:=qZ h;simp only [Bool.and_eq_true,Bool.not_eq_true'] at hc;obtain ⟨⟨⟨⟨⟨c1,c2⟩,c3⟩,c4⟩,c5⟩,c6⟩:=hc;obtain rfl:=qAI c1;have hYo:=qbO c3;have iY5:=hl _ _ (l4 _ _ (l3 _ _ i2));have hY5:=qdl F hYo rfl iY5;have h55:=qdl F (qbO c4) rfl (hl _ _ (l4 _ _ i3));have h56:=qdl F (qbO c5) rfl (hl _ _ i4);have O:τ b=some (B,0,0):=hl _ _ (l04 _ _ hσB);have hA5:Blk w5 A #[.pointer (some ⟨B,0,none⟩)] 83:=by
     obtain ⟨b',cs',g1,g2,g3⟩:=qcf F (qbO c2) rfl (show (1:Nat)≠0 by decide);rw [hl _ _ (l4 _ _ (l3 _ _ (l2 _ _ i1)))] at g1;cases g1
     match cs',g2,g3 with
     |[x],g2,g3=>
      rw [g2.1.uniq (yL O)] at g3;exact g3
    unfold qqK at h9;split at h9
    ·rename_i ob hob;split at h9
     ·rename_i tv i' far a m c hcl;split at h9
      ·rename_i nv2 hsub;obtain ⟨hc,h8⟩:=qZ h9;cases h8;simp only [Bool.and_eq_true,decide_eq_true_eq,Nat.ble_eq] at hc;obtain ⟨⟨⟨⟨⟨g1,g2⟩,g3⟩,g4⟩,g5⟩,g6⟩:=hc;have hobe:=qbN g6;subst hobe;obtain ⟨b',cs',k1,k2,k3⟩:=qcf F hob rfl (show (1:Nat)≠0 by decide);rw [O] at k1;cases k1
       match cs',k2,k3 with
       |[tx,x1,x2,nx],k2,k3=>
        obtain ⟨v1,v2,v3,v4,_⟩:=k2;obtain ⟨j,rfl⟩:=Int.eq_ofNat_of_zero_le g1;obtain ⟨f2,rfl⟩:=Int.eq_ofNat_of_zero_le g2;have u2:=v2.uniq (.pln (v:= .int .i64 (j:Int)) rfl);have u3:=v3.uniq (.pln (v:= .int .i64 (f2:Int)) rfl);subst u2;subst u3;obtain ⟨hsx,hlx⟩:=qcO v4;obtain ⟨m1,m2,m3,m4,nv2',m5,m6⟩:=qfc v4 hsub;simp [vD,jH,gS,e4];refine jO (by simp) qaX ((qh6 (n:=n) h55 hA5 h56 (.inr hY5) k3 hsx (by rw [hlx];exact g3)).mono ?_);rintro e u' w' ⟨⟨v,rfl⟩,hu,W6,W7,hE6,U,S,hO8,hb8⟩;show jK _ _ _ _ [] (settle u') w';rw [hu];refine yT ?_;have cY:w'.cell? ⟨Y,0,none⟩=some (.bool false):=by rw [hb8.cell];rfl
        simp [qz,vj,RV.val,e4,cY,kR,←hR];have hI6:=F.toExt hE6;have hm5:qL nx 6 0 n (qx nx)=nv2':=by simpa using m5
        rw [hm5] at S;have hI7:Iv τ w0 ⟨s'.H.set b ⟨[tv, .int .i64 (i:Int), .int .i64 (f2:Int),nv2],yJ.tt,1,true,false⟩,s'.nx,s'.rs⟩ W7:=by
         refine qif hI6 hob (kK g4) O U ⟨(fun hz=>by cases hz),fun _=>⟨_,O,S.heap, ?_,by simp,fun _=>⟨rfl,rfl,by simp⟩,(fun hw=>by cases hw),(fun hx=>by cases hx)⟩⟩;exact ⟨v1, .pln rfl, .pln rfl,m6,trivial⟩
        have hYo2:(s'.H.set b ⟨[tv, .int .i64 (i:Int), .int .i64 (f2:Int),nv2],yJ.tt,1,true,false⟩).get iY=some ⟨[.bool false],yJ.tb,1,true,false⟩:=by
         rw [Tr.get_set _ _ (kK g4),if_neg (fun e=>by rw [e] at c6;simp at c6)];exact hYo
        exact ⟨τ, .bool false,Sg.le_trans l04 hl,qqc hI7 hYo2 (kK g5) iY5 hO8, .pln rfl,rfl⟩
      ·cases h9
     ·cases h9
    ·cases h9
   |go e s'=>exact fun e w h=>h.elim
   |ex j e s'=>exact fun e w h=>h.elim
   |rt e s'=>exact fun e w h=>h.elim
 refine ⟨?_, ?_⟩
 ·refine qK z3 fun X5 W4 hX5 l hb4 hs4=>⟨⟨C.ext l,E.ext l⟩, ?_⟩;refine qK z3 fun X6 W5 hX6 u hb5 hs5=>⟨⟨(C.ext l).ext u,(E.ext l).ext u⟩, ?_⟩;have l5:W3.heap.size≤X5:=hX5;have Z:X5≠X6:=by omega
  have z4:=l.size;refine qS (B:=X5) (i:=0) (by simp) (hb4.ext u) (by simp) (by simp [Value.cells]) (by simp) jS fun W6 y z=> ?_;simp at z;have hA6:=y.blk ((C.ext l).ext u) (by have:=C.lt;omega);have hB6:=y.blk ((E.ext l).ext u) (by have:=E.lt;omega);refine ⟨⟨hA6,hB6⟩, ?_⟩;refine qS (B:=X6) (i:=0) (by simp) (y.blk hb5 (Ne.symm Z)) (by simp) (by simp [Value.cells]) (by simp) jS fun W7 U S=> ?_;simp [hln] at S;exact rest _ W7 X5 X6 (U.ext (y.ext (l.trans' u) l5) (by omega)) l5 (by omega) Z (U.blk z Z) S (by simp) (by simp) (by simp) (by simp) (by simp) (by simp [gS] at rg⊢;exact rg)
 ·refine qK z3 fun X6 W4 hX6 l hb4 hs4=>⟨⟨C.ext l,E.ext l⟩, ?_⟩;refine qK z3 fun X5 W5 hX5 u hb5 hs5=>⟨⟨(C.ext l).ext u,(E.ext l).ext u⟩, ?_⟩;have z4:=l.size;have l5:W3.heap.size≤X5:=by omega
  have Z:X6≠X5:=by omega
  refine qS (B:=X5) (i:=0) (by simp) hb5 (by simp) (by simp [Value.cells]) (by simp) jS fun W6 y z=> ?_;simp at z;have hA6:=y.blk ((C.ext l).ext u) (by have:=C.lt;omega);have hB6:=y.blk ((E.ext l).ext u) (by have:=E.lt;omega);refine ⟨⟨hA6,hB6⟩, ?_⟩;refine qS (B:=X6) (i:=0) (by simp) (y.blk (hb4.ext u) Z) (by simp) (by simp [Value.cells]) (by simp) jS fun W7 U S=> ?_;simp [hln] at S;exact rest _ W7 X5 X6 (U.ext (y.ext (l.trans' u) l5) hX6) l5 hX6 (Ne.symm Z) (U.blk z (Ne.symm Z)) S (by simp) (by simp) (by simp) (by simp) (by simp) (by simp [gS] at rg⊢;exact rg)
theorem t54:qix Tryz.prog GM (some yJ):=by
 intro q Z r Y s args o h σ w0 w args' hg hI R;cases Z;unfold qeP at h;split at h
 ·rename_i b g fs cs;split at h
  ·rename_i ob J;unfold qi3 at h;split at h
   ·rename_i tv at0 far a n c A;obtain ⟨U,h9⟩:=qZ h;simp only [Bool.and_eq_true,Array.isEmpty_iff,decide_eq_true_eq] at U;obtain ⟨⟨⟨⟨rfl,h0⟩,h1⟩,C⟩,l⟩:=U;have l:=qbN l;subst l;obtain ⟨B,F,u,z,m⟩:=qcf hI J rfl (show (1:Nat)≠0 by decide)
    match F,z,m with
    |[V,x1,x2,nv'],z,m=>
     obtain ⟨ht,e1,e2,e3,_⟩:=z;obtain ⟨i,rfl⟩:=Int.eq_ofNat_of_zero_le h0;obtain ⟨f,rfl⟩:=Int.eq_ofNat_of_zero_le h1;have u1:=e1.uniq (.pln (v:= .int .i64 (i:Int)) rfl);have u2:=e2.uniq (.pln (v:= .int .i64 (f:Int)) rfl);subst u1;subst u2;obtain ⟨O,E⟩:=qcO e3
     match args',R with
     |[y1,y2],R=>
      obtain ⟨H,S,_⟩:=R;have u3:=H.uniq (yL u);subst u3;cases S with
      |pln h'=>cases h'
      |fnc k1 k2 k3 k4=>
       rename_i gs ds;have:gs= #[]:=Array.eq_empty_of_size_eq_zero (by simpa using k1.symm);subst this;exact qrM (cs:=cs.toList) Y hg hI u m O E (ql.of (by simpa using k3) fun j x y hx hy=>k4 j x y (by simpa using hx) (by simpa using hy)) C h9
   ·cases h
  ·cases h
 ·cases h
theorem qAH {w:World} {b:Nat} {p v:Value} (g:p= .pointer none∨p= .pointer (some ⟨b,0,none⟩)) (c:Blk w b #[p,v] 114):
  Calls Tryz.prog 177 #[.pointer (some ⟨b,0,none⟩)] w fun e w'=>e= .returned (.tuple #[])∧Blk w' b #[.pointer (some ⟨b,0,none⟩),v] 114∧Only b w w':=by
 rcases g with rfl|rfl
 ·refine (L01.qqM b w (by rw [c.cell];rfl) (by simp [World.shape?,c.heap]) (by simp [World.frozen?,c.heap])).mono ?_;rintro _ _ ⟨rfl,rfl⟩;exact ⟨rfl,by simpa using qen c 0 (.pointer (some ⟨b,0,none⟩)),qdj _ _ _ _⟩
 ·refine (L01.qiq b w (by rw [c.cell];rfl)).mono ?_;rintro _ _ ⟨rfl,rfl⟩;exact ⟨rfl,c,Only.refl _ _⟩
theorem qro {w:World} {B b:Nat} {v:Value} {bs:Bs} {rest:List Value} {T:TypeId} (s:Bs) (hB:B≤b) (hblt:b<w.heap.size) (A:w.ownsRow B 5 1 v bs.length (bs.map jf)) (z:v.ownBlock≠some b)
  (E:Calls Tryz.prog 177 #[.pointer (some ⟨b,0,none⟩)] w fun e w'=>e= .returned (.tuple #[])∧Blk w' b (.pointer (some ⟨b,0,none⟩)::v::rest).toArray T∧Only b w w') (hlen:bs.length+s.length≤100000000000000) (hBw:B≤w.heap.size):
  Calls Tryz.prog 89 #[.pointer (some ⟨b,0,none⟩), .string (qb s)] w fun e w'=>e= .returned (.tuple #[.int .i64 s.length, .nilIface])∧∃j,Blk w' b (.pointer (some ⟨b,0,none⟩)::j::rest).toArray T∧w'.ownsRow B 5 1 j (bs++s).length ((bs++s).map jf)∧j.ownBlock≠some b∧Below B w w'∧
   (∀k,k<w.heap.size→k≠b→v.ownBlock≠some k→w'.heap[k]? =w.heap[k]?)∧(j.ownBlock=v.ownBlock∨j.ownBlock=some w.heap.size):=by
 refine L01.qmw fun ρ h0 h1=> ?_;simp [L01.qgD,h0];refine E.mono ?_;rintro _ w1 ⟨rfl,V,m⟩;have aa:w1.cell? ⟨b,1,none⟩=some v:=by rw [V.cell];rfl
 simp [h0,h1,aa];obtain ⟨i,hi,hz,hs,S⟩:=qb3;have ab:=m.size;have U:=V.lt;have x:(qb s).size=s.length:=rfl;have l:w1.ownsRow B 5 1 v bs.length (bs.map jf):=qbL A fun k J=>m.block k fun e=>z (by rw [J,e]);obtain ⟨j,W3,hr,q,C,R⟩:=Lib.run_append_own_string (P:=Tryz.prog) w1 B 112 9 112 5 i Tryz.underlying112 Tryz.underlying9 hi hz hs S v bs.length (bs.map jf) (by simpa using l) (qb s) (by rw [x];simp only [maxLen];omega) (by rw [x];omega) (by omega);have u:=qBv (qb s) l (by rw [x];omega) hr R;rw [ab] at u;have c:W3.ownsRow B 5 1 j (bs++s).length ((bs++s).map jf):=by simpa [L01.qfd] using q
 have Y:Blk W3 b (.pointer (some ⟨b,0,none⟩)::v::rest).toArray T:=⟨(C.block b U (fun e=>z e.symm)).trans V.heap⟩;refine jk (v:=j) (w':=W3) (by simp [execOp,qA,resolve,invoke,builtin,hr]) ?_;have H:j.cells= #[j]∧j.oneCell=true:=by
  rcases c.2 with ⟨rfl,_⟩|⟨g,cap,cur,rfl,_⟩<;>exact ⟨rfl,rfl⟩
 simp;refine qS (B:=b) (i:=1) (by simp) Y (by simp) (by simp;exact H.1) (by simp;exact H.2) L01.qe8 fun W4 y O=> ?_;simp [h1] at O⊢;have o:j.ownBlock≠some b:=by
  rcases u with h|h
  ·rw [h];exact z
  ·rw [h];simp;omega
 have h3:Below B w W3:=(kY m hB).grown C (by omega) fun k J=>(l.lt k J).1;refine ⟨j,O,by simpa using qbL c (fun k J=>y.block k fun e=>o (by rw [J,e])),o,Below.trans h3 (kY y hB),fun k hk1 F Z=> ?_,u⟩;exact (y.block k F).trans ((C.block k (by omega) (fun e=>Z e.symm)).trans (m.block k F))
theorem qsB {b g cap:Nat} {cur:Array Value} {bs:Bs} {w:World} (c:w.cell? ⟨b,1,none⟩=some (.slice (some ⟨g,0,none⟩) bs.length cap)) (E:w.heap[g]? =some (.cells cur 5 (0,0))) (J:bs≠[]) (y:bs.length≤cap) (C:cap≤maxLen) (S:cur.size=cap*1) (o:cur.toList.take (bs.length*1)=bs.map jf):
  Calls Tryz.prog 90 #[.pointer (some ⟨b,0,none⟩)] w fun e w'=>e= .returned (.string (qb bs))∧Below g w w'∧∀k,k≠g→w'.heap[k]? =w.heap[k]? :=by
 have U:0<bs.length:=List.length_pos_iff.2 J;refine qwG fun ρ r0=> ?_;simp -implicitDefEqProofs [qml];refine vS qwF (fun W=>W.heap=w.heap) fun w1 m l=>⟨l, ?_⟩;have O:∀W:World,W.heap=w.heap→W.cell? ⟨b,1,none⟩=some (.slice (some ⟨g,0,none⟩) bs.length cap):=fun W e=>by
  rw [←c];simp only [World.cell?,e]
 have F:qt (.slice (some ⟨g,0,none⟩) bs.length cap)=true:=by simp [qt,y]
 have z:qh (.slice (some ⟨g,0,none⟩) bs.length cap)=bs.length:=rfl;simp+contextual -implicitDefEqProofs [qmh,r0,O,O w1 l,F,z];have B:(Builtin.unsafeSliceData_ #[112] 196 #[.slice (some ⟨g,0,none⟩) bs.length cap]).run Tryz.prog w1= .ok (.pointer (some ⟨g,0,none⟩)) w1:=
  Lib.run_unsafeSliceData_row _ _ _ _ _ _ (by omega)
 refine qp3 ?_;refine jk (v:= .pointer (some ⟨g,0,none⟩)) (w':=w1) (by simp [execOp,qA,resolve,invoke,builtin,B]) ?_;refine ⟨l, ?_⟩;have q:w1.heap[g]? =some (.cells cur 5 (0,0)):=by rw [l];exact E
 have H:(Builtin.unsafeString_ #[196,3] 9 #[.pointer (some ⟨g,0,none⟩), .int .i64 bs.length]).run Tryz.prog w1= .ok (.string ⟨bs.toArray⟩) (w1.freeze ⟨g,0,none⟩ bs.length):=by
  refine Lib.run_unsafeString_row w1 196 3 9 5 Tryz.underlying196 (by kernel_rfl) g cur.size (by simp [World.shape?,q]) bs J (by omega) (by unfold maxLen at C;omega) ?_;intro j x R;have c:cur.toList[j]? =some (jf x):=by
   have u:(bs.map jf)[j]? =some (jf x):=by simp [R]
   rw [←o,List.getElem?_take] at u;split at u
   ·exact u
   ·cases u
  simp only [World.cell?,xp,Nat.zero_add,q];simpa [jf] using c
 refine qp3 ?_;refine jk (v:= .string ⟨bs.toArray⟩) (w':=w1.freeze ⟨g,0,none⟩ bs.length) (by simp [execOp,qA,resolve,invoke,builtin,H]) ?_;simp -implicitDefEqProofs [qmi];refine ⟨rfl,Lib.below_freeze (⟨m.os,m.tape,m.output,m.size,fun k _=>by rw [l]⟩:Below g w w1) (p:=⟨g,0,none⟩) (Nat.le_refl _) _,fun k A=> ?_⟩;rw [←l];unfold World.freeze;split
 ·rfl
 ·simp only [Array.getElem?_modify];rw [if_neg (by simpa using fun e=>A e.symm)]
section
variable {σ:Sg} {w0 w:World} {s s':Sx} {args args':List Value} {v:Value}
def qij:Value→Option UInt8
 | .int .u8 k=>bif decide (0≤k)&&decide (k<256) then some (UInt8.ofNat k.toNat) else none
 |_=>none
def qek:List Value→Option Bs
 |[]=>some []
 |a::l=>match qij a,qek l with|some c,some r=>some (c::r)|_,_=>none
theorem qAV {a:Value} {c:UInt8} (h:qij a=some c):a=jf c:=by
 unfold qij at h;split at h
 ·rename_i k;obtain ⟨g,h⟩:=qZ h;simp only [Bool.and_eq_true,decide_eq_true_eq] at g;cases h;have:k.toNat<256:=by omega
  simp only [jf,Value.int.injEq,true_and];rw [UInt8.toNat_ofNat',Nat.mod_eq_of_lt (by simpa using this),Int.toNat_of_nonneg g.1]
 ·cases h
theorem qqt:∀{l g:List Value} {bs:Bs},ql σ l g→qek l=some bs→g=bs.map jf
 |[],[],bs,_,h=>by cases h;rfl
 |a::l,b::m,bs,j,h=>by
  unfold qek at h;split at h
  ·rename_i c r o q;cases h;have u:=qAV o;subst u;rw [qqt j.2 q,j.1.uniq (.pln (v:=jf c) rfl)];rfl
  ·cases h
noncomputable def qce (s:Sx):Value→Option (Bs×vd)
 | .slice none 0 0=>some ([],s.H)
 | .slice (some ⟨j,0,none⟩) n c=>match s.H.get j with
  |some ob=>bif ob.ex&&Nat.beq ob.ty 5&&Nat.beq ob.sz 1&& !ob.whole&&Nat.beq n ob.cells.length&&Nat.beq c n&&Nat.blt j vf then
    (match qek ob.cells with|some bs=>some (bs,s.H.del j)|none=>none) else none
  |none=>none
 |_=>none
theorem qqv (hI:Iv σ w0 s w) {u F:Value} (hv:VR σ u F) {bs:Bs} {H:vd} (h:qce s u=some (bs,H)):
  w.ownsRow w0.heap.size 5 1 F bs.length (bs.map jf)∧(∀j o,H.get j=some o→s.H.get j=some o)∧(∀j o p,H.get j=some o→σ j=some p→some p.1≠F.ownBlock)∧(∀b i o,s.H.get i=some o→σ i=some (b,0,0)→o.ty≠5→F.ownBlock≠some b∧(∃o',H.get i=some o'∧o'=o)):=by
 unfold qce at h;split at h
 ·cases h;cases hv with
  |pln _=>exact ⟨⟨by simp, .inl ⟨rfl,rfl⟩⟩,fun _ _ h=>h,fun _ _ _ _ _=>by simp [Value.ownBlock],fun b i o l q ht=>⟨by simp [Value.ownBlock],o,l,rfl⟩⟩
 ·rename_i j n c;split at h
  ·rename_i ob g;obtain ⟨hc,R⟩:=qZ h;simp only [Bool.and_eq_true,Bool.not_eq_true'] at hc;obtain ⟨⟨⟨⟨⟨⟨c1,c2⟩,c3⟩,c4⟩,c5⟩,c6⟩,C⟩:=hc;have c2:=Nat.eq_of_beq_eq_true c2;have c3:=Nat.eq_of_beq_eq_true c3;have c5:=Nat.eq_of_beq_eq_true c5;have c6:=Nat.eq_of_beq_eq_true c6;have C:=kK C;subst c6;split at R
   ·rename_i bs1 U;cases R;cases hv with
    |pln h'=>cases h'
    |slc q hn=>
     rename_i b f x;obtain ⟨b1,f1,x1,cur,m⟩:=(hI.mr j ob g).2 (by rw [c3];decide);have y:=m.at';rw [q] at y;cases y;obtain ⟨J,O⟩:=m.exact c1;subst J;rw [c3,Nat.mul_one] at O;obtain ⟨n0,Y,hm0⟩:=m.most c4;rw [c3,Nat.mul_one] at Y;have B:=m.cs;simp only [List.drop_zero] at B;have A:=qqt B U;have E:bs.length=ob.cells.length:=by
      have:=congrArg List.length A;rw [List.length_take,Array.length_toList,List.length_map] at this;omega
     refine ⟨⟨by simp, .inr ⟨b,c+x,cur,by rw [c5,E],hI.own j ob _ g q,by rw [←c2];exact m.heap,by omega,by omega,by omega, ?_⟩⟩,fun i o l=>(get_del C l).2,fun i o p l Z he=> ?_,fun b' i o l Z ht=> ?_⟩
     ·rw [Nat.mul_one,E];exact A
     ·obtain ⟨V,S⟩:=get_del C l;refine V (hI.ap i j o ob p _ S g Z q ?_);simpa [Value.ownBlock] using he
     ·have z:i≠j:=fun e=>by subst e;rw [g] at l;cases l;exact ht c2
      refine ⟨fun e=>z (hI.ap i j o ob _ _ l g Z q ?_),o, ?_,rfl⟩
      ·simp [Value.ownBlock] at e;exact e.symm
      ·rw [Tr.get_del _ C,if_neg z];exact l
   ·cases R
  ·cases h
 ·cases h
theorem qt6 (hI:Iv σ w0 s w) {i:Nat} (B:i<vf) {b f x:Nat} (q:σ i=some (b,f,x)) (C:∀j o p,s.H.get j=some o→σ j=some p→j≠i→p.1≠b) (F:w0.heap.size≤b) {ob:Ob} (O:ob.sz≠0) {cur:Array Value} (J:RO σ w i ob b f x cur):
  Iv σ w0 ⟨s.H.set i ob,s.nx,s.rs⟩ w:=by
 have hg:∀j,(s.H.set i ob).get j=if j=i then some ob else s.H.get j:=fun j=>Tr.get_set _ _ B j
 refine ⟨fun j u g=> ?_,hI.dom,hI.res,fun j l u ol E pl g y c m he=> ?_,hI.ext,fun j u E g c=> ?_⟩
 ·dsimp only at g;rw [hg] at g;split at g
  ·rename_i e;cases g;subst e;exact ⟨fun h=>absurd h O,fun _=>⟨b,f,x,cur,J⟩⟩
  ·exact hI.mr j u g
 ·dsimp only at g y;rw [hg] at g y;split at g
  ·rename_i z;subst z;rw [q] at c;cases c;split at y
   ·rename_i A;exact A.symm
   ·rename_i A;exact absurd he.symm (C l ol pl y m A)
  ·rename_i z;split at y
   ·rename_i A;subst A;rw [q] at m;cases m;exact absurd he (C j u E g c z)
   ·exact hI.ap j l u ol E pl g y c m he
 ·dsimp only at g;rw [hg] at g;split at g
  ·rename_i z;subst z;rw [q] at c;cases c;exact F
  ·exact hI.own j u E g c
def qin (t:TypeId) (n:Nat):Bool:=(Nat.beq t 114&&Nat.beq n 0)||(Nat.beq t 116&&Nat.beq n 2)
def qq2 (i:Nat):Value→Bool
 | .pointer none=>true
 | .pointer (some ⟨j,0,none⟩)=>Nat.beq j i
 |_=>false
noncomputable def wrX (s:Sx) (i:Nat) (ob:Ob) (b:ByteArray) (rest:List Value) (bs:Bs) (H:vd):Option (Value×Sx):=
 bif Nat.ble (bs.length+b.size) 100000000000000&&Nat.ble 1 (bs.length+b.size) then
  match xj ⟨H.del i,s.nx,s.rs⟩ none ⟨(bs++b.data.toList).map jf,5,1,false,true⟩ with
  |some (k,s1)=>some (.tuple #[.int .i64 b.size, .nilIface],⟨s1.H.set i ⟨.pointer (some ⟨i,0,none⟩):: .slice (some ⟨k,0,none⟩) (bs.length+b.size) (bs.length+b.size)::rest,ob.ty,1,true,false⟩,s1.nx,s1.rs⟩)
  |none=>none
 else none
noncomputable def wrA (s:Sx) (i:Nat) (ob:Ob) (b:ByteArray):Option (Value×Sx):=
 match ob.cells with
 |p::bv::rest=>bif qq2 i p&&qin ob.ty rest.length&&Nat.blt i vf&&Qw ob ⟨p::bv::rest,ob.ty,1,true,false⟩ then
   (match qce s bv with|some (bs,H)=>wrX s i ob b rest bs H|none=>none) else none
 |_=>none
noncomputable def p89 (s:Sx):List Value→Option (Value×Sx)
 |[.pointer (some ⟨i,0,none⟩), .string b]=>match s.H.get i with
  |some ob=>wrA s i ob b
  |none=>none
 |_=>none
theorem qu7 (hI:Iv σ w0 s w) (hv:ql σ args args') (h:p89 s args=some (v,s')):Calls Tryz.prog 89 args'.toArray w (vN σ w0 (.ret v s')):=by
 unfold p89 at h;split at h
 ·rename_i i b;split at h
  ·rename_i ob U;unfold wrA at h;split at h
   ·rename_i p bv rest hcells;obtain ⟨hc,h9⟩:=qZ h;simp only [Bool.and_eq_true] at hc;obtain ⟨⟨⟨c1,c2⟩,c3⟩,c4⟩:=hc;have hobe:=qbN c4;generalize hty:ob.ty=T at*;subst hobe;split at h9
    ·rename_i bs H hbuf;unfold wrX at h9;obtain ⟨hc,h8⟩:=qZ h9;simp only [Bool.and_eq_true,Nat.ble_eq] at hc;split at h8
     ·rename_i k s1 hnew;cases h8;have E:=kK c3;obtain ⟨B,bs',F,V,m⟩:=qcf hI U rfl (show (1:Nat)≠0 by decide)
      match bs',V,m with
      |p'::bv'::y,V,m=>
       obtain ⟨v1,v2,v3⟩:=V;have hT5:T≠5:=fun e=>by subst e;simp [qin] at c2
       obtain ⟨b1,b2,b3,b4⟩:=qqv hI v2 hbuf;obtain ⟨b5,_⟩:=b4 B i _ U F hT5;have hB0:w0.heap.size≤B:=hI.own i _ _ U F;have hp':p'= .pointer none∨p'= .pointer (some ⟨B,0,none⟩):=by
        unfold qq2 at c1;split at c1
        ·exact .inl (v1.uniq (.pln rfl))
        ·rename_i j;have:=Nat.eq_of_beq_eq_true c1;subst this;exact .inr (v1.uniq (yL F))
        ·cases c1
       have hchk:Calls Tryz.prog 177 #[.pointer (some ⟨B,0,none⟩)] w fun e w'=>e= .returned (.tuple #[])∧Blk w' B (.pointer (some ⟨B,0,none⟩)::bv'::y).toArray T∧Only B w w':=by
        simp only [qin,Bool.or_eq_true,Bool.and_eq_true] at c2;have hrl:=v3.len;rcases c2 with ⟨Z,R⟩|⟨Z,R⟩
        ·have Z:=Nat.eq_of_beq_eq_true Z;have R:=Nat.eq_of_beq_eq_true R;subst Z
         match y,hrl,m with
         |[],_,m=>exact qAH hp' m
         |_::_,e,_=>exact absurd (e.symm.trans R) (by simp)
        ·have Z:=Nat.eq_of_beq_eq_true Z;have R:=Nat.eq_of_beq_eq_true R;subst Z
         match y,hrl,m with
         |[nv,o],_,m=>exact quk m hp'
         |[],e,_=>exact absurd (e.symm.trans R) (by simp)
         |[_],e,_=>exact absurd (e.symm.trans R) (by simp)
         |_::_::_::_,e,_=>exact absurd (e.symm.trans R) (by simp)
       have O:b.data.toList.length=b.size:=rfl
       match args',hv with
       |[y1,y2],hv=>
        obtain ⟨g1,g2,_⟩:=hv;have u1:=g1.uniq (yL F);have u2:y2= .string (qb b.data.toList):=by rw [qbT];exact g2.uniq (.pln (v:= .string b) rfl)
        subst u1;subst u2;refine (qro b.data.toList hB0 m.lt b1 b5 hchk (by rw [O];exact hc.1) hI.ext.size).mono ?_;rintro _ W ⟨rfl,v',k1,k2,k3,k4,k5,k6⟩;have C:(bs++b.data.toList).length=bs.length+b.size:=by rw [List.length_append,O]
        have ab:Iv σ w0 ⟨H.del i,s.nx,s.rs⟩ w:=by
         have sub:∀j o,(H.del i).get j=some o→j≠i∧s.H.get j=some o:=fun j o u=>⟨(get_del E u).1,b2 j o (get_del E u).2⟩;exact ⟨hI.mr.keep (fun j o u=>(sub j o u).2) fun _ _ _ _ _=>rfl,hI.dom,hI.res,fun j l oj ol pj pl u hl=>hI.ap j l oj ol pj pl (sub j oj u).2 (sub l ol hl).2,hI.ext,fun j o p u=>hI.own j o p (sub j o u).2⟩
        have aa:∀j o q,(H.del i).get j=some o→σ j=some q→q.1<w.heap.size∧q.1≠B∧some q.1≠bv'.ownBlock:=fun j o q u J=>by
         obtain ⟨r,hr,hlt⟩:=ab.mr.at' u;rw [J] at hr;cases hr;obtain ⟨hne,hj2⟩:=get_del E u;exact ⟨hlt,fun e=>hne (hI.ap j i o _ q _ (b2 j o hj2) U J F e),b3 j o q hj2 J⟩
        rcases k2.2 with ⟨_,hz⟩|⟨g,cap,cur,hv',hg0,hgh,hnc,hcm,hcs,A⟩
        ·rw [C] at hz;omega
        ·subst hv';rw [C] at hnc A;have hMW:MR σ (H.del i) W:=ab.mr.keep (fun _ _ h=>h) fun j o q u J=>by
          obtain ⟨e1,e2,e3⟩:=aa j o q u J;exact k5 q.1 e1 e2 fun e=>e3 e.symm
         have hEW:qc w0 W:=⟨k4.os.trans hI.ext.os,k4.tape.trans hI.ext.tape,k4.output.trans hI.ext.output,Nat.le_trans hI.ext.size k4.size,fun q J=>(k4.block q J).trans (hI.ext.block q J)⟩;have hgB:g≠B:=fun e=>k3 (by simp [Value.ownBlock,e]);obtain ⟨τ,S,hi,hI',e4,e5,e6⟩:=qgg ab hnew (b:=g) (f:=0) (x:=cap - (bs.length+b.size)) (W:=W) hMW hEW hg0 (fun j oj pj u hp e=>by
          obtain ⟨e1,e2,e3⟩:=aa j oj pj u hp;rcases k6 with k6|k6
          ·exact e3 (by rw [←k6,e];rfl)
          ·simp [Value.ownBlock] at k6;omega) fun τ S hi=>⟨(fun hz=>by cases hz),fun _=>⟨cur,hi,hgh,by
          dsimp only;rw [List.length_map,C,List.drop_zero];rw [Nat.mul_one] at A;rw [A];exact Qs (by rw [List.all_eq_true];intro x hx;obtain ⟨c,_,rfl⟩:=List.mem_map.1 hx;rfl),by
          dsimp only;rw [List.length_map,C];omega,(fun hw=>by cases hw),fun _=>⟨bs.length+b.size,by rw [List.length_map,C,Nat.mul_one],by omega⟩,fun _=>⟨rfl,by
          dsimp only;rw [List.length_map,C];omega⟩⟩⟩
         have z:τ i=some (B,0,0):=S _ _ F;have hki:k≠i:=fun e=>by
          subst e;rw [hi] at z;exact hgB (congrArg Prod.fst (Option.some.inj z))
         have hsl:VR τ (.slice (some ⟨k,0,none⟩) (bs.length+b.size) (bs.length+b.size)) (.slice (some ⟨g,0,none⟩) (bs++b.data.toList).length cap):=by
          have:=VR.slc (σ:=τ) (o:=0) (n:=bs.length+b.size) (c:=bs.length+b.size) hi (Nat.le_refl _);rw [show bs.length+b.size+(cap - (bs.length+b.size))=cap by omega] at this;rw [C];exact this
         refine ⟨τ,_,S,qt6 hI' E z (fun j o q u J hne e=> ?_) hB0 (show (1:Nat)≠0 by decide) (ob:=⟨.pointer (some ⟨i,0,none⟩):: .slice (some ⟨k,0,none⟩) (bs.length+b.size) (bs.length+b.size)::rest,T,1,true,false⟩) (cur:=(.pointer (some ⟨B,0,none⟩):: .slice (some ⟨g,0,none⟩) (bs++b.data.toList).length cap::y).toArray) ?_, ?_,rfl⟩
         ·rw [e4,Tr.get_set _ _ e5] at u;split at u
          ·rename_i e7;subst e7;rw [hi] at J;cases J;exact hgB e
          ·rename_i e7;exact (aa j o q u (e6 j q J e7)).2.1 e
         ·have Y:=v3.len;refine ⟨z,k1.heap, ?_,by simp [Y],fun _=>⟨rfl,rfl,by simp [Y]⟩,(fun hw=>by cases hw),(fun hx=>by cases hx)⟩;simp only [List.drop_zero];rw [List.take_of_length_le (by simp [Y])];exact ⟨yL z,hsl,v3.mono S⟩
         ·rw [O];exact wX (v:= .tuple #[.int .i64 (b.size:Int), .nilIface]) rfl
     ·cases h8
    ·cases h9
   ·cases h
  ·cases h
 ·cases h
noncomputable def qjE (s:Sx) (j:Nat) (bs:Bs):Option (Value×Sx):=bif Nat.ble 1 bs.length&&Nat.blt j vf then some (.string (qb bs),⟨s.H.del j,s.nx,s.rs⟩) else none
def qko:Value→Option Nat
 | .slice (some ⟨j,0,none⟩) _ _=>some j
 |_=>none
noncomputable def p90 (s:Sx):List Value→Option (Value×Sx)
 |[.pointer (some ⟨i,0,none⟩)]=>match s.H.get i with
  |some ob=>bif ob.whole&&Nat.beq ob.sz 1 then (match qei s.H ⟨i,1,none⟩ with
   |some bv=>match qce s bv,qko bv with
    |some (bs,_),some j=>qjE s j bs
    |_,_=>none
   |none=>none) else none
  |none=>none
 |_=>none
theorem qu6 (hI:Iv σ w0 s w) (hv:ql σ args args') (h:p90 s args=some (v,s')):Calls Tryz.prog 90 args'.toArray w (vN σ w0 (.ret v s')):=by
 unfold p90 at h;split at h
 ·rename_i i;split at h
  rotate_left
  ·cases h
  rename_i ob hob;obtain ⟨hw,h⟩:=qZ h;simp only [Bool.and_eq_true] at hw;have hz1:=Nat.eq_of_beq_eq_true hw.2;split at h
  ·rename_i bv hbv;split at h
   ·rename_i bs H j y m;unfold qjE at h;obtain ⟨Z,h9⟩:=qZ h;cases h9;simp only [Bool.and_eq_true,Nat.ble_eq] at Z;have F:=kK Z.2
    match args',hv with
    |[y1],hv=>
     obtain ⟨g1,_⟩:=hv;cases g1 with
     |pln h'=>cases h'
     |ptr O=>
      rename_i B f x;obtain ⟨u,hu,U⟩:=qqj hI.mr (.ptr (o:=1) O) hbv;have A:w.cell? ⟨B,f+1,none⟩=some u:=hu;obtain ⟨b1,b2,b3,b4⟩:=qqv hI U y;unfold qko at m;split at m
      ·rename_i j' n c;cases m;rcases b1.2 with ⟨_,hz⟩|⟨g,cap,cur,ab,hg0,hgh,aa,hcm,hcs,C⟩
       ·omega
       ·subst ab;have V:∃q,σ j=some q∧q.1=g:=by
         cases U with
         |pln h'=>cases h'
         |slc hs hn=>exact ⟨_,hs,rfl⟩
        obtain ⟨q,hq,hqg⟩:=V;have hf:f=0:=by
         obtain ⟨b5,f5,x5,cur5,R⟩:=(hI.mr i ob hob).2 (by rw [hz1];decide);have S:=R.at';rw [O] at S;cases S;exact (R.whole hw.1).1
        subst hf;refine (qsB A hgh (by intro e;rw [e] at Z;simp at Z) aa hcm hcs C).mono ?_;rintro _ W ⟨rfl,Y,hk⟩;have ac:qc w0 W:=⟨Y.os.trans hI.ext.os,Y.tape.trans hI.ext.tape,Y.output.trans hI.ext.output,Nat.le_trans hI.ext.size Y.size,fun r hr=>(Y.block r (by omega)).trans (hI.ext.block r hr)⟩;refine ⟨σ,_,Sg.le_refl σ,⟨?_,hI.dom,hI.res,fun J l E ol pj pl z h2=>hI.ap J l E ol pj pl (get_del F z).2 (get_del F h2).2,ac,fun J o p z=>hI.own J o p (get_del F z).2⟩, .pln rfl,rfl⟩;obtain ⟨E,hoj⟩:∃E,s.H.get j=some E:=by
         cases hj2:s.H.get j with
         |some E=>exact ⟨E,rfl⟩
         |none=>unfold qce at y;simp only [hj2] at y;cases y
        exact hI.mr.keep (fun J o z=>(get_del F z).2) fun J o p z hp=>hk p.1 fun e=>(get_del F z).1 (hI.ap J j o E p q (get_del F z).2 hoj hp hq (by rw [e,hqg]))
      ·cases m
   ·cases h
  ·cases h
 ·cases h
end
noncomputable def qc9:qa3:=fun f args s=>
 bif Nat.beq f 89 then p89 s args else bif Nat.beq f 90 then p90 s args else bif Nat.beq f 53 then p53 s args else bif Nat.beq f 77 then p77 s args else bif Nat.beq f 22 then p22 s args else bif Nat.beq f 24 then p24 s args else
 bif Nat.beq f 34 then p34 s args else bif Nat.beq f 64 then p64 s args else bif Nat.beq f 273 then qf4 s args else none
theorem wY {g:Type} {f n:Nat} {x y:Option g} {v:g} (h:(bif Nat.beq f n then x else y)=some v):(f=n∧x=some v)∨y=some v:=by
 cases c:Nat.beq f n with
 |true=>rw [c] at h;exact .inl ⟨Nat.eq_of_beq_eq_true c,h⟩
 |false=>rw [c] at h;exact .inr h
theorem qkN:qeB Tryz.prog GM qc9:=by
 intro f args s v s' h σ w0 w args' hg hI c;unfold qc9 at h;rcases wY h with ⟨rfl,h⟩|h
 ·exact qu7 hI c h
 rcases wY h with ⟨rfl,h⟩|h
 ·exact qu6 hI c h
 rcases wY h with ⟨rfl,h⟩|h
 ·exact qva hg hI c h
 rcases wY h with ⟨rfl,h⟩|h
 ·exact qu8 hg hI c h
 rcases wY h with ⟨rfl,h⟩|h
 ·exact qve hg hI c h
 rcases wY h with ⟨rfl,h⟩|h
 ·exact qvd hg hI c h
 rcases wY h with ⟨rfl,h⟩|h
 ·exact qvb hI c h
 rcases wY h with ⟨rfl,h⟩|h
 ·exact qu9 hg hI c h
 rcases wY h with ⟨rfl,h⟩|h
 ·exact qvc hI c h
 ·cases h
def prZ (t:TypeId):Bool:=Nat.beq t 26
theorem qkO:yv Tryz.prog prZ:=fun t g=>by
 have:=Nat.eq_of_beq_eq_true g;subst this;exact ⟨g26,fun a b c d w=>qhv a b c d w⟩
def skZ (f:FuncId) (i:Nat):List Nat:=bif Nat.beq f 122&&Nat.beq i 4 then [5] else []
noncomputable def qcZ (f:FuncId) (args:List Value):Option Ou:=kE Tryz.prog qc9 (some yJ) skZ prZ 3000 ⟨.lf,0,[]⟩ (.call f args)
theorem iv0 (w:World):Iv (fun _=>none) w ⟨.lf,0,[]⟩ w:=⟨qbS,(fun i p h=>by cases h),(fun i h=>by cases h),(fun i j m c g l h=>by cases h),qV w,(fun i o p h=>by cases h)⟩
def qi4:Option Ou→Bool
 |some (.ret (.bool true) _)=>true
 |_=>false
def wT (a b:Int):Value:= .tuple #[.slice none 0 0, .agg #[.int .i64 a, .int .i64 b]]
def qbw (v:Value):Option Ou→Bool
 |some (.ret u _)=>zr 4 u v
 |_=>false
theorem qpM {σ:Sg} (a b:Int):VR σ (wT a b) (wT a b):=qi2 (.pln rfl) (wX (v:= .agg #[.int .i64 a, .int .i64 b]) rfl)
theorem qtP:qbw (wT 20 1) (qcZ 15 [.string (qb exB)])=true:=by kernel_rfl
theorem qtO:qbw (wT 21 1) (qcZ 15 [.string (qb exC)])=true:=by kernel_rfl
theorem qzH {b:ByteArray} {x y:Int} (h:qbw (wT x y) (qcZ 15 [.string b])=true) {w:World} (hg:GM w):Calls Tryz.prog 15 #[.string b] w fun e w'=>e= .returned (wT x y)∧qc w w':=by
 unfold qbw at h;split at h
 ·rename_i u s c;have g:=wD 4 _ _ h;subst g;refine ((qj8 qkO qkN t54 3000).call 15 [.string b] _ _ c (fun _=>none) w w [.string b] hg (iv0 w) ⟨.pln rfl,trivial⟩).mono ?_;rintro e w' ⟨l,m,o,hI,j,rfl⟩;exact ⟨by rw [j.uniq (qpM x y)],hI.ext⟩
 ·cases h
noncomputable def p15 (s:Sx):List Value→Option (Value×Sx)
 |[.string b]=>bif kC b (qb exB) then some (wT 20 1,s) else bif kC b (qb exC) then some (wT 21 1,s) else none
 |_=>none
noncomputable def qfU:qa3:=fun f args s=>bif Nat.beq f 15 then p15 s args else qc9 f args s
theorem quh:qeB Tryz.prog GM qfU:=by
 intro f args s v s' h σ w0 w args' hg hI l;unfold qfU at h;rcases wY h with ⟨rfl,g⟩|g
 ·clear h;unfold p15 at g;split at g
  ·rename_i b;have key:∀{c:Bs} {x y:Int},qbw (wT x y) (qcZ 15 [.string (qb c)])=true→b=qb c→Calls Tryz.prog 15 args'.toArray w (vN σ w0 (.ret (wT x y) s)):=by
    intro c x y m j;subst j;have A:args'=[.string (qb c)]:=by
     match args',l with
     |[z],l=>rw [l.1.uniq (.pln (v:= .string (qb c)) rfl)]
    rw [A];refine (qzH m (gm hg hI)).mono ?_;rintro e W ⟨rfl,u⟩;exact ⟨σ,_,Sg.le_refl σ,hI.toExt u,qpM x y,rfl⟩
   cases j:kC b (qb exB) with
   |true=>
    rw [j] at g;cases g;exact key qtP (Qi.1 j)
   |false=>
    rw [j] at g;obtain ⟨q,o⟩:=qZ (b:=kC b (qb exC)) g;cases o;exact key qtO (Qi.1 q)
  ·cases g
 ·exact qkN f args s v s' g σ w0 w args' hg hI l
noncomputable def qtM (f:FuncId) (args:List Value):Option Ou:=kE Tryz.prog qfU (some yJ) skZ prZ 3000 ⟨.lf,0,[]⟩ (.call f args)
theorem qtQ:qi4 (qtM 14 [])=true:=by kernel_rfl
theorem qrh {w:World} (l:L01.G w) (c:xA w):Calls Tryz.prog 14 #[] w (okR w):=by
 have h:=qtQ;unfold qi4 at h;split at h
 ·rename_i s g;refine ((qj8 qkO quh t54 3000).call 14 [] _ _ g (fun _=>none) w w [] ⟨l,c⟩ (iv0 w) trivial).mono ?_;rintro e w' ⟨o,m,q,hI,j,rfl⟩;exact ⟨by rw [j.uniq (.pln (v:= .bool true) rfl)],hI.ext⟩
 ·cases h
end Go.L02
namespace Go.L02
open Go.Eng
open Go.L01 (Bs Res Tok first jB jb je q9 qC qY qo qp qr qw qy right)
def wi (L:List Tok) (i:Nat) (ks:List (Nat×Bs)):Prop:=∀m (h:m<ks.length),i+m<L.length∧(tk L (i+m)).kind=(ks[m]).1∧(tk L (i+m)).text=(ks[m]).2
section
variable {L:List Tok} {i:Nat} {a b:List (Nat×Bs)}
theorem wi.left (h:wi L i (a++b)):wi L i a:=fun m c=>by
 have:=h m (by rw [List.length_append];omega)
 rwa [List.getElem_append_left c] at this
theorem wi.right (h:wi L i (a++b)):wi L (i+a.length) b:=fun m c=>by
 have:=h (a.length+m) (by rw [List.length_append];omega);rw [List.getElem_append_right (by omega)] at this;simp only [Nat.add_sub_cancel_left] at this;rw [Nat.add_assoc];exact this
theorem wi.head {k:Nat} {s:Bs} (h:wi L i ((k,s)::b)):i<L.length∧(tk L i).kind=k∧(tk L i).text=s:=h 0 (by simp)
theorem qdF {k:Nat} {s:Bs} {ss:List Bs} (g:(tk L i).kind=k) (c:(tk L i).text=s) (h:k=2∨k=4):qg L i ss=ss.contains s:=by
 unfold qg;rw [g,c];rcases h with rfl|rfl<;>simp
theorem vo {s:Bs} {ss:List Bs} (c:(tk L i).text=s) (h:ss.contains s=false):qg L i ss=false:=by
 unfold qg;rw [c,h,Bool.and_false]
theorem yW {k:Nat} {ss:List Bs} (j:(tk L i).kind=k) (g:k≠2) (c:k≠4):qg L i ss=false:=by
 unfold qg;rw [j];simp [g,c]
end
theorem qax {c:Type} {L:List Tok} {i f:Nat} {k:Nat} {s:Bs} {m:Unit→M c} (j:(tk L i).kind=k) (g:(tk L i).text=s) (h:k=2∨k=4):bnd (needs L [s]) m i f=m () (i+1) f:=by
 have:needs L [s] i f= .ok () (i+1) f:=by
  simp [needs,qe,qdF j g h,ret]
 rw [qT this]
theorem qjf {c:Type} {L:List Tok} {i f:Nat} {k:Nat} {s:Bs} {x y:M c} (j:(tk L i).kind=k) (g:(tk L i).text=s) (h:k=2∨k=4):qe L s x y i f=x (i+1) f:=by
 simp [qe,qdF j g h]
theorem vt {c:Type} {L:List Tok} {i f:Nat} {s:Bs} {x y:M c} (h:qg L i [s]=false):qe L s x y i f=y i f:=by
 simp [qe,h]
theorem qvJ {L:List Tok} {i f:Nat} {s:Bs} (g:(tk L i).kind=1) (c:(tk L i).text=s):name L i f= .ok s (i+1) f:=by unfold name;rw [if_pos g,c]
theorem qlw {c:Type} {L:List Tok} {i f:Nat} {s:Bs} {m:Bs→M c} (j:(tk L i).kind=1) (g:(tk L i).text=s):bnd (name L) m i f=m s (i+1) f:=by rw [qT (qvJ j g)]
section
variable {ts L:List Tok} {off:Nat}
def vH (ts L:List Tok) (off:Nat):Prop:=∀i,i<ts.length→(tk L (off+i)).kind=(tk ts i).kind∧(tk L (off+i)).text=(tk ts i).text
def jW (ts:List Tok) (off:Nat) {α:Type} (m m':M α):Prop:=∀i f a j g,i≤ts.length→m i f= .ok a j g→j≤ts.length∧∀f',∃g',m' (off+i) f'= .ok a (off+j) g'
def EF (ts:List Tok) {α:Type} (m:M α):Prop:=∀f a j g,m ts.length f≠ .ok a j g
theorem qbX (ts:List Tok) (ss:List Bs):qg ts ts.length ss=false:=by
 unfold qg;have:tk ts ts.length=⟨0,[],0⟩:=kw (Nat.le_refl _);rw [this];simp
theorem qaC (h:vH ts L off) {i:Nat} (c:i<ts.length) (ss:List Bs):qg L (off+i) ss=qg ts i ss:=by
 unfold qg;rw [(h i c).1,(h i c).2]
theorem vC {c:Type} (a:c):jW ts off (ret a) (ret a):=fun i f b j g m h=>by
 simp only [ret,Rs.ok.injEq] at h;obtain ⟨rfl,rfl,rfl⟩:=h;exact ⟨m,fun l=>⟨l,rfl⟩⟩
theorem xI {o C:Type} {m u:M o} {k l:o→M C} (h:jW ts off m u) (B:∀a,jW ts off (k a) (l a)):jW ts off (bnd m k) (bnd u l):=fun i f b j g J e=>by
 cases c:m i f with
 |oof=>rw [vg c] at e;cases e
 |no g=>rw [jJ c] at e;cases e
 |ok a q g1=>
  rw [qT c] at e;obtain ⟨R,z⟩:=h i f a q g1 J c;obtain ⟨x,y⟩:=B a q g1 b j g R e;refine ⟨x,fun E=> ?_⟩;obtain ⟨O,A⟩:=z E;obtain ⟨H,F⟩:=y O;exact ⟨H,by rw [qT A,F]⟩
theorem wt {H:Type} (hI:vH ts L off) {s:Bs} {x y x' A:M H} (J:jW ts off x x') (E:jW ts off y A) (he:EF ts y∨(tk L (off+ts.length)).text≠s):jW ts off (qe ts s x y) (qe L s x' A):=fun i f b j g C e=>by
 unfold qe at e;by_cases F:i<ts.length
 ·have B:=qaC hI F [s];split at e
  ·rename_i q;obtain ⟨o,c⟩:=J (i+1) f b j g F e;refine ⟨o,fun l=> ?_⟩;obtain ⟨m,e'⟩:=c l;exact ⟨m,by unfold qe;rw [B,q];simpa [Nat.add_assoc] using e'⟩
  ·rename_i q;have z:qg ts i [s]=false:=by simpa using q
   obtain ⟨o,c⟩:=E i f b j g C e;refine ⟨o,fun l=> ?_⟩;obtain ⟨m,e'⟩:=c l;exact ⟨m,by unfold qe;rw [B,z];simpa using e'⟩
 ·have u:i=ts.length:=by omega
  subst u;rw [qbX] at e;simp only [Bool.false_eq_true,if_false] at e;rcases he with he|he
  ·exact absurd e (he _ _ _ _)
  ·obtain ⟨o,c⟩:=E _ f b j g C e;refine ⟨o,fun l=> ?_⟩;obtain ⟨m,e'⟩:=c l;refine ⟨m, ?_⟩;rw [vt (vo rfl (by simpa using fun e=>he e)),e']
theorem jr {c:Type} {s:Bs} {x y:M c} (h:EF ts y):EF ts (qe ts s x y):=fun f a j g e=>by
 unfold qe at e;rw [qbX] at e;exact h f a j g (by simpa using e)
theorem x8 {l o:Type} {m:M l} {k:l→M o} (h:EF ts m):EF ts (bnd m k):=fun f a j g e=>by
 cases c:m ts.length f with
 |oof=>rw [vg c] at e;cases e
 |no g=>rw [jJ c] at e;cases e
 |ok a q g1=>exact h _ _ _ _ c
theorem qhW:EF ts (name ts):=fun f a j g e=>by
 have:tk ts ts.length=⟨0,[],0⟩:=kw (Nat.le_refl _);unfold name at e;rw [this] at e;simp at e
theorem qp5 {c:Type}:EF ts (QI:M c):=fun f a j g e=>by cases e
theorem qv1 {c:Type}:jW ts off (QI:M c) QI:=fun i f a j g _ e=>by cases e
theorem kG (hI:vH ts L off) (s:Bs):jW ts off (needs ts [s]) (needs L [s]):=wt hI (vC ()) qv1 (.inl qp5)
theorem qhV (s:Bs):EF ts (needs ts [s]):=jr qp5
theorem qay (hI:vH ts L off):jW ts off (name ts) (name L):=fun i f a j g m e=>by
 unfold name at e;split at e
 ·rename_i h;simp only [Rs.ok.injEq] at e;obtain ⟨rfl,rfl,rfl⟩:=e;have c:i<ts.length:=by
   by_cases c:i<ts.length
   ·exact c
   ·have:tk ts i=⟨0,[],0⟩:=kw (by omega);rw [this] at h;cases h
  refine ⟨c,fun l=>⟨l, ?_⟩⟩;unfold name;rw [(hI i c).1,(hI i c).2,if_pos h];rfl
 ·cases e
theorem qvX (hI:vH ts L off):jW ts off (param ts) (param L):=fun i f a j g m e=>by
 unfold param at e;split at e
 ·rename_i h;simp only [Rs.ok.injEq] at e;obtain ⟨_,rfl,rfl⟩:=e;have c:i<ts.length:=by
   by_cases c:i<ts.length
   ·exact c
   ·have:tk ts i=⟨0,[],0⟩:=kw (by omega);rw [this] at h;cases h.1
  refine ⟨c,fun l=>⟨l, ?_⟩⟩;unfold param;rw [(hI i c).1,(hI i c).2,if_pos h];rfl
 ·cases e
theorem qlF {q B:Type} (hI:vH ts L off) {m c:M q} (y:jW ts off m c) {k o:List q→M B} (u:∀l,jW ts off (k l) (o l)) (he:∀l,EF ts (k l)):∀n n',n≤n'→jW ts off (bnd (more ts m n) k) (bnd (more L c n') o)
 |0,_,_=>fun i f a j g _ e=>by cases e
 |n+1,0,h=>by omega
 |n+1,n'+1,h=>by
  have z:bnd (more ts m (n+1)) k=qe ts [44] (bnd m fun x=>bnd (more ts m n) fun xs=>k (x::xs)) (k []):=by
   funext i f;show bnd (qe ts [44] (bnd m fun x=>bnd (more ts m n) fun xs=>ret (x::xs)) (ret [])) k i f=_;simp only [qcF,x9,wc]
  have A:bnd (more L c (n'+1)) o=qe L [44] (bnd c fun x=>bnd (more L c n') fun xs=>o (x::xs)) (o []):=by
   funext i f;show bnd (qe L [44] (bnd c fun x=>bnd (more L c n') fun xs=>ret (x::xs)) (ret [])) o i f=_;simp only [qcF,x9,wc]
  rw [z,A];exact wt hI (xI y fun x=>qlF hI y (fun l=>u (x::l)) (fun l=>he (x::l)) n n' (by omega)) (u []) (.inl (he []))
theorem qv0 {j q:Type} (hI:vH ts L off) {m c:M j} (o:jW ts off m c) {k g:List j→M q} (z:∀l,jW ts off (k l) (g l)) (he:∀l,EF ts (k l)) {n n':Nat} (h:n≤n'):jW ts off (bnd (listed ts n m) k) (bnd (listed L n' c) g):=by
 have u:bnd (listed ts n m) k=bnd m fun x=>bnd (more ts m n) fun xs=>k (x::xs):=by
  funext i f;show bnd (bnd m fun x=>bnd (more ts m n) fun xs=>ret (x::xs)) k i f=_;simp only [x9,wc]
 have y:bnd (listed L n' c) g=bnd c fun x=>bnd (more L c n') fun xs=>g (x::xs):=by
  funext i f;show bnd (bnd c fun x=>bnd (more L c n') fun xs=>ret (x::xs)) g i f=_;simp only [x9,wc]
 rw [u,y];exact xI o fun x=>qlF hI o (fun l=>z (x::l)) (fun l=>he (x::l)) n n' h
theorem qlG (hI:vH ts L off) (hS:(tk L (off+ts.length)).text≠[91]):∀n n',n≤n'→jW ts off (kind ts n) (kind L n')
 |0,_,_=>fun i f a j g _ e=>by cases e
 |n+1,0,h=>by omega
 |n+1,n'+1,h=>by
  have m:=qlG hI hS n n' (by omega);have part:jW ts off (z6 ts (kind ts n)) (z6 L (kind L n')):=xI (qay hI) fun _=>xI (kG hI _) fun _=>xI m fun _=>vC _;have l:jW ts off (sq (needs ts [[91]]) (sq (listed ts n (z6 ts (kind ts n))) (needs ts [[93]]))) (sq (needs L [[91]]) (sq (listed L n' (z6 L (kind L n'))) (needs L [[93]]))):=
   xI (kG hI _) fun _=>qv0 hI part (fun _=>kG hI _) (fun _=>qhV _) (by omega)
  have arr:jW ts off (sq (needs ts [[91]]) (sq (kind ts n) (needs ts [[93]]))) (sq (needs L [[91]]) (sq (kind L n') (needs L [[93]]))):=xI (kG hI _) fun _=>xI m fun _=>kG hI _;have nm:jW ts off (sq (name ts) (qe ts [91] (sq (kind ts n) (needs ts [[93]])) (ret ()))) (sq (name L) (qe L [91] (sq (kind L n') (needs L [[93]])) (ret ()))):=
   xI (qay hI) fun _=>wt hI (xI m fun _=>kG hI _) (vC _) (.inr hS)
  have c:EF ts (sq (name ts) (qe ts [91] (sq (kind ts n) (needs ts [[93]])) (ret ()))):=x8 qhW;unfold kind;exact wt hI (vC _) (wt hI (vC _) (wt hI (vC _) (wt hI arr (wt hI l (wt hI l (wt hI (qvX hI) nm (.inl c)) (.inl (jr c))) (.inl (jr (jr c)))) (.inl (jr (jr (jr c))))) (.inl (jr (jr (jr (jr c)))))) (.inl (jr (jr (jr (jr (jr c))))))) (.inl (jr (jr (jr (jr (jr (jr c)))))))
end
theorem qeW {ts:List Tok} {i:Nat} (h:i<ts.length):tk ts i=ts[i]:=by unfold tk;simp [List.getElem?_eq_getElem h]
def xd:Nat→List (Nat×Bs)→Option (List (Nat×Bs))
 |_,[]=>none
 |d,x::l=>if x.2=[91] then xd (d+1) l else if x.2=[93] then (match d with|0=>some l|e+1=>xd e l) else xd d l
def kQ (l:List (Nat×Bs)):Prop:=∀d r,xd d (l++r)=xd d r
theorem qBp:kQ []:=fun _ _=>rfl
theorem qep {a b:List (Nat×Bs)} (c:kQ a) (g:kQ b):kQ (a++b):=fun d r=>by rw [List.append_assoc,c,g]
theorem qeo {x:Nat×Bs} (g:x.2≠[91]) (c:x.2≠[93]):kQ [x]:=fun d r=>by simp [xd,g,c]
theorem qio {x:Nat×Bs} {l:List (Nat×Bs)} (g:x.2≠[91]) (c:x.2≠[93]) (h:kQ l):kQ (x::l):=qep (a:=[x]) (qeo g c) h
theorem qqJ {k j:Nat} {l:List (Nat×Bs)} (h:kQ l):kQ ((k,[91])::(l++[(j,[93])])):=fun d r=>by
 have c:xd d ((k,[91])::(l++[(j,[93])])++r)=xd (d+1) (l++((j,[93])::r)):=by simp [xd]
 rw [c,h];simp [xd]
theorem qip {l r:List (Nat×Bs)} {j:Nat} (h:kQ l):xd 0 (l++((j,[93])::r))=some r:=by rw [h];simp [xd]
def Dk (L:List Tok) (i:Nat):List (Nat×Bs):=(L.drop i).map qD
section
variable {L:List Tok}
theorem xB {i:Nat} (h:i<L.length):Dk L i=qD (tk L i)::Dk L (i+1):=by
 unfold Dk;rw [List.drop_eq_getElem_cons h,List.map_cons,kz h]
theorem qeE {i:Nat} (h:L.length≤i):Dk L i=[]:=by unfold Dk;rw [List.drop_eq_nil_of_le h];rfl
theorem wi.le {ks:List (Nat×Bs)} {i:Nat} (h:wi L i ks) (c:i≤L.length):i+ks.length≤L.length:=by
 cases ks with
 |nil=>simpa using c
 |cons x ks=>
  have:=(h ks.length (by simp)).1;simp;omega
def ja {α:Type} (L:List Tok) (m:M α):Prop:=∀i f a j g,m i f= .ok a j g→∃l,kQ l∧Dk L i=l++Dk L j
theorem jI {c:Type} (a:c):ja L (ret a):=fun i f b j g h=>by
 simp only [ret,Rs.ok.injEq] at h;obtain ⟨_,rfl,_⟩:=h;exact ⟨[],qBp,rfl⟩
theorem qAb {c:Type}:ja L (QI:M c):=fun i f b j g h=>by cases h
theorem jl {l z:Type} {m:M l} {k:l→M z} (A:ja L m) (y:∀a,ja L (k a)):ja L (bnd m k):=fun i f b j g h=>by
 cases c:m i f with
 |oof=>rw [vg c] at h;cases h
 |no g=>rw [jJ c] at h;cases h
 |ok a B g1=>
  rw [qT c] at h;obtain ⟨l1,q,o⟩:=A _ _ _ _ _ c;obtain ⟨u,b2,x⟩:=y a _ _ _ _ _ h;exact ⟨l1++u,qep q b2,by rw [o,x,List.append_assoc]⟩
theorem xo {z:Type} {s:Bs} {x y:M z} (E:s≠[91]) (u:s≠[93]) (A:ja L x) (C:ja L y):ja L (qe L s x y):=fun i f b j g h=>by
 unfold qe at h;split at h
 ·rename_i c;have B:=xn c;obtain ⟨l,q,o⟩:=A _ _ _ _ _ h;have m:(tk L i).text=s:=by
   unfold qg at c;simp only [List.contains_cons,List.contains_nil,Bool.or_false,Bool.and_eq_true,beq_iff_eq] at c;exact c.2
  exact ⟨qD (tk L i)::l,qio (by simpa [qD,m] using E) (by simpa [qD,m] using u) q,by rw [xB B,o];rfl⟩
 ·exact C _ _ _ _ _ h
theorem y4 {s:Bs} (g:s≠[91]) (c:s≠[93]):ja L (needs L [s]):=xo g c (jI _) qAb
theorem qbR {s:Bs} (h:qo s=true):s≠[91]∧s≠[93]:=by
 constructor
 ·rintro rfl;exact absurd h (by decide)
 ·rintro rfl;exact absurd h (by decide)
theorem qaQ (hg:jv L):ja L (name L):=fun i f b j g h=>by
 unfold name at h;split at h
 ·rename_i l;simp only [Rs.ok.injEq] at h;obtain ⟨rfl,rfl,rfl⟩:=h;have c:=xM l (by decide);have hn:qo (tk L i).text=true:=by
   have:=hg (tk L i) (by rw [kz c];exact List.getElem_mem _);rw [l] at this;simpa [right] using this
  obtain ⟨o,m⟩:=qbR hn;exact ⟨[qD (tk L i)],qeo o m,xB c⟩
 ·cases h
theorem qz7:ja L (param L):=fun i f b j g h=>by
 unfold param at h;split at h
 ·rename_i c;simp only [Rs.ok.injEq] at h;obtain ⟨_,rfl,rfl⟩:=h;have l:=xM c.1 (by decide);exact ⟨[qD (tk L i)],qeo (by simp only [qD,c.2];decide) (by simp only [qD,c.2];decide),xB l⟩
 ·cases h
theorem qaw {s:Bs} {i f j g:Nat} {a:Unit} (h:needs L [s] i f= .ok a j g):i<L.length∧(tk L i).text=s∧j=i+1:=by
 unfold needs qe at h;split at h
 ·rename_i c;have l:=xn c;unfold qg at c;simp only [List.contains_cons,List.contains_nil,Bool.or_false,Bool.and_eq_true,beq_iff_eq] at c;simp only [needs,ret,Rs.ok.injEq] at h;exact ⟨l,c.2,h.2.1.symm⟩
 ·cases h
theorem qqA {y:Type} {m:M y} (A:ja L m) {i f j g:Nat} {a:Unit} (h:sq m (needs L [[93]]) i f= .ok a j g):∃l k,kQ l∧Dk L i=l++((k,[93])::Dk L j):=by
 cases c:m i f with
 |oof=>unfold sq at h;rw [vg c] at h;cases h
 |no g=>unfold sq at h;rw [jJ c] at h;cases h
 |ok a z g1=>
  unfold sq at h;rw [qT c] at h;obtain ⟨l,u,q⟩:=A _ _ _ _ _ c;obtain ⟨B,x,o⟩:=qaw h;refine ⟨l,(tk L z).kind,u, ?_⟩;rw [q,xB B,o];simp [qD,x]
theorem qec {x:Type} {m:M x} (y:ja L m):ja L (sq (needs L [[91]]) (sq m (needs L [[93]]))):=fun i f b j g h=>by
 cases c:needs L [[91]] i f with
 |oof=>unfold sq at h;rw [vg c] at h;cases h
 |no g=>unfold sq at h;rw [jJ c] at h;cases h
 |ok a A g1=>
  obtain ⟨z,u,rfl⟩:=qaw c;rw [show sq (needs L [[91]]) (sq m (needs L [[93]])) i f=sq m (needs L [[93]]) (i+1) g1 from qT c] at h;obtain ⟨l,k,q,o⟩:=qqA y h;refine ⟨((tk L i).kind,[91])::(l++[(k,[93])]),qqJ q, ?_⟩;rw [xB z,o];simp [qD,u]
theorem qp9 {l:Type} {m:M l} (c:ja L m):∀n,ja L (more L m n)
 |0=>fun i f b j g h=>by cases h
 |n+1=>xo (by decide) (by decide) (jl c fun _=>jl (qp9 c n) fun _=>jI _) (jI _)
theorem qhY {g:Type} {m:M g} (c:ja L m) (n:Nat):ja L (listed L n m):=jl c fun _=>jl (qp9 c n) fun _=>jI _
theorem qhZ (hg:jv L):∀n,ja L (kind L n)
 |0=>fun i f b j g h=>by cases h
 |n+1=>by
  have c:=qhZ hg n;have part:ja L (z6 L (kind L n)):=jl (qaQ hg) fun _=>jl (y4 (by decide) (by decide)) fun _=>jl c fun _=>jI _;have nm:ja L (sq (name L) (qe L [91] (sq (kind L n) (needs L [[93]])) (ret ()))):=jl (qaQ hg) fun _=>by
   intro i f b j g h;unfold qe at h;split at h
   ·rename_i l;have m:=qec c (L:=L);refine m i f b j g ?_;rw [←h];unfold sq;rw [qT (show needs L [[91]] i f= .ok () (i+1) f by simp [needs,qe,l,ret])]
   ·exact jI _ _ _ _ _ _ h
  unfold kind;exact xo (by decide) (by decide) (jI _) (xo (by decide) (by decide) (jI _) (xo (by decide) (by decide) (jI _) (xo (by decide) (by decide) (qec c) (xo (by decide) (by decide) (qec (qhY part n)) (xo (by decide) (by decide) (qec (qhY part n)) (xo (by decide) (by decide) qz7 nm))))))
end
section
variable {L:List Tok}
structure Stop (L:List Tok) (j:Nat):Prop where
 op:qg L j xx=false
 ne:(tk L j).text≠[91]∧(tk L j).text≠[46]∧(tk L j).text≠[36]∧(tk L j).text≠[40]∧(tk L j).text≠[123]
structure vI (L:List Tok) (j:Nat):Prop where
 ne:(tk L j).text≠[36]∧(tk L j).text≠[40]∧(tk L j).text≠[123]
 br:(tk L j).text=[91]→∀x r,xd 0 (Dk L (j+1))=some (x::r)→x.2≠[36]
theorem Stop.after {j:Nat} (h:Stop L j):vI L j:=⟨⟨h.ne.2.2.1,h.ne.2.2.2.1,h.ne.2.2.2.2⟩,fun e=>absurd e h.ne.1⟩
theorem qjG {j:Nat} {s:Bs} (c:(tk L j).text=s) (h:[[41],[93],[44],[116,104,101,110],[100,111],[58,61],[59],[101,110,100],[101,108,115,101],[101,108,115,101,105,102],[101,120,99,101,112,116],[119,104,101,110],[116,97,103]].contains s=true):Stop L j:=by
 simp only [List.contains_cons,List.contains_nil,Bool.or_false,Bool.or_eq_true,beq_iff_eq] at h;refine ⟨vo c ?_, ?_⟩
 ·rcases h with rfl|rfl|rfl|rfl|rfl|rfl|rfl|rfl|rfl|rfl|rfl|rfl|rfl<;>decide
 ·rw [c];rcases h with rfl|rfl|rfl|rfl|rfl|rfl|rfl|rfl|rfl|rfl|rfl|rfl|rfl<;>decide
theorem qcG {e:M T} {m:Nat} {t:T} {fm j g:Nat} (l:(tk L j).text≠[91]) (c:(tk L j).text≠[46]):zC L e (m+1) t fm j g= .ok (t,fm) j g:=by
 show qe L [91] _ _ j g=_;rw [vt (vo rfl (by simpa using l)),vt (vo rfl (by simpa using c))];rfl
end
section
variable {L:List Tok}
theorem qfo {n i f:Nat} {e:M T} (c:(tk L i).kind≠3) (j:qg L i [[116,114,117,101]]=false) (g:qg L i [[102,97,108,115,101]]=false) (hn:qg L i [[110,105,108]]=false):
  jz L n e i f=if qg L i [[117,112],[100,111,119,110]] then q8 false (xC L e) i f else qe L [40] (q8 false (wO L e)) (jp L n e) i f:=by
 unfold jz;rw [if_neg c,vt j,vt g,vt hn]
theorem qjU {n i f:Nat} {e:M T} (c:(tk L i).kind≠3) (l:qg L i [[116,114,117,101]]=false) (g:qg L i [[102,97,108,115,101]]=false) (hn:qg L i [[110,105,108]]=false) (j:qg L i [[117,112],[100,111,119,110]]=false) (m:qg L i [[40]]=false):jz L n e i f=jp L n e i f:=by
 rw [qfo c l g hn,if_neg (by rw [j];decide),vt m]
theorem qjV {n i f:Nat} {e:M T} (h:(tk L i).kind=1):jz L n e i f=jp L n e i f:=
 qjU (by rw [h];decide) (yW h (by decide) (by decide)) (yW h (by decide) (by decide)) (yW h (by decide) (by decide)) (yW h (by decide) (by decide)) (yW h (by decide) (by decide))
theorem qld (hg:jv L) {n i f:Nat} (hn:L.length+4≤n+i) (Y:i<L.length) (C:(tk L i).kind=1) (H:vI L (i+1)) (E:(tk L (i+1)).text=[91]):∃g,q7 L n i f= .no g:=by
 cases o:q7 L n i f with
 |oof=>exact absurd o (qeT n i f (by omega))
 |no g=>exact ⟨g,rfl⟩
 |ok s j g=>
  exfalso;unfold q7 at o;cases q:jw L n i f with
  |oof=>rw [vg q] at o;cases o
  |no g=>rw [jJ q] at o;cases o
  |ok s1 R g1=>
   rw [qT q] at o;unfold sq at o;cases z:needs L [[36]] R g1 with
   |oof=>rw [vg z] at o;cases o
   |no g=>rw [jJ z] at o;cases o
   |ok u V Z=>
    obtain ⟨O,y,_⟩:=qaw z;unfold jw at q;cases c:kind L n i f with
    |oof=>rw [c] at q;cases q
    |no g=>rw [c] at q;cases q
    |ok S F U=>
     rw [c] at q;simp only [Rs.andThen,Rs.ok.injEq] at q;obtain ⟨_,rfl,_⟩:=q;obtain ⟨n',rfl⟩:∃n',n=n'+1:=⟨n - 1,by omega⟩;have m:∀s:Bs,qg L i [s]=false:=fun s=>yW C (by decide) (by decide);have e:kind L (n'+1) i f=sq (name L) (qe L [91] (sq (kind L n') (needs L [[93]])) (ret ())) i f:=by
      conv=>lhs;simp only [kind]
      rw [vt (m _),vt (m _),vt (m _),vt (m _),vt (m _),vt (m _),vt (m _)]
     rw [e] at c;unfold sq at c;rw [qlw C rfl] at c;by_cases x:qg L (i+1) [[91]]=true
     ·unfold qe at c;rw [if_pos x] at c;have A:(sq (kind L n') (needs L [[93]])) (i+1+1) f= .ok S F U:=c;obtain ⟨l,k,b,J⟩:=qqA (qhZ hg n') A;have B:=qip (j:=k) (r:=Dk L F) b;rw [←J,xB O] at B;exact H.br E _ _ B (by simp [qD,y])
     ·unfold qe at c;rw [if_neg x] at c;simp only [ret,Rs.ok.injEq] at c;obtain ⟨_,rfl,_⟩:=c;rw [E] at y;exact absurd y (by decide)
end
def Le {α:Type} (m m':M α):Prop:=∀i f,m i f≠ .oof→m' i f=m i f
theorem le_refl {c:Type} (m:M c):Le m m:=fun _ _ _=>rfl
theorem Le.trans {g:Type} {a b c:M g} (h:Le a b) (j:Le b c):Le a c:=fun i f hn=>by rw [j i f (by rw [h i f hn];exact hn),h i f hn]
theorem jj {l u:Type} {m o:M l} {k q:l→M u} (h:Le m o) (x:∀a,Le (k a) (q a)):Le (bnd m k) (bnd o q):=fun i f hn=>by
 cases c:m i f with
 |oof=>exact absurd (vg c) hn
 |no g=>rw [jJ c,jJ ((h i f (by rw [c];simp)).trans c)]
 |ok a j g=>
  rw [qT c] at hn⊢;rw [qT ((h i f (by rw [c];simp)).trans c)];exact x a j g hn
theorem xm {g:Type} {L:List Tok} {s:Bs} {x x' y c:M g} (l:Le x x') (j:Le y c):Le (qe L s x y) (qe L s x' c):=fun i f hn=>by
 unfold qe at hn⊢;split
 ·rename_i h;rw [if_pos h] at hn;exact l _ _ hn
 ·rename_i h;rw [if_neg h] at hn;exact j _ _ hn
theorem qlR {j:Type} {c:Nat→Prop} [∀i,Decidable (c i)] {x x' y g:M j} (m:Le x x') (l:Le y g):Le (fun i f=>if c i then x i f else y i f) (fun i f=>if c i then x' i f else g i f):=fun i f hn=>by
 dsimp only at hn⊢;split
 ·rename_i h;rw [if_pos h] at hn;exact m _ _ hn
 ·rename_i h;rw [if_neg h] at hn;exact l _ _ hn
theorem qdw {c:Type} {m:M c}:Le oof m:=fun i f hn=>absurd rfl hn
section
variable {L:List Tok}
theorem qlP {g:Type} {m c:M g} (h:Le m c):∀n,Le (more L m n) (more L c (n+1))
 |0=>qdw
 |n+1=>xm (jj h fun _=>jj (qlP h n) fun _=>le_refl _) (le_refl _)
theorem qgq {g:Type} {m c:M g} (h:Le m c) (n:Nat):Le (listed L n m) (listed L (n+1) c):=jj h fun _=>jj (qlP h n) fun _=>le_refl _
theorem qgs {g:Type} {m c:M g} (h:Le m c) (n:Nat):Le (vM L n m) (vM L (n+1) c):=jj (le_refl _) fun _=>xm (le_refl _) (jj (qgq h n) fun _=>le_refl _)
theorem qgr:∀n,Le (kind L n) (kind L (n+1))
 |0=>qdw
 |n+1=>by
  have c:=qgr n;have part:Le (z6 L (kind L n)) (z6 L (kind L (n+1))):=jj (le_refl _) fun _=>jj (le_refl _) fun _=>jj c fun _=>le_refl _;exact xm (le_refl _) (xm (le_refl _) (xm (le_refl _) (xm (jj (le_refl _) fun _=>jj c fun _=>le_refl _) (xm (jj (le_refl _) fun _=>jj (qgq part n) fun _=>le_refl _) (xm (jj (le_refl _) fun _=>jj (qgq part n) fun _=>le_refl _) (xm (le_refl _) (jj (le_refl _) fun _=>xm (jj c fun _=>le_refl _) (le_refl _))))))))
theorem qlN (n:Nat):Le (jw L n) (jw L (n+1)):=fun i f hn=>by
 unfold jw at hn⊢;cases c:kind L n i f with
 |oof=>rw [c] at hn;exact absurd rfl hn
 |no g=>rw [qgr n i f (by rw [c];simp),c]
 |ok a j g=>rw [qgr n i f (by rw [c];simp),c]
theorem qgp (n:Nat):Le (q7 L n) (q7 L (n+1)):=jj (qlN n) fun _=>le_refl _
theorem qbU {g:Type} {b:Bool} {m c:M g} (j:Le m c):Le (q8 b m) (q8 b c):=jj j fun _=>le_refl _
section
variable {e e':M T} (h:Le e e') (n:Nat)
include h
theorem qwj:Le (x6 L n e) (x6 L (n+1) e'):=jj (le_refl _) fun _=>xm (jj (qlN n) fun _=>jj (le_refl _) fun _=>jj (qgs h n) fun _=>le_refl _) (jj (qgs h n) fun _=>le_refl _)
theorem qlO (o:Bs):Le (vk L n e o) (vk L (n+1) e' o):=jj (le_refl _) fun _=>jj (qgs h n) fun _=>le_refl _
theorem qwh:Le (bnd (q7 L n) (vk L n e)) (bnd (q7 L (n+1)) (vk L (n+1) e')):=jj (qgp n) fun o=>qlO h n o
theorem qwi:Le (jp L n e) (jp L (n+1) e'):=fun i f hn=>by
 unfold jp at hn⊢;split
 ·rename_i c;rw [if_pos c] at hn;exact qbU (qwj h n) _ _ hn
 ·rename_i c;rw [if_neg c] at hn;split
  ·rename_i c2;rw [if_pos c2] at hn;cases l:q7 L n i f with
   |oof=>rw [l] at hn;exact absurd rfl hn
   |no g=>rw [qgp n i f (by rw [l];simp),l]
   |ok s j g=>
    rw [l] at hn;rw [qgp n i f (by rw [l];simp),l];exact qbU (qlO h n s) _ _ hn
  ·rename_i c2;rw [if_neg c2] at hn;split
   ·rfl
   ·rename_i c3;rw [if_neg c3] at hn;exact qbU (qwh h n) _ _ hn
theorem qwd:Le (xC L e) (xC L e'):=fun i f hn=>jj (le_refl (needs L [[40]])) (fun _=>jj h fun _=>le_refl _) _ _ hn
theorem qwg:Le (wO L e) (wO L e'):=jj h fun _=>le_refl _
theorem qwe:Le (jz L n e) (jz L (n+1) e'):=fun i f hn=>by
 unfold jz at hn⊢;split
 ·rfl
 ·rename_i c;rw [if_neg c] at hn;refine xm (le_refl _) (xm (le_refl _) (xm (le_refl _) ?_)) i f hn;exact qlR (c:=fun i=>qg L i [[117,112],[100,111,119,110]]=true) (qbU (qwd h)) (xm (qbU (qwg h)) (qwi h n))
theorem qgo:∀n t fm,Le (zC L e n t fm) (zC L e' (n+1) t fm)
 |0,_,_=>qdw
 |n+1,t,fm=>xm (jj h fun k=>jj (le_refl _) fun _=>qgo n _ _) (xm (jj (le_refl _) fun s=>qgo n _ _) (le_refl _))
theorem qwf:Le (zZ L n e) (zZ L (n+1) e'):=jj (qwe h n) fun p=>qgo h n _ _
end
theorem qwk {p g:M (T×Nat)} (h:Le p g):Le (xR L p) (xR L g):=xm (jj h fun _=>le_refl _) (jj h fun x=>qlR (c:=fun i=>qg L i xx=true) (fun i f hn=>jj h (fun _=>le_refl _) _ _ hn) (le_refl _))
theorem qlS:∀n,Le (qH L n) (qH L (n+1))
 |0=>qdw
 |n+1=>qwk (qwf (qlS n) n)
theorem qlQ {c:Type} {m:Nat→M c} (h:∀n,Le (m n) (m (n+1))) (n:Nat):∀k,Le (m n) (m (n+k))
 |0=>le_refl _
 |k+1=>(qlQ h n k).trans (h (n+k))
end
theorem qjc {L:List Tok} {ks:List (Nat×Bs)} (h:L.map qD=ks):wi L 0 ks:=fun m g=>by
 subst h;have c:m<L.length:=by simpa using g
 refine ⟨by omega, ?_, ?_⟩
 ·rw [Nat.zero_add,kz c];simp [qD]
 ·rw [Nat.zero_add,kz c];simp [qD]
theorem qjH {L:List Tok} {j:Nat} (h:L.length≤j):Stop L j:=by
 have:tk L j=⟨0,[],0⟩:=kw h;refine ⟨?_,by rw [this];decide⟩;unfold qg;rw [this];rfl
section
variable {L:List Tok}
theorem qeb {c:Type} {a:c} {i f:Nat} (h:i<L.length) (o:(tk L i).text≠[91]) (m:(tk L i).text≠[93]) {b:c} {j g:Nat} (e:Rs.ok a (i+1) f= .ok b j g):∃l,kQ l∧Dk L i=l++Dk L j:=by
 simp only [Rs.ok.injEq] at e;obtain ⟨_,rfl,_⟩:=e;exact ⟨[qD (tk L i)],qeo o m,xB h⟩
theorem qp6 (hg:jv L) (n:Nat):ja L (jw L n):=fun i f a j g h=>by
 unfold jw at h;cases c:kind L n i f with
 |oof=>rw [c] at h;cases h
 |no g=>rw [c] at h;cases h
 |ok u l g1=>
  rw [c] at h;simp only [Rs.andThen,Rs.ok.injEq] at h;obtain ⟨_,rfl,_⟩:=h;exact qhZ hg n _ _ _ _ _ c
theorem qiP {i:Nat} {ss:List Bs} (h:qg L i ss=true) (g:ss.contains [91]=false) (c:ss.contains [93]=false):(tk L i).text≠[91]∧(tk L i).text≠[93]:=by
 unfold qg at h;simp only [Bool.and_eq_true] at h;constructor
 ·intro e;rw [e,g] at h;cases h.2
 ·intro e;rw [e,c] at h;cases h.2
theorem qz8 (hg:jv L):ja L (op L):=fun i f a j g h=>by
 unfold op at h;split at h
 ·rename_i c;have l:=xM c.1 (by decide);refine qeb l ?_ ?_ h
  ·intro e;rw [e] at c;exact absurd c.2 (by decide)
  ·intro e;rw [e] at c;exact absurd c.2 (by decide)
 ·exact (jl (qaQ hg) fun s=>xo (by decide) (by decide) (jl (qaQ hg) fun _=>jI _) (jI _)) i f a j g h
theorem qp7 (hg:jv L) (n:Nat):ja L (q7 L n):=jl (qp6 hg n) fun _=>jl (y4 (by decide) (by decide)) fun _=>jI _
theorem qh1 {c:Type} {m:M c} (g:ja L m) (n:Nat):ja L (vM L n m):=jl (y4 (by decide) (by decide)) fun _=>xo (by decide) (by decide) (jI _) (jl (qhY g n) fun _=>jl (y4 (by decide) (by decide)) fun _=>jI _)
section
variable {e:M T} (he:ja L e) (hg:jv L) (n:Nat)
include he hg
theorem qAa:ja L (x6 L n e):=jl (qaQ hg) fun _=>xo (by decide) (by decide) (jl (qp6 hg n) fun _=>jl (y4 (by decide) (by decide)) fun _=>jl (qh1 he n) fun _=>jI _) (jl (qh1 he n) fun _=>jI _)
theorem qp8 (o:Bs):ja L (vk L n e o):=jl (qz8 hg) fun _=>jl (qh1 he n) fun _=>jI _
theorem qz9:ja L (jp L n e):=fun i f a j g h=>by
 unfold jp at h;split at h
 ·exact jl (qAa he hg n) (fun _=>jI _) _ _ _ _ _ h
 ·split at h
  ·rename_i c;have l:=xM c.1 (by decide);have hn:qo (tk L i).text=true:=by
    have:=hg (tk L i) (by rw [kz l];exact List.getElem_mem _);rw [c.1] at this;simpa [right] using this
   split at h
   ·rename_i s z g1 x;obtain ⟨l1,q,m⟩:=qp7 hg n _ _ _ _ _ x;obtain ⟨u,b2,y⟩:=jl (qp8 he hg n s) (fun _=>jI _) _ _ _ _ _ h;exact ⟨l1++u,qep q b2,by rw [m,y,List.append_assoc]⟩
   ·exact qeb l (qbR hn).1 (qbR hn).2 h
   ·cases h
  ·split at h
   ·rename_i c;have l:=xM c.1 (by decide);have hn:qo (tk L i).text=true:=by
     have:=hg (tk L i) (by rw [kz l];exact List.getElem_mem _);rw [c.1] at this;simpa [right] using this
    exact qeb l (qbR hn).1 (qbR hn).2 h
   ·exact jl (jl (qp7 hg n) fun o=>qp8 he hg n o) (fun _=>jI _) _ _ _ _ _ h
theorem qz5:ja L (jz L n e):=fun i f a j g h=>by
 unfold jz at h;split at h
 ·rename_i u;have o:=xM u (by decide);have q:=hg (tk L i) (by rw [kz o];exact List.getElem_mem _);rw [u] at q;have hn:qY (tk L i).text=true:=by simpa [right] using q
  refine qeb o ?_ ?_ h
  ·intro e;rw [e] at hn;exact absurd hn (by decide)
  ·intro e;rw [e] at hn;exact absurd hn (by decide)
 ·refine xo (by decide) (by decide) (jI _) (xo (by decide) (by decide) (jI _) (xo (by decide) (by decide) (jI _) ?_)) i f a j g h;intro i f a j g h;dsimp only at h;split at h
  ·rename_i c;have o:=xn c;obtain ⟨w1,x⟩:=qiP c (by decide) (by decide);have hin:ja L (sq (needs L [[40]]) (bnd e fun t=>sq (needs L [[41]]) (ret (T.mk {kind:=if qg L i [[100,111,119,110]] then 10 else 9} [t])))):=jl (y4 (by decide) (by decide)) fun _=>jl he fun _=>jl (y4 (by decide) (by decide)) fun _=>jI _;cases m:xC L e i f with
   |oof=>unfold q8 at h;rw [vg m] at h;cases h
   |no g=>unfold q8 at h;rw [jJ m] at h;cases h
   |ok t z g1=>
    unfold q8 at h;rw [qT m] at h;simp only [ret,Rs.ok.injEq] at h;obtain ⟨_,rfl,_⟩:=h;obtain ⟨l,b,y⟩:=hin _ _ _ _ _ m;exact ⟨qD (tk L i)::l,qio w1 x b,by rw [xB o,y];rfl⟩
  ·exact xo (by decide) (by decide) (jl (jl he fun _=>jl (y4 (by decide) (by decide)) fun _=>jI _) fun _=>jI _) (qz9 he hg n) i f a j g h
theorem qhX:∀n t fm,ja L (zC L e n t fm)
 |0,_,_=>fun i f a j g h=>by cases h
 |n+1,t,fm=>fun i f a j g h=>by
  have c:qe L [91] (bnd e fun k=>sq (needs L [[93]]) (zC L e n (T.mk {kind:=7} [t,k]) 2)) (qe L [46] (bnd (name L) fun s=>zC L e n (T.mk {kind:=8,name:=s} [t]) 3) (ret (t,fm))) i f= .ok a j g:=h;by_cases l:qg L i [[91]]=true
  ·unfold qe at c;rw [if_pos l] at c;have F:=xn l;have x:(tk L i).text=[91]:=by
    unfold qg at l;simp only [List.contains_cons,List.contains_nil,Bool.or_false,Bool.and_eq_true,beq_iff_eq] at l;exact l.2
   cases m:e (i+1) f with
   |oof=>rw [vg m] at c;cases c
   |no g=>rw [jJ m] at c;cases c
   |ok k q g1=>
    rw [qT m] at c;unfold sq at c;cases o:needs L [[93]] q g1 with
    |oof=>rw [vg o] at c;cases c
    |no g=>rw [jJ o] at c;cases c
    |ok u H J=>
     rw [qT o] at c;obtain ⟨E,B,rfl⟩:=qaw o;obtain ⟨l1,z,y⟩:=he _ _ _ _ _ m;obtain ⟨A,b2,C⟩:=qhX n _ _ _ _ _ _ _ c;refine ⟨((tk L i).kind,[91])::(l1++[((tk L q).kind,[93])])++A,qep (qqJ z) b2, ?_⟩;rw [xB F,y,xB E,C];simp [qD,x,B]
  ·rw [vt (by simpa using l)] at c;exact xo (by decide) (by decide) (jl (qaQ hg) fun s=>qhX n _ _) (jI _) i f a j g c
theorem qz6:ja L (zZ L n e):=jl (qz5 he hg n) fun p=>qhX he hg n _ _
end
theorem qAc {p:M (T×Nat)} (h:ja L p):ja L (xR L p):=xo (by decide) (by decide) (jl h fun _=>jI _) (jl h fun x=>fun i f a j g c=>by
 split at c
 ·rename_i m;have q:=xn m;obtain ⟨w1,o⟩:=qiP m (by decide) (by decide);obtain ⟨l,b,e⟩:=jl h (fun y=>jI (T.mk {kind:=6,name:=(tk L i).text} [x.1,y.1])) _ _ _ _ _ c;exact ⟨qD (tk L i)::l,qio w1 o b,by rw [xB q,e];rfl⟩
 ·exact jI _ _ _ _ _ _ c)
theorem qh0 (hg:jv L):∀n,ja L (qH L n)
 |0=>fun i f a j g h=>by cases h
 |n+1=>qAc (qz6 (qh0 hg n) hg n)
end
def jm (ts:List Tok) (off:Nat) (P:Nat→Prop) {α:Type} (m m':M α):Prop:=∀i f a j g,i≤ts.length→m i f= .ok a j g→P j→j≤ts.length∧∀f',∃g',m' (off+i) f'= .ok a (off+j) g'
section
variable {ts L:List Tok} {off:Nat}
theorem jW.p {l:Type} {m c:M l} {P:Nat→Prop} (h:jW ts off m c):jm ts off P m c:=fun i f a j g o e _=>h i f a j g o e
theorem vK {o F:Type} {P Q:Nat→Prop} {m u:M o} {k l:o→M F} (h:jm ts off Q m u) (E:∀a,jm ts off P (k a) (l a)) (z:∀a i f b j g,k a i f= .ok b j g→P j→Q i):jm ts off P (bnd m k) (bnd u l):=fun i f b j g R e x=>by
 cases c:m i f with
 |oof=>rw [vg c] at e;cases e
 |no g=>rw [jJ c] at e;cases e
 |ok a q g1=>
  rw [qT c] at e;obtain ⟨U,B⟩:=h i f a q g1 R c (z _ _ _ _ _ _ e x);obtain ⟨y,A⟩:=E a q g1 b j g U e x;refine ⟨y,fun H=> ?_⟩;obtain ⟨S,C⟩:=B H;obtain ⟨O,J⟩:=A S;exact ⟨O,by rw [qT C,J]⟩
theorem wQ {J:Type} {P:Nat→Prop} (hI:vH ts L off) {s:Bs} {x y x' B:M J} (O:jm ts off P x x') (F:jm ts off P y B) (he:EF ts y∨(tk L (off+ts.length)).text≠s):jm ts off P (qe ts s x y) (qe L s x' B):=fun i f b j g E e A=>by
 unfold qe at e;by_cases H:i<ts.length
 ·have C:=qaC hI H [s];split at e
  ·rename_i q;obtain ⟨o,c⟩:=O (i+1) f b j g H e A;refine ⟨o,fun l=> ?_⟩;obtain ⟨m,e'⟩:=c l;exact ⟨m,by unfold qe;rw [C,q];simpa [Nat.add_assoc] using e'⟩
  ·rename_i q;have z:qg ts i [s]=false:=by simpa using q
   obtain ⟨o,c⟩:=F i f b j g E e A;refine ⟨o,fun l=> ?_⟩;obtain ⟨m,e'⟩:=c l;exact ⟨m,by unfold qe;rw [C,z];simpa using e'⟩
 ·have u:i=ts.length:=by omega
  subst u;rw [qbX] at e;simp only [Bool.false_eq_true,if_false] at e;rcases he with he|he
  ·exact absurd e (he _ _ _ _)
  ·obtain ⟨o,c⟩:=F _ f b j g E e A;refine ⟨o,fun l=> ?_⟩;obtain ⟨m,e'⟩:=c l;refine ⟨m, ?_⟩;rw [vt (vo rfl (by simpa using fun e=>he e)),e']
def ND (ts:List Tok) {α:Type} (m:M α):Prop:=∀i f b j g,m i f= .ok b j g→(tk ts i).text≠[36]
def XD (ts:List Tok):Nat→Prop:=fun j=>(tk ts j).text≠[36]
theorem qgh {l:Type} {s:Bs} {x:M l} (h:s≠[36]):ND ts (sq (needs ts [s]) x):=fun i f b j g e=>by
 unfold sq at e;cases c:needs ts [s] i f with
 |oof=>rw [vg c] at e;cases e
 |no g=>rw [jJ c] at e;cases e
 |ok u m o=>rw [(qaw c).2.1];exact h
theorem qvH {l:Type} {s:Bs} {x y:M l} (h:s≠[36]) (m:ND ts y):ND ts (qe ts s x y):=fun i f b j g e=>by
 unfold qe at e;split at e
 ·rename_i c;unfold qg at c;simp only [List.contains_cons,List.contains_nil,Bool.or_false,Bool.and_eq_true,beq_iff_eq] at c;rw [c.2];exact h
 ·exact m _ _ _ _ _ e
theorem qgi {c g:Type} (L:List Tok) (m:M c) (n:Nat) (k:List c→M g):bnd (more L m (n+1)) k=qe L [44] (bnd m fun x=>bnd (more L m n) fun xs=>k (x::xs)) (k []):=by
 funext i f;show bnd (qe L [44] (bnd m fun x=>bnd (more L m n) fun xs=>ret (x::xs)) (ret [])) k i f=_;simp only [qcF,x9,wc]
theorem qlv {c o:Type} {m:M c} {k:List c→M o} (q:∀l,ND ts (k l)):∀n,ND ts (bnd (more ts m n) k)
 |0=>fun i f b j g e=>by cases e
 |n+1=>by rw [qgi];exact qvH (by decide) (q [])
theorem qlI {o A:Type} {P:Nat→Prop} (hI:vH ts L off) {m y:M o} (z:jm ts off (XD ts) m y) {k c:List o→M A} (q:∀l,jm ts off P (k l) (c l)) (he:∀l,EF ts (k l)) (u:∀l,ND ts (k l)):∀n n',n≤n'→jm ts off P (bnd (more ts m n) k) (bnd (more L y n') c)
 |0,_,_=>fun i f a j g _ e _=>by cases e
 |n+1,0,h=>by omega
 |n+1,n'+1,h=>by
  rw [qgi,qgi];exact wQ hI (vK z (fun x=>qlI hI z (fun l=>q (x::l)) (fun l=>he (x::l)) (fun l=>u (x::l)) n n' (by omega)) fun x i f b j g e _=>qlv (fun l=>u (x::l)) n _ _ _ _ _ e) (q []) (.inl (he []))
theorem qv6 {c u:Type} {P:Nat→Prop} (hI:vH ts L off) {m z:M c} (A:jm ts off (XD ts) m z) {k q:List c→M u} (B:∀l,jm ts off P (k l) (q l)) (he:∀l,EF ts (k l)) (y:∀l,ND ts (k l)) {n n':Nat} (h:n≤n'):jm ts off P (bnd (listed ts n m) k) (bnd (listed L n' z) q):=by
 have o:∀(L:List Tok) (n:Nat) (m:M c) (k:List c→M u),bnd (listed L n m) k=bnd m fun x=>bnd (more L m n) fun xs=>k (x::xs):=fun L n m k=>by
  funext i f;show bnd (bnd m fun x=>bnd (more L m n) fun xs=>ret (x::xs)) k i f=_;simp only [x9,wc]
 rw [o,o];exact vK A (fun x=>qlI hI A (fun l=>B (x::l)) (fun l=>he (x::l)) (fun l=>y (x::l)) n n' h) fun x i f b j g e _=>qlv (fun l=>y (x::l)) n _ _ _ _ _ e
theorem qAr (hI:vH ts L off) (hL:off+ts.length≤L.length) {i j:Nat} (o:j≤ts.length):vm (vZ L (off+i) (off+j))=vm (vZ ts i j):=by
 have c:(vZ L (off+i) (off+j)).map (·.text)=(vZ ts i j).map (·.text):=by
  apply List.ext_getElem
  ·simp [vZ];omega
  ·intro m q g;have l:m<j - i:=by
    have:m<(vZ ts i j).length:=by simpa using g
    simp [vZ] at this;omega
   have:=(hI (i+m) (by omega)).2;rw [qeW (by omega),qeW (by omega)] at this;simp only [List.getElem_map,vZ,List.getElem_drop,List.getElem_take];rw [←this];congr 2;omega
 unfold vm;rw [c]
theorem qlE (hI:vH ts L off) (hL:off+ts.length≤L.length) (hS:(tk L (off+ts.length)).text≠[91]) {n n':Nat} (h:n≤n'):jW ts off (jw ts n) (jw L n'):=fun i f a j g y e=>by
 unfold jw at e;cases c:kind ts n i f with
 |oof=>rw [c] at e;cases e
 |no g=>rw [c] at e;cases e
 |ok u o g1=>
  rw [c] at e;simp only [Rs.andThen,Rs.ok.injEq] at e;obtain ⟨rfl,rfl,_⟩:=e;obtain ⟨l,m⟩:=qlG hI hS n n' h i f u o g1 y c;refine ⟨l,fun q=> ?_⟩;obtain ⟨x,e'⟩:=m q;refine ⟨x, ?_⟩;unfold jw;rw [e'];show Rs.ok _ _ _=_;congr 1;exact qAr hI hL l
theorem qz3:∀n,EF ts (kind ts n)
 |0=>fun f a j g e=>by cases e
 |n+1=>jr (jr (jr (jr (jr (jr (jr (x8 qhW)))))))
theorem qz2 (n:Nat):EF ts (jw ts n):=fun f a j g e=>by
 unfold jw at e;cases c:kind ts n ts.length f with
 |oof=>rw [c] at e;cases e
 |no g=>rw [c] at e;cases e
 |ok u l g1=>exact qz3 n _ _ _ _ c
theorem qbc:tk ts ts.length=⟨0,[],0⟩:=kw (Nat.le_refl _)
theorem qea (n:Nat) (e:M T):EF ts (jp ts n e):=fun f a j g h=>by
 unfold jp at h;rw [qbc] at h;simp only [show¬((0:Nat)=1) by decide,false_and,if_false] at h;exact x8 (x8 (x8 (qz2 n))) f a j g h
theorem qhU (n:Nat) (e:M T):EF ts (jz ts n e):=fun f a j g h=>by
 unfold jz at h;rw [qbc] at h;simp only [show¬((0:Nat)=3) by decide,if_false] at h;refine jr (jr (jr ?_)) f a j g h;intro f a j g h;dsimp only at h;rw [qbX,if_neg (by decide)] at h;exact jr (qea n e) f a j g h
theorem qz4:∀n,EF ts (qH ts n)
 |0=>fun f a j g e=>by cases e
 |n+1=>jr (x8 (x8 (qhU n _)))
theorem qvY (hI:vH ts L off) (hL:off+ts.length≤L.length) (hS:(tk L (off+ts.length)).text≠[91]) {n n':Nat} (h:n≤n'):jW ts off (q7 ts n) (q7 L n'):=xI (qlE hI hL hS h) fun _=>xI (kG hI _) fun _=>vC _
theorem qvZ (hI:vH ts L off) (hS:(tk L (off+ts.length)).text≠[95]):jW ts off (op ts) (op L):=fun i f a j g y e=>by
 unfold op at e;by_cases l:(tk ts i).kind=2∧ke.contains (tk ts i).text=true
 ·rw [if_pos l] at e;have c:=xM l.1 (by decide);simp only [Rs.ok.injEq] at e;obtain ⟨rfl,rfl,_⟩:=e;refine ⟨c,fun m=>⟨m, ?_⟩⟩;unfold op;rw [(hI i c).1,(hI i c).2,if_pos l];rfl
 ·rw [if_neg l] at e;have q:jW ts off (bnd (name ts) fun s=>qe ts [95] (bnd (name ts) fun u=>ret (s++([95]++u))) (ret s)) (bnd (name L) fun s=>qe L [95] (bnd (name L) fun u=>ret (s++([95]++u))) (ret s)):=
   xI (qay hI) fun s=>wt hI (xI (qay hI) fun _=>vC _) (vC _) (.inr hS)
  obtain ⟨z,o⟩:=q i f a j g y e;have c:i<ts.length:=by
   by_cases c:i<ts.length
   ·exact c
   ·have:i=ts.length:=by omega
    rw [this] at e;exact absurd e (x8 qhW _ _ _ _)
  refine ⟨z,fun m=> ?_⟩;obtain ⟨x,e'⟩:=o m;refine ⟨x, ?_⟩;unfold op;rw [(hI i c).1,(hI i c).2,if_neg l];exact e'
theorem wV (hS:(tk L (off+ts.length)).text=[41]∨(tk L (off+ts.length)).text=[93]) {s:Bs} (g:s≠[41]) (c:s≠[93]):(tk L (off+ts.length)).text≠s:=by
 rcases hS with h|h<;>rw [h]
 ·exact fun e=>g e.symm
 ·exact fun e=>c e.symm
section
variable {e e':M T} (hef:EF ts e) (he:jm ts off (XD ts) e e') (hI:vH ts L off) (hL:off+ts.length≤L.length) (hS:(tk L (off+ts.length)).text=[41]∨(tk L (off+ts.length)).text=[93]) {n n':Nat} (hn:n≤n')
include hef he hI hL hS hn
theorem qlJ {P:Nat→Prop}:jm ts off P (vM ts n e) (vM L n' e'):=by
 have k:∀l:List T,jm ts off P (sq (needs ts [[41]]) (ret l)) (sq (needs L [[41]]) (ret l)):=fun l=>(xI (kG hI _) fun _=>vC _).p;have c:∀l:List T,EF ts (sq (needs ts [[41]]) (ret l)):=fun l=>x8 (qhV _);have g:=qv6 (P:=P) hI he k c (fun l=>qgh (by decide)) hn;refine vK (Q:=fun _=>True) (kG hI _).p (fun _=>wQ hI (vC _).p g (.inl ?_)) fun _ _ _ _ _ _ _ _=>trivial;exact x8 (x8 hef)
theorem qv5 {P:Nat→Prop}:jm ts off P (x6 ts n e) (x6 L n' e'):=by
 have m:=qlJ (P:=P) hef he hI hL hS hn;have l:=wV hS (s:=[91]) (by decide) (by decide);refine vK (Q:=fun _=>True) (qay hI).p (fun nm=>wQ hI (vK (Q:=fun _=>True) (qlE hI hL l hn).p (fun t=>vK (Q:=fun _=>True) (kG hI _).p (fun _=>vK (Q:=P) m (fun _=>(vC _).p) ?_) fun _ _ _ _ _ _ _ _=>trivial) fun _ _ _ _ _ _ _ _=>trivial) (vK (Q:=P) m (fun _=>(vC _).p) ?_) (.inl ?_)) fun _ _ _ _ _ _ _ _=>trivial
 ·intro a i f b j g h c;simp only [ret,Rs.ok.injEq] at h;obtain ⟨_,rfl,_⟩:=h;exact c
 ·intro a i f b j g h c;simp only [ret,Rs.ok.injEq] at h;obtain ⟨_,rfl,_⟩:=h;exact c
 ·exact x8 (x8 (qhV _))
theorem qlH {P:Nat→Prop} (o:Bs):jm ts off P (vk ts n e o) (vk L n' e' o):=by
 have l:=qlJ (P:=P) hef he hI hL hS hn;refine vK (Q:=fun _=>True) (qvZ hI (wV hS (by decide) (by decide))).p (fun nm=>vK (Q:=P) l (fun _=>(vC _).p) ?_) fun _ _ _ _ _ _ _ _=>trivial;intro a i f b j g h c;simp only [ret,Rs.ok.injEq] at h;obtain ⟨_,rfl,_⟩:=h;exact c
end
end
theorem qeh:∀(a:List (Nat×Bs)) (d:Nat) (r b:List (Nat×Bs)),xd d a=some r→xd d (a++b)=some (r++b)
 |[],_,_,_,h=>by cases h
 |x::a,d,r,b,h=>by
  unfold xd at h;rw [List.cons_append];unfold xd;split at h
  ·rename_i g;rw [if_pos g];exact qeh a _ r b h
  ·rename_i g;rw [if_neg g];split at h
   ·rename_i c;rw [if_pos c];cases d with
    |zero=>cases h;rfl
    |succ e=>exact qeh a e r b h
   ·rename_i c;rw [if_neg c];exact qeh a d r b h
section
variable {ts L:List Tok} {off:Nat}
theorem qq7 (hI:vH ts L off) (hL:off+ts.length≤L.length):∀(k i:Nat),i+k=ts.length→Dk L (off+i)=Dk ts i++Dk L (off+ts.length)
 |0,i,h=>by rw [qeE (L:=ts) (by omega)];simp at h;rw [h];rfl
 |k+1,i,h=>by
  have c:i<ts.length:=by omega
  have g:=qq7 hI hL k (i+1) (by omega);rw [xB (show off+i<L.length by omega),xB c,Nat.add_assoc,g];have:=hI i c;simp [qD,this.1,this.2]
def AT (ts:List Tok) (j:Nat):Prop:=(tk ts j).text≠[36]∧((tk ts j).text=[91]→∃r,xd 0 (Dk ts (j+1))=some r∧∀x r',r=x::r'→x.2≠[36])
section
variable {e e':M T} (hef:EF ts e) (he:jm ts off (XD ts) e e') (hg:jv L) (hI:vH ts L off) (hL:off+ts.length≤L.length) (hS:(tk L (off+ts.length)).text=[41]∨(tk L (off+ts.length)).text=[93]) {n n':Nat} (hn:n≤n') (hN:L.length+4≤n')
include hef he hg hI hL hS hn hN
theorem qv4:jm ts off (AT ts) (jp ts n e) (jp L n' e'):=fun i f a j g hi h H=>by
 have F:i<ts.length:=by
  by_cases F:i<ts.length
  ·exact F
  ·have:i=ts.length:=by omega
   rw [this] at h;exact absurd h (qea n e _ _ _ _)
 obtain ⟨k1,k2⟩:=hI i F;have nx:∀s:Bs,s≠[]→s≠[41]→s≠[93]→((tk L (off+i+1)).text=s↔(tk ts (i+1)).text=s):=fun s h0 E q=>by
  by_cases u:i+1<ts.length
  ·rw [show off+i+1=off+(i+1) by omega,(hI _ u).2]
  ·rw [show off+i+1=off+ts.length by omega,show i+1=ts.length by omega,qbc];exact ⟨fun h=>absurd h (wV hS E q),fun h=>absurd h.symm h0⟩
 have Y:∀{m m':M T} {b:Bool},jm ts off (AT ts) m m'→jm ts off (AT ts) (q8 b m) (q8 b m'):=fun h=>vK h (fun _=>(vC _).p) fun a i f b j g e hp=>by
  simp only [ret,Rs.ok.injEq] at e;obtain ⟨_,rfl,_⟩:=e;exact hp
 have hm:=Y (b:=true) (qv5 (P:=AT ts) hef he hI hL hS hn);have ho:=fun o=>Y (b:=true) (qlH (P:=AT ts) hef he hI hL hS hn o);have V:=wV hS (s:=[91]) (by decide) (by decide);have hw:=qvY hI hL V hn;have n1:=nx [40] (by decide) (by decide) (by decide);have n2:=nx [123] (by decide) (by decide) (by decide);have n3:=nx [91] (by decide) (by decide) (by decide);have n4:=nx [36] (by decide) (by decide) (by decide);unfold jp at h;by_cases c1:(tk ts i).kind=1∧((tk ts (i+1)).text=[40]∨(tk ts (i+1)).text=[123])
 ·rw [if_pos c1] at h;obtain ⟨E,q⟩:=hm i f a j g hi h H;refine ⟨E,fun A=> ?_⟩;obtain ⟨Z,e'⟩:=q A;refine ⟨Z, ?_⟩;unfold jp;rw [if_pos ⟨k1.trans c1.1,c1.2.imp n1.2 n2.2⟩];exact e'
 rw [if_neg c1] at h;have B:¬((tk L (off+i)).kind=1∧((tk L (off+i+1)).text=[40]∨(tk L (off+i+1)).text=[123])):=fun h=>c1 ⟨k1.symm.trans h.1,h.2.imp n1.1 n2.1⟩;by_cases c2:(tk ts i).kind=1∧(tk ts (i+1)).text=[91]
 ·rw [if_pos c2] at h;have c:(tk L (off+i)).kind=1∧(tk L (off+i+1)).text=[91]:=⟨k1.trans c2.1,n3.2 c2.2⟩;cases z:q7 ts n i f with
  |oof=>rw [z] at h;cases h
  |ok s j1 g1=>
   rw [z] at h;obtain ⟨w1,w2⟩:=hw i f s j1 g1 hi z;obtain ⟨E,q⟩:=ho s j1 g1 a j g w1 h H;refine ⟨E,fun A=> ?_⟩;obtain ⟨g2,U⟩:=w2 A;obtain ⟨g3,e3⟩:=q g2;refine ⟨g3, ?_⟩;unfold jp;rw [if_neg B,if_pos c,U];exact e3
  |no g1=>
   rw [z] at h;simp only [Rs.ok.injEq] at h;obtain ⟨rfl,rfl,_⟩:=h;refine ⟨F,fun A=> ?_⟩;have O:vI L (off+i+1):=by
    refine ⟨by rw [c.2];decide,fun _ x r hx=> ?_⟩;obtain ⟨r0,S,J⟩:=H.2 c2.2;have hd:Dk L (off+i+1+1)=Dk ts (i+1+1)++Dk L (off+ts.length):=by
     have u:i+1<ts.length:=by
      by_cases u:i+1<ts.length
      ·exact u
      ·rw [show i+1=ts.length by omega,qbc] at c2;exact absurd c2.2 (by decide)
     rw [←qq7 hI hL (ts.length - (i+1+1)) (i+1+1) (by omega)];congr 1
    rw [hd,qeh _ _ _ _ S] at hx;have l:=Option.some.inj hx;cases r0 with
    |nil=>
     rw [List.nil_append] at l;by_cases R:off+ts.length<L.length
     ·rw [xB R] at l;rw [←(List.cons.inj l).1];exact wV hS (by decide) (by decide)
     ·rw [qeE (by omega)] at l;cases l
    |cons y r0=>
     rw [List.cons_append] at l;rw [←(List.cons.inj l).1];exact J y r0 rfl
   obtain ⟨g2,U⟩:=qld hg (f:=A) (show L.length+4≤n'+(off+i) by omega) (by omega) c.1 O c.2;refine ⟨g2, ?_⟩;unfold jp;rw [if_neg B,if_pos c,U,k2];rfl
 rw [if_neg c2] at h;have c:¬((tk L (off+i)).kind=1∧(tk L (off+i+1)).text=[91]):=fun h=>c2 ⟨k1.symm.trans h.1,n3.1 h.2⟩;by_cases c3:(tk ts i).kind=1∧(tk ts (i+1)).text≠[36]
 ·rw [if_pos c3] at h;simp only [Rs.ok.injEq] at h;obtain ⟨rfl,rfl,_⟩:=h;refine ⟨F,fun A=>⟨A, ?_⟩⟩;unfold jp;rw [if_neg B,if_neg c,if_pos ⟨k1.trans c3.1,fun h=>c3.2 (n4.1 h)⟩,k2];rfl
 rw [if_neg c3] at h;have C:jm ts off (AT ts) (q8 true (bnd (q7 ts n) (vk ts n e))) (q8 true (bnd (q7 L n') (vk L n' e'))):=Y (vK (Q:=fun _=>True) hw.p (fun o=>qlH (P:=AT ts) hef he hI hL hS hn o) fun _ _ _ _ _ _ _ _=>trivial);obtain ⟨E,q⟩:=C i f a j g hi h H;refine ⟨E,fun A=> ?_⟩;obtain ⟨Z,e'⟩:=q A;refine ⟨Z, ?_⟩;unfold jp;rw [if_neg B,if_neg c,if_neg (fun h=>c3 ⟨k1.symm.trans h.1,fun q=>h.2 (n4.2 q)⟩)];exact e'
theorem qv2:jm ts off (AT ts) (jz ts n e) (jz L n' e'):=fun i f a j g R h H=>by
 have o:i<ts.length:=by
  by_cases o:i<ts.length
  ·exact o
  ·have:i=ts.length:=by omega
   rw [this] at h;exact absurd h (qhU n e _ _ _ _)
 obtain ⟨k1,k2⟩:=hI i o;have B:∀{m U:M T} {b:Bool},jm ts off (XD ts) m U→(∀i f b j g,m i f= .ok b j g→AT ts j→XD ts j)→jm ts off (AT ts) (q8 b m) (q8 b U):=fun h z=>vK h (fun _=>(vC _).p) fun a i f b j g e Y=>by
  simp only [ret,Rs.ok.injEq] at e;obtain ⟨_,rfl,_⟩:=e;exact Y.1
 have c:∀(mk:T→T),jm ts off (XD ts) (bnd e fun t=>sq (needs ts [[41]]) (ret (mk t))) (bnd e' fun t=>sq (needs L [[41]]) (ret (mk t))):=fun mk=>vK he (fun _=>(xI (kG hI _) fun _=>vC _).p) fun a i f b j g e _=>qgh (by decide) _ _ _ _ _ e;unfold jz at h;by_cases c0:(tk ts i).kind=3
 ·rw [if_pos c0] at h;simp only [Rs.ok.injEq] at h;obtain ⟨rfl,rfl,_⟩:=h;refine ⟨o,fun l=>⟨l, ?_⟩⟩;unfold jz;rw [if_pos (k1.trans c0),k2];rfl
 rw [if_neg c0] at h;have u:jm ts off (AT ts) (qe ts [116,114,117,101] (ret (T.mk {kind:=2,n:=1} [],false)) (qe ts [102,97,108,115,101] (ret (T.mk {kind:=2} [],false)) (qe ts [110,105,108] (ret (T.mk {kind:=3} [],false))
   fun i f=>if qg ts i [[117,112],[100,111,119,110]] then q8 false (xC ts e) i f else qe ts [40] (q8 false (wO ts e)) (jp ts n e) i f)))
   (qe L [116,114,117,101] (ret (T.mk {kind:=2,n:=1} [],false)) (qe L [102,97,108,115,101] (ret (T.mk {kind:=2} [],false)) (qe L [110,105,108] (ret (T.mk {kind:=3} [],false))
   fun i f=>if qg L i [[117,112],[100,111,119,110]] then q8 false (xC L e') i f else qe L [40] (q8 false (wO L e')) (jp L n' e') i f))):=by
  refine wQ hI (vC _).p (wQ hI (vC _).p (wQ hI (vC _).p ?_ (.inr (wV hS (by decide) (by decide)))) (.inr (wV hS (by decide) (by decide)))) (.inr (wV hS (by decide) (by decide)));intro i f a j g R h H;dsimp only at h⊢;by_cases o:i<ts.length
  ·have C:=qaC hI o [[117,112],[100,111,119,110]];by_cases F:qg ts i [[117,112],[100,111,119,110]]=true
   ·rw [if_pos F] at h;have O:=qaC hI o [[100,111,119,110]];have hin:jm ts off (XD ts) (sq (needs ts [[40]]) (bnd e fun t=>sq (needs ts [[41]]) (ret (T.mk {kind:=if qg ts i [[100,111,119,110]] then 10 else 9} [t])))) (sq (needs L [[40]]) (bnd e' fun t=>sq (needs L [[41]]) (ret (T.mk {kind:=if qg ts i [[100,111,119,110]] then 10 else 9} [t])))):=
     vK (Q:=fun _=>True) (kG hI _).p (fun _=>c _) fun _ _ _ _ _ _ _ _=>trivial
    cases z:xC ts e i f with
    |oof=>unfold q8 at h;rw [vg z] at h;cases h
    |no g=>unfold q8 at h;rw [jJ z] at h;cases h
    |ok t S g1=>
     unfold q8 at h;rw [qT z] at h;simp only [ret,Rs.ok.injEq] at h;obtain ⟨rfl,rfl,_⟩:=h;obtain ⟨E,y⟩:=hin (i+1) f t S g1 o z H.1;refine ⟨E,fun l=> ?_⟩;obtain ⟨x,A⟩:=y l;refine ⟨x, ?_⟩;rw [if_pos (C.trans F)];have V:xC L e' (off+i) l= .ok t (off+S) x:=by
      unfold xC;rw [O];exact A
     unfold q8;rw [qT V];rfl
   ·rw [if_neg F] at h;have q:jm ts off (AT ts) (qe ts [40] (q8 false (wO ts e)) (jp ts n e)) (qe L [40] (q8 false (wO L e')) (jp L n' e')):=wQ hI (B (c id) fun _ _ _ _ _ _ h=>h.1) (qv4 hef he hg hI hL hS hn hN) (.inl (qea n e));obtain ⟨E,y⟩:=q i f a j g R h H;refine ⟨E,fun l=> ?_⟩;obtain ⟨x,A⟩:=y l;refine ⟨x, ?_⟩;rw [if_neg (by rw [C];exact F)];exact A
  ·have J:i=ts.length:=by omega
   subst J;rw [qbX,if_neg (by decide)] at h;exact absurd h (jr (qea n e) _ _ _ _)
 obtain ⟨E,y⟩:=u i f a j g R h H;refine ⟨E,fun l=> ?_⟩;obtain ⟨x,A⟩:=y l;refine ⟨x, ?_⟩;unfold jz;rw [if_neg (by rw [k1];exact c0)];exact A
omit hN in
theorem qgl:∀n n',n≤n'→∀t fm,jm ts off (XD ts) (zC ts e n t fm) (zC L e' n' t fm)
 |0,_,_,_,_=>fun i f a j g _ h _=>by cases h
 |n+1,0,h,_,_=>by omega
 |n+1,n'+1,h,t,fm=>by
  refine wQ hI (vK he (fun k=>vK (Q:=fun _=>True) (kG hI _).p (fun _=>qgl n n' (by omega) _ _) fun _ _ _ _ _ _ _ _=>trivial) fun a i f b j g e _=>qgh (by decide) _ _ _ _ _ e)
   (wQ hI (vK (Q:=fun _=>True) (qay hI).p (fun s=>qgl n n' (by omega) _ _) fun _ _ _ _ _ _ _ _=>trivial) (vC _).p (.inr (wV hS (by decide) (by decide)))) (.inr (wV hS (by decide) (by decide)))
end
theorem qBk (hg:jv ts) {i:Nat} (h:(tk ts i).text=[91]):qg ts i [[91]]=true:=by
 have c:i<ts.length:=by
  by_cases c:i<ts.length
  ·exact c
  ·rw [kw (by omega)] at h;cases h
 have g:=hg (tk ts i) (by rw [kz c];exact List.getElem_mem _);rw [h] at g;have j:(tk ts i).kind=4:=L01.qlU g (by decide);rw [qdF j h (.inr rfl)];decide
theorem qjh (hg:jv ts) {e:M T} (he:ja ts e):∀(n:Nat) (t:T) (fm i f:Nat) (b:T×Nat) (j g:Nat),zC ts e n t fm i f= .ok b j g→XD ts j→AT ts i
 |0,_,_,_,_,_,_,_,h,_=>by cases h
 |n+1,t,fm,i,f,b,j,g,h,B=>by
  have c:qe ts [91] (bnd e fun k=>sq (needs ts [[93]]) (zC ts e n (T.mk {kind:=7} [t,k]) 2)) (qe ts [46] (bnd (name ts) fun s=>zC ts e n (T.mk {kind:=8,name:=s} [t]) 3) (ret (t,fm))) i f= .ok b j g:=h;have vQ:∀{s:Bs},qg ts i [s]=true→(tk ts i).text=s:=fun m=>by
   unfold qg at m;simp only [List.contains_cons,List.contains_nil,Bool.or_false,Bool.and_eq_true,beq_iff_eq] at m;exact m.2
  by_cases m:qg ts i [[91]]=true
  ·unfold qe at c;rw [if_pos m] at c;have y:=vQ m;refine ⟨by rw [y];decide,fun _=> ?_⟩;cases z:e (i+1) f with
   |oof=>rw [vg z] at c;cases c
   |no g=>rw [jJ z] at c;cases c
   |ok k q g1=>
    rw [qT z] at c;unfold sq at c;cases o:needs ts [[93]] q g1 with
    |oof=>rw [vg o] at c;cases c
    |no g=>rw [jJ o] at c;cases c
    |ok u O S=>
     rw [qT o] at c;obtain ⟨J,F,rfl⟩:=qaw o;obtain ⟨l1,E,C⟩:=he _ _ _ _ _ z;have H:=qjh hg he n _ _ _ _ _ _ _ c B;refine ⟨Dk ts (q+1), ?_,fun x R l=> ?_⟩
     ·rw [C,xB J];have:qD (tk ts q)=((tk ts q).kind,[93]):=by simp [qD,F]
      rw [this,qip E]
     ·by_cases A:q+1<ts.length
      ·rw [xB A] at l;rw [←(List.cons.inj l).1];exact H.1
      ·rw [qeE (by omega)] at l;cases l
  ·rw [vt (by simpa using m)] at c;by_cases o:qg ts i [[46]]=true
   ·have y:=vQ o;exact ⟨by rw [y];decide,fun e=>by rw [y] at e;exact absurd e (by decide)⟩
   ·rw [vt (by simpa using o)] at c;simp only [ret,Rs.ok.injEq] at c;obtain ⟨_,rfl,_⟩:=c;exact ⟨B,fun e=>absurd (qBk hg e) m⟩
section
variable {e e':M T} (hef:EF ts e) (hea:ja ts e) (he:jm ts off (XD ts) e e') (hgt:jv ts) (hg:jv L) (hI:vH ts L off) (hL:off+ts.length≤L.length) (hS:(tk L (off+ts.length)).text=[41]∨(tk L (off+ts.length)).text=[93]) {n n':Nat} (hn:n≤n') (hN:L.length+4≤n')
include hef hea he hgt hg hI hL hS hn hN
theorem qv3:jm ts off (XD ts) (zZ ts n e) (zZ L n' e'):=vK (qv2 hef he hg hI hL hS hn hN) (fun p=>qgl hef he hg hI hL hS hn n n' hn _ _) fun a i f b j g h c=>qjh hgt hea n _ _ _ _ _ _ _ h c
end
theorem qv7 {p o:M (T×Nat)} (hI:vH ts L off) (hS:(tk L (off+ts.length)).text=[41]∨(tk L (off+ts.length)).text=[93]) (hef:EF ts p) (h:jm ts off (XD ts) p o):jm ts off (XD ts) (xR ts p) (xR L o):=by
 refine wQ hI (vK h (fun x=>(vC _).p) fun a i f b j g e l=>by
  simp only [ret,Rs.ok.injEq] at e;obtain ⟨_,rfl,_⟩:=e;exact l) (vK (Q:=XD ts) h (fun x=> ?_) fun x i f b j g e l=> ?_) (.inl (x8 hef))
 ·intro i f a j g E e F;dsimp only at e⊢;by_cases c:qg ts i xx=true
  ·rw [if_pos c] at e;have m:=xn c;have k:=hI i m;have B:jm ts off (XD ts) (bnd p fun y=>ret (T.mk {kind:=6,name:=(tk ts i).text} [x.1,y.1])) (bnd o fun y=>ret (T.mk {kind:=6,name:=(tk ts i).text} [x.1,y.1])):=vK h (fun _=>(vC _).p) fun a i f b j g e l=>by
    simp only [ret,Rs.ok.injEq] at e;obtain ⟨_,rfl,_⟩:=e;exact l
   obtain ⟨H,z⟩:=B (i+1) f a j g m e F;refine ⟨H,fun q=> ?_⟩;obtain ⟨C,A⟩:=z q;refine ⟨C, ?_⟩;rw [if_pos ((qaC hI m xx).trans c),k.2];exact A
  ·rw [if_neg c] at e;simp only [Rs.ok.injEq] at e;obtain ⟨rfl,rfl,_⟩:=e;refine ⟨E,fun q=>⟨q, ?_⟩⟩;have:qg L (off+i) xx=false:=by
    by_cases m:i<ts.length
    ·rw [qaC hI m];simpa using c
    ·rw [show i=ts.length by omega];rcases hS with h|h
     ·exact vo h (by decide)
     ·exact vo h (by decide)
   rw [if_neg (by rw [this];decide)]
 ·by_cases c:qg ts i xx=true
  ·unfold qg at c;simp only [Bool.and_eq_true] at c;intro u;rw [u] at c;exact absurd c.2 (by decide)
  ·rw [if_neg c] at e;simp only [Rs.ok.injEq] at e;obtain ⟨_,rfl,_⟩:=e;exact l
theorem qgm (hgt:jv ts) (hg:jv L) (hI:vH ts L off) (hL:off+ts.length≤L.length) (hS:(tk L (off+ts.length)).text=[41]∨(tk L (off+ts.length)).text=[93]):∀n n',n+L.length+4≤n'→jm ts off (XD ts) (qH ts n) (qH L n')
 |0,_,_=>fun i f a j g _ e _=>by cases e
 |n+1,0,h=>by omega
 |n+1,n'+1,h=>by
  have c:=qgm hgt hg hI hL hS n n' (by omega);exact qv7 hI hS (x8 (qhU n _)) (qv3 (qz4 n) (qh0 hgt n) c hgt hg hI hL hS (by omega) (by omega))
end
theorem qs3 {A S:List At} (o:okAw A) (g:∀r,wF A r) (hS:okAw S) {src:Bs} {ts:List Tok} {cs:List Bs} (h:qp src 1= .ok ts cs) (l:Int):
  ∃K c,qp (ju A++(src++10::ju S)) l= .ok K c∧K.map qD=we A++(ts.map qD++we S):=by
 obtain ⟨x,l1,j,m1⟩:=qcU A (src++10::ju S) l o (g _);have q:qp src l1= .ok (ts.map fun t=>⟨t.kind,t.text,t.line+(l1 - 1)⟩) cs:=by
  have:=L01.qs5 src 1 (l1 - 1);rw [h,show (1:Int)+(l1 - 1)=l1 by omega] at this;rw [this];rfl
 have u:=L01.qs8 (ju S) src l1 _ _ q;obtain ⟨t3,y,m⟩:=qs4 hS (l1+L01.zG src+1);rw [j,u,y];refine ⟨x++((ts.map fun t=>⟨t.kind,t.text,t.line+(l1 - 1)⟩)++t3),_,rfl, ?_⟩;rw [List.map_append,List.map_append,m1,m,List.map_map];rfl
theorem qfp {s:Bs} (l:qy s=true) (j:qy (s++[61])=false) (r:Bs):(⟨4,s⟩:At).then r:= .inr fun c x _=>by
 unfold QH;rw [if_pos rfl];cases hg:qy (s++[c]) with
 |false=>rfl
 |true=>
  have g:s≠[]:=(jB (k:=4) (by simpa [right] using l)).1;rw [qjW hg g,j] at hg;cases hg
section
variable {L:List Tok}
def Part (L:List Tok) (i k:Nat) (t:T) (N:Nat):Prop:=∀n f,N≤n→∃g,qH L n i f= .ok t (i+k) g
theorem qiJ {i k:Nat} {t:T} {N:Nat} (h:Part L (i+1) k t N) (c:(tk L i).kind=4∧(tk L i).text=[40]) (j:(tk L (i+1+k)).kind=4∧(tk L (i+1+k)).text=[41]) (hS:Stop L (i+(k+2))):Part L i (k+2) t (N+2):=fun n f hn=>by
 obtain ⟨n',rfl⟩:∃n',n=n'+1:=⟨n - 1,by omega⟩;obtain ⟨n2,rfl⟩:∃n2,n'=n2+1:=⟨n' - 1,by omega⟩;obtain ⟨g,e⟩:=h (n2+1) f (by omega);refine ⟨g, ?_⟩;have l:jz L (n2+1) (qH L (n2+1)) i f= .ok (t,false) (i+(k+2)) g:=by
  rw [qfo (by rw [c.1];decide) (vo c.2 (by decide)) (vo c.2 (by decide)) (vo c.2 (by decide)),if_neg (by rw [vo c.2 (by decide)];decide),qjf c.1 c.2 (.inr rfl)];unfold q8 wO;rw [x9,qT e];unfold sq;rw [x9,qax j.1 j.2 (.inr rfl)];simp [bnd,ret,Rs.andThen];omega
 show xR L (zZ L (n2+1) (qH L (n2+1))) i f=_;unfold xR;have m:zZ L (n2+1) (qH L (n2+1)) i f= .ok (t,0) (i+(k+2)) g:=by
  unfold zZ;rw [qT l];exact qcG hS.ne.1 hS.ne.2.1
 rw [vt (vo c.2 (by decide)),qT m];show (if qg L _ xx=true then _ else _)=_;rw [if_neg (by rw [hS.op];decide)]
theorem qeG {i k:Nat} {t u:T} {b:Bool} {m fm:Nat} {N:Nat} (c:qg L i [[110,111,116]]=false) (hS:Stop L (i+k))
  (h:∀n f,N≤n→∃j g,jz L n (qH L n) i f= .ok (u,b) j g∧∃l,zC L (qH L n) n u (if b then 1 else 0) j g= .ok (t,fm) (i+k) l):Part L i k t (N+1):=fun n f hn=>by
 obtain ⟨n',rfl⟩:∃n',n=n'+1:=⟨n - 1,by omega⟩;obtain ⟨j,g,o,l,q⟩:=h n' f (by omega);refine ⟨l, ?_⟩;show xR L (zZ L n' (qH L n')) i f=_;unfold xR;have x:zZ L n' (qH L n') i f= .ok (t,fm) (i+k) l:=by
  unfold zZ;rw [qT o];exact q
 rw [vt c,qT x];show (if qg L _ xx=true then _ else _)=_;rw [if_neg (by rw [hS.op];decide)]
theorem qrj {i k:Nat} {t:T} {s:Bs} {N:Nat} (h:Part L (i+2) k t N) (c:(tk L i).kind=1∧(tk L i).text=s) (j:(tk L (i+1)).kind=4∧(tk L (i+1)).text=[40]) (l:(tk L (i+2+k)).kind=4∧(tk L (i+2+k)).text=[41]) (o:qg L (i+2) [[41]]=false) (hS:Stop L (i+(k+3))):Part L i (k+3) (.mk {kind:=5,name:=s} [t]) (N+3):=by
 refine qeG (N:=N+2) (u:= .mk {kind:=5,name:=s} [t]) (b:=true) (m:=0) (fm:=1) (yW c.1 (by decide) (by decide)) hS fun n f hn=> ?_;obtain ⟨n2,rfl⟩:∃n2,n=n2+1:=⟨n - 1,by omega⟩;obtain ⟨g,e⟩:=h (n2+1) f (by omega);refine ⟨i+(k+3),g, ?_,g,qcG hS.ne.1 hS.ne.2.1⟩;have em:more L (qH L (n2+1)) (n2+1) (i+2+k) g= .ok [] (i+2+k) g:=by
  show qe L [44] _ _ _ g=_;rw [vt (vo l.2 (by decide))];rfl
 have q:listed L (n2+1) (qH L (n2+1)) (i+2) f= .ok [t] (i+2+k) g:=by
  unfold listed;rw [qT e,qT em];rfl
 have y:vM L (n2+1) (qH L (n2+1)) (i+1) f= .ok [t] (i+(k+3)) g:=by
  unfold vM sq;rw [qax j.1 j.2 (.inr rfl),show i+1+1=i+2 by omega,vt o,qT q,qax l.1 l.2 (.inr rfl)];simp [ret];omega
 rw [qjV c.1];unfold jp;rw [if_pos ⟨c.1, .inl j.2⟩];have x:x6 L (n2+1) (qH L (n2+1)) i f= .ok (.mk {kind:=5,name:=s} [t]) (i+(k+3)) g:=by
  unfold x6;rw [qlw c.1 c.2,vt (vo j.2 (by decide)),qT y];rfl
 unfold q8;rw [qT x];rfl
theorem qrg {i k:Nat} {t:T} {N:Nat} (h:Part L (i+2) k t N) (c:(tk L i).kind=2∧(tk L i).text=[117,112]) (o:(tk L (i+1)).kind=4∧(tk L (i+1)).text=[40]) (l:(tk L (i+2+k)).kind=4∧(tk L (i+2+k)).text=[41]) (hS:Stop L (i+(k+3))):Part L i (k+3) (.mk {kind:=9} [t]) (N+3):=by
 refine qeG (N:=N+2) (u:= .mk {kind:=9} [t]) (b:=false) (m:=0) (fm:=0) (vo c.2 (by decide)) hS fun n f hn=> ?_;obtain ⟨n2,rfl⟩:∃n2,n=n2+1:=⟨n - 1,by omega⟩;obtain ⟨g,e⟩:=h (n2+1) f (by omega);refine ⟨i+(k+3),g, ?_,g,qcG hS.ne.1 hS.ne.2.1⟩;have x:qg L i [[100,111,119,110]]=false:=vo c.2 (by decide);have j:qg L i [[117,112],[100,111,119,110]]=true:=by rw [qdF c.1 c.2 (.inl rfl)];decide
 rw [qfo (by rw [c.1];decide) (vo c.2 (by decide)) (vo c.2 (by decide)) (vo c.2 (by decide)),if_pos j];have q:xC L (qH L (n2+1)) i f= .ok (.mk {kind:=9} [t]) (i+(k+3)) g:=by
  unfold xC sq;rw [qax o.1 o.2 (.inr rfl),show i+1+1=i+2 by omega,qT e,qax l.1 l.2 (.inr rfl),x];simp [ret];omega
 unfold q8;rw [qT q];rfl
theorem qri (hg:jv L) {i k:Nat} {t:T} {s:Bs} {N:Nat} (h:Part L (i+2) k t N) (hN:L.length+4≤N) (c:(tk L i).kind=1∧(tk L i).text=s) (j:(tk L (i+1)).kind=4∧(tk L (i+1)).text=[91]) (o:vI L (i+1)) (l:(tk L (i+2+k)).kind=4∧(tk L (i+2+k)).text=[93]) (hS:Stop L (i+(k+3))):Part L i (k+3) (.mk {kind:=7} [.mk {kind:=4,name:=s} [],t]) (N+3):=by
 refine qeG (N:=N+2) (u:= .mk {kind:=4,name:=s} []) (b:=false) (m:=0) (fm:=2) (yW c.1 (by decide) (by decide)) hS fun n f hn=> ?_;obtain ⟨n2,rfl⟩:∃n2,n=n2+2:=⟨n - 2,by omega⟩;obtain ⟨g1,q⟩:=qld hg (f:=f) (n:=n2+2) (i:=i) (by omega) (xM c.1 (by decide)) c.1 o j.2;obtain ⟨g,e⟩:=h (n2+2) g1 (by omega);refine ⟨i+1,g1, ?_,g, ?_⟩
 ·rw [qjV c.1];unfold jp;rw [if_neg (by rw [j.2];rintro ⟨_,h|h⟩<;>exact absurd h (by decide)),if_pos ⟨c.1,j.2⟩,q,c.2]
 ·show qe L [91] _ _ _ g1=_;rw [qjf j.1 j.2 (.inr rfl),show i+1+1=i+2 by omega,qT e];unfold sq;rw [qax l.1 l.2 (.inr rfl),show i+2+k+1=i+(k+3) by omega];exact qcG hS.ne.1 hS.ne.2.1
end
section
variable {L:List Tok} {i:Nat}
def wC (i:Nat) {α:Type} (m:M α):Prop:=∀f a j g,m i f≠ .ok a j g
theorem qav {l o:Type} {m:M l} {k:l→M o} (h:wC i m):wC i (bnd m k):=fun f a j g e=>by
 cases c:m i f with
 |oof=>rw [vg c] at e;cases e
 |no g=>rw [jJ c] at e;cases e
 |ok a q g1=>exact h _ _ _ _ c
theorem yP {c:Type} {s:Bs} {x y:M c} (m:(tk L i).text=[41]) (l:s≠[41]) (h:wC i y):wC i (qe L s x y):=fun f a j g e=>by
 rw [vt (vo m (by simpa using fun e=>l e.symm))] at e;exact h f a j g e
theorem qvA (c:(tk L i).kind≠1):wC i (name L):=fun f a j g e=>by
 unfold name at e;rw [if_neg c] at e;cases e
theorem qvB (c:(tk L i).text=[41]) (l:(tk L i).kind≠1):∀n,wC i (kind L n)
 |0=>fun f a j g e=>by cases e
 |n+1=>yP c (by decide) (yP c (by decide) (yP c (by decide) (yP c (by decide) (yP c (by decide) (yP c (by decide) (yP c (by decide) (qav (qvA l))))))))
theorem qvD (y:(tk L i).kind=4) (c:(tk L i).text=[41]):∀n,wC i (qH L n)
 |0=>fun f a j g e=>by cases e
 |n+1=>by
  have m:(tk L i).kind≠1:=by rw [y];decide
  have x:wC i (jw L n):=fun f a j g e=>by
   unfold jw at e;cases l:kind L n i f with
   |oof=>rw [l] at e;cases e
   |no g=>rw [l] at e;cases e
   |ok u z g1=>exact qvB c m n _ _ _ _ l
  have q:wC i (jp L n (qH L n)):=fun f a j g e=>by
   unfold jp at e;rw [if_neg (fun h=>m h.1),if_neg (fun h=>m h.1),if_neg (fun h=>m h.1)] at e;exact qav (qav (qav x)) f a j g e
  have o:wC i (jz L n (qH L n)):=fun f a j g e=>by
   rw [qjU (by rw [y];decide) (vo c (by decide)) (vo c (by decide)) (vo c (by decide)) (vo c (by decide)) (vo c (by decide))] at e;exact q f a j g e
  exact yP c (by decide) (qav (qav o))
theorem qvC (hg:jv L) (h:qg L i [[41]]=true) (n:Nat):wC i (qH L n):=by
 have j:=xn h;have g:(tk L i).text=[41]:=by
  unfold qg at h;simp only [List.contains_cons,List.contains_nil,Bool.or_false,Bool.and_eq_true,beq_iff_eq] at h;exact h.2
 have c:=hg (tk L i) (by rw [kz j];exact List.getElem_mem _);rw [g] at c;exact qvD (L01.qlU c (by decide)) g n
end
theorem qzk {ts L:List Tok} {a b:List (Nat×Bs)} (h:L.map qD=a++(ts.map qD++b)):vH ts L a.length∧a.length+ts.length+b.length=L.length∧wi L 0 (a++(ts.map qD++b)):=by
 have g:=qjc h;refine ⟨fun m c=> ?_, ?_,g⟩
 ·have l:=g.right.left m (by simpa using c);rw [Nat.zero_add] at l;have j:=l.2;simp only [List.getElem_map,qD] at j;rw [qeW c];exact j
 ·have:=congrArg List.length h;simp at this;omega
theorem qkU {ts L:List Tok} {a b:List (Nat×Bs)} {t:T} {g:Nat} (hgt:jv ts) (hg:jv L) (h:L.map qD=a++(ts.map qD++b)) (q:∃k s j,b=(k,s)::j∧(s=[41]∨s=[93])) (he:qH ts (ts.length+3) 0 0= .ok t ts.length g):Part L a.length ts.length t (ts.length+L.length+7):=fun n f hn=>by
 obtain ⟨hI,x,u⟩:=qzk h;obtain ⟨k,s,j,rfl,l⟩:=q;have c:=u.right.right;rw [Nat.zero_add,List.length_map] at c;have m:=c.head.2.2;obtain ⟨_,o⟩:=qgm hgt hg hI (by omega) (by rw [m];exact l) (ts.length+3) n (by omega) 0 0 t ts.length g (Nat.zero_le _) he (by unfold XD;rw [qbc];decide);exact o f
theorem yC {L:List Tok} {a b:List (Nat×Bs)} {k:Nat} {s:Bs} (h:L.map qD=a++((k,s)::b)):(tk L a.length).kind=k∧(tk L a.length).text=s:=by
 have c:=(qjc h).right.head;rw [Nat.zero_add] at c;exact c.2
theorem qkS {ts L:List Tok} {a b:List (Nat×Bs)} {t:T} {g:Nat} (hgt:jv ts) (hg:jv L) (h:L.map qD=a++((4,[40])::(4,[40])::(ts.map qD++((4,[41])::(4,[41])::b)))) (u:b=[]∨∃k s j,b=(k,s)::j∧(s=[41]∨s=[93])) (he:qH ts (ts.length+3) 0 0= .ok t ts.length g):Part L a.length (ts.length+2+2) t (ts.length+L.length+11):=by
 have y:L.map qD=(a++[(4,[40]),(4,[40])])++(ts.map qD++((4,[41])::(4,[41])::b)):=by rw [h];simp
 have l:=qkU hgt hg y ⟨_,_,_,rfl, .inl rfl⟩ he;have o:(a++[(4,[40]),(4,[40])]:List (Nat×Bs)).length=a.length+1+1:=by simp
 rw [o] at l;have k0:=yC h;have k1:=yC (a:=a++[(4,[40])]) (k:=4) (s:=[40]) (b:=ts.map qD++((4,[41])::(4,[41])::b)) (by rw [h];simp);have k2:=yC (a:=a++[(4,[40]),(4,[40])]++ts.map qD) (k:=4) (s:=[41]) (b:=(4,[41])::b) (by rw [h];simp);have k3:=yC (a:=a++[(4,[40]),(4,[40])]++ts.map qD++[(4,[41])]) (k:=4) (s:=[41]) (b:=b) (by rw [h];simp);simp only [List.length_append,List.length_cons,List.length_nil,List.length_map] at k0 k1 k2 k3;have x:=qiJ (i:=a.length+1) l k1 (by rw [show a.length+1+1+ts.length=a.length+(0+1+1)+ts.length by omega];exact k2) (qjG (s:=[41]) (by rw [show a.length+1+(ts.length+2)=a.length+(0+1+1)+ts.length+(0+1) by omega];exact k3.2) (by decide));have c:Stop L (a.length+(ts.length+2+2)):=by
  rcases u with rfl|⟨k,s,j,rfl,m⟩
  ·refine qjH ?_;have:=congrArg List.length h;simp at this;omega
  ·have k4:=yC (a:=a++[(4,[40]),(4,[40])]++ts.map qD++[(4,[41]),(4,[41])]) (k:=k) (s:=s) (b:=j) (by rw [h];simp);simp only [List.length_append,List.length_cons,List.length_nil,List.length_map] at k4;refine qjG (s:=s) (by rw [show a.length+(ts.length+2+2)=a.length+(0+1+1)+ts.length+(0+1+1) by omega];exact k4.2) ?_;rcases m with rfl|rfl<;>decide
 have q:=qiJ (i:=a.length) x k0 (by rw [show a.length+1+(ts.length+2)=a.length+(0+1+1)+ts.length+(0+1) by omega];exact k3) c;exact q
theorem qf1 {s:Bs} {L:List Tok} {cs:List Bs} {u:T} {N:Nat} (c:qr s= .ok L cs) (j:Part L 0 L.length u N):qG s=if whole (u.flat 0) js then (u.flat 0,0,0) else ([],21,1):=by
 obtain ⟨g,e⟩:=j (L.length+3+N) 0 (by omega);rw [qlQ qlS (L.length+3) N 0 0 (qhs (Nat.le_refl _) 0),Nat.zero_add] at e;have l:vX L= .ok u L.length g:=by
  unfold vX;rw [qT e];unfold bnd fin;rw [if_neg (by omega)];rfl
 unfold qG;rw [c];dsimp only;rw [l]
theorem qkV {s:Bs} {l:List Nd} (h:qG s=(l,0,0)):∃L cs t g,qr s= .ok L cs∧jv L∧qH L (L.length+3) 0 0= .ok t L.length g∧l=t.flat 0∧whole (t.flat 0) js=true:=by
 unfold qG at h;cases q:qr s with
 |bad e m=>
  rw [q] at h;have:=qft q;simp only [Prod.mk.injEq] at h;exact absurd h.2.1 this
 |ok L cs=>
  rw [q] at h;dsimp only at h;cases c:vX L with
  |oof=>exact absurd c (qpQ L)
  |no g=>rw [c] at h;simp at h
  |ok t j g=>
   rw [c] at h;dsimp only at h;obtain ⟨A,e⟩:=qpP c;have y:L.length≤j:=by
    unfold vX at c;rw [qT e] at c;unfold bnd fin at c;by_cases u:j<L.length
    ·simp [u,Rs.andThen] at c
    ·omega
   have hg:=qd2 q;have hI:vH L (L++[⟨4,[41],0⟩]) 0:=fun i E=>by
    have:tk (L++[⟨4,[41],0⟩]) i=tk L i:=by unfold tk;simp [List.getElem?_append_left E]
    rw [Nat.zero_add,this];exact ⟨rfl,rfl⟩
   have C:jv (L++[⟨4,[41],0⟩]):=fun x o=>by
    rcases List.mem_append.1 o with o|o
    ·exact hg x o
    ·rw [List.mem_singleton.1 o];decide
   have B:=(qgm hg C hI (by simp) (.inl (by unfold tk;simp)) (L.length+3) (L.length+3+(L.length+1)+4) (by simp) 0 0 t j A (Nat.zero_le _) e (by unfold XD;rw [kw y];decide)).1;have u:j=L.length:=by omega
   subst u;by_cases z:whole (t.flat 0) js=true
   ·rw [if_pos z] at h;exact ⟨L,cs,t,A,rfl,hg,e,(Prod.mk.inj h).1.symm,z⟩
   ·rw [if_neg z] at h;simp at h
section
variable {L:List Tok} {ks:List (Nat×Bs)} {t:T} {N k0 k1 k2:Nat} {s0 s1 s2:Bs}
theorem qh9 (h:L.map qD=(k0,s0)::(k1,s1)::(ks++[(k2,s2)])):((tk L 0).kind=k0∧(tk L 0).text=s0)∧((tk L (0+1)).kind=k1∧(tk L (0+1)).text=s1)∧((tk L (0+2+ks.length)).kind=k2∧(tk L (0+2+ks.length)).text=s2)∧Stop L (0+(ks.length+3))∧L.length=ks.length+3:=by
 have c:L.length=ks.length+3:=by have:=congrArg List.length h;simpa using this
 have g:=yC (a:=[]) (k:=k0) (s:=s0) (b:=(k1,s1)::(ks++[(k2,s2)])) h;have l:=yC (a:=[(k0,s0)]) (k:=k1) (s:=s1) (b:=ks++[(k2,s2)]) h;have j:=yC (a:=(k0,s0)::(k1,s1)::ks) (k:=k2) (s:=s2) (b:=[]) (by rw [h];simp);refine ⟨g,l, ?_,qjH (by omega),c⟩;rw [show 0+2+ks.length=((k0,s0)::(k1,s1)::ks:List (Nat×Bs)).length by simp;omega];exact j
theorem qAu (hg:jv L) (h:L.map qD=(1,s0)::(4,[40])::(ks++[(4,[41])])) (c:Part L 2 ks.length t N):Part L 0 L.length (.mk {kind:=5,name:=s0} [t]) (N+3):=by
 obtain ⟨a0,l,m,a3,o⟩:=qh9 h;rw [o];refine qrj (i:=0) c a0 l m ?_ a3;cases j:qg L (0+2) [[41]] with
 |false=>rfl
 |true=>
  obtain ⟨g,e⟩:=c N 0 (Nat.le_refl _);exact absurd e (qvC hg j N 0 t _ g)
theorem qAt (h:L.map qD=(2,[117,112])::(4,[40])::(ks++[(4,[41])])) (l:Part L 2 ks.length t N):Part L 0 L.length (.mk {kind:=9} [t]) (N+3):=by
 obtain ⟨a0,c,g,a3,j⟩:=qh9 h;rw [j];exact qrg (i:=0) l a0 c g a3
theorem qAs (hg:jv L) (h:L.map qD=(1,s0)::(4,[91])::(ks++[(4,[93])])) (hN:L.length+4≤N) (q:Part L 2 ks.length t N):Part L 0 L.length (.mk {kind:=7} [.mk {kind:=4,name:=s0} [],t]) (N+3):=by
 obtain ⟨a0,m,o,a3,A⟩:=qh9 h;have u:vI L (0+1):=by
  refine ⟨by rw [m.2];decide,fun _ x r j=> ?_⟩;obtain ⟨g,e⟩:=q N 0 (Nat.le_refl _);obtain ⟨l,b,c⟩:=qh0 hg N _ _ _ _ _ e;have z:Dk L (2+ks.length)=[(4,[93])]:=by
   rw [xB (by omega),qeE (by omega)];have:=o;rw [show 0+2+ks.length=2+ks.length by omega] at this;simp [qD,this.1,this.2]
  rw [z] at c;have y:xd 0 (Dk L (0+1+1))=some []:=by
   rw [show 0+1+1=2 by omega,c];exact qip b
  rw [y] at j;cases j
 rw [A];exact qri hg (i:=0) q hN a0 m u o a3
end
def vi (s:Bs):Bs:=[40,40]++(s++10::[41,41])
theorem qet {A S:List At} (o:okAw A) (g:∀r,wF A r) (hS:okAw S) {src:Bs} {ts:List Tok} {cs:List Bs} (h:qr src= .ok ts cs) (q:(ju A++(src++10::ju S)).length≤20000):
  ∃L c,qr (ju A++(src++10::ju S))= .ok L c∧jv L∧L.map qD=we A++(ts.map qD++we S):=by
 have l:qp src 1= .ok ts cs:=by
  unfold qr at h;rw [if_neg (by simp at q;omega)] at h;exact h
 obtain ⟨L,c,e,m⟩:=qs3 o g hS l 1;have j:qr (ju A++(src++10::ju S))= .ok L c:=by
  unfold qr;rw [if_neg (by omega)];exact e
 exact ⟨L,c,j,qd2 j,m⟩
def pp:List At:=[⟨4,[40]⟩,⟨4,[40]⟩]
def qq:List At:=[⟨4,[41]⟩,⟨4,[41]⟩]
theorem qan:okAw pp∧(∀r,wF pp r)∧okAw qq:=by
 have j:(⟨4,[40]⟩:At).ok:=by unfold At.ok;rw [if_neg (by decide)];decide
 have g:(⟨4,[41]⟩:At).ok:=by unfold At.ok;rw [if_neg (by decide)];decide
 have c:∀r,(⟨4,[40]⟩:At).then r:=qfp (by decide) (by decide);have l:∀r,(⟨4,[41]⟩:At).then r:=qfp (by decide) (by decide);exact ⟨⟨j,c _,j,trivial,trivial⟩,fun r=>c r,⟨g,l _,g,trivial,trivial⟩⟩
theorem qrn {src:Bs} {l:List Nd} (h:qG src=(l,0,0)) (u:src.length≤10000):qG (vi src)=(l,0,0):=by
 obtain ⟨ts,cs,t,g,o,hg,he,rfl,q⟩:=qkV h;obtain ⟨L,c,e,hL,m⟩:=qet qan.1 qan.2.1 qan.2.2 o (by simp [pp,qq,ju];omega);have e':qr (vi src)= .ok L c:=e;have j:L.map qD=[]++((4,[40])::(4,[40])::(ts.map qD++((4,[41])::(4,[41])::[]))):=by rw [m];simp [pp,qq,we]
 have p:=qkS hg hL j (.inl rfl) he;have hn:L.length=ts.length+2+2:=by have:=congrArg List.length j;simpa using this
 rw [List.length_nil,←hn] at p;rw [qf1 e' p,if_pos q]
theorem qfX {A S:List At} {k0:Nat} {s0 o c:Bs} (E:okAw A) (j:∀r,wF A r) (hS:okAw S) (y:we A=[(k0,s0),(4,o)]) (u:we S=[(4,c)]) (C:c=[41]∨c=[93]) (Z:(ju A).length+(ju S).length≤100) {mk:T→T}
  (q:∀(L:List Tok) (ks:List (Nat×Bs)) (t:T) (N:Nat),jv L→L.map qD=(k0,s0)::(4,o)::(ks++[(4,c)])→L.length+4≤N→Part L 2 ks.length t N→Part L 0 L.length (mk t) (N+3))
  {src:Bs} {l:List Nd} (h:qG src=(l,0,0)) (hl:src.length≤10000):qG (ju A++(src++10::ju S))=qG (ju A++(vi src++10::ju S)):=by
 obtain ⟨ts,cs,t,g,B,hg,he,rfl,hw⟩:=qkV h;obtain ⟨W,R,Y,hW,mw⟩:=qet qan.1 qan.2.1 qan.2.2 B (by simp [pp,qq,ju];omega);have x:qr (vi src)= .ok W R:=Y;have z:(vi src).length=src.length+5:=by simp [vi]
 obtain ⟨L,c1,J,hL,m1⟩:=qet E j hS B (by simp;omega);obtain ⟨L2,c2,V,m,F⟩:=qet E j hS x (by simp [z];omega);rw [y,u] at m1 F;have O:L.map qD=(k0,s0)::(4,o)::(ts.map qD++[(4,c)]):=by rw [m1];simp
 have n2:L2.map qD=(k0,s0)::(4,o)::(((4,[40])::(4,[40])::(ts.map qD++[(4,[41]),(4,[41])]))++[(4,c)]):=by rw [F,mw];simp [pp,qq,we]
 have p1:=qkU hg hL m1 ⟨_,_,_,rfl,C⟩ he;have U:=qkS (a:=[(k0,s0),(4,o)]) (b:=[(4,c)]) hg m (by rw [n2];simp) (.inr ⟨_,_,_,rfl,C⟩) he;have q1:=q L (ts.map qD) t (ts.length+L.length+11) hL O (by omega) fun n f hn=>by rw [List.length_map];exact p1 n f (by omega)
 have H:=q L2 _ t (ts.length+L2.length+11) m n2 (by omega) fun n f hn=>by
  have:=U n f hn;simpa using this
 rw [qf1 J q1,qf1 V H]
theorem yg {k:Nat} {s o:Bs} (h:right k s=true) (q:k≠0) (c:qy o=true) (g:o≠[61]) (m:qy (o++[61])=false):okAw [⟨k,s⟩,⟨4,o⟩]∧(∀r,wF [⟨k,s⟩,⟨4,o⟩] r):=by
 have j:(⟨k,s⟩:At).ok:=by unfold At.ok;rw [if_neg q];exact h
 have l:(⟨4,o⟩:At).ok:=by unfold At.ok;rw [if_neg (show¬(4:Nat)=0 by decide)];simpa [right] using c
 exact ⟨⟨j,At.then_sign j c g,l,trivial,trivial⟩,fun r=>qfp c m r⟩
theorem qbM {o:Bs} (c:qy o=true):okAw [⟨4,o⟩]:=⟨by unfold At.ok;rw [if_neg (show¬(4:Nat)=0 by decide)];simpa [right] using c,trivial,trivial⟩
theorem qtd {src:Bs} {l:List Nd} (h:qG src=(l,0,0)) (c:src.length≤10000):qG ([102,40]++(src++10::[41]))=qG ([102,40]++(vi src++10::[41])):=
 qfX (A:=[⟨1,[102]⟩,⟨4,[40]⟩]) (S:=[⟨4,[41]⟩]) (yg (by decide) (by decide) (by decide) (by decide) (by decide)).1 (yg (by decide) (by decide) (by decide) (by decide) (by decide)).2 (qbM (by decide)) rfl rfl (.inl rfl) (by decide) (mk:=fun t=> .mk {kind:=5,name:=[102]} [t]) (fun L ks t N hg h _ g=>qAu hg h g) h c
theorem qta {src:Bs} {l:List Nd} (h:qG src=(l,0,0)) (c:src.length≤10000):qG ([120,91]++(src++10::[93]))=qG ([120,91]++(vi src++10::[93])):=
 qfX (A:=[⟨1,[120]⟩,⟨4,[91]⟩]) (S:=[⟨4,[93]⟩]) (yg (by decide) (by decide) (by decide) (by decide) (by decide)).1 (yg (by decide) (by decide) (by decide) (by decide) (by decide)).2 (qbM (by decide)) rfl rfl (.inr rfl) (by decide) (mk:=fun t=> .mk {kind:=7} [.mk {kind:=4,name:=[120]} [],t]) (fun L ks t N hg h hN g=>qAs hg h hN g) h c
theorem qtb {src:Bs} {l:List Nd} (h:qG src=(l,0,0)) (c:src.length≤10000):qG ([117,112,40]++(src++10::[41]))=qG ([117,112,40]++(vi src++10::[41])):=
 qfX (A:=[⟨2,[117,112]⟩,⟨4,[40]⟩]) (S:=[⟨4,[41]⟩]) (yg (by decide) (by decide) (by decide) (by decide) (by decide)).1 (yg (by decide) (by decide) (by decide) (by decide) (by decide)).2 (qbM (by decide)) rfl rfl (.inl rfl) (by decide) (mk:=fun t=> .mk {kind:=9} [t]) (fun L ks t N _ h _ g=>qAt h g) h c
end Go.L02
namespace Go.L02
open Go Go.Eng Go.RowKit
open Go.Proofs hiding encI
open Go.L01 (Bs Tok qR qi)
set_option maxRecDepth 100000
set_option maxHeartbeats 4000000
section
variable {P:Program} {Q:Ks} {d:Option Nat} {ty:TypeId} {K:qa→World→Prop} {ρ:qa} {w:World}
end
theorem Own.le {b c e sz:Nat} {w:World} {v:Value} {xs:List Value} (h:Own c e sz w v xs) (l:b≤c):Own b e sz w v xs:=by
 rcases h with h|⟨g,off,n,cap,cur,j,m,r⟩
 ·exact .inl h
 ·exact .inr ⟨g,off,n,cap,cur,j,Nat.le_trans l m,r⟩
structure OwnN (base:Nat) (W:World) (v:Value) (ys:List NV):Prop where
 own:Own base 44 6 W v (ji ys)
 kid:∀y∈ys,Own base 3 1 W y.kv (y.nd.kids.map encI)
theorem OwnN.nil (base:Nat) (W:World):OwnN base W (.slice none 0 0) []:=⟨Own.nil _ _ _ _,fun _ h=>by cases h⟩
theorem OwnN.rd {base:Nat} {W:World} {v:Value} {ys:List NV} (h:OwnN base W v ys):Rd W v ys:=⟨L01.vB h.own,fun y c=>L01.vB (h.kid y c)⟩
theorem OwnN.ext {base:Nat} {W W':World} {v:Value} {ys:List NV} (h:OwnN base W v ys) (c:qc W W'):OwnN base W' v ys:=⟨h.own.ext c,fun y g=>(h.kid y g).ext c⟩
theorem OwnN.le {b c:Nat} {W:World} {v:Value} {ys:List NV} (h:OwnN c W v ys) (g:b≤c):OwnN b W v ys:=⟨Own.le h.own g,fun y j=>Own.le (h.kid y j) g⟩
theorem _root_.Go.Eng.Cells.sub {w:World} {v:Value} {sz:Nat} {xs:List Value} (h:Cells w v sz xs) {l r m:Nat} (y:l≤r) (z:r*sz≤xs.length) (q:r≤m) (u:m≤qx v):Cells w (qL v sz l r m) sz ((xs.take (r*sz)).drop (l*sz)):=by
 have g:((xs.take (r*sz)).drop (l*sz)).length=(r - l)*sz:=by simp only [List.length_drop,List.length_take];rw [Nat.min_eq_left z,Nat.sub_mul]
 refine ⟨QA h.is sz l r m y q u,by rw [qcP _ _ _ _ h.is,g],fun j o=> ?_⟩;have x:l<r:=by
  rcases Nat.lt_or_ge l r with h|h
  ·exact h
  ·rw [g,show r - l=0 by omega] at o;simp at o
 have c:=o;rw [g,Nat.sub_mul] at c;rw [qcQ sz l r m j h.is (by omega) (by omega),h.cell (l*sz+j) (by omega)];simp
theorem qvu (xs:List NV) (r:Nat):(ji xs).take (r*6)=ji (xs.take r):=by
 induction xs generalizing r with
 |nil=>simp [ji]
 |cons x xs c=>
  have e:ji (x::xs)=qj x++ji xs:=rfl;have g:(qj x).length=6:=rfl;cases r with
  |zero=>simp [ji]
  |succ r=>
   rw [e,List.take_append,List.take_of_length_le (by omega),g,show (r+1)*6 - 6=r*6 by omega,c];rfl
theorem qvw (xs:List NV) (l:Nat):(ji xs).drop (l*6)=ji (xs.drop l):=by
 induction xs generalizing l with
 |nil=>simp [ji]
 |cons x xs c=>
  have e:ji (x::xs)=qj x++ji xs:=rfl;have g:(qj x).length=6:=rfl;cases l with
  |zero=>simp [ji]
  |succ l=>
   rw [e,List.drop_append,List.drop_eq_nil_of_le (by omega),g,show (l+1)*6 - 6=l*6 by omega,c];rfl
theorem Rd.sub {w:World} {v:Value} {xs:List NV} (h:Rd w v xs) {l r m:Nat} (j:l≤r) (q:r≤xs.length) (c:r≤m) (g:m≤qx v):Rd w (qL v 6 l r m) ((xs.take r).drop l):=by
 refine ⟨?_,fun x o=>h.kids x (List.mem_of_mem_take (List.mem_of_mem_drop o))⟩;have:=h.cells.sub j (by rw [yo];omega) c g
 rwa [qvu,qvw] at this
theorem xV.cut {l:List Nd} {i:Nat} {u:T} (h:xV l i u):(l.take (i+1)).drop (i+1 - u.size)=u.flat (i+1 - u.size):=by
 obtain ⟨c,post,rfl,h⟩:=h;have e:i+1 - u.size=c.length:=by omega
 rw [e,h,←List.append_assoc,List.take_append_of_le_length (by rw [List.length_append,T.flat_len];exact Nat.le_refl _),List.take_of_length_le (by rw [List.length_append,T.flat_len];exact Nat.le_refl _)];simp
section
variable {w:World} {lv:Value} {xs:List NV}
end
instance:Inhabited T:=⟨.mk {kind:=0} []⟩
section
variable {w:World} {lv bv:Value} {xs bs:List NV}
end
noncomputable def qg2:IR:= .cond (zv 87) (zq [za 4 (zQ false)] <| .ret) .skip
noncomputable def qoi:IR:= .reg [za 8 (zI .add (zv 8) (zK 1))]
noncomputable def qoh:IR:= .seq (.block 3 (.seq (.drw [za 87 (zI .neq (zl (zx 1 (zo 5 (zv 6)) (zv 8))) (zl (zx 1 (zo 5 (zv 7)) (zv 8))))]) (qg2))) (qoi)
noncomputable def qg1:IR:=zq [za 74 (zI .lss (zv 8) (zL (zo 5 (zv 6))))] <| .seq (.cond (zv 74) .skip (.exit 2)) (qoh)
noncomputable def qog:IR:=zq [za 8 (zK 0)] <| .block 2 (.loop qg1)
noncomputable def qof:IR:= .reg [za 5 (zI .add (zv 5) (zK 1))]
noncomputable def qoe:IR:= .seq (.block 1 (zq [za 23 (zM 6 (zx 6 (zv 0) (zv 5))),zA 6 44,zw 44 (zt 6) (zt 23),za 27 (zM 6 (zx 6 (zv 1) (zv 5))),zA 7 44,zw 44 (zt 7) (zt 27),za 69 (.ite (.ite (.ite (.ite (.ite (zB .neq (zo 0 (zv 6)) (zo 0 (zv 7))) (zQ true) (zS .neq (zo 1 (zv 6)) (zo 1 (zv 7)))) (zQ true) (zS .neq (zo 2 (zv 6)) (zo 2 (zv 7)))) (zQ true) (zS .neq (zo 3 (zv 6)) (zo 3 (zv 7)))) (zQ true) (zI .neq (zo 4 (zv 6)) (zo 4 (zv 7)))) (zQ true) (zI .neq (zL (zo 5 (zv 6))) (zL (zo 5 (zv 7)))))] <| .seq (.cond (zv 69) (zq [za 4 (zQ false)] <| .ret) .skip) (qog))) (qof)
noncomputable def qg0:IR:=zq [za 17 (zI .lss (zv 5) (zL (zv 0)))] <| .seq (.cond (zv 17) .skip (.exit 0)) (qoe)
noncomputable def qod:IR:=zq [za 4 (zQ true)] <| .ret
noncomputable def qoc:IR:=zq [za 5 (zK 0)] <| .seq (.block 0 (.loop qg0)) (qod)
noncomputable def qg5:IR:=zq [za 4 (zQ false),za 13 (zI .neq (zL (zv 0)) (zL (zv 1)))] <| .seq (.cond (zv 13) (zq [za 4 (zQ false)] <| .ret) .skip) (qoc)
def qyt:List Nat:=[0,1,4,5,6,7,8,13,17,23,27,69,74,87]
theorem qys:C2 20 88 qyt qg5 [.tmp 4]:=c2 [] Tryz.func20
@[simp] theorem qDL:qf Tryz.prog 20=true:=by kernel_rfl
section
variable {w:World} {av bv:Value} {xs ys:List NV}
theorem qlC {xs:List NV} {j:Nat} (h:j<xs.length):(xs.map (·.nd))[j]? =some xs[j].nd:=by simp [h]
theorem quw (hA:Rd w av xs) (hB:Rd w bv ys) (hlen:xs.length<4611686018427387904) (hlb:ys.length<4611686018427387904) (hk:∀x∈xs,x.nd.kids.length<4611686018427387904) (hkb:∀x∈ys,x.nd.kids.length<4611686018427387904):
  Calls Tryz.prog 20 #[av,bv] w fun e w'=>e= .returned (.bool (decide (xs.map (·.nd)=ys.map (·.nd))))∧qc w w':=by
 have V:=hA.len;have E:=hB.len;have S:=hA.cells.is;have hib:=hB.cells.is;generalize hRR:(fun (e:Ending) (w':World)=>e= .returned (.bool (decide (xs.map (·.nd)=ys.map (·.nd))))∧qc w w')=R;refine qys fun ρ r0 r1=> ?_;by_cases z:xs.length=ys.length
 ·simp -implicitDefEqProofs [qg5,r0,r1,S,hib,V,E,z,qoc];obtain ⟨I,hI⟩:∃I:Nat→qa→World→Prop,∀j g w',I j g w'↔(g 0=av∧g 1=bv∧qc w w'∧(xs.take j).map (·.nd)=(ys.take j).map (·.nd)):=⟨_,fun _ _ _=>Iff.rfl⟩;refine ko 5 ys.length I (by simp) ((hI _ _ _).2 ⟨by simp [r0],by simp [r1],qV _,by simp⟩) ?_;clear r0 r1;rintro j g w' hj rj hIw;obtain ⟨r0,r1,hE,heq⟩:=(hI _ _ _).1 hIw;have hwj:IntKind.i64.wrap ((j:Int)+1)=(j:Int)+1:=jG (by omega);by_cases l:j<ys.length
  ·have m:(j:Int)<(ys.length:Int):=by omega
   have C:j<xs.length:=by omega
   have hA':=hA.ext hE;have hB':=hB.ext hE;have hra:=hA'.row C;have hrb:=fun (W:World) (hW:qc w' W)=>(hB'.ext hW).row l;have kA:=hA.kids xs[j] (List.getElem_mem _);have kB:=hB.kids ys[j] (List.getElem_mem _);have lA:=hk xs[j] (List.getElem_mem _);have lB:=hkb ys[j] (List.getElem_mem _);have htx:xs.take (j+1)=xs.take j++[xs[j]]:=List.take_succ_eq_append_getElem C;have hty:ys.take (j+1)=ys.take j++[ys[j]]:=List.take_succ_eq_append_getElem l;have hno:xs[j].nd≠ys[j].nd→¬xs.map (·.nd)=ys.map (·.nd):=fun h e=>h (by
    have u:=qlC C;rw [e,qlC l] at u;exact (Option.some.inj u).symm)
   generalize xs[j]=x at hra kA lA htx hno;generalize ys[j]=y at hrb kB lB hty hno;have U:=zH kA.is;have hoa:=xO kA.is;have aa:=zH kB.is;have hob:=xO kB.is;have hka:qh x.kv=x.nd.kids.length:=by simpa using kA.len.symm
   have hkb':qh y.kv=y.nd.kids.length:=by simpa using kB.len.symm
   simp -implicitDefEqProofs [qg0,rj,r0,S,V,z,m,l,qoe,hra];refine qK qeF fun X w3 hX hE3 hb3 _=> ?_;simp -implicitDefEqProofs;refine jg (B:=X) (by simp) hb3 (by simp [Value.cells,qj,U]) (by simp [Value.cells,qj,U,hoa]) (by simpa [Value.cells,qj,U] using qe9) fun w4 hO4 hb4=> ?_;have hE4:qc w' w4:=hO4.ext hE3 hX;have hb4':Blk w4 X (qj x).toArray 44:=by simpa [Value.cells,qj,U] using hb4
   have hrb4:=hrb w4 hE4;simp -implicitDefEqProofs [rj,r1,hib,E,m,l,hrb4];refine qK qeF fun Y w5 hY hE5 hb5 _=> ?_;simp -implicitDefEqProofs;refine jg (B:=Y) (by simp) hb5 (by simp [Value.cells,qj,aa]) (by simp [Value.cells,qj,aa,hob]) (by simpa [Value.cells,qj,aa] using qe9) fun w6 hO6 hb6=> ?_;have hb6':Blk w6 Y (qj y).toArray 44:=by simpa [Value.cells,qj,aa] using hb6
   have hE6:qc w4 w6:=hO6.ext hE5 hY;have c:qc w w6:=hE.trans' (hE4.trans' hE6);have hbX:=hb4'.ext hE6;have cX:∀q,w6.cell? ⟨X,q,none⟩=(qj x)[q]? :=fun q=>by rw [hbX.cell];simp
   have cY:∀q,w6.cell? ⟨Y,q,none⟩=(qj y)[q]? :=fun q=>by rw [hb6'.cell];simp
   have wH:∀(W:World),qc w W→x.nd≠y.nd→R (.returned (.bool false)) W:=fun W hW h=>by
    rw [←hRR];exact ⟨by rw [decide_eq_false (hno h)],hW⟩
   simp -implicitDefEqProofs [-qiL, -qiK,wa2,we2,cX,cY,qj,kA.is,kB.is,hka,hkb',xH];rcases Classical.em (x.nd.d.kind=y.nd.d.kind) with u|u
   rotate_left
   ·simp -implicitDefEqProofs [u];exact wH _ c fun e=>u (by rw [e])
   rcases Classical.em (x.nd.d.name=y.nd.d.name) with H|H
   rotate_left
   ·simp -implicitDefEqProofs [u,H];exact wH _ c fun e=>H (by rw [e])
   rcases Classical.em (x.nd.d.vr=y.nd.d.vr) with Z|Z
   rotate_left
   ·simp -implicitDefEqProofs [u,H,Z];exact wH _ c fun e=>Z (by rw [e])
   rcases Classical.em (x.nd.d.typ=y.nd.d.typ) with h4|h4
   rotate_left
   ·simp -implicitDefEqProofs [u,H,Z,h4];exact wH _ c fun e=>h4 (by rw [e])
   rcases Classical.em (x.nd.d.n=y.nd.d.n) with h5|h5
   rotate_left
   ·simp -implicitDefEqProofs [u,H,Z,h4,h5];exact wH _ c fun e=>h5 (by rw [e])
   rcases Classical.em (x.nd.kids.length=y.nd.kids.length) with h6|h6
   rotate_left
   ·simp -implicitDefEqProofs [u,H,Z,h4,h5,h6];exact wH _ c fun e=>h6 (by rw [e])
   have h6':(x.nd.kids.length:Int)=(y.nd.kids.length:Int):=by omega
   simp -implicitDefEqProofs [u,H,Z,h4,h5,h6,qog];clear hrb hra;obtain ⟨J,hJ⟩:∃J:Nat→qa→World→Prop,∀q g w',J q g w'↔(g 0=av∧g 1=bv∧g 5= .int .i64 (j:Int)∧g 6= .pointer (some ⟨X,0,none⟩)∧g 7= .pointer (some ⟨Y,0,none⟩)∧qc w6 w'∧x.nd.kids.take q=y.nd.kids.take q):=⟨_,fun _ _ _=>Iff.rfl⟩;refine ko 8 y.nd.kids.length J (by simp) ((hJ _ _ _).2 ⟨by simp [r0],by simp [r1],by simp [rj],by simp,by simp,qV _,by simp⟩) ?_;rintro q ρ2 w7 hq rq hJw;obtain ⟨s0,s1,s5,s6,s7,O,F⟩:=(hJ _ _ _).1 hJw;have hwq:IntKind.i64.wrap ((q:Int)+1)=(q:Int)+1:=jG (by omega);have o:=c.trans' O;have d5:w7.cell? ⟨X,5,none⟩=some x.kv:=O.cell (by rw [cX];rfl);have e5:w7.cell? ⟨Y,5,none⟩=some y.kv:=O.cell (by rw [cY];rfl);by_cases ab:q<y.nd.kids.length
   ·have A:(q:Int)<(y.nd.kids.length:Int):=by omega
    have hqx:q<x.nd.kids.length:=by omega
    have ca:=(kA.ext o).cell q (by simpa using hqx);have cb:=(kB.ext o).cell q (by simpa using ab);simp only [List.getElem_map,encI] at ca cb;simp -implicitDefEqProofs [qg1,rq,s6,d5,kA.is,hka,h6,A,ab,qoh,s7,e5,kB.is,hkb',ca,cb];intro w8 hE8;by_cases he:x.nd.kids[q]=y.nd.kids[q]
    ·simp -implicitDefEqProofs [he,qg2,qoi,rq,hwq];refine (hJ _ _ _).2 ⟨by simp [s0],by simp [s1],by simp [s5],by simp [s6],by simp [s7],O.trans' hE8, ?_⟩;rw [List.take_succ_eq_append_getElem hqx,List.take_succ_eq_append_getElem ab,F,he]
    ·simp -implicitDefEqProofs [he,qg2];exact wH _ (o.trans' hE8) fun e=>he (by simp [e])
   ·have A:¬(q:Int)<(y.nd.kids.length:Int):=by omega
    rw [List.take_of_length_le (by omega),List.take_of_length_le (by omega)] at F;simp -implicitDefEqProofs [qg1,rq,s6,d5,kA.is,hka,h6,A,ab,qof,s5,hwj,l];refine (hI _ _ _).2 ⟨by simp [s0],by simp [s1],o, ?_⟩;rw [htx,hty,List.map_append,List.map_append,heq];have:x.nd=y.nd:=by
     have hd:x.nd.d=y.nd.d:=by
      cases hx:x.nd.d;cases hy:y.nd.d;simp only [hx,hy] at u H Z h4 h5;subst u H Z h4 h5;rfl
     cases hx:x.nd;cases hy:y.nd;rw [hx,hy] at hd F;simp only at hd F;rw [hd,F]
    simp [this]
  ·have m:¬(j:Int)<(ys.length:Int):=by omega
   rw [List.take_of_length_le (by omega),List.take_of_length_le (by omega)] at heq;simp -implicitDefEqProofs [qg0,rj,r0,S,V,z,m,l,qod];rw [←hRR];exact ⟨by rw [decide_eq_true heq],hE⟩
 ·simp -implicitDefEqProofs [qg5,r0,r1,S,hib,V,E,z];rw [←hRR];refine ⟨?_,qV _⟩;rw [decide_eq_false];intro e;exact z (by have:=congrArg List.length e;simpa using this)
end
@[simp] theorem qDM:qf Tryz.prog 36=true:=by kernel_rfl
theorem qkX (s:Bs) (c:s.length≤100000000) (w:World):Calls Tryz.prog 36 #[.string (qb s)] w fun e w'=>e= .returned (.string (qb (vi s)))∧qc w w':=by
 refine qxe fun ρ r0=> ?_;have e:vi s=[40,40]++s++[10,41,41]:=by simp [vi]
 rw [e];simp -implicitDefEqProofs (disch:=((try simp only [List.length_append,List.length_cons,List.length_nil]);omega)) [-kj,qac,qaz,qm4,r0];exact qV _
theorem qkW (s:Bs):(qG s).1.length≤400∧∀x∈(qG s).1,x.kids.length≤400:=by
 unfold qG;split
 ·exact ⟨by simp,by simp⟩
 ·split
  ·rename_i t _ _ _;split
   ·rename_i j;obtain ⟨u,g,c,_,_⟩:=(qru _ _).1 j;rw [g];refine ⟨by rw [T.flat_len];exact c,fun x l=> ?_⟩;have:=qgt u 0 x l;omega
   ·exact ⟨by simp,by simp⟩
  ·exact ⟨by simp,by simp⟩
  ·exact ⟨by simp,by simp⟩
def qmm:List (Option St):=
 [some (.eff none (some 63) (.indexAddr 57 (.tmp 8) (.const (.int .i64 0))) 0),
  some (.asg none 64 (.op1 .load1 (.var 63))),
  some (.asg none 65 (.var 0)),
  some (.eff none (some 66) (.call {callee:= .value (.func 36),args:= #[(.tmp 65)],argTypes:= #[9]}) 9),
  some (.asg none 67 (.op2 (.sbin .add) (.var 64) (.var 66))),
  some (.asg none 68 (.op2 (.sbin .add) (.var 67) (.const (.string ⟨#[10]⟩)))),
  some (.eff none (some 69) (.indexAddr 57 (.tmp 8) (.const (.int .i64 1))) 0),
  some (.asg none 70 (.op1 .load1 (.var 69))),
  some (.asg none 71 (.op2 (.sbin .add) (.var 68) (.var 70))),
  some (.eff none (some 72) (.call {callee:= .value (.func 17),args:= #[(.tmp 71)],argTypes:= #[9]}) 30),
  some (.asg none 62 (.var 72)),
  some (.asg none 73 (.op1 (.ext 0) (.var 62))),
  some (.asg none 74 (.op1 (.ext 1) (.var 62))),
  some (.eff none (some 12) (.alloc 26) 0),
  some (.asg none 11 (.var 73)),
  some (.eff none none (.store 26 (.tmp 12) (.tmp 74)) 0)]
def qmu:List (List Nat):=
 [[],[0],[],[2],[1,3],[4],[],[6],[5,7],[8,3],[9],[10],[10],[],[11,9,0,1,2,3,4,5,6,7,8,9,10,11,13],[13,12,14,0,1,2,3,4,5,6,7,8,9,10,11,12,13,14]]
theorem qwH:qab Tryz.prog 88 qmv (qI qgC 13)=some qmm:=by kernel_rfl
theorem qwI:qee (qI qgC 13)=qmu:=by kernel_rfl
theorem z57:vh Tryz.prog 57=some #[.string (qb []), .string (qb [])]:=by kernel_rfl
theorem qsq:jo Tryz.prog 57 2=true:=by kernel_rfl
theorem qsU:xX Tryz.prog 58=some (57,2):=by kernel_rfl
theorem qA4 (a b:ByteArray):Tryz.prog.built 57 [(0, .string a),(1, .string b)]=some #[.string a, .string b]:=by kernel_rfl
theorem qcw:Tryz.prog.underlying 57=some (.array 2 9):=by kernel_rfl
def ka:Nat→Bs|0=>[102,40] |1=>[120,91] |_=>[117,112,40]
def wA:Nat→Bs|1=>[93] |_=>[41]
def vP (k:Nat) (s:Bs):Bs:=ka k++(vi s++(10::wA k))
def qag:Nat→Nat:=fun i=>[63,64,65,66,67,68,69,70,71,72,62,73,74,12,11].getD i 0
def G8 (w0:World) (X k:Nat) (s:Bs) (w:World) (v:Value):Nat→Prop
 |0=>v= .pointer (some ⟨X,0,none⟩)
 |1=>v= .string (qb (ka k))
 |2=>v= .string (qb s)
 |3=>v= .string (qb (vi s))
 |4=>v= .string (qb (ka k++vi s))
 |5=>v= .string (qb (ka k++(vi s++[10])))
 |6=>v= .pointer (some ⟨X,1,none⟩)
 |7=>v= .string (qb (wA k))
 |8=>v= .string (qb (vP k s))
 |9=>∃u,v= .tuple #[u,wb (qG (vP k s)).2.1 (qG (vP k s)).2.2]∧vG w u (qG (vP k s)).1
 |10=>∃u,v= .tuple #[u,wb (qG (vP k s)).2.1 (qG (vP k s)).2.2]∧vG w u (qG (vP k s)).1
 |11=>vG w v (qG (vP k s)).1
 |12=>v=wb (qG (vP k s)).2.1 (qG (vP k s)).2.2
 |13=>∃D,v= .pointer (some ⟨D,0,none⟩)∧w0.heap.size≤D∧Blk w D #[.int .i64 0, .int .i64 0] 26
 |_=>vG w v (qG (vP k s)).1
structure J8 (w0:World) (X k:Nat) (s:Bs) (ρ0:qa) (L:Nat→Bool) (ρ:qa) (w:World):Prop where
 ext:qc w0 w
 keep:∀i∈[0,8,9,10,44,45,46],ρ i=ρ0 i
 facts:∀i,i<15→L i=true→(i=13→L 15=false)→G8 w0 X k s w (ρ (qag i)) i
 all:L 15=true→∀i,i<15→L i=true
 fin:L 15=true→∃D,ρ 12= .pointer (some ⟨D,0,none⟩)∧Blk w D #[.int .i64 (qG (vP k s)).2.1, .int .i64 (qG (vP k s)).2.2] 26
section
variable {w0:World} {X k:Nat} {s:Bs} {ρ0:qa} {L:Nat→Bool} {ρ:qa} {w w':World} {v:Value}
theorem G8.ext (c:qc w w'):∀{i:Nat},G8 w0 X k s w v i→G8 w0 X k s w' v i
 |0,h|1,h|2,h|3,h|4,h|5,h|6,h|7,h|8,h|12,h=>h
 |9,⟨u,j,g⟩|10,⟨u,j,g⟩=>⟨u,j,g.ext c⟩
 |11,h=>vG.ext h c
 |13,⟨D,j,g,l⟩=>⟨D,j,g,l.ext c⟩
 |_+14,h=>vG.ext h c
theorem J8.put (h:J8 w0 X k s ρ0 L ρ w) (i:Nat) (l:i<15) (hn:L 15=false) (g:qc w w') (q:G8 w0 X k s w' v i):J8 w0 X k s ρ0 (xD i L) (qn ρ (qag i) v) w':=by
 have inj:∀a,a<15→∀b,b<15→a≠b→qag a≠qag b:=by decide
 have o:∀a,a<15→∀j∈[0,8,9,10,44,45,46],j≠qag a:=by decide
 refine ⟨h.ext.trans' g,fun j c=>by rw [qn,if_neg (o i l j c)];exact h.keep j c,fun j c hL m=> ?_,fun e=> ?_,fun e=> ?_⟩
 ·by_cases e:j=i
  ·subst e;simpa [qn] using q
  ·rw [qn,if_neg (inj j c i l e)];exact (h.facts j c (by simpa [xD,e] using hL) fun _=>hn).ext g
 ·rw [xD,if_neg (by omega),hn] at e;cases e
 ·rw [xD,if_neg (by omega),hn] at e;cases e
theorem J8.get (h:J8 w0 X k s ρ0 L ρ w) (i:Nat) (c:i<15) (hL:L i=true) (hn:L 15=false):G8 w0 X k s w (ρ (qag i)) i:=h.facts i c hL fun _=>hn
end
section
variable {w0:World} {X k:Nat} {s:Bs} {ρ0:qa} {L:Nat→Bool} {ρ:qa} {w:World} {Q:Ks}
theorem qsG (hG:L01.G w0) (hM:xA w0) (hk:k<3) (hs:s.length≤1000) (h8:ρ0 8= .pointer (some ⟨X,0,none⟩)) (Z:ρ0 0= .string (qb s)) (hX:Blk w0 X #[.string (qb (ka k)), .string (qb (wA k))] 57)
  (i:Nat) (t:St) (ds:List Nat) (l:qmm[i]? =some (some t)) (m:qmu[i]? =some ds) (V:L i=false) (hL:∀d∈ds,L d=true) (c:i≠15→L 15=false) (g:J8 w0 X k s ρ0 L ρ w):t.wp Tryz.prog Q (J8 w0 X k s ρ0 (xD i L)) ρ w:=by
 have S:ρ 8= .pointer (some ⟨X,0,none⟩):=(g.keep 8 (by decide)).trans h8;have r0:ρ 0= .string (qb s):=(g.keep 0 (by decide)).trans Z;have C:=hX.ext g.ext;have c0:w.cell? ⟨X,0,none⟩=some (.string (qb (ka k))):=by rw [C.cell];rfl
 have c1:w.cell? ⟨X,1,none⟩=some (.string (qb (wA k))):=by rw [C.cell];rfl
 have A:(ka k).length≤3∧(wA k).length≤3:=by
  match k,hk with
  |0,_=>decide
  |1,_=>decide
  |2,_=>decide
 have hw:(vi s).length≤1006:=by simp [vi];omega
 match i with
 |0=>
  cases l;simp -implicitDefEqProofs only [St.wp,gd,if_true];exact y0 (k:=0) qcw rfl rfl S rfl (by decide) (g.put 0 (by decide) (c (by decide)) (qV _) rfl)
 |1=>
  cases l;cases m;have e:ρ 63= .pointer (some ⟨X,0,none⟩):=g.get 0 (by decide) (hL 0 (by simp)) (c (by decide));simp -implicitDefEqProofs [St.wp,e,c0];exact g.put 1 (by decide) (c (by decide)) (qV _) rfl
 |2=>
  cases l;simp -implicitDefEqProofs [St.wp,r0];exact g.put 2 (by decide) (c (by decide)) (qV _) rfl
 |3=>
  cases l;cases m;have e:ρ 65= .string (qb s):=g.get 2 (by decide) (hL 2 (by simp)) (c (by decide));simp -implicitDefEqProofs [St.wp,e];refine (qkX s (by omega) w).mono ?_;rintro _ w1 ⟨rfl,z⟩;exact g.put 3 (by decide) (c (by decide)) z rfl
 |4=>
  cases l;cases m;have e:ρ 64= .string (qb (ka k)):=g.get 1 (by decide) (hL 1 (by simp)) (c (by decide));have e':ρ 66= .string (qb (vi s)):=g.get 3 (by decide) (hL 3 (by simp)) (c (by decide));simp -implicitDefEqProofs (disch:=((try simp only [List.length_append,List.length_cons,List.length_nil]);omega)) [-kj,qac,qaz,St.wp,e,e'];exact g.put 4 (by decide) (c (by decide)) (qV _) rfl
 |5=>
  cases l;cases m;have e:ρ 67= .string (qb (ka k++vi s)):=g.get 4 (by decide) (hL 4 (by simp)) (c (by decide));simp -implicitDefEqProofs (disch:=((try simp only [List.length_append,List.length_cons,List.length_nil]);omega)) [-kj,qac,qaz,St.wp,e];exact g.put 5 (by decide) (c (by decide)) (qV _) rfl
 |6=>
  cases l;simp -implicitDefEqProofs only [St.wp,gd,if_true];exact y0 (k:=1) qcw rfl rfl S rfl (by decide) (g.put 6 (by decide) (c (by decide)) (qV _) rfl)
 |7=>
  cases l;cases m;have e:ρ 69= .pointer (some ⟨X,1,none⟩):=g.get 6 (by decide) (hL 6 (by simp)) (c (by decide));simp -implicitDefEqProofs [St.wp,e,c1];exact g.put 7 (by decide) (c (by decide)) (qV _) rfl
 |8=>
  cases l;cases m;have e:ρ 68= .string (qb (ka k++(vi s++[10]))):=g.get 5 (by decide) (hL 5 (by simp)) (c (by decide));have e':ρ 70= .string (qb (wA k)):=g.get 7 (by decide) (hL 7 (by simp)) (c (by decide));simp -implicitDefEqProofs (disch:=((try simp only [List.length_append,List.length_cons,List.length_nil]);omega)) [-kj,qac,qaz,St.wp,e,e'];exact g.put 8 (by decide) (c (by decide)) (qV _) rfl
 |9=>
  cases l;cases m;have e:ρ 71= .string (qb (vP k s)):=g.get 8 (by decide) (hL 8 (by simp)) (c (by decide));simp -implicitDefEqProofs [St.wp,e];refine (qde (hG.ext g.ext) (hM.ext g.ext) (vP k s) (by simp [vP];omega)).mono ?_;rintro _ w1 ⟨v,rfl,hv,z⟩;exact g.put 9 (by decide) (c (by decide)) z ⟨v,rfl,hv⟩
 |10=>
  cases l;cases m;obtain ⟨u,e,E⟩:=g.get 9 (by decide) (hL 9 (by simp)) (c (by decide));have e:ρ 72=_:=e;simp -implicitDefEqProofs [St.wp,e];exact g.put 10 (by decide) (c (by decide)) (qV _) ⟨u,rfl,E⟩
 |11=>
  cases l;cases m;obtain ⟨u,e,E⟩:=g.get 10 (by decide) (hL 10 (by simp)) (c (by decide));have e:ρ 62=_:=e;simp -implicitDefEqProofs [St.wp,e];exact g.put 11 (by decide) (c (by decide)) (qV _) E
 |12=>
  cases l;cases m;obtain ⟨u,e,E⟩:=g.get 10 (by decide) (hL 10 (by simp)) (c (by decide));have e:ρ 62=_:=e;simp -implicitDefEqProofs [St.wp,e];exact g.put 12 (by decide) (c (by decide)) (qV _) rfl
 |13=>
  cases l;simp -implicitDefEqProofs only [St.wp,gd,if_true];refine qK QY fun D w1 O z A _=> ?_;exact g.put 13 (by decide) (c (by decide)) z ⟨D,rfl,Nat.le_trans g.ext.size O,A⟩
 |14=>
  cases l;cases m;have e:vG w (ρ 73) _:=g.get 11 (by decide) (hL 11 (by simp)) (c (by decide));simp -implicitDefEqProofs [St.wp];exact g.put 14 (by decide) (c (by decide)) (qV _) e
 |15=>
  cases l;cases m;obtain ⟨D,o,O,A⟩:=g.get 13 (by decide) (hL 13 (by simp)) V;have o:ρ 12=_:=o;have x:ρ 74=wb (qG (vP k s)).2.1 (qG (vP k s)).2.2:=g.get 12 (by decide) (hL 12 (by simp)) V;simp -implicitDefEqProofs only [St.wp,gd,if_true];refine jg (B:=D) o A (by simp [x,wb,Value.cells]) (by simp [x,wb,Value.cells]) (by simpa [Value.cells] using yj) fun w1 U y=> ?_;rw [show qd ρ (.tmp 74)=_ from x] at y;simp -implicitDefEqProofs [wb,Value.cells] at y;have sm:=qv.only U A;refine ⟨U.ext g.ext O,g.keep,fun j F J H=> ?_,fun _ j F=> ?_,fun _=>⟨D,o,y⟩⟩
  rotate_left
  ·rw [xD,if_neg (by omega)];exact hL j (by simp;omega)
  have q:j≠13:=fun e=>by have:=H e;simp [xD] at this
  have hf:=g.facts j F (by simpa [xD,show j≠15 by omega] using J) fun e=>absurd e q
  match j,F,hf with
  |0,_,h|1,_,h|2,_,h|3,_,h|4,_,h|5,_,h|6,_,h|7,_,h|8,_,h|12,_,h=>exact h
  |9,_,⟨u,Y,R⟩|10,_,⟨u,Y,R⟩=>exact ⟨u,Y,R.at' sm (fun _=> .inr (by decide)) fun _=> .inr (by decide)⟩
  |11,_,h|14,_,h=>exact vG.at' h sm (fun _=> .inr (by decide)) fun _=> .inr (by decide)
  |13,_,_=>exact absurd rfl q
 |n+16=>cases l
end
theorem qwl {w:World} (hG:L01.G w) (hM:xA w) (s:Bs):Calls Tryz.prog 8 #[.string (qb s)] w (okR w):=by
 generalize hRR:okR w=R;have rd:∀{W:World},qc w W→Calls Tryz.prog 14 #[] W fun e w'=>e= .returned (.bool true)∧qc W w':=fun {W} hE=>(qrh (hG.ext hE) (hM.ext hE)).mono fun e w' h=>⟨h.1,h.2⟩;have fin:∀W,qc w W→R (.returned (.bool true)) W:=fun W hE=>by rw [←hRR];exact ⟨rfl,hE⟩
 refine qwJ fun ρ r0=> ?_;by_cases hlong:1000<s.length
 ·have hl':(1000:Int)<(s.length:Int):=by omega
  simp -implicitDefEqProofs [ir8,r0,hl'];refine (rd (qV _)).mono ?_;rintro _ w1 ⟨rfl,hE⟩;simp -implicitDefEqProofs;exact fin _ hE
 have hl':¬(1000:Int)<(s.length:Int):=by omega
 have hs:s.length≤1000:=by omega
 have hw:(vi s).length≤1006:=by simp [vi];omega
 simp -implicitDefEqProofs [ir8,r0,hl',qmn];refine (qde hG hM s (by omega)).mono ?_;rintro _ w1 ⟨va,rfl,hva,hE1⟩;obtain ⟨la,e1,e2,F⟩:∃la e1 e2,qG s=(la,e1,e2):=⟨_,_,_,rfl⟩;have hla:=qkW s;rw [F] at hva hla⊢;dsimp only at hva hla⊢;simp -implicitDefEqProofs [wb];refine qK QY fun A w2 hA hE2 hb2 _=> ?_;simp -implicitDefEqProofs;refine jg (B:=A) (by simp) hb2 (by simp [Value.cells]) (by simp [Value.cells]) (by simpa [Value.cells] using yj) fun w3 hO3 hb3=> ?_;simp [Value.cells] at hb3;have q:qc w1 w3:=hO3.ext hE2 hA;have hE3:=hE1.trans' q;simp -implicitDefEqProofs [r0];refine (qkX s (by omega) _).mono ?_;rintro _ w4 ⟨rfl,hE4⟩;simp -implicitDefEqProofs;have hE04:=hE3.trans' hE4;refine (qde (hG.ext hE04) (hM.ext hE04) (vi s) (by omega)).mono ?_;rintro _ w5 ⟨vb,rfl,hvb,hE5⟩;obtain ⟨lb,f1,f2,hpb⟩:∃la e1 e2,qG (vi s)=(la,e1,e2):=⟨_,_,_,rfl⟩;rw [hpb] at hvb⊢;dsimp only at hvb⊢;simp -implicitDefEqProofs [wb];refine qK QY fun B w6 hB hE6 hb6 _=> ?_;simp -implicitDefEqProofs;refine jg (B:=B) (by simp) hb6 (by simp [Value.cells]) (by simp [Value.cells]) (by simpa [Value.cells] using yj) fun w7 hO7 hb7=> ?_;simp [Value.cells] at hb7;have hE57:qc w5 w7:=hO7.ext hE6 hB;have U:=(hE4.trans' hE5).trans' hE57;have Z:=hE3.trans' U;have rA:Eng.jq w7 ⟨A,0,none⟩ 0 2=some [.int .i64 e1, .int .i64 e2]:=kW (hb3.ext U);have rB:Eng.jq w7 ⟨B,0,none⟩ 0 2=some [.int .i64 f1, .int .i64 f2]:=kW hb7;simp -implicitDefEqProofs [rA,qil];refine qhx (xs:= #[.int .i64 e1, .int .i64 e2]) (ys:= #[.int .i64 0, .int .i64 0]) (by simp) (by simp) g26 (qhv e1 e2 0 0 _) ?_;cases hc:(decide (e1=0)&&decide (e2=0)) with
 |false=>
  simp -implicitDefEqProofs;refine (rd Z).mono ?_;rintro _ w8 ⟨rfl,hE8⟩;simp -implicitDefEqProofs;exact fin _ (Z.trans' hE8)
 |true=>
 simp only [Bool.and_eq_true,decide_eq_true_eq] at hc;obtain ⟨rfl,rfl⟩:=hc;have hwr:=qrn F (by omega);rw [hpb] at hwr;simp only [Prod.mk.injEq] at hwr;obtain ⟨rfl,rfl,rfl⟩:=hwr;simp -implicitDefEqProofs [qmo,rB,qil];refine qhx (xs:= #[.int .i64 0, .int .i64 0]) (ys:= #[.int .i64 0, .int .i64 0]) (by simp) (by simp) g26 (qhv 0 0 0 0 _) ?_;have same:∀{W:World} {u v:Value} {l:List Nd},l.length≤400∧(∀x∈l,x.kids.length≤400)→vG W u l→vG W v l→Calls Tryz.prog 20 #[u,v] W fun e w'=>e= .returned (.bool true)∧qc W w':=fun hl hu hv=>by
  obtain ⟨xs,hx,hu⟩:=hu.rdN;obtain ⟨ys,hy,hv⟩:=hv.rdN;have h1:=congrArg List.length hx;have h2:=congrArg List.length hy;rw [List.length_map] at h1 h2;have h:=quw hu hv (by omega) (by omega) (fun x hx'=>by have:=hl.2 x.nd (by rw [←hx];exact List.mem_map_of_mem hx');omega) (fun x hx'=>by have:=hl.2 x.nd (by rw [←hy];exact List.mem_map_of_mem hx');omega);rw [hx,hy,decide_eq_true rfl] at h;exact h
 simp -implicitDefEqProofs;refine (same hla ((hva.ext q).ext U) (hvb.ext hE57)).mono ?_;rintro _ w8 ⟨rfl,hE8⟩;have hE08:=Z.trans' hE8;simp -implicitDefEqProofs [qmp,qA4];refine xc qsU (by decide) rfl (by simp [Value.cells]) fun AR w9 hAR hE9 hb9 _=> ?_;simp -implicitDefEqProofs [Value.cells] at hb9⊢;have hE09:=hE08.trans' hE9;obtain ⟨I,hI⟩:∃I:Nat→qa→World→Prop,∀k S w',I k S w'↔(S 0= .string (qb s)∧S 44= .slice (some ⟨AR,0,none⟩) 3 3∧S 45= .int .i64 3∧qc w9 w'):=⟨_,fun _ _ _=>Iff.rfl⟩;refine ko (K:=fun _ _=>True) 46 3 I (by simp) ((hI _ _ _).2 ⟨by simp [r0],by simp,by simp [qh],qV _⟩) ?_;clear r0;rintro k S W hk rk hIk;obtain ⟨q0,q44,q45,hEW⟩:=(hI _ _ _).1 hIk;have Y:=hE09.trans' hEW;by_cases E:k<3
 ·have hb:=hb9.ext hEW;have hki:(k:Int)<3:=by omega
  have c0:W.cell? (qM (.slice (some ⟨AR,0,none⟩) 3 3) (k*2))=some (.string (qb (ka k))):=by
   match k,E with
   |0,_=>show W.cell? ⟨AR,0,none⟩=_;rw [hb.cell];rfl
   |1,_=>show W.cell? ⟨AR,2,none⟩=_;rw [hb.cell];rfl
   |2,_=>show W.cell? ⟨AR,4,none⟩=_;rw [hb.cell];rfl
  have c1:W.cell? (qM (.slice (some ⟨AR,0,none⟩) 3 3) (k*2+1))=some (.string (qb (wA k))):=by
   match k,E with
   |0,_=>show W.cell? ⟨AR,1,none⟩=_;rw [hb.cell];rfl
   |1,_=>show W.cell? ⟨AR,3,none⟩=_;rw [hb.cell];rfl
   |2,_=>show W.cell? ⟨AR,5,none⟩=_;rw [hb.cell];rfl
  have hpe:qG (ka k++(s++10::wA k))=qG (vP k s):=by
   match k,E with
   |0,_=>exact qtd F (by omega)
   |1,_=>exact qta F (by omega)
   |2,_=>exact qtb F (by omega)
  have hbl:(ka k).length≤3∧(wA k).length≤3:=by
   match k,E with
   |0,_=>decide
   |1,_=>decide
   |2,_=>decide
  simp -implicitDefEqProofs [qgB,rk,q45,hki,qmr,q44,qt,qh,E,c0,c1];refine qK z57 fun X w10 hX O hb10 _=> ?_;simp -implicitDefEqProofs;refine jg (B:=X) (by simp) hb10 (by simp [Value.cells]) (by simp [Value.cells]) (by simpa [Value.cells] using qsq) fun w11 hO11 m=> ?_;simp -implicitDefEqProofs [Value.cells] at m;have hE11:qc W w11:=hO11.ext O hX;have j:=Y.trans' hE11;have d0:w11.cell? ⟨X,0,none⟩=some (.string (qb (ka k))):=by rw [m.cell];rfl
  have d1:w11.cell? ⟨X,1,none⟩=some (.string (qb (wA k))):=by rw [m.cell];rfl
  simp -implicitDefEqProofs;refine y0 (k:=0) (B:=X) (o:=0) qcw rfl rfl (by simp) rfl (by decide) ?_;simp -implicitDefEqProofs (disch:=((try simp only [List.length_append,List.length_cons,List.length_nil]);omega)) [-kj,qac,qaz,d0,q0];refine y0 (k:=1) (B:=X) (o:=0) qcw rfl rfl (by simp) rfl (by decide) ?_;simp -implicitDefEqProofs (disch:=((try simp only [List.length_append,List.length_cons,List.length_nil]);omega)) [-kj,qac,qaz,d1];refine (qde (hG.ext j) (hM.ext j) (ka k++(s++10::wA k)) (by simp;omega)).mono ?_;rintro _ w12 ⟨vc,rfl,hvc,H⟩;refine qqr [0,8,44,45,46] fun V z=> ?_;have z0:V 0= .string (qb s):=by rw [z 0 (by simp)];simp [q0]
  have z8:V 8= .pointer (some ⟨X,0,none⟩):=by rw [z 8 (by simp)];simp
  have z44:V 44= .slice (some ⟨AR,0,none⟩) 3 3:=by rw [z 44 (by simp)];simp [q44]
  have z45:V 45= .int .i64 3:=by rw [z 45 (by simp)];simp [q45]
  have z46:V 46= .int .i64 (k:Int):=by rw [z 46 (by simp)];simp [rk]
  clear z;rw [hpe] at hvc⊢;simp -implicitDefEqProofs [wb];refine qK QY fun C w13 hC q hb13 _=> ?_;simp -implicitDefEqProofs;refine jg (B:=C) (by simp) hb13 (by simp [Value.cells]) (by simp [Value.cells]) (by simpa [Value.cells] using yj) fun w14 hO14 aa=> ?_;simp -implicitDefEqProofs [Value.cells] at aa;have c:qc w12 w14:=hO14.ext q hC;have J:=(j.trans' H).trans' c;have hX14:=(m.ext H).ext c;simp -implicitDefEqProofs;refine qkA qwH qwI (by decide) (by decide) (J8 w14 X k s _) (fun w' hE _=>⟨hE,fun _ _=>rfl,fun _ _ e=>by (cases e),fun e=>by (cases e),fun e=>by (cases e)⟩) ?_ ?_
  ·intro L i t ds ht hd hi hL g W3 y;refine qsG (hG.ext J) (hM.ext J) E hs (by simp [z8]) (by simp [z0]) hX14 i t ds ht hd hi hL (fun hne=> ?_) y;cases h:L 15 with
   |false=>rfl
   |true=>
    have h16:i<16:=(List.getElem?_eq_some_iff.1 ht).1;have:=y.all h i (by omega);rw [hi] at this;cases this
  ·intro L g w15 hL y;obtain ⟨D,e12,hbD⟩:=y.fin (hL 15 (by decide));have k9:g 9=vc:=by rw [y.keep 9 (by simp)];simp
   have k10:g 10= .pointer (some ⟨C,0,none⟩):=by rw [y.keep 10 (by simp)];simp
   have k0:g 0= .string (qb s):=by rw [y.keep 0 (by simp)];simp [z0]
   have k44:g 44= .slice (some ⟨AR,0,none⟩) 3 3:=by rw [y.keep 44 (by simp)];simp [z44]
   have k45:g 45= .int .i64 3:=by rw [y.keep 45 (by simp)];simp [z45]
   have k46:g 46= .int .i64 (k:Int):=by rw [y.keep 46 (by simp)];simp [z46]
   have g0:w15.cell? ⟨C,0,none⟩=some (.int .i64 (qG (vP k s)).2.1):=by rw [(aa.ext y.ext).cell];rfl
   have g1:w15.cell? ⟨D,0,none⟩=some (.int .i64 (qG (vP k s)).2.1):=by rw [hbD.cell];rfl
   have hv11:vG w15 (g 11) _:=y.facts 14 (by decide) (hL 14 (by decide)) fun e=>absurd e (by decide);simp -implicitDefEqProofs [qmt,k10,e12,g0,g1,k9];refine (same (qkW _) ((hvc.ext c).ext y.ext) hv11).mono ?_;rintro _ w16 ⟨rfl,hE16⟩;simp -implicitDefEqProofs [qms,k46,jG (n:=(k:Int)+1) (by omega)];exact (hI _ _ _).2 ⟨by simp [k0],by simp [k44],by simp [k45],((((hEW.trans' hE11).trans' H).trans' c).trans' y.ext).trans' hE16⟩
 ·obtain rfl:k=3:=by omega
  simp -implicitDefEqProofs [qgB,rk,q45,qmq];refine (rd Y).mono ?_;rintro _ w10 ⟨rfl,O⟩;simp -implicitDefEqProofs;exact fin _ (Y.trans' O)
end Go.L02
