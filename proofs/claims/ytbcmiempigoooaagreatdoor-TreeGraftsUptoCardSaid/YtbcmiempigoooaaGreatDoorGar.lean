/- Lemmas for a claim about layer 2 (tree). No conditions but those they state. -/
import Derived.Test.YtbcmiempigoooaaGreatDoorGaq
import Derived.Shelf.Strings.OnBuilder
import Derived.Test.YtbcmiempigoooaaGreatDoorProg
import Derived.KernelRfl
set_option linter.all false
namespace Go.Proofs
open Go.Shelf
def Tryz.lays156_ren:Go.Shelf.Ren:=⟨fun|156=>34|165=>88|166=>89|169=>90|240=>177|241=>178|276=>247|277=>248|n=>n,fun|31=>51|9=>9|3=>3|4=>4|0=>0|20=>20|72=>114|76=>127|70=>111|37=>112|75=>126|127=>196|164=>254|5=>5|80=>129|n=>n,fun|n=>n⟩
theorem Tryz.lays156:Go.Proofs.Lays.n156 Tryz.prog Tryz.lays156_ren:={
 mixed:=by kernel_rfl
 f156:=Tryz.func34.trans (congrArg some (by kernel_rfl))
 f165:=Tryz.func88.trans (congrArg some (by kernel_rfl))
 f166:=Tryz.func89.trans (congrArg some (by kernel_rfl))
 f169:=Tryz.func90.trans (congrArg some (by kernel_rfl))
 f240:=Tryz.func177.trans (congrArg some (by kernel_rfl))
 f241:=Tryz.func178.trans (congrArg some (by kernel_rfl))
 f276:=Tryz.func247.trans (congrArg some (by kernel_rfl))
 f277:=Tryz.func248.trans (congrArg some (by kernel_rfl))
 t0:=Tryz.underlying0
 a0:=Tryz.isAgg0
 z0:=Tryz.sizeOf0
 v0:=Tryz.zeroValue0
 t3:=Tryz.underlying3
 a3:=Tryz.isAgg3
 z3:=Tryz.sizeOf3
 v3:=Tryz.zeroValue3
 t4:=Tryz.underlying4
 a4:=Tryz.isAgg4
 z4:=Tryz.sizeOf4
 v4:=Tryz.zeroValue4
 t9:=Tryz.underlying9
 a9:=Tryz.isAgg9
 z9:=Tryz.sizeOf9
 v9:=Tryz.zeroValue9
 t20:=Tryz.underlying20
 a20:=Tryz.isAgg20
 z20:=Tryz.sizeOf20
 v20:=Tryz.zeroValue20
 t31:=Tryz.underlying51
 a31:=Tryz.isAgg51
 z31:=Tryz.sizeOf51
 v31:=Tryz.zeroValue51
 t37:=Tryz.underlying112
 a37:=Tryz.isAgg112
 z37:=Tryz.sizeOf112
 v37:=Tryz.zeroValue112
 t70:=Tryz.underlying111
 a70:=Tryz.isAgg111
 z70:=Tryz.sizeOf111
 v70:=Tryz.zeroValue111
 t72:=Tryz.underlying114
 a72:=Tryz.isAgg114
 z72:=Tryz.sizeOf114
 v72:=Tryz.zeroValue114
 t75:=Tryz.underlying126
 a75:=Tryz.isAgg126
 z75:=Tryz.sizeOf126
 v75:=Tryz.zeroValue126
 t76:=Tryz.underlying127
 a76:=Tryz.isAgg127
 z76:=Tryz.sizeOf127
 v76:=Tryz.zeroValue127
 t127:=Tryz.underlying196
 a127:=Tryz.isAgg196
 z127:=Tryz.sizeOf196
 v127:=Tryz.zeroValue196
 t164:=Tryz.underlying254
 a164:=Tryz.isAgg254
 z164:=Tryz.sizeOf254
 v164:=Tryz.zeroValue254}
theorem Tryz.extra156:Builder.Extra Tryz.prog Tryz.lays156_ren where
 sizeBuilder:=by kernel_rfl
 liesBuilder:=by kernel_rfl
 t5:=Tryz.underlying5
 a5:=Tryz.isAgg5
 z5:=Tryz.sizeOf5
 v5:=Tryz.zeroValue5
 infoByte:=by kernel_rfl
 cellsByte:=by kernel_rfl
 sizeByte:=by kernel_rfl
 neB5:=by decide
open Go.RowKit in
theorem Tryz.join (bk o c:Nat) (xs:List ByteArray) (sep:ByteArray) (w:World)
  (a:∀(j:Nat) x,xs[j]? =some x→w.cell? ⟨bk,o+j,none⟩=some (.string x))
  (k:bk<w.heap.size) (l:xs.length≤140737488355328) (g:xs.length≤c)
  (h:(Lib.join (xs.map (·.data.toList)) sep.data.toList).length≤140737488355328):
  Calls Tryz.prog 34 #[.slice (some ⟨bk,o,none⟩) xs.length c, .string sep] w fun e w'=>e= .returned (.string ⟨(Lib.join (xs.map (·.data.toList)) sep.data.toList).toArray⟩)∧Below w.heap.size w w':=Any.strings_Join Tryz.lays156 Tryz.extra156 bk o c xs sep w a k l g h
theorem Tryz.join0 (a:Option Addr) (c:Nat) (sep:ByteArray) (w:World):
  Calls Tryz.prog 34 #[.slice a 0 c, .string sep] w fun e w'=>e= .returned (.string ⟨#[]⟩)∧w'=w:=Any.strings_Join_none Tryz.lays156 Tryz.extra156 a c sep w
end Go.Proofs
namespace Go.L02
open Go Go.Eng Go.RowKit
open Go.Proofs hiding encI
open Go.L01 (Bs Own.same Tok qK qQ qh qi)
set_option maxRecDepth 100000
set_option maxHeartbeats 2000000
@[simp] theorem qGB:qg Tryz.prog 34=true:=by kernel_rfl
@[simp] theorem qGA:qg Tryz.prog 88=true:=by kernel_rfl
@[simp] theorem qGC:qg Tryz.prog 177=true:=by kernel_rfl
theorem qgh (sep:Bs):∀ss:List Bs,Lib.join ss sep=kQ sep ss
 |[]=>by simp [kQ,Lib.join_nil]
 |[x]=>by simp [kQ,Lib.join_one]
 |x::y::ys=>by
  have h:=qgh sep (y::ys);rw [Lib.join_cons] at h;rw [Lib.join_cons,kQ,←h];simp [Lib.joinTail]
theorem qxc {w:World} {v:Value} {ss:List Bs} (sep:Bs) (h:Cells w v 1 (ss.map qi)) (O:ss.length≤100000000000000) (F:(kQ sep ss).length≤100000000000000):
  Calls Tryz.prog 34 #[v, .string (qc sep)] w fun e w'=>e= .returned (.string (qc (kQ sep ss)))∧qb w w':=by
 have p:qk v=ss.length:=by simpa using h.len.symm
 have g:∀(a:Option Addr) (c:Nat),v= .slice a 0 c→Calls Tryz.prog 34 #[v, .string (qc sep)] w fun e w'=>e= .returned (.string (qc (kQ sep ss)))∧qb w w':=by
  rintro a c rfl;have u:ss=[]:=by simpa [qk] using p.symm
  subst u;refine (Tryz.join0 a c (qc sep) w).mono ?_;rintro _ _ ⟨rfl,rfl⟩;exact ⟨by simp [kQ,qc],qA _⟩
 rcases zz h.is with ⟨b,o,n,c,l,C⟩|l|⟨b,o,sp,l⟩
 ·by_cases u:ss=[]
  ·have:n=0:=by rw [l] at p;simpa [qk,u] using p
   subst this;exact g _ _ l
  ·have H:0<ss.length:=List.length_pos_iff.2 u;have A:n=ss.length:=by rw [l] at p;simpa [qk] using p
   have k:∀(j:Nat) x,(ss.map qc)[j]? =some x→w.cell? ⟨b,o+j,none⟩=some (.string x):=fun j x y=>by
    obtain ⟨m,y⟩:=List.getElem?_eq_some_iff.1 y;have:=h.cell j (by simpa using m);rw [l] at this;simp [qJ,qi] at this y;rw [this,y]
   have z:b<w.heap.size:=by
    have:=k 0 (qc ss[0]) (by simp [H]);refine Nat.lt_of_not_le fun C=> ?_;unfold World.cell? at this;simp only [Array.getElem?_eq_none C] at this;cases this
   have E:(ss.map qc).map (·.data.toList)=ss:=by simp [Function.comp_def,qc]
   have m:=Tryz.join b o c (ss.map qc) (qc sep) w k z (by simp;omega) (by simp;omega) (by rw [E];simp only [qc];rw [qgh];omega);rw [E] at m;simp only [qc,List.length_map] at m;rw [qgh,←A,←l] at m;refine m.mono ?_;rintro _ w' ⟨rfl,J⟩;exact ⟨rfl,J⟩
 ·exact g _ _ l
 ·exact g _ _ l
end Go.L02
namespace Go.L02
open Go.Eng
open Go.L01 (Bs Res Tok first jJ jL jq jw qM qN qX qa2 qa3 qaY qb8 qba qcx qh qjZ qu right vc wC)
def qlM (r:Row):Nat→List T→Bool
 |_,[]=>true
 |i,k::ks=>(match r.first[i]? with|some f=>f k.d.kind|none=>(match r.more with|some f=>f k.d.kind|none=>false))&&qlM r (i+1) ks
def qiR (n:Nat):Nat→List T→Bool
 |_,[]=>true
 |i,k::ks=>(qh k.d.name|| !(!decide (k.d.name=[])||decide (i+2<n)))&&qiR n (i+1) ks
def qum (d:D) (ks:List T):Bool:=
 if d.kind=5 then qaz d
 else if d.kind=6 then decide (d.name=[110,111,116])==decide (ks.length=1)
 else if d.kind=32 then qiR ks.length 0 (ks.drop 1) else true
def qvX (d:D) (ks:List T):Bool:=
 match vY d.kind with
 |none=>false
 |some r=>qV d.name r.name&&qV d.vr r.vr&&qV d.typ r.typ&&(match r.n with|none=>decide (d.n=0)|some f=>f d.n)&&
   (decide (r.least≤ks.length)&&decide (ks.length≤r.most))&&qlM r 0 ks&&qum d ks
mutual
def QF:T→Bool| .mk d ks=>qvX d ks&&okTs ks
def okTs:List T→Bool|[]=>true|t::ts=>QF t&&okTs ts
end
def qCA (k:Nat) (s:Bs) (c:UInt8):Bool:=if k=4 then jq (s++[c]) else if k=3 then qM c else L01.part c
structure At where
 k:Nat
 s:Bs
def At.ok (a:At):Prop:=if a.k=0 then a.s≠[]∧∀c∈a.s,L01.yj c=true else right a.k a.s=true
def At.then (a:At) (r:Bs):Prop:=a.k=0∨∀c x,r=c::x→qCA a.k a.s c=false
theorem At.ok.ne {a:At} (h:a.ok):a.s≠[]:=by
 unfold At.ok at h;split at h
 ·exact h.1
 ·exact (wC h).1
def bk (s:Bs):Nat×List At:=(0,[⟨0,s⟩])
end Go.L02
namespace Go.L02
open Go Go.Eng Go.RowKit
open Go.Proofs hiding encI
open Go.L01 (Bd Bs Own.same Q4 SlK Tok fV jB jC jD jX jm jx qB qK qQ qbM qe3 qeZ qh qi qkP qsO qso qu quu vo)
set_option maxRecDepth 100000
set_option maxHeartbeats 2000000
def qlR (i:Nat) (u:T) (j:Nat):Nat:=i+sizes (u.kids.take (j+1)) - u.size
structure NdR (w:World) (l:List Nd) (nv:Value) (N i:Nat) (u:T) (kv:Value):Prop where
 is:qn nv=true
 len:qk nv=N
 lt:i<N
 cell:∀j,j<6→w.cell? (qJ nv (i*6+j))=[Value.int .u8 (u.d.kind:Int), .string (qc u.d.name), .string (qc u.d.vr), .string (qc u.d.typ), .int .i64 u.d.n,kv][j]?
 kis:qn kv=true
 klen:qk kv=u.kids.length
 kids:Cells w kv 1 ((qx (i+1 - u.size) u.kids).map encI)
 kcell:∀j (h:j<u.kids.length),w.cell? (qJ kv j)=some (.int .i64 (qlR i u j:Int))∧jo l (qlR i u j) u.kids[j]∧u.kids[j].size<u.size
theorem NdR.ext {w w':World} {l:List Nd} {nv:Value} {N i:Nat} {u:T} {kv:Value} (h:NdR w l nv N i u kv) (a:qb w w'):NdR w' l nv N i u kv where
 is:=h.is
 len:=h.len
 lt:=h.lt
 cell j hj:=by
  have:=h.cell j hj;have c:j<[Value.int .u8 (u.d.kind:Int), .string (qc u.d.name), .string (qc u.d.vr), .string (qc u.d.typ), .int .i64 u.d.n,kv].length:=by simpa using hj
  rw [List.getElem?_eq_getElem c] at this⊢;exact a.cell this
 kis:=h.kis
 klen:=h.klen
 kids:=h.kids.ext a
 kcell j hj:=⟨a.cell (h.kcell j hj).1,(h.kcell j hj).2⟩
theorem NdR.row {w:World} {l:List Nd} {nv:Value} {N i:Nat} {u:T} {kv:Value} (h:NdR w l nv N i u kv):Eng.jk w (qJ nv (i*6)) 0 6=some [Value.int .u8 (u.d.kind:Int), .string (qc u.d.name), .string (qc u.d.vr), .string (qc u.d.typ), .int .i64 u.d.n,kv]:=by
 have:=Qw (w:=w) (a:=qJ nv (i*6)) (l:=[Value.int .u8 (u.d.kind:Int), .string (qc u.d.name), .string (qc u.d.vr), .string (qc u.d.typ), .int .i64 u.d.n,kv]) (i:=0) fun j e=>by
  have c:j<6:=by simpa using e
  rw [qfc,Nat.zero_add,h.cell j c,List.getElem?_eq_getElem e]
 exact this
theorem Jg {x y:Bs} (h:x.length+y.length≤1000000000000000000):ki .add (qc x) (qc y)=some (.string (qc (x++y))):=by
 simp only [ki,qxX,qxZ];rw [if_pos (by unfold maxLen;omega)]
theorem vQ (l:Bs):ByteArray.mk l.toArray=qc l:=rfl
section
variable {w:World} {b:Nat} {nv:Value} {xs:List NV}
end
noncomputable def qmm:Code:=((Tryz.f90.body).getD .skip)
noncomputable def qml:IR:= .ret
noncomputable def qmo:IR:=zq [za 2 (.const (zs #[]))] <| .seq (.raw (qL qmm 1)) (qml)
def qmn:List Nat:=zV 14 [1]
theorem qyF:C1 90 14 qmn qmo [.tmp 2]:=c1 [1] Tryz.func90
noncomputable def qmk:OT:=zy 3 (zv 0)<|zy 4 (zN (zv 3))<|zy 5 (zf 1 (zv 4))<|zy 6 (zl (zv 5))<|zy 8 (zv 0)<|zy 9 (zN (zv 8))<|zy 10 (zf 1 (zv 9))<|zy 11 (zl (zv 10))<|zy 12 (zL (zv 11))<| .step (zE 7 (.call {callee:= .builtin .unsafeSliceData,args:= #[zt 6],argTypes:= #[112]}) 196) true<| .step (zE 13 (.call {callee:= .builtin .unsafeString,args:= #[zt 7,zt 12],argTypes:= #[196,3]}) 9) false<| .step (zm 2 13) false<| .done
theorem qyE:vD Tryz.prog 14 qmn 10 (qL qmm 1)=some qmk:=by kernel_rfl
def Pr (B b:Nat) (nv:Value) (op:Bool) (bs:Bs) (w:World):Prop:=B≤b∧∃p v,Blk w b #[p,v,nv, .bool op] 116∧(p= .pointer none∨p= .pointer (some ⟨b,0,none⟩))∧w.ownsRow B 5 1 v bs.length (bs.map ji)∧v.ownBlock≠some b
def prP:Nat→TypeId→Prop:=fun _ T=>T≠116∧T≠5
theorem quy {w:World} {b:Nat} {p v nv o:Value} (h:Blk w b #[p,v,nv,o] 116):w.shape? b=some (116,4):=by simp [World.shape?,h.heap]
theorem qyc:liesAt Tryz.prog Tryz.prog.depth 116 (4 / Tryz.prog.cellsOf 116) 0 114 1=true:=by kernel_rfl
theorem qwE (b:Nat) (w:World) (a:w.cell? ⟨b,0,none⟩=some (.pointer (some ⟨b,0,none⟩))):
  Calls Tryz.prog 177 #[.pointer (some ⟨b,0,none⟩)] w fun e w'=>e= .returned (.tuple #[])∧w'=w:=L01.qiz b w a
theorem qwF (b:Nat) (w:World) {v nv o:Value} (h:Blk w b #[.pointer none,v,nv,o] 116):
  Calls Tryz.prog 177 #[.pointer (some ⟨b,0,none⟩)] w fun e w'=>e= .returned (.tuple #[])∧w'=w.setCell ⟨b,0,none⟩ (.pointer (some ⟨b,0,none⟩)):=by
 obtain ⟨j,g,c⟩:=L01.qhK;have l:w.cell? ⟨b,0,none⟩=some (.pointer none):=by rw [h.cell];rfl
 have a:=quy h;have k:w.frozen? ⟨b,0,none⟩=false:=by simp [World.frozen?,h.heap]
 go_enter Tryz.func177,Tryz.ntmps177
 go_wp2
 rw [Lib.run_to_unsafe w ⟨b,0,none⟩ Tryz.underlying111 Tryz.underlying254 g (by rw [c];decide) a (Nat.zero_lt_succ 3)];simp only [Result.andThen];rw [Oper.upon_value]
 go_wp2
 rw [run_callFunc_extern Tryz.func247 (by kernel_rfl) (by kernel_rfl) (by kernel_rfl) (e:=Extern.AbiNoEscape.same) (by kernel_rfl),Lib.run_noEscape];simp only [Result.andThen];rw [Oper.upon_value]
 go_wp2
 rw [Lib.run_from_unsafe w ⟨b,0,none⟩ Tryz.underlying254 Tryz.underlying111 g a qyc];simp only [Result.andThen];rw [Oper.upon_value]
 go_wp2
 go_end0
 exact ⟨rfl,rfl⟩
theorem qwG {w:World} {b:Nat} {p v nv o:Value} (h:Blk w b #[p,v,nv,o] 116) (a:p= .pointer none∨p= .pointer (some ⟨b,0,none⟩)):
  Calls Tryz.prog 177 #[.pointer (some ⟨b,0,none⟩)] w fun e w'=>e= .returned (.tuple #[])∧Blk w' b #[.pointer (some ⟨b,0,none⟩),v,nv,o] 116∧Only b w w':=by
 rcases a with rfl|rfl
 ·refine (qwF b w h).mono ?_;rintro _ _ ⟨rfl,rfl⟩;exact ⟨rfl,by simpa using qev h 0 (.pointer (some ⟨b,0,none⟩)),qc4 _ _ _ _⟩
 ·refine (qwE b w (by rw [h.cell];rfl)).mono ?_;rintro _ _ ⟨rfl,rfl⟩;exact ⟨rfl,h,Only.refl _ _⟩
theorem qbr {w w':World} {B:Nat} {v:Value} {n:Nat} {xs:List Value} (h:w.ownsRow B 5 1 v n xs) (c:∀k,v.ownBlock=some k→w'.heap[k]? =w.heap[k]?):w'.ownsRow B 5 1 v n xs:=by
 refine ⟨h.1, ?_⟩;rcases h.2 with e|⟨g,cap,cur,rfl,j,a,r⟩
 ·exact .inl e
 ·exact .inr ⟨g,cap,cur,rfl,j,(c g rfl).trans a,r⟩
theorem qkh {w:World} {B:Nat} {v:Value} {n:Nat} {xs:List Value} (h:w.ownsRow B 5 1 v n xs) {k:Nat} (a:v.ownBlock=some k):∃cur,w.heap[k]? =some (.cells cur 5 (0,0)):=by
 rcases h.2 with ⟨rfl,_⟩|⟨g,cap,cur,rfl,e,c,r⟩
 ·simp at a
 ·simp at a;subst a;exact ⟨cur,c⟩
theorem Pr.ext {w w':World} {B b:Nat} {nv:Value} {op:Bool} {bs:Bs} (h:Pr B b nv op bs w) (e:qb w w'):Pr B b nv op bs w':=by
 obtain ⟨m,p,v,n,l,c,a⟩:=h;exact ⟨m,p,v,n.ext e,l,qbr c (fun k j=>by obtain ⟨cur,g⟩:=qkh c j;exact e.block k (Array.getElem?_eq_some_iff.1 g).1),a⟩
theorem Pr.at' {p:Nat→TypeId→Prop} {w w':World} {B b:Nat} {nv:Value} {op:Bool} {bs:Bs} (h:Pr B b nv op bs w) (e:qz p w w') (n:∀k,p k 116) (u:∀k,p k 5):Pr B b nv op bs w':=by
 obtain ⟨m,q,v,o,l,c,a⟩:=h;exact ⟨m,q,v,o.at' e (n _),l,qbr c (fun k j=>by obtain ⟨cur,g⟩:=qkh c j;exact e k _ _ _ g (u _)),a⟩
theorem Pr.nodes {w:World} {B b:Nat} {nv:Value} {op:Bool} {bs:Bs} (h:Pr B b nv op bs w):w.cell? ⟨b,2,none⟩=some nv:=by
 obtain ⟨j,q,v,a,g,e,c⟩:=h;rw [a.cell];rfl
structure Chg (w0 w w':World):Prop where
 ext:qb w0 w'
 same:qz prP w w'
 size:w.heap.size≤w'.heap.size
theorem Chg.trans {w0 a b c:World} (h:Chg w0 a b) (k:Chg w0 b c):Chg w0 a c:=⟨k.ext,h.same.trans k.same,Nat.le_trans h.size k.size⟩
theorem qr5 {P:Program} {Q:Ks} {d:Option Nat} {b:Builtin} {args:Array Operand} {a:Array TypeId} {ty:TypeId} {K:qa→World→Prop} {ρ:qa} {w:World} (h:jY P Q d (.call {callee:= .builtin b,args:=args,argTypes:=a}) ty K ρ w):qw P Q d (.call {callee:= .builtin b,args:=args,argTypes:=a}) ty K ρ w:=h
def ndC (t:T) (kv:Value):List Value:=[Value.int .u8 (t.d.kind:Int), .string (qc t.d.name), .string (qc t.d.vr), .string (qc t.d.typ), .int .i64 t.d.n,kv]
structure StC (w0 W:World) (b:Nat) (nv:Value) (bs vy:Bs) (t:T) (kv:Value) (P I X:Nat):Prop where
 ext:qb w0 W
 pr:Pr w0.heap.size b nv true bs W
 bP:Blk W P #[.pointer (some ⟨b,0,none⟩)] 110
 bI:Blk W I #[.string (qc vy)] 9
 bX:Blk W X (ndC t kv).toArray 44
section
variable {w0 W:World} {b:Nat} {nv:Value} {bs vy:Bs} {t:T} {kv:Value} {P I X:Nat}
theorem StC.cs (h:StC w0 W b nv bs vy t kv P I X):W.cell? ⟨P,0,none⟩=some (.pointer (some ⟨b,0,none⟩))∧W.cell? ⟨I,0,none⟩=some (.string (qc vy))∧W.cell? ⟨X,0,none⟩=some (.int .u8 (t.d.kind:Int))∧W.cell? ⟨X,1,none⟩=some (.string (qc t.d.name))∧W.cell? ⟨X,3,none⟩=some (.string (qc t.d.typ))∧W.cell? ⟨X,5,none⟩=some kv:=
 ⟨by rw [h.bP.cell];rfl,by rw [h.bI.cell];rfl,by rw [h.bX.cell];rfl,by rw [h.bX.cell];rfl,by rw [h.bX.cell];rfl,by rw [h.bX.cell];rfl⟩
end
theorem kG.rd {q:Nat→Prop} {w:World} {v:Value} {l:List Nd} (h:kG q w v l):RdN w v l:=by
 obtain ⟨xs,e,a,g⟩:=h;exact ⟨xs,e,qv2 a fun x c=>(g x c).1⟩
theorem wJ.rd {e:Type} {b T sz:Nat} {C C':List Value→e→Prop} {w:World} {v:Value} {l:List e} (h:wJ b T sz C w v l) (j:∀c a,C c a→C' c a):xf sz C' w v l:=by
 obtain ⟨css,g,k⟩:=h;exact ⟨css,L01.jO g,k.imp j⟩
theorem Qe.rd {w:World} {cs:List Value} {s:Sig} (h:Qe w cs s):wi w cs s:=by
 obtain ⟨c,sv,e,a,g⟩:=h;exact ⟨c,sv,e,L01.jO a,L01.jO g⟩
theorem ym.rd {q:Nat→Prop} {w:World} {cs:List Value} {m:Mod} (h:ym (kG q w) w cs m):Q9 w cs m:=by
 obtain ⟨a,b,c,e,g,l,k⟩:=h;refine ⟨a,b,c,e,g.rd ?_,l.rd ?_,k.rd ?_⟩
 ·rintro _ _ ⟨c,e,h⟩;exact ⟨c,e,h.rd⟩
 ·rintro _ _ ⟨c,e,h⟩;exact ⟨c,e,h.rd⟩
 ·rintro _ _ ⟨c,n,j,e,g,l,k⟩;exact ⟨c,n,j,e,g.rd,L01.jO l,k.rd⟩
def RdM (w:World) (v:Value) (l:List Mod):Prop:=xf 7 (Q9 w) w v l
theorem RdM.ext {w w':World} {v:Value} {l:List Mod} (h:RdM w v l) (a:qb w w'):RdM w' v l:=xf.ext h a fun _ _ h=>h.ext a
theorem qEm {w W:World} {base:Nat} {v k:Value} {n:Nat} {xs:List Value} (s:ByteArray) (a:w.ownsRow base 5 1 v n xs) (y:n+s.size≤140737488355328) (l:(Builtin.append_ #[112,9] 112 #[v, .string s]).run Tryz.prog w= .ok k W) (h:k= .slice none 0 0↔v= .slice none 0 0∧s.size=0):k.ownBlock=v.ownBlock∨k.ownBlock=some w.heap.size:=by
 obtain ⟨i,p,A,z,j⟩:=qbM;have u:xs.length=n:=by simpa using a.1
 rcases a.2 with ⟨rfl,rfl⟩|⟨g,cap,cur,rfl,C,H,E,F,o,m⟩
 ·by_cases J:s.size=0
  ·left;rw [h.2 ⟨rfl,J⟩]
  ·have c:=run_append_nil_string (P:=Tryz.prog) w 112 9 112 5 i (.int .u8 0) Tryz.underlying112 Tryz.underlying9 p A s (by omega) (by omega) (by rw [j];omega);rw [l] at c;cases c;right;rfl
 ·have x:cur.size=cap:=by simpa using o
  by_cases e:n+s.size≤cap
  ·have c:=Lib.run_append_room_string (P:=Tryz.prog) w 112 9 112 5 i Tryz.underlying112 Tryz.underlying9 p z g n cap cur H s e (by omega);rw [l] at c;cases c;left;rfl
  ·have c:=Lib.run_append_grow_string (P:=Tryz.prog) w 112 9 112 5 i (.int .u8 0) Tryz.underlying112 Tryz.underlying9 p A ⟨g,0,none⟩ n cap xs (by rw [z];simpa using u) (a.cells (g:=g) rfl) s (by omega) (by omega) (by rw [j];exact growslice_fits (by omega) (by omega));rw [l] at c;cases c;right;rfl
def wO (B O:Nat) (v:Value) (bs:Bs) (w:World):Prop:=B≤O∧(∃p,(p= .pointer none∨p= .pointer (some ⟨O,0,none⟩))∧Blk w O #[p,v] 114)∧w.ownsRow B 5 1 v bs.length (bs.map ji)∧v.ownBlock≠some O
theorem wO.bd {B O:Nat} {v:Value} {bs:Bs} {w:World} (h:wO B O v bs w):Bd B O bs w:=by
 obtain ⟨g,⟨p,j,c⟩,e,a⟩:=h;rcases j with rfl|rfl
 ·exact .inl ⟨g,v,c.heap,by simpa using e,a⟩
 ·exact .inr ⟨g,v,c.heap,by simpa using e,a⟩
theorem wO.keep {B O:Nat} {v:Value} {bs:Bs} {w w':World} (h:wO B O v bs w) (j:w'.heap[O]? =w.heap[O]?) (l:∀k,v.ownBlock=some k→w'.heap[k]? =w.heap[k]?):wO B O v bs w':=by
 obtain ⟨m,⟨p,g,c⟩,e,a⟩:=h;exact ⟨m,⟨p,g,⟨j.trans c.heap⟩⟩,qbr e l,a⟩
theorem wO.lt {B O:Nat} {v:Value} {bs:Bs} {w:World} (h:wO B O v bs w):O<w.heap.size∧∀k,v.ownBlock=some k→k<w.heap.size:=by
 obtain ⟨l,⟨p,j,a⟩,c,g⟩:=h;exact ⟨a.lt,fun k e=>(c.lt k e).2⟩
theorem wO.ext {B O:Nat} {v:Value} {bs:Bs} {w w':World} (h:wO B O v bs w) (a:qb w w'):wO B O v bs w':=h.keep (a.block O h.lt.1) fun k c=>a.block k (h.lt.2 k c)
end Go.L02
namespace Go.L02
open Go Go.Eng
open Go.L01 (Bs Tok)
set_option maxRecDepth 100000
set_option maxHeartbeats 2000000
def exB:Bs:=[112,114,111,99,32,112,40,41,32,105,115,32,120,32,58,61,32,97,91,105,110,116,93,59,32,112,117,116,32,49,32,101,110,100]
def exC:Bs:=[112,114,111,99,32,112,40,41,32,115,105,103,110,97,108,115,40,98,44,32,97,41,32,105,115,32,101,110,100]
theorem ty1:jg [114,101,99,111,114,100,91,98,58,105,110,116,44,97,58,115,101,116,91,63,116,93,93]=true:=by decide+kernel
theorem op1:zC [103,101,116,95,102]=true:=by decide+kernel
theorem op2:zC [103,101,116,95]=false:=by decide+kernel
end Go.L02
namespace Go.L02
open Go Go.Eng Go.Proofs
set_option maxRecDepth 100000
set_option maxHeartbeats 2000000
noncomputable def qrd:IR:=zq [zm 77 7,za 84 (zI .add (zI .sub (zv 1) (zL (zv 11))) (zL (zv 2))),zc 85 43 #[zt 77,zt 84] #[29,3] 68,zm 76 85,za 86 (ze 0 (zv 76)),za 87 (ze 1 (zv 76)),zm 15 86,zm 16 87,zc 88 14 #[] #[] 4,za 93 (.ite (zv 88) (zI .eql (zv 16) (zK 0)) (zQ false)),zg 93 true 94 (zv 15),zg 93 true 95 (zv 2),zh 93 true 96 20 #[zt 94,zt 95] #[29,29] 4,za 6 (.ite (zv 93) (zv 96) (zQ false))] <| .ret
noncomputable def qhG:IR:=zq [za 74 (zI .neq (zv 8) (zK 0))] <| .seq (.cond (zv 74) (zq [zc 75 14 #[] #[] 4,zm 6 75] <| .ret) .skip) (qrd)
noncomputable def qrc:IR:=zq [zm 59 0,zm 60 1,zm 61 11,zc 62 41 #[zt 59,zt 60,zt 61] #[29,3,29] 68,zm 58 62,za 63 (ze 0 (zv 58)),za 64 (ze 1 (zv 58)),zm 13 63,zm 14 64,za 67 (zI .neq (zv 14) (zK 0)),zg 67 false 68 (zv 13),zg 67 false 69 (zv 0),zh 67 false 70 20 #[zt 68,zt 69] #[29,29] 4,za 72 (.ite (zv 67) (zQ true) (zn (zv 70)))] <| .seq (.cond (zv 72) (zq [za 6 (zQ false)] <| .ret) .skip) (qhG)
noncomputable def qrb:IR:=zq [zm 50 0,zm 51 1,zc 52 43 #[zt 50,zt 51] #[29,3] 68,zm 49 52,za 53 (ze 0 (zv 49)),za 54 (ze 1 (zv 49)),zm 11 53,zm 12 54,za 56 (zI .neq (zv 12) (zK 0))] <| .seq (.cond (zv 56) (zq [zc 57 14 #[] #[] 4,zm 6 57] <| .ret) .skip) (qrc)
noncomputable def qra:IR:=zq [zm 27 0,zm 28 1,zm 29 2,zc 30 41 #[zt 27,zt 28,zt 29] #[29,3,29] 68,zm 26 30,za 31 (ze 0 (zv 26)),za 32 (ze 1 (zv 26)),zm 7 31,zm 8 32,zm 34 0,zm 35 1,zm 36 2,zc 37 42 #[zt 34,zt 35,zt 36] #[29,3,29] 68,zm 33 37,za 38 (ze 0 (zv 33)),za 39 (ze 1 (zv 33)),zm 9 38,zm 10 39,zm 40 7,zm 41 9,zc 42 20 #[zt 40,zt 41] #[29,29] 4,za 48 (.ite (zn (zv 42)) (zQ true) (zI .neq (zv 8) (zv 10)))] <| .seq (.cond (zv 48) (zq [za 6 (zQ false)] <| .ret) .skip) (qrb)
noncomputable def qro:IR:=zq [za 6 (zQ false),zm 17 0,zc 18 21 #[zt 17] #[29] 4,za 20 (zn (zv 18)),zg 20 false 21 (zv 2),zh 20 false 22 21 #[zt 21] #[29] 4,za 24 (.ite (zv 20) (zQ true) (zn (zv 22)))] <| .seq (.cond (zv 24) (zq [zc 25 14 #[] #[] 4,zm 6 25] <| .ret) .skip) (qra)
def qCe:List Nat:=zV 97 [3,4,5,19,23,43,44,45,46,47,55,65,66,71,73,78,79,80,81,82,83,89,90,91,92]
theorem qCd:C3 10 98 qCe qro [.tmp 6]:=c3 [] Tryz.func10
noncomputable def qpq:IR:= .reg [za 11 (zI .add (zv 11) (zK 1))]
noncomputable def qpp:IR:= .seq (.block 1 (zq [za 14 (zM 6 (zx 6 (zv 9) (zv 11))),zA 4 44,zw 44 (zt 4) (zt 14),za 36 (.ite (.ite (.ite (zI .gtr (zT (zo 1 (zv 4))) (zK 40)) (zQ true) (zI .gtr (zT (zo 2 (zv 4))) (zK 110))) (zQ true) (zI .gtr (zT (zo 3 (zv 4))) (zK 110))) (zQ true) (zI .gtr (zL (zo 5 (zv 4))) (zK 420)))] <| .cond (zv 36) (zq [za 2 (zQ false)] <| .ret) .skip)) (qpq)
noncomputable def qg3:IR:=zq [za 12 (zI .lss (zv 11) (zv 10))] <| .seq (.cond (zv 12) .skip (.exit 0)) (qpp)
noncomputable def qpo:IR:=zq [za 2 (.ite (zI .leq (zL (zv 0)) (zK 120)) (zQ true) (.ite (zI .gtr (zL (zv 0)) (zK 400)) (zI .leq (zL (zv 0)) (zK 410)) (zQ false)))] <| .ret
noncomputable def qpt:IR:=zq [za 2 (zQ false),zm 5 0,za 7 (zL (zv 0)),zE 8 (.call {callee:= .builtin .min,args:= #[zt 7,zO 420],argTypes:= #[3,3]}) 3,za 9 (.op3 (.slLoHi 6) (zv 5) (zK 0) (zv 8)),za 10 (zL (zv 9)),za 11 (zK 0)] <| .seq (.block 0 (.loop qg3)) (qpo)
def qAP:List Nat:=[0,2,4,5,7,8,9,10,11,12,14,36]
theorem qAO:C1 21 51 qAP qpt [.tmp 2]:=c1 [] Tryz.func21
end Go.L02
namespace Go.L02
open Go Go.Eng Go.RowKit
open Go.Proofs hiding encI
open Go.L01 (Bd Bs Own.same Q4 SlK Tok fV jB jC jD jX jm jx qB qK qQ qbM qh qi qu vo vp)
set_option maxRecDepth 100000
set_option maxHeartbeats 2000000
theorem g26:Tryz.prog.eqGuardType Tryz.prog.depth 26=false:=by kernel_rfl
theorem qCG : ((Tryz.prog.fieldsOf 26).toList.map fun f => (f.name == "_", f.type, f.offset)) = [(false, 24, 0), (false, 3, 1)] := by kernel_rfl
theorem qua:Tryz.prog.underlying 26=some (.struct (Tryz.prog.fieldsOf 26)):=by kernel_rfl
theorem qCs:Tryz.prog.stoodInHeld 26=false:=by kernel_rfl
theorem qCX (a b c d:Int) (w:World):(Op.equalIn 10000 26 (.agg #[.int .i64 a, .int .i64 b]) (.agg #[.int .i64 c, .int .i64 d])).run Tryz.prog w= .ok (decide (a=c)&&decide (b=d)) w:=by
 have j:=qCG;obtain ⟨m,p,g⟩:∃m p,(Tryz.prog.fieldsOf 26).toList=[m,p]:=by
  match h:(Tryz.prog.fieldsOf 26).toList with
  |[m,p]=>exact ⟨m,p,rfl⟩
  |[] |[_] |_::_::_::_=>rw [h] at j;simp at j
 rw [g] at j;simp at j;obtain ⟨⟨H,C,o1⟩,n2,R,o2⟩:=j;have e:=run_equalIn_agg (P:=Tryz.prog) w 9999 26 #[.int .i64 a, .int .i64 b] #[.int .i64 c, .int .i64 d] qua qCs;have o:∀(cs:Array Value) (v:Value) (off t:Nat),xA Tryz.prog t=some false→cs[off]? =some v→(Go.part t cs off).run Tryz.prog w= .ok v w:=fun cs v off t F O=>qfo F O;have k:xA Tryz.prog 24=some false:=by kernel_rfl
 have i3:xA Tryz.prog 3=some false:=by kernel_rfl
 have l:=run_equalIn_int (P:=Tryz.prog) w 9998 24 .i64 .i64 a c (by kernel_rfl);have n:=run_equalIn_int (P:=Tryz.prog) w 9998 3 .i64 .i64 b d (by kernel_rfl);refine e.trans ?_;rw [g];have E:=o #[.int .i64 a, .int .i64 b] (.int .i64 a) 0 24 k rfl;have A:=o #[.int .i64 a, .int .i64 b] (.int .i64 b) 1 3 i3 rfl;have J:=o #[.int .i64 c, .int .i64 d] (.int .i64 c) 0 24 k rfl;have b2:=o #[.int .i64 c, .int .i64 d] (.int .i64 d) 1 3 i3 rfl;have u:(a==c)=decide (a=c):=by rw [Bool.eq_iff_iff];simp
 have y:(b==d)=decide (b=d):=by rw [Bool.eq_iff_iff];simp
 rw [u] at l;rw [y] at n;generalize decide (a=c)=x at l;generalize decide (b=d)=z at n;simp only [Nat.reduceAdd] at l n;cases x<;>cases z<;>simp [Op.eqFields,H,n2,C,R,o1,o2,E,A,J,b2,l,n]
@[simp] theorem qGz:qg Tryz.prog 14=true:=by kernel_rfl
@[simp] theorem qGy:qg Tryz.prog 21=true:=by kernel_rfl
def QQ (b:Bool) (o:Option Value) (d:Nat) (K:qa→World→Prop) (ρ:qa) (w:World):Prop:=if b then vG o (fun v=>K (qt ρ d v) w) else K (qt ρ d undef) w
def QR (P:Program) (Q:Ks) (b:Bool) (d:Option Nat) (op:Op) (ty:TypeId) (K:qa→World→Prop) (ρ:qa) (w:World):Prop:=if b then qw P Q d op ty K ρ w else K (qm ρ d undef) w
section
variable {P:Program} {Q:Ks} {K:qa→World→Prop} {ρ:qa} {w:World} {r:List St}
theorem wa2 {g:Option (Nat×Bool)} {d:Nat} {e:Ex}:qU P Q (.asg g d e::r) K ρ w=QQ (gd ρ g) (e.ev ρ w) d (qU P Q r K) ρ w:=rfl
theorem we2 {g:Option (Nat×Bool)} {d:Option Nat} {op:Op} {ty:TypeId}:qU P Q (.eff g d op ty::r) K ρ w=QR P Q (gd ρ g) d op ty (qU P Q r K) ρ w:=rfl
@[simp] theorem qCw {d:Nat} {v:Value}:QQ true (some v) d K ρ w=K (qt ρ d v) w:=rfl
@[simp] theorem qCx {o:Option Value} {d:Nat}:QQ false o d K ρ w=K (qt ρ d undef) w:=rfl
@[simp] theorem qCy {d:Option Nat} {op:Op} {ty:TypeId}:QR P Q true d op ty K ρ w=qw P Q d op ty K ρ w:=rfl
@[simp] theorem qCz {d:Option Nat} {op:Op} {ty:TypeId}:QR P Q false d op ty K ρ w=K (qm ρ d undef) w:=rfl
end
def okR (w:World):Ending→World→Prop:=fun e w'=>e= .returned (.bool true)∧qb w w'
def kO (x:Nd):Bool:=decide (x.d.name.length≤40)&&decide (x.d.vr.length≤110)&&decide (x.d.typ.length≤110)&&decide (x.kids.length≤420)
def kS (l:List Nd):Bool:=(l.take 420).all kO&&(decide (l.length≤120)||(decide (400<l.length)&&decide (l.length≤410)))
theorem qhP {l:List Nd} (h:kS l=true):l.length≤410:=by
 simp only [kS,Bool.and_eq_true,Bool.or_eq_true,decide_eq_true_eq] at h;omega
theorem qCO {l:List Nd} (h:kS l=true):∀x∈l,kO x=true:=by
 have a:=qhP h;simp only [kS,Bool.and_eq_true] at h;have:=h.1;rw [List.take_of_length_le (by omega)] at this;exact List.all_eq_true.1 this
theorem qrP {l:List Nd} (h:kS l=true) (e:∀x∈l,x.d.kind<256):vA l:=by
 have c:=qCO h;refine ⟨fun x a=> ?_,fun x a=> ?_⟩
 ·have:=c x a;simp only [kO,Bool.and_eq_true,decide_eq_true_eq] at this;exact ⟨e x a,by omega,by omega,by omega⟩
 ·have:=c x a;simp only [kO,Bool.and_eq_true,decide_eq_true_eq] at this;omega
theorem qla {w:World} {lv:Value} {xs:List NV} (hR:Rd w lv xs) (hlen:xs.length<4611686018427387904) (hkl:∀x∈xs,x.nd.kids.length<4611686018427387904):Calls Tryz.prog 21 #[lv] w fun e w'=>e= .returned (.bool (kS (xs.map (·.nd))))∧qb w w':=by
 have hl:=hR.len;have a:=hR.cells.is;have hcap:=yV a;generalize hRR:(fun (e:Ending) (w':World)=>e= .returned (.bool (kS (xs.map (·.nd))))∧qb w w')=R;refine qAO fun ρ r0=> ?_;simp -implicitDefEqProofs [qpt,r0,a,hl];refine qC6 (x:=(xs.length:Int)) (y:=420) (k:= .i64) (by simp) (by simp) ?_;obtain ⟨m,hm,hmm⟩:∃m:Nat,(if (420:Int)<(xs.length:Int) then 420 else (xs.length:Int))=(m:Int)∧m=min xs.length 420:=by
  refine ⟨min xs.length 420, ?_,rfl⟩;split<;>omega
 rw [hm];have hml:m≤qo lv:=by omega
 have hml':(m:Int)≤(qo lv:Int):=by omega
 have S:=QL a 6 0 m (qo lv) (Nat.zero_le _) hml (Nat.le_refl _);have hs2:qk (qR lv 6 0 m (qo lv))=m:=by rw [Qr _ _ _ _ a];omega
 have hsa:∀j,0<m→qJ (qR lv 6 0 m (qo lv)) j=qJ lv j:=fun j h0=>by rw [qcr 6 0 m _ j a (by omega) (by omega)];simp
 generalize hsv:qR lv 6 0 m (qo lv)=sv at S hs2 hsa;simp -implicitDefEqProofs [a,hml,hml',hsv,S,hs2];have g:kS (xs.map (·.nd))=((xs.take m).all (fun x=>kO x.nd)&&(decide (xs.length≤120)||(decide (400<xs.length)&&decide (xs.length≤410)))):=by
  unfold kS;rw [List.length_map,←List.map_take,List.all_map];congr 2;rw [hmm];by_cases h:xs.length≤420
  ·rw [List.take_of_length_le (by omega),List.take_of_length_le (by omega)]
  ·rw [show min xs.length 420=420 by omega]
 obtain ⟨J,hJ⟩:∃J:Nat→qa→World→Prop,∀j z w',J j z w'↔(z 0=lv∧z 9=sv∧z 10= .int .i64 (m:Int)∧(xs.take j).all (fun x=>kO x.nd)=true∧qb w w'):=⟨_,fun _ _ _=>Iff.rfl⟩;refine js 11 m J (by simp) ((hJ _ _ _).2 ⟨by simp [r0],by simp,by simp,by simp,qA _⟩) ?_;clear r0;rintro j z w' hj rj hJw;obtain ⟨r0,r9,Z,F,hE⟩:=(hJ _ _ _).1 hJw;have hwj:IntKind.i64.wrap ((j:Int)+1)=(j:Int)+1:=qr (by omega);by_cases hlt:j<m
 ·have O:(j:Int)<(m:Int):=by omega
  have hjx:j<xs.length:=by omega
  have hR':=hR.ext hE;have o:=hR'.row hjx;rw [←hsa (j*6) (by omega)] at o;have hk:=hR'.kids xs[j] (List.getElem_mem _);have U:qk xs[j].kv=xs[j].nd.kids.length:=by simpa using hk.len.symm
  have u:=jR hk.is;have hko:=vI hk.is;have htk:(xs.take (j+1)).all (fun x=>kO x.nd)=kO xs[j].nd:=by rw [List.take_succ_eq_append_getElem hjx,List.all_append,F];simp
  have hno:kO xs[j].nd=false→kS (xs.map (·.nd))=false:=fun h=>by
   rw [g];have:(xs.take m).all (fun x=>kO x.nd)=false:=by
    rw [List.all_eq_false];exact ⟨xs[j],List.mem_iff_getElem.2 ⟨j,by rw [List.length_take];omega,by simp⟩,by simp [h]⟩
   rw [this];rfl
  generalize xs[j]=x at o hk U u hko htk hno;simp -implicitDefEqProofs [qg3,rj,Z,O,hlt,qpp,r9,S,hs2,o];refine qT wk fun X w1 hX hE1 hb1 _=> ?_;simp -implicitDefEqProofs;refine jn (B:=X) (by simp) hb1 (by simp [Value.cells,qe,u]) (by simp [Value.cells,qe,u,hko]) (by simpa [Value.cells,qe,u] using wv) fun w2 hO2 l=> ?_;simp -implicitDefEqProofs [Value.cells,qe,u] at l;have hE2:qb w' w2:=hO2.ext hE1 hX;have c1:w2.cell? ⟨X,1,none⟩=some (.string (qc x.nd.d.name)):=by rw [l.cell];rfl
  have c2:w2.cell? ⟨X,2,none⟩=some (.string (qc x.nd.d.vr)):=by rw [l.cell];rfl
  have c3:w2.cell? ⟨X,3,none⟩=some (.string (qc x.nd.d.typ)):=by rw [l.cell];rfl
  have c5:w2.cell? ⟨X,5,none⟩=some x.kv:=by rw [l.cell];rfl
  have bad:kO x.nd=false→R (.returned (.bool false)) w2:=fun h=>by rw [←hRR];exact ⟨by rw [hno h],hE.trans' hE2⟩
  have p:kO x.nd=(decide (x.nd.d.name.length≤40)&&decide (x.nd.d.vr.length≤110)&&decide (x.nd.d.typ.length≤110)&&decide (x.nd.kids.length≤420)):=rfl;by_cases q1:40<x.nd.d.name.length
  ·have c:(40:Int)<(x.nd.d.name.length:Int):=by omega
   simp -implicitDefEqProofs [c1,q1,c];exact bad (by rw [p];simp;omega)
  have c:¬(40:Int)<(x.nd.d.name.length:Int):=by omega
  by_cases q2:110<x.nd.d.vr.length
  ·have A:(110:Int)<(x.nd.d.vr.length:Int):=by omega
   simp -implicitDefEqProofs [c1,q1,c,c2,q2,A];exact bad (by rw [p];simp;omega)
  have A:¬(110:Int)<(x.nd.d.vr.length:Int):=by omega
  by_cases q3:110<x.nd.d.typ.length
  ·have E:(110:Int)<(x.nd.d.typ.length:Int):=by omega
   simp -implicitDefEqProofs [c1,q1,c,c2,q2,A,c3,q3,E];exact bad (by rw [p];simp;omega)
  have E:¬(110:Int)<(x.nd.d.typ.length:Int):=by omega
  by_cases q4:420<x.nd.kids.length
  ·have Y:(420:Int)<(x.nd.kids.length:Int):=by omega
   simp -implicitDefEqProofs [c1,q1,c,c2,q2,A,c3,q3,E,c5,hk.is,U,q4,Y];exact bad (by rw [p];simp;omega)
  have Y:¬(420:Int)<(x.nd.kids.length:Int):=by omega
  simp -implicitDefEqProofs [c1,q1,c,c2,q2,A,c3,q3,E,c5,hk.is,U,q4,Y,qpq,rj,hwj];refine (hJ _ _ _).2 ⟨by simp [r0],by simp [r9],by simp [Z], ?_,hE.trans' hE2⟩;rw [htk,p];simp;omega
 ·have O:¬(j:Int)<(m:Int):=by omega
  have hjm:j=m:=by omega
  subst hjm;rw [F,Bool.true_and] at g;simp -implicitDefEqProofs [qg3,rj,Z,qpo,r0,a,hl];rw [←hRR];by_cases H:xs.length≤120
  ·have n:(xs.length:Int)≤120:=by omega
   simp [H,n];exact ⟨by rw [g];simp [H],hE⟩
  ·have n:¬(xs.length:Int)≤120:=by omega
   by_cases p2:400<xs.length
   ·have C:(400:Int)<(xs.length:Int):=by omega
    by_cases p3:xs.length≤410
    ·have V:(xs.length:Int)≤410:=by omega
     simp [H,n,p2,C,p3,V];exact ⟨by rw [g];simp [H,p2,p3],hE⟩
    ·have V:¬(xs.length:Int)≤410:=by omega
     simp [H,n,p2,C,p3,V];exact ⟨by rw [g];simp [H,p2,p3],hE⟩
   ·have C:¬(400:Int)<(xs.length:Int):=by omega
    simp [H,n,p2,C];exact ⟨by rw [g];simp [H,p2],hE⟩
noncomputable section
theorem qbA (b:ByteArray):qc b.data.toList=b:=by cases b;simp [qc]
section
variable {σ:Sg} {w0 w W:World} {s s':Sx}
theorem qxt (y:Iv σ w0 s w) (Z:qb w W) {Y:Value} {t sz n i:Nat} {cs cs':List Value} (V:ql σ cs cs') (ho:Own w.heap.size t sz W Y cs') (E:cs.length=n*sz) (h1:1≤cs.length) (z:sz≠0) {k:Option Nat} (h:z7 s k ⟨cs,t,sz,false,false⟩=some (i,s')):
  ∃e,σ.le e∧Iv e w0 s' W∧VR e (.slice (some ⟨i,0,none⟩) n n) Y:=by
 have u:=V.len;rcases ho with ⟨_,A⟩|⟨g,off,a,cap,cur,rfl,O,F,J,ab,hcm,U,l⟩
 ·rw [A,List.length_nil] at u;omega
 ·have hn:a=n:=Nat.eq_of_mul_eq_mul_right (Nat.pos_of_ne_zero z) (by rw [←E,u,←J]);subst hn;obtain ⟨e,m,R,H⟩:=qdb y h (b:=g) (f:=off) (x:=cap - a) (y.mr.ext Z) (y.ext.trans' Z) (Nat.le_trans y.ext.size O) (fun j oj pj hj hp he=>by
   obtain ⟨p,C,aa⟩:=y.mr.at' hj;rw [hp] at C;cases C;omega) fun e m R=>⟨fun hz=>absurd hz z,fun _=>⟨cur,R,F,by
    dsimp only;rw [E,l];exact V.mono m,by
    dsimp only;rw [E];have:a*sz+(cap - a)*sz=cap*sz:=by rw [←Nat.add_mul];congr 1;omega
    omega,(fun S=>by cases S),fun _=>⟨a,E,by omega⟩,(fun S=>by cases S)⟩⟩
  refine ⟨e,m,H, ?_⟩;have:=VR.slc (σ:=e) (o:=0) (n:=a) (c:=a) R (Nat.le_refl _)
  rwa [show a+(cap - a)=cap by omega] at this
theorem qi0 {a b c e:Value} (g:VR σ a c) (k:VR σ b e):VR σ (.tuple #[a,b]) (.tuple #[c,e]):=by
 obtain ⟨j,h⟩:=ql.arr (cs:= #[a,b]) (ds:= #[c,e]) ⟨g,k,trivial⟩;exact .tup j h
theorem qaa {P:Program} {f:FuncId} {args:Array Value} {v:Value} (c:Iv σ w0 s w) (g:qax v=true) (h:Calls P f args w fun e w'=>e= .returned v∧qb w w'):Calls P f args w (vK σ w0 (.ret v s)):=
 h.mono fun _ w' a=>⟨σ,v,Sg.le_refl σ,c.toExt a.2,wG g,a.1⟩
theorem qaT {b:ByteArray} {args':List Value} (h:ql σ [.string b] args'):args'=[.string (qc b.data.toList)]:=by
 rw [qbA]
 match args',h with
 |[x],h=>rw [h.1.uniq (.pln (v:= .string b) rfl)]
def qcm:List Value→Option (List Bs)
 |[]=>some []
 | .string b::l=>match qcm l with|some r=>some (b.data.toList::r)|none=>none
 |_=>none
theorem qjq:∀{l g:List Value} {ss:List Bs},ql σ l g→qcm l=some ss→g=ss.map qi
 |[],[],ss,_,h=>by cases h;rfl
 |a::l,b::m,ss,e,h=>by
  unfold qcm at h;split at h
  ·rename_i c;cases c
  ·rename_i k l1 c;cases c;split at h
   ·rename_i r j;cases h;rw [qjq e.2 j,e.1.uniq (.pln (v:= .string k) rfl)];simp [qi,qbA]
   ·cases h
  ·cases h
def qd4:List Value→Option (List Int)
 |[]=>some []
 | .int .i64 n::l=>match qd4 l with|some r=>some (n::r)|none=>none
 |_=>none
theorem qrp:∀{l j:List Value} {c:List Int},ql σ l j→qd4 l=some c→j=c.map encI
 |[],[],c,_,h=>by cases h;rfl
 |a::l,b::m,c,g,h=>by
  unfold qd4 at h;split at h
  ·rename_i e;cases e
  ·rename_i n l1 e;cases e;split at h
   ·rename_i r k;cases h;rw [qrp g.2 k,g.1.uniq (.pln (v:= .int .i64 n) rfl)];rfl
   ·cases h
  ·cases h
def qlv (H:vg) (k:Int) (a b c:ByteArray) (n:Int) (kv:Value):Option Nd:=
 match yA H 1 kv with
 |some ks=>match qd4 ks with
  |some is=>bif decide (0≤k) then some ⟨⟨k.toNat,a.data.toList,b.data.toList,c.data.toList,n⟩,is⟩ else none
  |none=>none
 |none=>none
def qda (H:vg):List Value→Option (List Nd)
 |[]=>some []
 | .int .u8 k:: .string a:: .string b:: .string c:: .int .i64 n::kv::l=>match qlv H k a b c n kv,qda H l with
  |some x,some r=>some (x::r)
  |_,_=>none
 |_=>none
theorem qlu (Y:Iv σ w0 s w):∀(n:Nat) {l j:List Value} {u:List Nd},l.length≤n→ql σ l j→qda s.H l=some u→∃xs:List NV,qZ xs=j∧xs.map (·.nd)=u∧∀x∈xs,Cells w x.kv 1 (x.nd.kids.map encI)
 |0,l,j,u,R,o,h=>by
  obtain rfl:=List.length_eq_zero_iff.1 (Nat.le_zero.1 R);cases h;cases j with
  |nil=>exact ⟨[],rfl,rfl,fun x g=>by simp at g⟩
  |cons _ _=>exact o.elim
 |Z+1,l,j,u,R,o,h=>by
  unfold qda at h;split at h
  ·cases h;cases j with
   |nil=>exact ⟨[],rfl,rfl,fun x g=>by simp at g⟩
   |cons _ _=>exact o.elim
  ·rename_i k a b c n kv l1;have S:l1.length≤Z:=by simp at R;omega
   obtain ⟨E,A,F,z,C,p,m,rfl⟩:∃E A F z C p m,j=E::A::F::z::C::p::m:=by
    have:=o.len
    match j,this with
    |E::A::F::z::C::p::m,_=>exact ⟨E,A,F,z,C,p,m,rfl⟩
    |[],e|[_],e|[_,_],e|[_,_,_],e|[_,_,_,_],e|[_,_,_,_,_],e=>simp at e
   obtain ⟨h1,h2,h3,h4,h5,h6,o⟩:=o;split at h
   ·rename_i x r g hr;cases h;obtain ⟨xs,e1,e2,e3⟩:=qlu Y Z S o hr;unfold qlv at g;split at g
    ·rename_i ks O;split at g
     ·rename_i is J;obtain ⟨V,g⟩:=jh g;have V:0≤k:=by simpa using V
      cases g;obtain ⟨ks',g1,g2⟩:=qaV Y h6 O;refine ⟨⟨⟨⟨k.toNat,a.data.toList,b.data.toList,c.data.toList,n⟩,is⟩,p⟩::xs, ?_,by simp [e2],fun y U=> ?_⟩
      ·show qe _++qZ xs=_;rw [e1];have ek:((k.toNat:Nat):Int)=k:=Int.toNat_of_nonneg V;rw [h1.uniq (.pln (v:= .int .u8 k) rfl),h2.uniq (.pln (v:= .string a) rfl),h3.uniq (.pln (v:= .string b) rfl),h4.uniq (.pln (v:= .string c) rfl),h5.uniq (.pln (v:= .int .i64 n) rfl)];simp [qe,qbA,ek]
      ·rcases List.mem_cons.1 U with rfl|U
       ·rw [←qrp g2 J];exact g1
       ·exact e3 y U
     ·cases g
    ·cases g
   ·cases h
  ·cases h
end
def p53 (s:Sx):List Value→Option (Value×Sx)
 |[.string b]=>bif Nat.blt b.size 4611686018427387904&&Nat.ble 1 (qB (qu b.data.toList).toks).length&&(qB (qu b.data.toList).toks).all zi then
   (match z7 s none ⟨qB (qu b.data.toList).toks,53,3,false,false⟩ with
   |some (i,s')=>some (.tuple #[.slice (some ⟨i,0,none⟩) (qu b.data.toList).toks.length (qu b.data.toList).toks.length,fV b.data.toList],s')
   |none=>none) else none
 |_=>none
def p77 (s:Sx):List Value→Option (Value×Sx)
 |[.string b]=>some (.bool (qh b.data.toList),s)
 |_=>none
def p22 (s:Sx):List Value→Option (Value×Sx)
 |[.string b]=>bif Nat.blt b.size 4611686018427387904 then some (.bool (jg b.data.toList),s) else none
 |_=>none
def p24 (s:Sx):List Value→Option (Value×Sx)
 |[.string b]=>bif Nat.blt b.size 4294967281 then some (.bool (zC b.data.toList),s) else none
 |_=>none
def p34 (s:Sx):List Value→Option (Value×Sx)
 |[v, .string b]=>match yA s.H 1 v with
  |some l=>match qcm l with
   |some ss=>bif Nat.ble ss.length 100000000000000&&Nat.ble (kQ b.data.toList ss).length 100000000000000 then some (.string (qc (kQ b.data.toList ss)),s) else none
   |none=>none
  |none=>none
 |_=>none
def qkn (g:FuncId):Option (Nat→Bool):=bif Nat.beq g 65 then some qj else bif Nat.beq g 80 then some (qp 20) else none
def qeg (x:Nd):Bool:=decide (x.d.kind<256)&&decide (x.d.name.length<4294967281)&&decide (x.d.vr.length<4294967281)&&decide (x.d.typ.length<4294967281)&&decide (x.kids.length≤1000000)
def p64 (s:Sx):List Value→Option (Value×Sx)
 |[v, .func (.func g) fs cs]=>match yA s.H 6 v with
  |some l=>match qda s.H l,qkn g with
   |some ns,some root=>bif fs.isEmpty&&cs.isEmpty&&ns.all qeg then some (.bool (whole ns root),s) else none
   |_,_=>none
  |none=>none
 |_=>none
def qsP (b:Bs):Option Int:=match Lib.atoiAll b with| .ok n=>some n|_=>none
def qfV (s:Sx):List Value→Option (Value×Sx)
 |[.string b]=>bif Nat.ble b.size 20 then (match qsP b.data.toList with|some n=>some (.tuple #[.int .i64 n, .nilIface],s)|none=>none) else none
 |_=>none
def GM (w:World):Prop:=L01.G w∧zW w
section
variable {σ:Sg} {w0 w:World} {s s':Sx} {args args':List Value} {v:Value}
theorem gm (c:GM w0) (a:Iv σ w0 s w):L01.G w∧zW w:=⟨c.1.ext a.ext,c.2.ext a.ext⟩
theorem qxn (m:GM w0) (e:Iv σ w0 s w) (x:ql σ args args') (h:p53 s args=some (v,s')):Calls Tryz.prog 53 args'.toArray w (vK σ w0 (.ret v s')):=by
 unfold p53 at h;split at h
 ·rename_i b;obtain ⟨a,h⟩:=jh h;simp only [Bool.and_eq_true,Nat.ble_eq,Nat.blt_eq] at a;rw [qaT x];split at h
  ·rename_i i y k;cases h;refine (L01.qjj (gm m e).1 b.data.toList a.1.1).mono ?_;rintro _ W ⟨u,rfl,o,l⟩;obtain ⟨j,p,c,g⟩:=qxt (n:=(qu b.data.toList).toks.length) e l (QC a.2) o (L01.jm _) a.1.2 (by decide) k;exact ⟨j,_,p,c,qi0 g (wG rfl),rfl⟩
  ·cases h
 ·cases h
theorem qxl (c:GM w0) (a:Iv σ w0 s w) (e:ql σ args args') (h:p77 s args=some (v,s')):Calls Tryz.prog 77 args'.toArray w (vK σ w0 (.ret v s')):=by
 unfold p77 at h;split at h
 ·rename_i b;cases h;rw [qaT e];exact qaa a rfl (L01.Qo (gm c a).1 b.data.toList)
 ·cases h
theorem qxr (e:GM w0) (a:Iv σ w0 s w) (g:ql σ args args') (h:p22 s args=some (v,s')):Calls Tryz.prog 22 args'.toArray w (vK σ w0 (.ret v s')):=by
 unfold p22 at h;split at h
 ·rename_i b;obtain ⟨c,h⟩:=jh h;cases h;rw [qaT g];exact qaa a rfl (qcZ (gm e a).1 b.data.toList (by simpa [Nat.blt_eq] using c))
 ·cases h
theorem qxq (c:GM w0) (a:Iv σ w0 s w) (g:ql σ args args') (h:p24 s args=some (v,s')):Calls Tryz.prog 24 args'.toArray w (vK σ w0 (.ret v s')):=by
 unfold p24 at h;split at h
 ·rename_i b;obtain ⟨e,h⟩:=jh h;cases h;rw [qaT g];exact qaa a rfl (qld (gm c a).1 (gm c a).2 b.data.toList (by simpa [Nat.blt_eq] using e))
 ·cases h
theorem qxo (j:Iv σ w0 s w) (a:ql σ args args') (h:p34 s args=some (v,s')):Calls Tryz.prog 34 args'.toArray w (vK σ w0 (.ret v s')):=by
 unfold p34 at h;split at h
 ·rename_i u b;split at h
  ·rename_i l m;split at h
   ·rename_i ss c;obtain ⟨e,h⟩:=jh h;cases h;simp only [Bool.and_eq_true,Nat.ble_eq] at e
    match args',a with
    |[x,y],a=>
     obtain ⟨o,g,n⟩:=qaV j a.1 m;rw [qjq n c] at g;have k:y= .string (qc b.data.toList):=by rw [qbA];exact a.2.1.uniq (.pln (v:= .string b) rfl)
     subst k;exact qaa j rfl (qxc b.data.toList g e.1 e.2)
   ·cases h
  ·cases h
 ·cases h
theorem qxm (A:GM w0) (j:Iv σ w0 s w) (m:ql σ args args') (h:p64 s args=some (v,s')):Calls Tryz.prog 64 args'.toArray w (vK σ w0 (.ret v s')):=by
 unfold p64 at h;split at h
 ·rename_i u g fs cs;split at h
  ·rename_i l R;split at h
   ·rename_i V root o a;obtain ⟨p,h⟩:=jh h;cases h;simp only [Bool.and_eq_true,Array.isEmpty_iff] at p;obtain ⟨⟨rfl,rfl⟩,H⟩:=p
    match args',m with
    |[x,y],m=>
     obtain ⟨U,J,S⟩:=qaV j m.1 R;obtain ⟨xs,C,z,O⟩:=qlu j l.length (Nat.le_refl _) S o;have E:y=qG g #[]:=m.2.1.uniq (wG (v:= .func (.func g) #[] #[]) rfl);subst E;have F:vB w (qG g #[]) root:=by
      unfold qkn at a;cases e:Nat.beq g 65 with
      |true=>
       rw [e] at a;cases a;rw [Nat.eq_of_beq_eq_true e];exact qlT
      |false=>
       rw [e] at a;obtain ⟨n,a⟩:=jh (b:=Nat.beq g 80) a;cases a;rw [Nat.eq_of_beq_eq_true n];exact qgg
     have c:∀x∈xs,qeg x.nd=true:=fun x k=>List.all_eq_true.1 H x.nd (by rw [←z];exact List.mem_map.2 ⟨x,k,rfl⟩);have:=qk5 (gm A j).1 (gm A j).2 (xs:=xs) ⟨by rw [C];exact J,O⟩ (fun x k=>by
      have:=c x k;simp only [qeg,Bool.and_eq_true,decide_eq_true_eq] at this;exact ⟨this.1.1.1.1,this.1.1.1.2,this.1.1.2,this.1.2⟩) (fun x k=>by
      have:=c x k;simp only [qeg,Bool.and_eq_true,decide_eq_true_eq] at this;exact this.2) F
     rw [z] at this;exact qaa j rfl this
   ·cases h
  ·cases h
 ·cases h
theorem qxp (g:Iv σ w0 s w) (k:ql σ args args') (h:qfV s args=some (v,s')):Calls Tryz.prog 273 args'.toArray w (vK σ w0 (.ret v s')):=by
 unfold qfV at h;split at h
 ·rename_i b;obtain ⟨c,h⟩:=jh h;split at h
  ·rename_i n a;cases h;rw [qaT k];unfold qsP at a;split at a
   ·rename_i m e;cases a;refine qaa g rfl ((qxa (by simpa [Nat.ble_eq] using c) e).mono ?_);rintro _ W ⟨j,rfl⟩;exact ⟨rfl,j⟩
   ·cases a
  ·cases h
 ·cases h
end
end
theorem qbv {s:Sx} {i:Nat} {o:Ob} (h:QM s i o=true):s.H.get i=some o:=by
 unfold QM at h;split at h
 ·rename_i p a;rw [a,qbu h]
 ·cases h
def yJ:TrP:=⟨54,83,4,3,85,153⟩
theorem qDF {c:List PanicEntry} (h:chainB yJ c=true):c=yx:=by
 unfold chainB at h;split at h
 ·rename_i p;obtain ⟨v,e,g⟩:=p;simp only [Bool.and_eq_true,Bool.not_eq_true'] at h;obtain ⟨⟨a,rfl⟩,rfl⟩:=h;split at a
  ·rename_i t cs;simp only [Bool.and_eq_true,beq_iff_eq,Array.isEmpty_iff] at a;obtain ⟨rfl,rfl⟩:=a;rfl
  ·cases a
 ·cases h
theorem qc6 {σ:Sg} {w0 w:World} {s:Sx} (j:Iv σ w0 s w) {i b:Nat} {v:Value} {t:TypeId} (h:s.H.get i=some ⟨[v],t,1,true,false⟩) (k:zi v=true) (c:σ i=some (b,0,0)):Blk w b #[v] t:=by
 obtain ⟨l,cs',g,e,a⟩:=qbX j h rfl (show (1:Nat)≠0 by decide);rw [c] at g;cases g
 match cs',e,a with
 |[x],e,a=>
  rw [e.1.uniq (.pln k)] at a;exact a
theorem qtx {r:Sx→Tk→Option Ou} (hr:Sound Tryz.prog GM r) {s:Sx} {o:Ou} {σ:Sg} {w0 w:World} (hg:GM w0) (hI:Iv σ w0 s w) {b B g i f n:Nat} {cs:List Value} {ds:Array Value} {tv' V:Value} (hσB:σ b=some (B,0,0)) (hB:Blk w B #[tv', .int .i64 (i:Int), .int .i64 (f:Int),V] 85)
  (hsl:qn V=true) (hln:qk V=n) (hcs:ql σ cs ds.toList) (hcb:qg Tryz.prog g=true) (h:qeP r s yJ b g cs (i:Int) n=some o):
  Calls Tryz.prog 54 #[.pointer (some ⟨B,0,none⟩), .func (.func g) #[] ds] w (vK σ w0 o):=by
 unfold qeP at h;split at h
 ·cases h
 rename_i iA s1 n1;split at h
 ·cases h
 rename_i iY s2 n2;split at h
 ·cases h
 rename_i iN s3 n3;split at h
 ·cases h
 rename_i iM s4 n4;generalize hR:vK σ w0 o=R;refine qna fun ρ r0 r1 rg=> ?_;simp [qdy,r0];refine vz fun A W1 hA hE1 hbA hA1=> ?_;simp [Value.cells,r0] at hbA;simp;refine qT z4 fun Y W2 hY hE2 hbY hY1=> ?_;simp;have hB2:=hB.ext (hE1.trans' hE2);have hA2:=hbA.ext hE2;refine vF (hpn:=qi3 (by decide)) qm9 (fun W=>Blk W A #[.pointer (some ⟨B,0,none⟩)] 83∧Blk W B #[tv', .int .i64 (i:Int), .int .i64 (f:Int),V] 85) fun W3 aa _=> ?_;have F:=hB2.ext aa;have y:=hA2.ext aa;have hY3:=hbY.ext aa;have hJ:Blk W3 A #[.pointer (some ⟨B,0,none⟩)] 83∧Blk W3 B #[tv', .int .i64 (i:Int), .int .i64 (f:Int),V] 85:=⟨y,F⟩;refine ⟨hJ, ?_⟩;have cA:∀W,(Blk W A #[.pointer (some ⟨B,0,none⟩)] 83∧Blk W B #[tv', .int .i64 (i:Int), .int .i64 (f:Int),V] 85)→W.cell? ⟨A,0,none⟩=some (.pointer (some ⟨B,0,none⟩))∧W.cell? ⟨B,1,none⟩=some (.int .i64 (i:Int))∧W.cell? ⟨B,3,none⟩=some V:=fun W h=>⟨by rw [h.1.cell];rfl,by rw [h.2.cell];rfl,by rw [h.2.cell];rfl⟩;simp+contextual -implicitDefEqProofs [qgu,cA,hJ,hsl];have rest:∀(C:qa) (W4:World) (X5 X6:Nat),qb W3 W4→W3.heap.size≤X5→W3.heap.size≤X6→X5≠X6→Blk W4 X5 #[.int .i64 (i:Int)] 3→Blk W4 X6 #[.int .i64 (n:Int)] 3→C 1=ρ 1→C 2= .pointer (some ⟨A,0,none⟩)→C 4= .pointer (some ⟨Y,0,none⟩)→C 5= .pointer (some ⟨X5,0,none⟩)→C 6= .pointer (some ⟨X6,0,none⟩)→C gS= .tuple #[]→
   qbF.wp ⟨Tryz.prog,19,qai,wF⟩ (ve Tryz.prog [.cell1 4] R .returning) (zj Tryz.prog [.cell1 4] R) C W4:=by
  intro C W4 X5 X6 k q5 q6 q56 hb5 z e1 e2 e4 e5 e6 eg;have hA4:=y.ext k;have hY4:=hY3.ext k;have hE04:qb w W4:=((hE1.trans' hE2).trans' aa).trans' k;have z1:=hE1.size;have z2:=hE2.size;have z3:=aa.size;have hI4:=hI.toExt hE04;have wle:=hI.ext.size;have low:∀j o p,s.H.get j=some o→σ j=some p→p.1<w.heap.size:=fun j o p hj hp=>by
   obtain ⟨q,hq,hlt⟩:=hI.mr.at' hj;rw [hp] at hq;cases hq;exact hlt
  obtain ⟨τ1,l1,i1,I1,d1⟩:=qcQ (cs':=[.pointer (some ⟨B,0,none⟩)]) hI4 n1 (b:=A) (by omega) (fun j oj pj hj hp=>by have:=low j oj pj hj hp;omega) hA4 ⟨yM hσB,trivial⟩;obtain ⟨τ2,l2,i2,I2,d2⟩:=qcQ (cs':=[.bool false]) I1 n2 (b:=Y) (by omega) (fun j oj pj hj hp=>by
   rcases d1 j oj pj hj hp with e|⟨a1,a2⟩
   ·omega
   ·have:=low j oj pj a1 a2;omega) hY4 ⟨.pln rfl,trivial⟩
  have d2':∀j o p,s2.H.get j=some o→τ2 j=some p→p.1<W2.heap.size:=fun j o p hj hp=>by
   rcases d2 j o p hj hp with e|⟨a1,a2⟩
   ·omega
   ·rcases d1 j o p a1 a2 with e|⟨b1,b2⟩
    ·omega
    ·have:=low j o p b1 b2;omega
  obtain ⟨τ3,l3,i3,I3,d3⟩:=qcQ (cs':=[.int .i64 (i:Int)]) I2 n3 (b:=X5) (by omega) (fun j oj pj hj hp=>by have:=d2' j oj pj hj hp;omega) hb5 ⟨.pln rfl,trivial⟩;obtain ⟨τ4,l4,i4,I4,d4⟩:=qcQ (cs':=[.int .i64 (n:Int)]) I3 n4 (b:=X6) (by omega) (fun j oj pj hj hp=>by
   rcases d3 j oj pj hj hp with e|⟨a1,a2⟩
   ·omega
   ·have:=d2' j oj pj a1 a2;omega) z ⟨.pln rfl,trivial⟩
  have l04:σ.le τ4:=Sg.le_trans l1 (Sg.le_trans l2 (Sg.le_trans l3 l4));simp [qbF];refine qhZ (f:=116) (caps:= #[.pointer (some ⟨X5,0,none⟩), .pointer (some ⟨A,0,none⟩), .pointer (some ⟨X6,0,none⟩), .pointer (some ⟨Y,0,none⟩)]) (by simp [e2,e4,e5,e6]) trivial ?_;have eg':C 1000000000= .tuple #[]:=eg;simp [gS,e1,r1,eg'];refine x9 (f:=g) hcb (fs:= #[]) (caps:=ds) (by simp) ?_;simp;cases ho:r s4 (.call g cs) with
  |none=>rw [ho] at h;cases h
  |some o1=>
   rw [ho] at h;have Z:=hr.call _ _ _ _ ho τ4 w0 W4 ds.toList hg I4 (hcs.mono l04);rw [Array.toArray_toList] at Z;refine Z.mono ?_;cases o1 with
   |ret v s'=>
    rintro e w5 ⟨τ,v',hl,J,hv',rfl⟩;obtain ⟨hc,h⟩:=jh h;simp only [Bool.and_eq_true] at hc;obtain ⟨⟨c1,c2⟩,c3⟩:=hc;cases h;have hYo:=qbv c1;have ab:=hl _ _ (l4 _ _ (l3 _ _ i2));have hY5:=qc6 J hYo rfl ab;simp;refine qP (B:=Y) (i:=0) (by simp [e4]) hY5 (by simp) (by simp [Value.cells]) (by simp) sz4 fun W6 u z=> ?_;simp at z;simp [zj,ve,gS,e4];refine jX (by simp) qen (qsf.mono ?_);rintro e u' w' ⟨⟨v,rfl⟩,rfl,rfl⟩;refine qag ?_;have cY:w'.cell? ⟨Y,0,none⟩=some (.bool true):=by rw [z.cell];rfl
    simp [qC,vC,RV.val,e4,cY,wq,←hR];exact ⟨τ, .bool true,Sg.le_trans l04 hl,qsb J hYo (kC c2) ab u, .pln rfl,rfl⟩
   |pn c s'=>
    rintro e w5 ⟨τ,hl,J,rfl⟩;obtain ⟨hc,h9⟩:=jh h;simp only [Bool.and_eq_true,Bool.not_eq_true'] at hc;obtain ⟨⟨⟨⟨⟨c1,c2⟩,c3⟩,c4⟩,c5⟩,c6⟩:=hc;obtain rfl:=qDF c1;have hYo:=qbv c3;have ab:=hl _ _ (l4 _ _ (l3 _ _ i2));have hY5:=qc6 J hYo rfl ab;have h55:=qc6 J (qbv c4) rfl (hl _ _ (l4 _ _ i3));have h56:=qc6 J (qbv c5) rfl (hl _ _ i4);have E:τ b=some (B,0,0):=hl _ _ (l04 _ _ hσB);have hA5:Blk w5 A #[.pointer (some ⟨B,0,none⟩)] 83:=by
     obtain ⟨b',cs',g1,g2,g3⟩:=qbX J (qbv c2) rfl (show (1:Nat)≠0 by decide);rw [hl _ _ (l4 _ _ (l3 _ _ (l2 _ _ i1)))] at g1;cases g1
     match cs',g2,g3 with
     |[x],g2,g3=>
      rw [g2.1.uniq (yM E)] at g3;exact g3
    unfold qsL at h9;split at h9
    ·rename_i ob hob;split at h9
     ·rename_i tv i' far a m c hcl;split at h9
      ·rename_i nv2 hsub;obtain ⟨hc,h8⟩:=jh h9;cases h8;simp only [Bool.and_eq_true,decide_eq_true_eq,Nat.ble_eq] at hc;obtain ⟨⟨⟨⟨⟨g1,g2⟩,g3⟩,g4⟩,g5⟩,g6⟩:=hc;have hobe:=qbu g6;subst hobe;obtain ⟨b',cs',k1,k2,k3⟩:=qbX J hob rfl (show (1:Nat)≠0 by decide);rw [E] at k1;cases k1
       match cs',k2,k3 with
       |[tx,x1,x2,nx],k2,k3=>
        obtain ⟨v1,v2,v3,v4,_⟩:=k2;obtain ⟨j,rfl⟩:=Int.eq_ofNat_of_zero_le g1;obtain ⟨f2,rfl⟩:=Int.eq_ofNat_of_zero_le g2;have u2:=v2.uniq (.pln (v:= .int .i64 (j:Int)) rfl);have u3:=v3.uniq (.pln (v:= .int .i64 (f2:Int)) rfl);subst u2;subst u3;obtain ⟨hsx,hlx⟩:=qcq v4;obtain ⟨m1,m2,m3,m4,nv2',m5,m6⟩:=qe2 v4 hsub;simp [zj,ve,gS,e4];refine jX (by simp) qen ((qse (n:=n) h55 hA5 h56 (.inr hY5) k3 hsx (by rw [hlx];exact g3)).mono ?_);rintro e u' w' ⟨⟨v,rfl⟩,hu,W6,W7,hE6,U,O,hO8,hb8⟩;show jU _ _ _ _ [] (settle u') w';rw [hu];refine qag ?_;have cY:w'.cell? ⟨Y,0,none⟩=some (.bool false):=by rw [hb8.cell];rfl
        simp [qC,vC,RV.val,e4,cY,wq,←hR];have hI6:=J.toExt hE6;have hm5:qR nx 6 0 n (qo nx)=nv2':=by simpa using m5
        rw [hm5] at O;have hI7:Iv τ w0 ⟨s'.H.set b ⟨[tv, .int .i64 (i:Int), .int .i64 (f2:Int),nv2],yJ.tt,1,true,false⟩,s'.nx,s'.rs⟩ W7:=by
         refine qiq hI6 hob (kC g4) E U ⟨(fun hz=>by cases hz),fun _=>⟨_,E,O.heap, ?_,by simp,fun _=>⟨rfl,rfl,by simp⟩,(fun hw=>by cases hw),(fun hx=>by cases hx)⟩⟩;exact ⟨v1, .pln rfl, .pln rfl,m6,trivial⟩
        have hYo2:(s'.H.set b ⟨[tv, .int .i64 (i:Int), .int .i64 (f2:Int),nv2],yJ.tt,1,true,false⟩).get iY=some ⟨[.bool false],yJ.tb,1,true,false⟩:=by
         rw [Tr.get_set _ _ (kC g4),if_neg (fun e=>by rw [e] at c6;simp at c6)];exact hYo
        exact ⟨τ, .bool false,Sg.le_trans l04 hl,qsb hI7 hYo2 (kC g5) ab hO8, .pln rfl,rfl⟩
      ·cases h9
     ·cases h9
    ·cases h9
   |go e s'=>exact fun e w h=>h.elim
   |ex j e s'=>exact fun e w h=>h.elim
   |rt e s'=>exact fun e w h=>h.elim
 refine ⟨?_, ?_⟩
 ·refine qT z3 fun X5 W4 hX5 k hb4 hs4=>⟨⟨y.ext k,F.ext k⟩, ?_⟩;refine qT z3 fun X6 W5 hX6 l hb5 hs5=>⟨⟨(y.ext k).ext l,(F.ext k).ext l⟩, ?_⟩;have l5:W3.heap.size≤X5:=hX5;have S:X5≠X6:=by omega
  have z4:=k.size;refine qP (B:=X5) (i:=0) (by simp) (hb4.ext l) (by simp) (by simp [Value.cells]) (by simp) vX fun W6 u z=> ?_;simp at z;have hA6:=u.blk ((y.ext k).ext l) (by have:=y.lt;omega);have hB6:=u.blk ((F.ext k).ext l) (by have:=F.lt;omega);refine ⟨⟨hA6,hB6⟩, ?_⟩;refine qP (B:=X6) (i:=0) (by simp) (u.blk hb5 (Ne.symm S)) (by simp) (by simp [Value.cells]) (by simp) vX fun W7 U O=> ?_;simp [hln] at O;exact rest _ W7 X5 X6 (U.ext (u.ext (k.trans' l) l5) (by omega)) l5 (by omega) S (U.blk z S) O (by simp) (by simp) (by simp) (by simp) (by simp) (by simp [gS] at rg⊢;exact rg)
 ·refine qT z3 fun X6 W4 hX6 k hb4 hs4=>⟨⟨y.ext k,F.ext k⟩, ?_⟩;refine qT z3 fun X5 W5 hX5 l hb5 hs5=>⟨⟨(y.ext k).ext l,(F.ext k).ext l⟩, ?_⟩;have z4:=k.size;have l5:W3.heap.size≤X5:=by omega
  have S:X6≠X5:=by omega
  refine qP (B:=X5) (i:=0) (by simp) hb5 (by simp) (by simp [Value.cells]) (by simp) vX fun W6 u z=> ?_;simp at z;have hA6:=u.blk ((y.ext k).ext l) (by have:=y.lt;omega);have hB6:=u.blk ((F.ext k).ext l) (by have:=F.lt;omega);refine ⟨⟨hA6,hB6⟩, ?_⟩;refine qP (B:=X6) (i:=0) (by simp) (u.blk (hb4.ext l) S) (by simp) (by simp [Value.cells]) (by simp) vX fun W7 U O=> ?_;simp [hln] at O;exact rest _ W7 X5 X6 (U.ext (u.ext (k.trans' l) l5) hX6) l5 hX6 (Ne.symm S) (U.blk z (Ne.symm S)) O (by simp) (by simp) (by simp) (by simp) (by simp) (by simp [gS] at rg⊢;exact rg)
theorem t54:qiB Tryz.prog GM (some yJ):=by
 intro q V r U s args o h σ w0 w args' hg R J;cases V;unfold qeN at h;split at h
 ·rename_i b g fs cs;split at h
  ·rename_i ob u;unfold qi1 at h;split at h
   ·rename_i tv at0 far a n c p;obtain ⟨O,S⟩:=jh h;simp only [Bool.and_eq_true,Array.isEmpty_iff,decide_eq_true_eq] at O;obtain ⟨⟨⟨⟨rfl,Y⟩,h1⟩,E⟩,e⟩:=O;have e:=qbu e;subst e;obtain ⟨B,z,l,m,k⟩:=qbX R u rfl (show (1:Nat)≠0 by decide)
    match z,m,k with
    |[tv',x1,x2,nv'],m,k=>
     obtain ⟨ht,e1,Z,e3,_⟩:=m;obtain ⟨i,rfl⟩:=Int.eq_ofNat_of_zero_le Y;obtain ⟨f,rfl⟩:=Int.eq_ofNat_of_zero_le h1;have u1:=e1.uniq (.pln (v:= .int .i64 (i:Int)) rfl);have u2:=Z.uniq (.pln (v:= .int .i64 (f:Int)) rfl);subst u1;subst u2;obtain ⟨F,H⟩:=qcq e3
     match args',J with
     |[y1,y2],J=>
      obtain ⟨A,C,_⟩:=J;have u3:=A.uniq (yM l);subst u3;cases C with
      |pln h'=>cases h'
      |fnc k1 k2 k3 k4=>
       rename_i gs ds;have:gs= #[]:=Array.eq_empty_of_size_eq_zero (by simpa using k1.symm);subst this;exact qtx (cs:=cs.toList) U hg R l k F H (ql.of (by simpa using k3) fun j x y hx hy=>k4 j x y (by simpa using hx) (by simpa using hy)) E S
   ·cases h
  ·cases h
 ·cases h
theorem qDE {w:World} {b:Nat} {p v:Value} (c:p= .pointer none∨p= .pointer (some ⟨b,0,none⟩)) (a:Blk w b #[p,v] 114):
  Calls Tryz.prog 177 #[.pointer (some ⟨b,0,none⟩)] w fun e w'=>e= .returned (.tuple #[])∧Blk w' b #[.pointer (some ⟨b,0,none⟩),v] 114∧Only b w w':=by
 rcases c with rfl|rfl
 ·refine (L01.qsN b w (by rw [a.cell];rfl) (by simp [World.shape?,a.heap]) (by simp [World.frozen?,a.heap])).mono ?_;rintro _ _ ⟨rfl,rfl⟩;exact ⟨rfl,by simpa using qev a 0 (.pointer (some ⟨b,0,none⟩)),qc4 _ _ _ _⟩
 ·refine (L01.qiz b w (by rw [a.cell];rfl)).mono ?_;rintro _ _ ⟨rfl,rfl⟩;exact ⟨rfl,a,Only.refl _ _⟩
theorem qtd {w:World} {B b:Nat} {v:Value} {bs:Bs} {rest:List Value} {T:TypeId} (s:Bs) (hB:B≤b) (hblt:b<w.heap.size) (o:w.ownsRow B 5 1 v bs.length (bs.map ji)) (x:v.ownBlock≠some b)
  (A:Calls Tryz.prog 177 #[.pointer (some ⟨b,0,none⟩)] w fun e w'=>e= .returned (.tuple #[])∧Blk w' b (.pointer (some ⟨b,0,none⟩)::v::rest).toArray T∧Only b w w') (hlen:bs.length+s.length≤100000000000000) (hBw:B≤w.heap.size):
  Calls Tryz.prog 89 #[.pointer (some ⟨b,0,none⟩), .string (qc s)] w fun e w'=>e= .returned (.tuple #[.int .i64 s.length, .nilIface])∧∃c,Blk w' b (.pointer (some ⟨b,0,none⟩)::c::rest).toArray T∧w'.ownsRow B 5 1 c (bs++s).length ((bs++s).map ji)∧c.ownBlock≠some b∧Below B w w'∧
   (∀k,k<w.heap.size→k≠b→v.ownBlock≠some k→w'.heap[k]? =w.heap[k]?)∧(c.ownBlock=v.ownBlock∨c.ownBlock=some w.heap.size):=by
 refine L01.qmp fun ρ h0 h1=> ?_;simp [L01.qgm,h0];refine A.mono ?_;rintro _ Z ⟨rfl,V,l⟩;have R:Z.cell? ⟨b,1,none⟩=some v:=by rw [V.cell];rfl
 simp [h0,h1,R];obtain ⟨i,hi,hz,hs,Y⟩:=qbM;have U:=l.size;have O:=V.lt;have p:(qc s).size=s.length:=rfl;have j:Z.ownsRow B 5 1 v bs.length (bs.map ji):=qbr o fun k J=>l.block k fun e=>x (by rw [J,e]);obtain ⟨c,W3,hr,n,u,H⟩:=Lib.run_append_own_string (P:=Tryz.prog) Z B 112 9 112 5 i Tryz.underlying112 Tryz.underlying9 hi hz hs Y v bs.length (bs.map ji) (by simpa using j) (qc s) (by rw [p];simp only [maxLen];omega) (by rw [p];omega) (by omega);have y:=qEm (qc s) j (by rw [p];omega) hr H;rw [U] at y;have a:W3.ownsRow B 5 1 c (bs++s).length ((bs++s).map ji):=by simpa [L01.qe3] using n
 have S:Blk W3 b (.pointer (some ⟨b,0,none⟩)::v::rest).toArray T:=⟨(u.block b O (fun e=>x e.symm)).trans V.heap⟩;refine ju (v:=c) (w':=W3) (by simp [execOp,qD,resolve,invoke,builtin,hr]) ?_;have C:c.cells= #[c]∧c.oneCell=true:=by
  rcases a.2 with ⟨rfl,_⟩|⟨g,cap,cur,rfl,_⟩<;>exact ⟨rfl,rfl⟩
 simp;refine qP (B:=b) (i:=1) (by simp) S (by simp) (by simp;exact C.1) (by simp;exact C.2) L01.qeZ fun W4 z F=> ?_;simp [h1] at F⊢;have m:c.ownBlock≠some b:=by
  rcases y with h|h
  ·rw [h];exact x
  ·rw [h];simp;omega
 have h3:Below B w W3:=(k9 l hB).grown u (by omega) fun k J=>(j.lt k J).1;refine ⟨c,F,by simpa using qbr a (fun k J=>z.block k fun e=>m (by rw [J,e])),m,Below.trans h3 (k9 z hB),fun k hk1 E aa=> ?_,y⟩;exact (z.block k E).trans ((u.block k (by omega) (fun e=>aa e.symm)).trans (l.block k E))
theorem quc {b g cap:Nat} {cur:Array Value} {bs:Bs} {w:World} (a:w.cell? ⟨b,1,none⟩=some (.slice (some ⟨g,0,none⟩) bs.length cap)) (F:w.heap[g]? =some (.cells cur 5 (0,0))) (O:bs≠[]) (z:bs.length≤cap) (A:cap≤maxLen) (R:cur.size=cap*1) (m:cur.toList.take (bs.length*1)=bs.map ji):
  Calls Tryz.prog 90 #[.pointer (some ⟨b,0,none⟩)] w fun e w'=>e= .returned (.string (qc bs))∧Below g w w'∧∀k,k≠g→w'.heap[k]? =w.heap[k]? :=by
 have S:0<bs.length:=List.length_pos_iff.2 O;refine qyF fun ρ r0=> ?_;simp -implicitDefEqProofs [qmo];refine vF qyE (fun W=>W.heap=w.heap) fun h l c=>⟨c, ?_⟩;have J:∀W:World,W.heap=w.heap→W.cell? ⟨b,1,none⟩=some (.slice (some ⟨g,0,none⟩) bs.length cap):=fun W e=>by
  rw [←a];simp only [World.cell?,e]
 have y:qn (.slice (some ⟨g,0,none⟩) bs.length cap)=true:=by simp [qn,z]
 have E:qk (.slice (some ⟨g,0,none⟩) bs.length cap)=bs.length:=rfl;simp+contextual -implicitDefEqProofs [qmk,r0,J,J h c,y,E];have u:(Builtin.unsafeSliceData_ #[112] 196 #[.slice (some ⟨g,0,none⟩) bs.length cap]).run Tryz.prog h= .ok (.pointer (some ⟨g,0,none⟩)) h:=
  Lib.run_unsafeSliceData_row _ _ _ _ _ _ (by omega)
 refine qr5 ?_;refine ju (v:= .pointer (some ⟨g,0,none⟩)) (w':=h) (by simp [execOp,qD,resolve,invoke,builtin,u]) ?_;refine ⟨c, ?_⟩;have n:h.heap[g]? =some (.cells cur 5 (0,0)):=by rw [c];exact F
 have C:(Builtin.unsafeString_ #[196,3] 9 #[.pointer (some ⟨g,0,none⟩), .int .i64 bs.length]).run Tryz.prog h= .ok (.string ⟨bs.toArray⟩) (h.freeze ⟨g,0,none⟩ bs.length):=by
  refine Lib.run_unsafeString_row h 196 3 9 5 Tryz.underlying196 (by kernel_rfl) g cur.size (by simp [World.shape?,n]) bs O (by omega) (by unfold maxLen at A;omega) ?_;intro j x U;have a:cur.toList[j]? =some (ji x):=by
   have o:(bs.map ji)[j]? =some (ji x):=by simp [U]
   rw [←m,List.getElem?_take] at o;split at o
   ·exact o
   ·cases o
  simp only [World.cell?,zF,Nat.zero_add,n];simpa [ji] using a
 refine qr5 ?_;refine ju (v:= .string ⟨bs.toArray⟩) (w':=h.freeze ⟨g,0,none⟩ bs.length) (by simp [execOp,qD,resolve,invoke,builtin,C]) ?_;simp -implicitDefEqProofs [qml];refine ⟨rfl,Lib.below_freeze (⟨l.os,l.tape,l.output,l.size,fun k _=>by rw [c]⟩:Below g w h) (p:=⟨g,0,none⟩) (Nat.le_refl _) _,fun k H=> ?_⟩;rw [←c];unfold World.freeze;split
 ·rfl
 ·simp only [Array.getElem?_modify];rw [if_neg (by simpa using fun e=>H e.symm)]
section
variable {σ:Sg} {w0 w:World} {s s':Sx} {args args':List Value} {v:Value}
def qiv:Value→Option UInt8
 | .int .u8 k=>bif decide (0≤k)&&decide (k<256) then some (UInt8.ofNat k.toNat) else none
 |_=>none
def qep:List Value→Option Bs
 |[]=>some []
 |a::l=>match qiv a,qep l with|some c,some r=>some (c::r)|_,_=>none
theorem qDS {a:Value} {c:UInt8} (h:qiv a=some c):a=ji c:=by
 unfold qiv at h;split at h
 ·rename_i k;obtain ⟨e,h⟩:=jh h;simp only [Bool.and_eq_true,decide_eq_true_eq] at e;cases h;have:k.toNat<256:=by omega
  simp only [ji,Value.int.injEq,true_and];rw [UInt8.toNat_ofNat',Nat.mod_eq_of_lt (by simpa using this),Int.toNat_of_nonneg e.1]
 ·cases h
theorem qsv:∀{l g:List Value} {bs:Bs},ql σ l g→qep l=some bs→g=bs.map ji
 |[],[],bs,_,h=>by cases h;rfl
 |a::l,b::m,bs,e,h=>by
  unfold qep at h;split at h
  ·rename_i c r j k;cases h;have n:=qDS j;subst n;rw [qsv e.2 k,e.1.uniq (.pln (v:=ji c) rfl)];rfl
  ·cases h
noncomputable def qbU (s:Sx):Value→Option (Bs×vg)
 | .slice none 0 0=>some ([],s.H)
 | .slice (some ⟨j,0,none⟩) n c=>match s.H.get j with
  |some ob=>bif ob.ex&&Nat.beq ob.ty 5&&Nat.beq ob.sz 1&& !ob.whole&&Nat.beq n ob.cells.length&&Nat.beq c n&&Nat.blt j vj then
    (match qep ob.cells with|some bs=>some (bs,s.H.del j)|none=>none) else none
  |none=>none
 |_=>none
theorem qsy (F:Iv σ w0 s w) {u J:Value} (hv:VR σ u J) {bs:Bs} {H:vg} (h:qbU s u=some (bs,H)):
  w.ownsRow w0.heap.size 5 1 J bs.length (bs.map ji)∧(∀j o,H.get j=some o→s.H.get j=some o)∧(∀j o p,H.get j=some o→σ j=some p→some p.1≠J.ownBlock)∧(∀b i o,s.H.get i=some o→σ i=some (b,0,0)→o.ty≠5→J.ownBlock≠some b∧(∃o',H.get i=some o'∧o'=o)):=by
 unfold qbU at h;split at h
 ·cases h;cases hv with
  |pln _=>exact ⟨⟨by simp, .inl ⟨rfl,rfl⟩⟩,fun _ _ h=>h,fun _ _ _ _ _=>by simp [Value.ownBlock],fun b i o g C ht=>⟨by simp [Value.ownBlock],o,g,rfl⟩⟩
 ·rename_i j n c;split at h
  ·rename_i ob a;obtain ⟨hc,O⟩:=jh h;simp only [Bool.and_eq_true,Bool.not_eq_true'] at hc;obtain ⟨⟨⟨⟨⟨⟨c1,c2⟩,c3⟩,c4⟩,c5⟩,c6⟩,m⟩:=hc;have c2:=Nat.eq_of_beq_eq_true c2;have c3:=Nat.eq_of_beq_eq_true c3;have c5:=Nat.eq_of_beq_eq_true c5;have c6:=Nat.eq_of_beq_eq_true c6;have m:=kC m;subst c6;split at O
   ·rename_i bs1 S;cases O;cases hv with
    |pln h'=>cases h'
    |slc C hn=>
     rename_i b f x;obtain ⟨b1,f1,x1,cur,k⟩:=(F.mr j ob a).2 (by rw [c3];decide);have y:=k.at';rw [C] at y;cases y;obtain ⟨aa,U⟩:=k.exact c1;subst aa;rw [c3,Nat.mul_one] at U;obtain ⟨n0,V,hm0⟩:=k.most c4;rw [c3,Nat.mul_one] at V;have z:=k.cs;simp only [List.drop_zero] at z;have A:=qsv z S;have l:bs.length=ob.cells.length:=by
      have:=congrArg List.length A;rw [List.length_take,Array.length_toList,List.length_map] at this;omega
     refine ⟨⟨by simp, .inr ⟨b,c+x,cur,by rw [c5,l],F.own j ob _ a C,by rw [←c2];exact k.heap,by omega,by omega,by omega, ?_⟩⟩,fun i o g=>(get_del m g).2,fun i o p g Y he=> ?_,fun b' i o g Y ht=> ?_⟩
     ·rw [Nat.mul_one,l];exact A
     ·obtain ⟨Z,R⟩:=get_del m g;refine Z (F.ap i j o ob p _ R a Y C ?_);simpa [Value.ownBlock] using he
     ·have E:i≠j:=fun e=>by subst e;rw [a] at g;cases g;exact ht c2
      refine ⟨fun e=>E (F.ap i j o ob _ _ g a Y C ?_),o, ?_,rfl⟩
      ·simp [Value.ownBlock] at e;exact e.symm
      ·rw [Tr.get_del _ m,if_neg E];exact g
   ·cases O
  ·cases h
 ·cases h
theorem qv1 (m:Iv σ w0 s w) {i:Nat} (A:i<vj) {b f x:Nat} (k:σ i=some (b,f,x)) (C:∀j o p,s.H.get j=some o→σ j=some p→j≠i→p.1≠b) (F:w0.heap.size≤b) {ob:Ob} (S:ob.sz≠0) {cur:Array Value} (R:RO σ w i ob b f x cur):
  Iv σ w0 ⟨s.H.set i ob,s.nx,s.rs⟩ w:=by
 have J:∀j,(s.H.set i ob).get j=if j=i then some ob else s.H.get j:=fun j=>Tr.get_set _ _ A j
 refine ⟨fun j n c=> ?_,m.dom,m.res,fun j l n ol E pl c u a g O=> ?_,m.ext,fun j n E c a=> ?_⟩
 ·dsimp only at c;rw [J] at c;split at c
  ·rename_i e;cases c;subst e;exact ⟨fun h=>absurd h S,fun _=>⟨b,f,x,cur,R⟩⟩
  ·exact m.mr j n c
 ·dsimp only at c u;rw [J] at c u;split at c
  ·rename_i z;subst z;rw [k] at a;cases a;split at u
   ·rename_i y;exact y.symm
   ·rename_i y;exact absurd O.symm (C l ol pl u g y)
  ·rename_i z;split at u
   ·rename_i y;subst y;rw [k] at g;cases g;exact absurd O (C j n E c a z)
   ·exact m.ap j l n ol E pl c u a g O
 ·dsimp only at c;rw [J] at c;split at c
  ·rename_i z;subst z;rw [k] at a;cases a;exact F
  ·exact m.own j n E c a
def qiy (t:TypeId) (n:Nat):Bool:=(Nat.beq t 114&&Nat.beq n 0)||(Nat.beq t 116&&Nat.beq n 2)
def qsX (i:Nat):Value→Bool
 | .pointer none=>true
 | .pointer (some ⟨j,0,none⟩)=>Nat.beq j i
 |_=>false
noncomputable def wrX (s:Sx) (i:Nat) (ob:Ob) (b:ByteArray) (rest:List Value) (bs:Bs) (H:vg):Option (Value×Sx):=
 bif Nat.ble (bs.length+b.size) 100000000000000&&Nat.ble 1 (bs.length+b.size) then
  match z7 ⟨H.del i,s.nx,s.rs⟩ none ⟨(bs++b.data.toList).map ji,5,1,false,true⟩ with
  |some (k,s1)=>some (.tuple #[.int .i64 b.size, .nilIface],⟨s1.H.set i ⟨.pointer (some ⟨i,0,none⟩):: .slice (some ⟨k,0,none⟩) (bs.length+b.size) (bs.length+b.size)::rest,ob.ty,1,true,false⟩,s1.nx,s1.rs⟩)
  |none=>none
 else none
noncomputable def wrA (s:Sx) (i:Nat) (ob:Ob) (b:ByteArray):Option (Value×Sx):=
 match ob.cells with
 |p::bv::rest=>bif qsX i p&&qiy ob.ty rest.length&&Nat.blt i vj&&QG ob ⟨p::bv::rest,ob.ty,1,true,false⟩ then
   (match qbU s bv with|some (bs,H)=>wrX s i ob b rest bs H|none=>none) else none
 |_=>none
noncomputable def p89 (s:Sx):List Value→Option (Value×Sx)
 |[.pointer (some ⟨i,0,none⟩), .string b]=>match s.H.get i with
  |some ob=>wrA s i ob b
  |none=>none
 |_=>none
theorem qxk (z:Iv σ w0 s w) (hv:ql σ args args') (h:p89 s args=some (v,s')):Calls Tryz.prog 89 args'.toArray w (vK σ w0 (.ret v s')):=by
 unfold p89 at h;split at h
 ·rename_i i b;split at h
  ·rename_i ob R;unfold wrA at h;split at h
   ·rename_i p bv rest hcells;obtain ⟨hc,h9⟩:=jh h;simp only [Bool.and_eq_true] at hc;obtain ⟨⟨⟨c1,c2⟩,c3⟩,c4⟩:=hc;have hobe:=qbu c4;generalize hty:ob.ty=T at*;subst hobe;split at h9
    ·rename_i bs H hbuf;unfold wrX at h9;obtain ⟨hc,h8⟩:=jh h9;simp only [Bool.and_eq_true,Nat.ble_eq] at hc;split at h8
     ·rename_i k s1 hnew;cases h8;have E:=kC c3;obtain ⟨B,bs',F,Y,a⟩:=qbX z R rfl (show (1:Nat)≠0 by decide)
      match bs',Y,a with
      |p'::bv'::u,Y,a=>
       obtain ⟨v1,v2,v3⟩:=Y;have hT5:T≠5:=fun e=>by subst e;simp [qiy] at c2
       obtain ⟨b1,b2,b3,b4⟩:=qsy z v2 hbuf;obtain ⟨b5,_⟩:=b4 B i _ R F hT5;have hB0:w0.heap.size≤B:=z.own i _ _ R F;have hp':p'= .pointer none∨p'= .pointer (some ⟨B,0,none⟩):=by
        unfold qsX at c1;split at c1
        ·exact .inl (v1.uniq (.pln rfl))
        ·rename_i j;have:=Nat.eq_of_beq_eq_true c1;subst this;exact .inr (v1.uniq (yM F))
        ·cases c1
       have hchk:Calls Tryz.prog 177 #[.pointer (some ⟨B,0,none⟩)] w fun e w'=>e= .returned (.tuple #[])∧Blk w' B (.pointer (some ⟨B,0,none⟩)::bv'::u).toArray T∧Only B w w':=by
        simp only [qiy,Bool.or_eq_true,Bool.and_eq_true] at c2;have ac:=v3.len;rcases c2 with ⟨Z,S⟩|⟨Z,S⟩
        ·have Z:=Nat.eq_of_beq_eq_true Z;have S:=Nat.eq_of_beq_eq_true S;subst Z
         match u,ac,a with
         |[],_,a=>exact qDE hp' a
         |_::_,e,_=>exact absurd (e.symm.trans S) (by simp)
        ·have Z:=Nat.eq_of_beq_eq_true Z;have S:=Nat.eq_of_beq_eq_true S;subst Z
         match u,ac,a with
         |[nv,o],_,a=>exact qwG a hp'
         |[],e,_=>exact absurd (e.symm.trans S) (by simp)
         |[_],e,_=>exact absurd (e.symm.trans S) (by simp)
         |_::_::_::_,e,_=>exact absurd (e.symm.trans S) (by simp)
       have O:b.data.toList.length=b.size:=rfl
       match args',hv with
       |[y1,y2],hv=>
        obtain ⟨g1,g2,_⟩:=hv;have u1:=g1.uniq (yM F);have u2:y2= .string (qc b.data.toList):=by rw [qbA];exact g2.uniq (.pln (v:= .string b) rfl)
        subst u1;subst u2;refine (qtd b.data.toList hB0 a.lt b1 b5 hchk (by rw [O];exact hc.1) z.ext.size).mono ?_;rintro _ W ⟨rfl,v',k1,k2,k3,k4,k5,k6⟩;have A:(bs++b.data.toList).length=bs.length+b.size:=by rw [List.length_append,O]
        have ab:Iv σ w0 ⟨H.del i,s.nx,s.rs⟩ w:=by
         have sub:∀j o,(H.del i).get j=some o→j≠i∧s.H.get j=some o:=fun j o m=>⟨(get_del E m).1,b2 j o (get_del E m).2⟩;exact ⟨z.mr.keep (fun j o m=>(sub j o m).2) fun _ _ _ _ _=>rfl,z.dom,z.res,fun j l oj ol pj pl m hl=>z.ap j l oj ol pj pl (sub j oj m).2 (sub l ol hl).2,z.ext,fun j o p m=>z.own j o p (sub j o m).2⟩
        have V:∀j o q,(H.del i).get j=some o→σ j=some q→q.1<w.heap.size∧q.1≠B∧some q.1≠bv'.ownBlock:=fun j o q m J=>by
         obtain ⟨r,hr,hlt⟩:=ab.mr.at' m;rw [J] at hr;cases hr;obtain ⟨hne,hj2⟩:=get_del E m;exact ⟨hlt,fun e=>hne (z.ap j i o _ q _ (b2 j o hj2) R J F e),b3 j o q hj2 J⟩
        rcases k2.2 with ⟨_,hz⟩|⟨g,cap,cur,hv',hg0,hgh,hnc,hcm,hcs,C⟩
        ·rw [A] at hz;omega
        ·subst hv';rw [A] at hnc C;have hMW:MR σ (H.del i) W:=ab.mr.keep (fun _ _ h=>h) fun j o q m J=>by
          obtain ⟨e1,e2,e3⟩:=V j o q m J;exact k5 q.1 e1 e2 fun e=>e3 e.symm
         have hEW:qb w0 W:=⟨k4.os.trans z.ext.os,k4.tape.trans z.ext.tape,k4.output.trans z.ext.output,Nat.le_trans z.ext.size k4.size,fun q J=>(k4.block q J).trans (z.ext.block q J)⟩;have hgB:g≠B:=fun e=>k3 (by simp [Value.ownBlock,e]);obtain ⟨τ,U,hi,hI',e4,e5,e6⟩:=qf9 ab hnew (b:=g) (f:=0) (x:=cap - (bs.length+b.size)) (W:=W) hMW hEW hg0 (fun j oj pj m hp e=>by
          obtain ⟨e1,e2,e3⟩:=V j oj pj m hp;rcases k6 with k6|k6
          ·exact e3 (by rw [←k6,e];rfl)
          ·simp [Value.ownBlock] at k6;omega) fun τ U hi=>⟨(fun hz=>by cases hz),fun _=>⟨cur,hi,hgh,by
          dsimp only;rw [List.length_map,A,List.drop_zero];rw [Nat.mul_one] at C;rw [C];exact QC (by rw [List.all_eq_true];intro x hx;obtain ⟨c,_,rfl⟩:=List.mem_map.1 hx;rfl),by
          dsimp only;rw [List.length_map,A];omega,(fun hw=>by cases hw),fun _=>⟨bs.length+b.size,by rw [List.length_map,A,Nat.mul_one],by omega⟩,fun _=>⟨rfl,by
          dsimp only;rw [List.length_map,A];omega⟩⟩⟩
         have y:τ i=some (B,0,0):=U _ _ F;have hki:k≠i:=fun e=>by
          subst e;rw [hi] at y;exact hgB (congrArg Prod.fst (Option.some.inj y))
         have hsl:VR τ (.slice (some ⟨k,0,none⟩) (bs.length+b.size) (bs.length+b.size)) (.slice (some ⟨g,0,none⟩) (bs++b.data.toList).length cap):=by
          have:=VR.slc (σ:=τ) (o:=0) (n:=bs.length+b.size) (c:=bs.length+b.size) hi (Nat.le_refl _);rw [show bs.length+b.size+(cap - (bs.length+b.size))=cap by omega] at this;rw [A];exact this
         refine ⟨τ,_,U,qv1 hI' E y (fun j o q m J hne e=> ?_) hB0 (show (1:Nat)≠0 by decide) (ob:=⟨.pointer (some ⟨i,0,none⟩):: .slice (some ⟨k,0,none⟩) (bs.length+b.size) (bs.length+b.size)::rest,T,1,true,false⟩) (cur:=(.pointer (some ⟨B,0,none⟩):: .slice (some ⟨g,0,none⟩) (bs++b.data.toList).length cap::u).toArray) ?_, ?_,rfl⟩
         ·rw [e4,Tr.get_set _ _ e5] at m;split at m
          ·rename_i e7;subst e7;rw [hi] at J;cases J;exact hgB e
          ·rename_i e7;exact (V j o q m (e6 j q J e7)).2.1 e
         ·have aa:=v3.len;refine ⟨y,k1.heap, ?_,by simp [aa],fun _=>⟨rfl,rfl,by simp [aa]⟩,(fun hw=>by cases hw),(fun hx=>by cases hx)⟩;simp only [List.drop_zero];rw [List.take_of_length_le (by simp [aa])];exact ⟨yM y,hsl,v3.mono U⟩
         ·rw [O];exact wG (v:= .tuple #[.int .i64 (b.size:Int), .nilIface]) rfl
     ·cases h8
    ·cases h9
   ·cases h
  ·cases h
 ·cases h
noncomputable def qjr (s:Sx) (j:Nat) (bs:Bs):Option (Value×Sx):=bif Nat.ble 1 bs.length&&Nat.blt j vj then some (.string (qc bs),⟨s.H.del j,s.nx,s.rs⟩) else none
def qki:Value→Option Nat
 | .slice (some ⟨j,0,none⟩) _ _=>some j
 |_=>none
noncomputable def p90 (s:Sx):List Value→Option (Value×Sx)
 |[.pointer (some ⟨i,0,none⟩)]=>match s.H.get i with
  |some ob=>bif ob.whole&&Nat.beq ob.sz 1 then (match qem s.H ⟨i,1,none⟩ with
   |some bv=>match qbU s bv,qki bv with
    |some (bs,_),some j=>qjr s j bs
    |_,_=>none
   |none=>none) else none
  |none=>none
 |_=>none
theorem qxj (m:Iv σ w0 s w) (hv:ql σ args args') (h:p90 s args=some (v,s')):Calls Tryz.prog 90 args'.toArray w (vK σ w0 (.ret v s')):=by
 unfold p90 at h;split at h
 ·rename_i i;split at h
  rotate_left
  ·cases h
  rename_i ob Z;obtain ⟨hw,h⟩:=jh h;simp only [Bool.and_eq_true] at hw;have hz1:=Nat.eq_of_beq_eq_true hw.2;split at h
  ·rename_i bv hbv;split at h
   ·rename_i bs H j a k;unfold qjr at h;obtain ⟨Y,h9⟩:=jh h;cases h9;simp only [Bool.and_eq_true,Nat.ble_eq] at Y;have F:=kC Y.2
    match args',hv with
    |[y1],hv=>
     obtain ⟨g1,_⟩:=hv;cases g1 with
     |pln h'=>cases h'
     |ptr V=>
      rename_i B f x;obtain ⟨u,hu,U⟩:=qsm m.mr (.ptr (o:=1) V) hbv;have z:w.cell? ⟨B,f+1,none⟩=some u:=hu;obtain ⟨b1,b2,b3,b4⟩:=qsy m U a;unfold qki at k;split at k
      ·rename_i j' n c;cases k;rcases b1.2 with ⟨_,hz⟩|⟨g,cap,cur,hv',hg0,ae,ac,hcm,ad,A⟩
       ·omega
       ·subst hv';have O:∃q,σ j=some q∧q.1=g:=by
         cases U with
         |pln h'=>cases h'
         |slc hs hn=>exact ⟨_,hs,rfl⟩
        obtain ⟨q,hq,ab⟩:=O;have hf:f=0:=by
         obtain ⟨b5,f5,x5,cur5,R⟩:=(m.mr i ob Z).2 (by rw [hz1];decide);have S:=R.at';rw [V] at S;cases S;exact (R.whole hw.1).1
        subst hf;refine (quc z ae (by intro e;rw [e] at Y;simp at Y) ac hcm ad A).mono ?_;rintro _ W ⟨rfl,J,hk⟩;have hEW:qb w0 W:=⟨J.os.trans m.ext.os,J.tape.trans m.ext.tape,J.output.trans m.ext.output,Nat.le_trans m.ext.size J.size,fun r hr=>(J.block r (by omega)).trans (m.ext.block r hr)⟩;refine ⟨σ,_,Sg.le_refl σ,⟨?_,m.dom,m.res,fun E l C ol pj pl y h2=>m.ap E l C ol pj pl (get_del F y).2 (get_del F h2).2,hEW,fun E o p y=>m.own E o p (get_del F y).2⟩, .pln rfl,rfl⟩;obtain ⟨C,aa⟩:∃C,s.H.get j=some C:=by
         cases hj2:s.H.get j with
         |some C=>exact ⟨C,rfl⟩
         |none=>unfold qbU at a;simp only [hj2] at a;cases a
        exact m.mr.keep (fun E o y=>(get_del F y).2) fun E o p y hp=>hk p.1 fun e=>(get_del F y).1 (m.ap E j o C p q (get_del F y).2 aa hp hq (by rw [e,ab]))
      ·cases k
   ·cases h
  ·cases h
 ·cases h
end
noncomputable def qcS:qaG:=fun f args s=>
 bif Nat.beq f 89 then p89 s args else bif Nat.beq f 90 then p90 s args else bif Nat.beq f 53 then p53 s args else bif Nat.beq f 77 then p77 s args else bif Nat.beq f 22 then p22 s args else bif Nat.beq f 24 then p24 s args else
 bif Nat.beq f 34 then p34 s args else bif Nat.beq f 64 then p64 s args else bif Nat.beq f 273 then qfV s args else none
theorem wI {c:Type} {f n:Nat} {x y:Option c} {v:c} (h:(bif Nat.beq f n then x else y)=some v):(f=n∧x=some v)∨y=some v:=by
 cases a:Nat.beq f n with
 |true=>rw [a] at h;exact .inl ⟨Nat.eq_of_beq_eq_true a,h⟩
 |false=>rw [a] at h;exact .inr h
theorem qkY:qeG Tryz.prog GM qcS:=by
 intro f args s v s' h σ w0 w args' e c a;unfold qcS at h;rcases wI h with ⟨rfl,h⟩|h
 ·exact qxk c a h
 rcases wI h with ⟨rfl,h⟩|h
 ·exact qxj c a h
 rcases wI h with ⟨rfl,h⟩|h
 ·exact qxn e c a h
 rcases wI h with ⟨rfl,h⟩|h
 ·exact qxl e c a h
 rcases wI h with ⟨rfl,h⟩|h
 ·exact qxr e c a h
 rcases wI h with ⟨rfl,h⟩|h
 ·exact qxq e c a h
 rcases wI h with ⟨rfl,h⟩|h
 ·exact qxo c a h
 rcases wI h with ⟨rfl,h⟩|h
 ·exact qxm e c a h
 rcases wI h with ⟨rfl,h⟩|h
 ·exact qxp c a h
 ·cases h
def prZ (t:TypeId):Bool:=Nat.beq t 26
theorem qkZ:yk Tryz.prog prZ:=fun t e=>by
 have:=Nat.eq_of_beq_eq_true e;subst this;exact ⟨g26,fun a b c d w=>qCX a b c d w⟩
def skZ (f:FuncId) (i:Nat):List Nat:=bif Nat.beq f 122&&Nat.beq i 4 then [5] else []
noncomputable def qcC (f:FuncId) (args:List Value):Option Ou:=kn Tryz.prog qcS (some yJ) skZ prZ 3000 ⟨.lf,0,[]⟩ (.call f args)
theorem iv0 (w:World):Iv (fun _=>none) w ⟨.lf,0,[]⟩ w:=⟨qbz,(fun i p h=>by cases h),(fun i h=>by cases h),(fun i j g e c a h=>by cases h),qA w,(fun i o p h=>by cases h)⟩
def qi2:Option Ou→Bool
 |some (.ret (.bool true) _)=>true
 |_=>false
def wD (a b:Int):Value:= .tuple #[.slice none 0 0, .agg #[.int .i64 a, .int .i64 b]]
def qbb (v:Value):Option Ou→Bool
 |some (.ret u _)=>vV 4 u v
 |_=>false
theorem qrR {σ:Sg} (a b:Int):VR σ (wD a b) (wD a b):=qi0 (.pln rfl) (wG (v:= .agg #[.int .i64 a, .int .i64 b]) rfl)
theorem qvh:qbb (wD 20 1) (qcC 15 [.string (qc exB)])=true:=by kernel_rfl
theorem qvg:qbb (wD 21 1) (qcC 15 [.string (qc exC)])=true:=by kernel_rfl
theorem qCR {b:ByteArray} {x y:Int} (h:qbb (wD x y) (qcC 15 [.string b])=true) {w:World} (g:GM w):Calls Tryz.prog 15 #[.string b] w fun e w'=>e= .returned (wD x y)∧qb w w':=by
 unfold qbb at h;split at h
 ·rename_i u s j;have a:=wl 4 _ _ h;subst a;refine ((qj0 qkZ qkY t54 3000).call 15 [.string b] _ _ j (fun _=>none) w w [.string b] g (iv0 w) ⟨.pln rfl,trivial⟩).mono ?_;rintro e w' ⟨l,m,n,c,k,rfl⟩;exact ⟨by rw [k.uniq (qrR x y)],c.ext⟩
 ·cases h
noncomputable def p15 (s:Sx):List Value→Option (Value×Sx)
 |[.string b]=>bif kj b (qc exB) then some (wD 20 1,s) else bif kj b (qc exC) then some (wD 21 1,s) else none
 |_=>none
noncomputable def qfL:qaG:=fun f args s=>bif Nat.beq f 15 then p15 s args else qcS f args s
theorem qwD:qeG Tryz.prog GM qfL:=by
 intro f args s v s' h σ w0 w args' l k j;unfold qfL at h;rcases wI h with ⟨rfl,a⟩|a
 ·clear h;unfold p15 at a;split at a
  ·rename_i b;have key:∀{c:Bs} {x y:Int},qbb (wD x y) (qcC 15 [.string (qc c)])=true→b=qc c→Calls Tryz.prog 15 args'.toArray w (vK σ w0 (.ret (wD x y) s)):=by
    intro c x y n g;subst g;have u:args'=[.string (qc c)]:=by
     match args',j with
     |[z],j=>rw [j.1.uniq (.pln (v:= .string (qc c)) rfl)]
    rw [u];refine (qCR n (gm l k)).mono ?_;rintro e W ⟨rfl,o⟩;exact ⟨σ,_,Sg.le_refl σ,k.toExt o,qrR x y,rfl⟩
   cases g:kj b (qc exB) with
   |true=>
    rw [g] at a;cases a;exact key qvh (Qq.1 g)
   |false=>
    rw [g] at a;obtain ⟨m,p⟩:=jh (b:=kj b (qc exC)) a;cases p;exact key qvg (Qq.1 m)
  ·cases a
 ·exact qkY f args s v s' a σ w0 w args' l k j
noncomputable def qve (f:FuncId) (args:List Value):Option Ou:=kn Tryz.prog qfL (some yJ) skZ prZ 3000 ⟨.lf,0,[]⟩ (.call f args)
theorem qvi:qi2 (qve 14 [])=true:=by kernel_rfl
theorem qs9 {w:World} (a:L01.G w) (c:zW w):Calls Tryz.prog 14 #[] w (okR w):=by
 have h:=qvi;unfold qi2 at h;split at h
 ·rename_i s g;refine ((qj0 qkZ qwD t54 3000).call 14 [] _ _ g (fun _=>none) w w [] ⟨a,c⟩ (iv0 w) trivial).mono ?_;rintro e w' ⟨n,m,l,j,k,rfl⟩;exact ⟨by rw [k.uniq (.pln (v:= .bool true) rfl)],j.ext⟩
 ·cases h
noncomputable def qo9:Code:=((Tryz.f228.body).getD .skip)
noncomputable def qo8:IR:=zq [za 6 (zQ false)] <| .ret
noncomputable def qo7:IR:= .seq (.raw (qL qo9 3)) (qo8)
noncomputable def qdP:IR:= .seq (.cond (zv 50) (zq [za 6 (zQ true)] <| .ret) .skip) (qo7)
noncomputable def qpa:IR:=zq [za 6 (zQ false)] <| .seq (.drw [za 50 (.ite (.ite (zI .lss (zo 1 (zN (zv 0))) (zL (zo 0 (zN (zv 0))))) (zB .eql (zo 0 (zx 3 (zo 0 (zN (zv 0))) (zo 1 (zN (zv 0))))) (zv 1)) (zQ false)) (.ite (zS .eql (zv 2) (.const (zs #[]))) (zQ true) (zS .eql (zo 1 (zx 3 (zo 0 (zN (zv 0))) (zo 1 (zN (zv 0))))) (zv 2))) (zQ false))]) (qdP)
def qg1:List Nat:=[0,1,2,6,50,51,52,53,54,55,56,57,58,59,60,61,62]
theorem qAz:C3 228 63 qg1 qpa [.tmp 6]:=c3 [3] Tryz.func228
noncomputable def qo6:OT:=zy 51 (zv 0)<|zy 52 (zv 0)<|zy 53 (zN (zv 52))<|zy 54 (zf 2 (zv 53))<|zy 55 (zl (zv 54))<|zy 56 (zv 0)<|zy 57 (zN (zv 56))<|zy 58 (zf 1 (zv 57))<|zy 59 (zl (zv 58))<| .step (zE 60 (.call {callee:= .builtin .max,args:= #[zt 55,zt 59],argTypes:= #[3,3]}) 3) true<| .step (za 61 (zN (zv 51))) false<| .step (za 62 (zf 2 (zv 61))) false<| .step (zw 3 (zt 62) (zt 60)) false<| .done
theorem qAy:vD Tryz.prog 63 qg1 10 (qL qo9 3)=some qo6:=by kernel_rfl
noncomputable def qhl:IR:=zq [zm 6 7] <| .ret
noncomputable def qp3:IR:=zq [za 6 (zQ false),zm 8 0,zm 9 1,zm 10 2,zc 11 228 #[zt 8,zt 9,zt 10] #[90,5,9] 4,zm 7 11,zm 12 7] <| .seq (.cond (zv 12) (.reg [zm 13 0,za 17 (zI .add (zo 1 (zN (zv 13))) (zK 1)),za 19 (zf 1 (zN (zv 13))),zw 3 (zt 19) (zt 17)]) .skip) (qhl)
def qBm:List Nat:=zV 20 [3,4,5,14,15,16,18]
theorem qBl:C3 159 21 qBm qp3 [.tmp 6]:=c3 [] Tryz.func159
noncomputable def qp9:IR:=zq [za 4 (zQ false),zm 5 0,zm 6 1,zc 7 159 #[zt 5,(.const (zu 4)),zt 6] #[90,5,9] 4,zm 4 7] <| .ret
def qBq:List Nat:=zV 8 [2,3]
theorem qBp:C2 157 8 qBq qp9 [.tmp 4]:=c2 [] Tryz.func157
noncomputable def qqU:IR:=zq [za 4 (zQ false),zm 5 0,zm 6 1,zc 7 159 #[zt 5,(.const (zu 2)),zt 6] #[90,5,9] 4,zm 4 7] <| .ret
def qBZ:List Nat:=zV 8 [2,3]
theorem qBY:C2 132 8 qBZ qqU [.tmp 4]:=c2 [] Tryz.func132
noncomputable def qqS:IR:= .ret
noncomputable def qqR:IR:= .seq (.drw [za 2 (zo 1 (zx 3 (zo 0 (zN (zv 0))) (zI .sub (zo 1 (zN (zv 0))) (zK 1)))),za 3 (zQ true)]) (qqS)
noncomputable def qqT:IR:=zq [za 2 (.const (zs #[])),za 3 (zQ false),zm 5 0,zc 6 159 #[zt 5,(.const (zu 1)),zY #[]] #[90,5,9] 4,zm 4 6,za 8 (zn (zv 4))] <| .seq (.cond (zv 8) (zq [za 2 (.const (zs #[])),za 3 (zQ false)] <| .ret) .skip) (qqR)
def qBX:List Nat:=zV 9 [1,7]
theorem qBW:C1 134 21 qBX qqT [.tmp 2, .tmp 3]:=c1 [] Tryz.func134
noncomputable def qqX:IR:= .reg [za 8 (zI .add (zv 8) (zK 1))]
noncomputable def qqW:IR:= .seq (.block 1 (zq [zm 16 0,zm 17 2,za 21 (zl (zx 1 (zv 1) (zv 8))),zc 22 159 #[zt 16,zt 17,zt 21] #[90,5,9] 4,zm 9 22,zm 23 9] <| .cond (zv 23) (zq [za 6 (zl (zx 1 (zv 1) (zv 8))),za 7 (zQ true)] <| .ret) .skip)) (qqX)
noncomputable def qhB:IR:=zq [za 13 (zI .lss (zv 8) (zL (zv 1)))] <| .seq (.cond (zv 13) .skip (.exit 0)) (qqW)
noncomputable def qqV:IR:=zq [za 6 (.const (zs #[])),za 7 (zQ false)] <| .ret
noncomputable def qqY:IR:=zq [za 6 (.const (zs #[])),za 7 (zQ false),za 8 (zK 0)] <| .seq (.block 0 (.loop qhB)) (qqV)
def qB1:List Nat:=[0,1,2,6,7,8,9,13,16,17,21,22,23]
theorem qB0:C3 131 28 qB1 qqY [.tmp 6, .tmp 7]:=c3 [] Tryz.func131
noncomputable def qp7:IR:= .reg [za 4 (zS .add (zv 4) (.const (zs #[44])))]
noncomputable def qp6:IR:=zq [za 4 (zS .add (zS .add (zS .add (zv 4) (zv 5)) (.const (zs #[58]))) (zv 7)),zm 34 0,zc 35 157 #[zt 34,zY #[44]] #[90,9] 4,za 36 (zn (zv 35))] <| .seq (.cond (zv 36) (zq [zm 2 4,za 3 (zQ true)] <| .ret) .skip) (qp7)
noncomputable def qp5:IR:=zq [zm 22 0,zc 23 74 #[zt 22] #[90] 105,zm 21 23,za 24 (ze 0 (zv 21)),za 25 (ze 1 (zv 21)),zm 7 24,zm 8 25,za 27 (zn (zv 8))] <| .seq (.cond (zv 27) (zq [za 2 (.const (zs #[])),za 3 (zQ false)] <| .ret) .skip) (qp6)
noncomputable def qp4:IR:= .block 1 (zq [zm 10 0,zc 11 134 #[zt 10] #[90] 105,zm 9 11,za 12 (ze 0 (zv 9)),za 13 (ze 1 (zv 9)),zm 5 12,zm 6 13,za 16 (zn (zv 6)),zg 16 false 17 (zv 0),zh 16 false 18 157 #[zt 17,zY #[58]] #[90,9] 4,za 20 (.ite (zv 16) (zQ true) (zn (zv 18)))] <| .seq (.cond (zv 20) (zq [za 2 (.const (zs #[])),za 3 (zQ false)] <| .ret) .skip) (qp5))
noncomputable def qp8:IR:=zq [za 2 (.const (zs #[])),za 3 (zQ false),za 4 (.const (zs #[]))] <| .block 0 (.loop qp4)
def qBo:List Nat:=zV 37 [1,14,15,19,26,28,29,30,31,32,33]
theorem qBn:C1 158 40 qBo qp8 [.tmp 2, .tmp 3]:=c1 [] Tryz.func158
noncomputable def qmX:IR:=zq [za 2 (zS .add (zS .add (.const (zs #[97,114,114,97,121,91])) (zv 6)) (.const (zs #[93]))),za 3 (zQ true)] <| .ret
noncomputable def qmW:IR:=zq [zm 28 0,zc 29 74 #[zt 28] #[90] 105,zm 27 29,za 30 (ze 0 (zv 27)),za 31 (ze 1 (zv 27)),zm 6 30,zm 7 31,za 34 (zn (zv 7)),zg 34 false 35 (zv 0),zh 34 false 36 157 #[zt 35,zY #[93]] #[90,9] 4,za 38 (.ite (zv 34) (zQ true) (zn (zv 36)))] <| .seq (.cond (zv 38) (zq [za 2 (.const (zs #[])),za 3 (zQ false)] <| .ret) .skip) (qmX)
noncomputable def qmU:IR:=zq [za 2 (zS .add (zS .add (zS .add (zv 8) (.const (zs #[91]))) (zv 9)) (.const (zs #[93]))),za 3 (zQ true)] <| .ret
noncomputable def qmT:IR:=zq [zm 53 0,zc 54 158 #[zt 53] #[90] 105,zm 52 54,za 55 (ze 0 (zv 52)),za 56 (ze 1 (zv 52)),zm 9 55,zm 10 56,za 59 (zn (zv 10)),zg 59 false 60 (zv 0),zh 59 false 61 157 #[zt 60,zY #[93]] #[90,9] 4,za 63 (.ite (zv 59) (zQ true) (zn (zv 61)))] <| .seq (.cond (zv 63) (zq [za 2 (.const (zs #[])),za 3 (zQ false)] <| .ret) .skip) (qmU)
noncomputable def qmS:IR:=zq [za 2 (zS .add (zS .add (zS .add (zv 11) (.const (zs #[91]))) (zv 12)) (.const (zs #[93]))),za 3 (zQ true)] <| .ret
noncomputable def qmR:IR:=zq [zm 85 0,zc 86 74 #[zt 85] #[90] 105,zm 84 86,za 87 (ze 0 (zv 84)),za 88 (ze 1 (zv 84)),zm 12 87,zm 13 88,za 91 (zn (zv 13)),zg 91 false 92 (zv 0),zh 91 false 93 157 #[zt 92,zY #[93]] #[90,9] 4,za 95 (.ite (zv 91) (zQ true) (zn (zv 93)))] <| .seq (.cond (zv 95) (zq [za 2 (.const (zs #[])),za 3 (zQ false)] <| .ret) .skip) (qmS)
noncomputable def qmQ:IR:=zq [zm 80 0,zc 81 157 #[zt 80,zY #[91]] #[90,9] 4,za 82 (zn (zv 81))] <| .seq (.cond (zv 82) (zq [zm 2 11,za 3 (zQ true)] <| .ret) .skip) (qmR)
noncomputable def qmP:IR:=zq [zm 74 0,zc 75 134 #[zt 74] #[90] 105,zm 73 75,za 76 (ze 0 (zv 73)),za 77 (ze 1 (zv 73)),zm 11 76,zm 5 77,za 79 (zn (zv 5))] <| .seq (.cond (zv 79) (zq [za 2 (.const (zs #[])),za 3 (zQ false)] <| .ret) .skip) (qmQ)
noncomputable def qmO:IR:=zq [zm 69 0,zc 70 157 #[zt 69,zY #[63]] #[90,9] 4] <| .seq (.cond (zv 70) (zq [zm 71 0,zc 72 159 #[zt 71,(.const (zu 1)),zY #[116]] #[90,5,9] 4,za 2 (.const (zs #[63,116])),zm 3 72] <| .ret) .skip) (qmP)
noncomputable def qmN:IR:=zq [zm 43 0,zE 44 (.buildSlice 51 2 #[(0,(zY #[114,101,99,111,114,100])),(1,(zY #[111,110,101,111,102]))]) 51,zc 45 131 #[zt 43,zt 44,(.const (zu 2))] #[90,51,5] 105,zm 42 45,za 46 (ze 0 (zv 42)),za 47 (ze 1 (zv 42)),zm 8 46,zm 5 47,zm 48 5] <| .seq (.cond (zv 48) (zq [zm 49 0,zc 50 157 #[zt 49,zY #[91]] #[90,9] 4,za 51 (zn (zv 50))] <| .seq (.cond (zv 51) (zq [za 2 (.const (zs #[])),za 3 (zQ false)] <| .ret) .skip) (qmT)) .skip) (qmO)
noncomputable def qmV:IR:=zq [zm 22 0,zc 23 132 #[zt 22,zY #[97,114,114,97,121]] #[90,9] 4] <| .seq (.cond (zv 23) (zq [zm 24 0,zc 25 157 #[zt 24,zY #[91]] #[90,9] 4,za 26 (zn (zv 25))] <| .seq (.cond (zv 26) (zq [za 2 (.const (zs #[])),za 3 (zQ false)] <| .ret) .skip) (qmW)) .skip) (qmN)
noncomputable def qmY:IR:=zq [za 2 (.const (zs #[])),za 3 (zQ false),zm 15 0,zE 16 (.buildSlice 51 3 #[(0,(zY #[105,110,116])),(1,(zY #[98,111,111,108])),(2,(zY #[110,117,108,108]))]) 51,zc 17 131 #[zt 15,zt 16,(.const (zu 2))] #[90,51,5] 105,zm 14 17,za 18 (ze 0 (zv 14)),za 19 (ze 1 (zv 14)),zm 4 18,zm 5 19,zm 20 5] <| .seq (.cond (zv 20) (zq [zm 2 4,za 3 (zQ true)] <| .ret) .skip) (qmV)
def qy0:List Nat:=zV 96 [1,21,32,33,37,39,40,41,57,58,62,64,65,66,67,68,78,83,89,90,94]
theorem qyZ:C1 74 101 qy0 qmY [.tmp 2, .tmp 3]:=c1 [] Tryz.func74
noncomputable def qmL:IR:=zq [za 0 (.const (.slice none 0 0)),zE 1 (.buildSlice 51 4 #[(0,(zY #[109,111,100])),(1,(zY #[97,110,100])),(2,(zY #[111,114])),(3,(zY #[110,111,116]))]) 51,zm 0 1] <| .ret
def qyU:List Nat:=[0,1]
theorem qyT:C0 78 2 qyU qmL [.tmp 0]:=c0 [] Tryz.func78
noncomputable def qql:IR:=zq [za 0 (.const (.slice none 0 0)),zE 1 (.buildSlice 51 7 #[(0,(zY #[43])),(1,(zY #[45])),(2,(zY #[42])),(3,(zY #[47])),(4,(zY #[60])),(5,(zY #[60,61])),(6,(zY #[61]))]) 51,zm 0 1] <| .ret
def qBE:List Nat:=[0,1]
theorem qBD:C0 150 2 qBE qql [.tmp 0]:=c0 [] Tryz.func150
noncomputable def qqk:IR:=zq [za 0 (.const (.slice none 0 0)),zE 1 (.buildSlice 51 3 #[(0,(zY #[109,111,100])),(1,(zY #[97,110,100])),(2,(zY #[111,114]))]) 51,zm 0 1] <| .ret
def qBC:List Nat:=[0,1]
theorem qBB:C0 151 2 qBC qqk [.tmp 0]:=c0 [] Tryz.func151
noncomputable def qqu:IR:= .reg [za 10 (zI .add (zv 10) (zK 1))]
noncomputable def qqt:IR:= .seq (.block 5 (.reg [zm 41 9,za 51 (zI .sub (zI .add (zl (zx 1 (zo 5 (zv 8)) (zv 10))) (zL (zv 5))) (zv 7)),zE 52 (.buildSlice 40 1 #[(0,(zt 51))]) 40,zp 53 #[zt 41,zt 52] #[40,40] 40,zm 9 53])) (qqu)
noncomputable def qhp:IR:=zq [za 38 (zI .lss (zv 10) (zL (zo 5 (zv 8))))] <| .seq (.cond (zv 38) .skip (.exit 4)) (qqt)
noncomputable def qqr:IR:= .reg [zm 54 9,za 55 (zf 5 (zv 8)),zw 40 (zt 55) (zt 54),zm 56 5,za 57 (zM 6 (zv 8)),zE 58 (.buildSlice 99 1 #[(0,(zt 57))]) 99,zp 59 #[zt 56,zt 58] #[99,99] 99,zm 5 59]
noncomputable def qqq:IR:= .reg [za 7 (zI .add (zv 7) (zK 1))]
noncomputable def qqp:IR:= .seq (.block 3 (zq [za 33 (zM 6 (zx 6 (zl (zx 1 (zv 1) (zv 6))) (zv 7))),zA 8 44,zw 44 (zt 8) (zt 33),za 9 (.const (.slice none 0 0)),za 10 (zK 0)] <| .seq (.block 4 (.loop qhp)) (qqr))) (qqq)
noncomputable def qho:IR:=zq [za 24 (zI .lss (zv 7) (zL (zl (zx 1 (zv 1) (zv 6)))))] <| .seq (.cond (zv 24) .skip (.exit 2)) (qqp)
noncomputable def qqo:IR:= .reg [za 61 (zo 5 (zv 2)),za 64 (zI .sub (zL (zv 5)) (zK 1)),zE 65 (.buildSlice 40 1 #[(0,(zt 64))]) 40,zp 66 #[zt 61,zt 65] #[40,40] 40,za 67 (zf 5 (zv 2)),zw 40 (zt 67) (zt 66)]
noncomputable def qqn:IR:= .reg [za 6 (zI .add (zv 6) (zK 1))]
noncomputable def qqm:IR:= .seq (.block 1 (zq [za 7 (zK 0)] <| .seq (.block 2 (.loop qho)) (qqo))) (qqn)
noncomputable def qhq:IR:=zq [za 15 (zI .lss (zv 6) (zL (zv 1)))] <| .seq (.cond (zv 15) .skip (.exit 0)) (qqm)
noncomputable def qqs:IR:=zq [zm 68 5,za 69 (zM 6 (zv 2)),zE 70 (.buildSlice 99 1 #[(0,(zt 69))]) 99,zp 71 #[zt 68,zt 70] #[99,99] 99,zm 4 71] <| .ret
noncomputable def qqv:IR:=zq [zE 2 (.box 44 (zt 0)) 0,za 4 (.const (.slice none 0 0)),za 5 (.const (.slice none 0 0)),za 11 (zf 5 (zv 2)),zw 40 (zt 11) (.const (.slice none 0 0)),za 6 (zK 0)] <| .seq (.block 0 (.loop qhq)) (qqs)
def qBG:List Nat:=[0,1,2,4,5,6,7,8,9,10,11,15,24,33,38,41,51,52,53,54,55,56,57,58,59,61,64,65,66,67,68,69,70,71]
theorem qBF:C2 149 72 qBG qqv [.tmp 4]:=c2 [] Tryz.func149
noncomputable def qoE:IR:=zq [zm 21 3,zE 22 (.build 92 #[(0,(zt 21))]) 92,zE 23 (.box 92 (zt 22)) 90,zm 5 23,zm 25 5,zc 26 74 #[zt 25] #[90] 105,zm 24 26,za 27 (ze 0 (zv 24)),za 28 (ze 1 (zv 24)),zm 6 27,zm 7 28,za 2 (.ite (.ite (zv 7) (zI .eql (zo 1 (zN (zv 5))) (zL (zv 3))) (zQ false)) (zS .eql (zv 6) (zv 0)) (zQ false))] <| .ret
noncomputable def qo3:IR:=zq [za 2 (zQ false),zm 9 0,zc 10 33 #[zt 9] #[9] 49,zm 8 10,za 11 (ze 0 (zv 8)),za 12 (ze 1 (zv 8)),zA 4 26,zm 3 11,zw 26 (zt 4) (zt 12),za 20 (.ite (zI .neq (zo 0 (zv 4)) (zK 0)) (zQ true) (zI .gtr (zT (zv 0)) (zK 100)))] <| .seq (.cond (zv 20) (zq [za 2 (zQ false)] <| .ret) .skip) (qoE)
def qAe:List Nat:=zV 29 [1,13,14,15,16,17,18,19]
theorem qAd:C1 23 44 qAe qo3 [.tmp 2]:=c1 [] Tryz.func23
noncomputable def qoq:IR:= .reg [za 4 (zI .add (zv 4) (zK 1))]
noncomputable def qop:IR:= .seq (.block 1 (zq [za 16 (zB .eql (.op2 .ixs (zv 0) (zv 4)) (.const (zu 95)))] <| .cond (zv 16) (zq [zm 3 4] <| .exit 0) .skip)) (qoq)
noncomputable def qgM:IR:=zq [za 10 (zI .lss (zv 4) (zT (zv 0)))] <| .seq (.cond (zv 10) .skip (.exit 0)) (qop)
noncomputable def qoo:IR:= .reg [za 6 (zI .add (zv 6) (zK 1))]
noncomputable def qgN:IR:= .seq (.block 3 (zq [za 32 (zS .eql (zl (zx 1 (zv 5) (zv 6))) (zv 0))] <| .cond (zv 32) (zq [za 2 (zQ true)] <| .ret) .skip)) (qoo)
noncomputable def qdC:IR:=zq [za 24 (zI .lss (zv 6) (zL (zv 5)))] <| .seq (.cond (zv 24) .skip (.exit 2)) (qgN)
noncomputable def qon:IR:=zq [zm 33 0,zc 34 79 #[zt 33] #[9] 4,zm 2 34] <| .ret
noncomputable def qom:IR:=zq [za 37 (.op3 .stLoHi (zv 0) (zK 0) (zv 3)),zc 38 79 #[zt 37] #[9] 4,zm 39 38,zg 39 true 43 (.op2 .stLo (zv 0) (zI .add (zv 3) (zK 1))),zh 39 true 44 79 #[zt 43] #[9] 4,za 2 (.ite (zv 39) (zv 44) (zQ false))] <| .ret
noncomputable def qdD:IR:=zq [za 19 (zI .lss (zv 3) (zK 0))] <| .seq (.cond (zv 19) (zq [zc 20 78 #[] #[] 51,zm 5 20,za 6 (zK 0)] <| .seq (.block 2 (.loop qdC)) (qon)) .skip) (qom)
noncomputable def qos:IR:=zq [za 2 (zQ false),za 3 (.const (.int .i64 (-1))),za 4 (zK 0)] <| .seq (.block 0 (.loop qgM)) (qdD)
def qor:List Nat:=[0,2,3,4,5,6,10,16,19,20,24,32,33,34,37,38,39,43,44]
theorem qz2:C1 25 46 qor qos [.tmp 2]:=c1 [] Tryz.func25
@[simp] theorem qG5:qg Tryz.prog 228=true:=by kernel_rfl
@[simp] theorem qG7:qg Tryz.prog 159=true:=by kernel_rfl
@[simp] theorem qG9:qg Tryz.prog 157=true:=by kernel_rfl
@[simp] theorem qHf:qg Tryz.prog 132=true:=by kernel_rfl
@[simp] theorem qHe:qg Tryz.prog 134=true:=by kernel_rfl
@[simp] theorem qHg:qg Tryz.prog 131=true:=by kernel_rfl
structure ExB (B:Nat) (w w':World):Prop where
 below:Below B w w'
 block:∀k,k<w.heap.size→k≠B→w'.heap[k]? =w.heap[k]?
theorem ExB.size {B:Nat} {w w':World} (h:ExB B w w'):w.heap.size≤w'.heap.size:=h.below.size
theorem ExB.refl (B:Nat) (w:World):ExB B w w:=⟨Below.refl _ _,fun _ _ _=>rfl⟩
theorem ExB.trans {B:Nat} {a b c:World} (h:ExB B a b) (k:ExB B b c):ExB B a c:=⟨h.below.trans k.below,fun j g e=>(k.block j (by have:=h.size;omega) e).trans (h.block j g e)⟩
theorem ExB.ext {B:Nat} {w w':World} (h:qb w w') (c:B≤w.heap.size):ExB B w w':=⟨h.mono c,fun k a _=>h.block k a⟩
theorem ExB.only {B:Nat} {w w':World} (h:Only B w w'):ExB B w w':=⟨k9 h (Nat.le_refl _),fun k _ a=>h.block k a⟩
theorem ExB.blk {B X:Nat} {w w':World} {cs:Array Value} {T:TypeId} (h:ExB B w w') (c:Blk w X cs T) (a:X≠B):Blk w' X cs T:=⟨(h.block X c.lt a).trans c.heap⟩
structure RSt (B:Nat) (W:World) (tv:Value) (L:List Tok) (i f:Nat):Prop where
 blk:Blk W B #[tv, .int .i64 (i:Int), .int .i64 (f:Int)] 92
 tok:Own 0 53 3 W tv (qB L)
 tl:L.length≤20000
 il:i≤L.length
 fl:f≤L.length
section
variable {B:Nat} {w w':World} {tv:Value} {L:List Tok} {i f:Nat}
theorem RSt.lt (h:RSt B w tv L i f):B≤w.heap.size:=Nat.le_of_lt h.blk.lt
theorem RSt.slk (h:RSt B w tv L i f):SlK w tv L:=SlK.own h.tok (by have:=h.tl;omega)
theorem RSt.ext (h:RSt B w tv L i f) (a:qb w w'):RSt B w' tv L i f:=⟨h.blk.ext a,h.tok.ext a,h.tl,h.il,h.fl⟩
theorem RSt.ne (h:RSt B w tv L i f) {b e sz:Nat} {v:Value} {ys:List Value} (c:Own b e sz w v ys) (l:e≠92) {k:Nat} (j:v.ownBlock=some k):k≠B:=fun g=>by
 obtain ⟨cur,a⟩:=Own.row c j;rw [g,h.blk.heap] at a;cases a;exact l rfl
theorem RSt.keep (h:RSt B w tv L i f) (g:ExB B w w') {b e sz:Nat} {v:Value} {ys:List Value} (a:Own b e sz w v ys) (j:e≠92):Own b e sz w' v ys:=Own.same a fun k c=>g.block k (a.blk k c).2 (h.ne a j c)
theorem RSt.move (h:RSt B w tv L i f) {a c:Nat} (e:Only B w w') (g:Blk w' B #[tv, .int .i64 (a:Int), .int .i64 (c:Int)] 92) (j:a≤L.length) (k:c≤L.length):RSt B w' tv L a c∧ExB B w w':=
 ⟨⟨g,h.keep (ExB.only e) h.tok (by decide),h.tl,j,k⟩,ExB.only e⟩
def TkR (B:Nat) (w:World) (tv:Value) (L:List Tok) (i f k:Nat) (s:Bs):Ending→World→Prop:=fun e w'=>e= .returned (.bool (qy L i k s))∧(if qy L i k s then RSt B w' tv L (i+1) f else RSt B w' tv L i (max f i))∧ExB B w w'
theorem qwl (h:RSt B w tv L i f) (k:Nat) (s:Bs) (hk:k<256):Calls Tryz.prog 228 #[.pointer (some ⟨B,0,none⟩), .int .u8 (k:Int), .string (qc s)] w fun e w'=>e= .returned (.bool (qy L i k s))∧RSt B w' tv L i (if qy L i k s then f else max f i)∧ExB B w w':=by
 have Z:=h.tl;have O:=h.il;have Y:=h.fl;have V:(⟨#[]⟩:ByteArray)=qc []:=rfl;generalize x:(fun (e:Ending) (w':World)=>e= .returned (.bool (qy L i k s))∧RSt B w' tv L i (if qy L i k s then f else max f i)∧ExB B w w')=R;refine qAz fun ρ r0 r1 r2=> ?_;simp -implicitDefEqProofs [qpa,r0,r1,r2];have c0:∀W,qb w W→W.cell? ⟨B,0,none⟩=some tv:=fun W A=>by rw [(h.blk.ext A).cell];rfl
 have c1:∀W,qb w W→W.cell? ⟨B,1,none⟩=some (.int .i64 (i:Int)):=fun W A=>by rw [(h.blk.ext A).cell];rfl
 have c2:∀W,qb w W→W.cell? ⟨B,2,none⟩=some (.int .i64 (f:Int)):=fun W A=>by rw [(h.blk.ext A).cell];rfl
 have p:=h.slk;have step:∀F,qb w F→(qdP).wp ⟨Tryz.prog,63,qg1,[]⟩ (qC [.tmp 6] R) (je [.tmp 6] R) (qt (qt ρ 6 (.bool false)) 50 (.bool (qy L i k s))) F:=fun F m=>by
  cases y:qy L i k s with
  |true=>
   simp -implicitDefEqProofs [qdP];rw [←x,y];exact ⟨rfl,by simpa using h.ext m,ExB.ext m h.lt⟩
  |false=>
   simp -implicitDefEqProofs [qdP,qo7];refine vF qAy (fun W=>RSt B W tv L i f) fun W3 u _=>⟨h.ext (m.trans' u), ?_⟩;have o:=h.ext (m.trans' u);have H:∀W,RSt B W tv L i f→∀j,W.cell? ⟨B,j,none⟩= #[tv,Value.int .i64 (i:Int), .int .i64 (f:Int)][j]? :=fun W h=>h.blk.cell;simp+contextual -implicitDefEqProofs [qo6,H,o,r0];refine qeb (k:= .i64) (a:=(f:Int)) (b:=(i:Int)) (by simp) (by simp) ?_;have e1:(if (i:Int)>(f:Int) then (i:Int) else (f:Int))=((max f i:Nat):Int):=by split<;>omega
   rw [e1];refine ⟨o, ?_⟩;simp [r0];refine qP (B:=B) (i:=2) (by simp) o.blk (by simp) (by simp [Value.cells]) (by simp) vX fun W4 S z=> ?_;simp at z;have U:Blk W4 B #[tv, .int .i64 (i:Int), .int .i64 ((max f i:Nat):Int)] 92:=by simpa using z
   obtain ⟨C,E⟩:=o.move S U O (by omega);simp -implicitDefEqProofs [qo8];rw [←x,y];exact ⟨rfl,by simpa using C,(ExB.ext (m.trans' u) h.lt).trans E⟩
 by_cases c:i<L.length
 ·obtain ⟨c3,c4,c5⟩:=p.cell i c;have g:(i:Int)<(L.length:Int):=by omega
  have l:qy L i k s=(decide ((tk L i).kind=k)&&(decide (s=[])||decide ((tk L i).text=s))):=by unfold qy;simp [c]
  have J:tk L i=L[i]:=wu c;rw [←J] at c3 c4;cases n:decide ((tk L i).kind=k) with
  |true=>
   rw [n,Bool.true_and] at l;have:((tk L i).kind:Int)=(k:Int):=by have:=of_decide_eq_true n;omega
   simp -implicitDefEqProofs [c0 w (qA _),c1 w (qA _),p.is,p.len,g,c,c3,c4,V,jp,this];rw [←l];exact step
  |false=>
   rw [n,Bool.false_and] at l;have:¬((tk L i).kind:Int)=(k:Int):=by have:=of_decide_eq_false n;omega
   rw [l] at step;simp -implicitDefEqProofs [c0 w (qA _),c1 w (qA _),p.is,p.len,g,c,c3,c4,V,jp,this];exact step
 ·have g:¬(i:Int)<(L.length:Int):=by omega
  have l:qy L i k s=false:=by unfold qy;simp [c]
  rw [l] at step;simp -implicitDefEqProofs [c0 w (qA _),c1 w (qA _),p.is,p.len,g,c];exact step
theorem qbf (h:RSt B w tv L i f) (k:Nat) (s:Bs) (u:k<256):Calls Tryz.prog 159 #[.pointer (some ⟨B,0,none⟩), .int .u8 (k:Int), .string (qc s)] w (TkR B w tv L i f k s):=by
 refine qBl fun ρ r0 r1 r2=> ?_;simp -implicitDefEqProofs [qp3,r0,r1,r2];refine (qwl h k s u).mono ?_;rintro _ y ⟨rfl,c,n⟩;cases a:qy L i k s with
 |false=>
  rw [a] at c;simp -implicitDefEqProofs [qhl];unfold TkR;rw [a];exact ⟨rfl,by simpa using c,n⟩
 |true=>
  rw [a,if_pos rfl] at c;have x:=yW a;have o:=h.tl;have p:IntKind.i64.wrap ((i:Int)+1)=((i+1:Nat):Int):=by rw [qr (by omega)];push_cast;rfl
  simp -implicitDefEqProofs [r0,c.blk.cell,p];refine qP (B:=B) (i:=1) (by simp) c.blk (by simp) (by simp [Value.cells]) (by simp) vX fun W4 l e=> ?_;simp at e;have m:Blk W4 B #[tv, .int .i64 ((i+1:Nat):Int), .int .i64 (f:Int)] 92:=by simpa using e
  obtain ⟨g,j⟩:=c.move l m (by omega) h.fl;simp -implicitDefEqProofs [qhl];unfold TkR;rw [a,if_pos rfl];exact ⟨rfl,g,n.trans j⟩
theorem ya (h:RSt B w tv L i f) (s:Bs):Calls Tryz.prog 157 #[.pointer (some ⟨B,0,none⟩), .string (qc s)] w (TkR B w tv L i f 4 s):=by
 refine qBp fun ρ r0 r1=> ?_;simp -implicitDefEqProofs [qp9,r0,r1];refine (qbf h 4 s (by decide)).mono ?_;rintro _ e ⟨rfl,a,c⟩;simp -implicitDefEqProofs;exact ⟨rfl,a,c⟩
theorem qwg (h:RSt B w tv L i f) (s:Bs):Calls Tryz.prog 132 #[.pointer (some ⟨B,0,none⟩), .string (qc s)] w (TkR B w tv L i f 2 s):=by
 refine qBY fun ρ r0 r1=> ?_;simp -implicitDefEqProofs [qqU,r0,r1];refine (qbf h 2 s (by decide)).mono ?_;rintro _ e ⟨rfl,a,c⟩;simp -implicitDefEqProofs;exact ⟨rfl,a,c⟩
def NmR (B:Nat) (w:World) (tv:Value) (L:List Tok) (i f:Nat):Ending→World→Prop:=fun e w'=>
 if qy L i 1 [] then e= .returned (.tuple #[.string (qc (tk L i).text), .bool true])∧RSt B w' tv L (i+1) f∧ExB B w w' else e= .returned (.tuple #[.string (qc []), .bool false])∧RSt B w' tv L i (max f i)∧ExB B w w'
theorem qkG (h:RSt B w tv L i f):Calls Tryz.prog 134 #[.pointer (some ⟨B,0,none⟩)] w (NmR B w tv L i f):=by
 refine qBW fun ρ r0=> ?_;simp -implicitDefEqProofs [qqT,r0];refine (qbf h 1 [] (by decide)).mono ?_;rintro _ p ⟨rfl,c,m⟩;unfold NmR;cases a:qy L i 1 [] with
 |false=>
  rw [a] at c;simp -implicitDefEqProofs;exact ⟨rfl,by simpa using c,m⟩
 |true=>
  rw [a,if_pos rfl] at c;have e:=yW a;have n:=h.tl;have k:=c.slk;obtain ⟨c3,c4,c5⟩:=k.cell i e;have l:tk L i=L[i]:=wu e;rw [←l] at c4;have o:IntKind.i64.wrap (i:Int)=(i:Int):=by rw [qr (by omega)]
  have g:(i:Int)<(L.length:Int):=by omega
  simp -implicitDefEqProofs [qqR,r0,c.blk.cell,k.is,k.len,o,g,e,c4];intro u j;simp -implicitDefEqProofs [qqS];exact ⟨c.ext j,m.trans (ExB.ext j c.lt)⟩
def SnR (B:Nat) (w:World) (tv:Value) (L:List Tok) (i f k:Nat) (ss:List Bs):Ending→World→Prop:=fun e w'=>ExB B w w'∧
 match ss.find? (qy L i k) with
 |some s=>e= .returned (.tuple #[.string (qc s), .bool true])∧RSt B w' tv L (i+1) (if (ss.take 1).any (qy L i k) then f else max f i)
 |none=>e= .returned (.tuple #[.string (qc []), .bool false])∧RSt B w' tv L i (if ss=[] then f else max f i)
theorem qkE (h:RSt B w tv L i f) {lv:Value} {ss:List Bs} (k:Nat) (hk:k<256) (E:Cells w lv 1 (ss.map qi)) (p:∀W,ExB B w W→Cells W lv 1 (ss.map qi)) (Z:ss.length≤1000000):Calls Tryz.prog 131 #[.pointer (some ⟨B,0,none⟩),lv, .int .u8 (k:Int)] w (SnR B w tv L i f k ss):=by
 have x:qk lv=ss.length:=by simpa using E.len.symm
 refine qB0 fun ρ r0 r1 r2=> ?_;generalize z:SnR B w tv L i f k ss=R;simp -implicitDefEqProofs [qqY];obtain ⟨I,F⟩:∃I:Nat→qa→World→Prop,∀j n w',I j n w'↔(n 0= .pointer (some ⟨B,0,none⟩)∧n 1=lv∧n 2= .int .u8 (k:Int)∧ExB B w w'∧RSt B w' tv L i (if j=0 then f else max f i)∧(∀s∈ss.take j,qy L i k s=false)):=⟨_,fun _ _ _=>Iff.rfl⟩;refine js 8 ss.length I (by simp) ((F _ _ _).2 ⟨by simp [r0],by simp [r1],by simp [r2],ExB.refl _ _,by simpa using h,by simp⟩) ?_;clear r0 r1 r2;rintro j n w' hj C J;obtain ⟨r0,r1,r2,S,Y,o⟩:=(F _ _ _).1 J;have O:IntKind.i64.wrap ((j:Int)+1)=(j:Int)+1:=qr (by omega);by_cases c:j<ss.length
 ·have e:(j:Int)<(ss.length:Int):=by omega
  have V:=(p w' S).cell j (by simpa using c);simp only [List.getElem_map,qi] at V;simp -implicitDefEqProofs [qhB,C,r1,E.is,x,e,c,qqW,r0,r2,V];refine (qbf Y k ss[j] hk).mono ?_;rintro _ w2 ⟨rfl,l,U⟩;have m:=S.trans U;cases g:qy L i k ss[j] with
  |false=>
   rw [g] at l;have e2:max (if j=0 then f else max f i) i=max f i:=by split<;>omega
   simp [e2] at l;simp -implicitDefEqProofs [qqX,C,O,c];refine (F _ _ _).2 ⟨by simp [r0],by simp [r1],by simp [r2],m,by simpa using l,fun s u=> ?_⟩;rw [List.take_succ_eq_append_getElem c] at u;rcases List.mem_append.1 u with u|u
   ·exact o s u
   ·rw [List.mem_singleton.1 u];exact g
  |true=>
   rw [g,if_pos rfl] at l;have A:=(p w2 m).cell j (by simpa using c);simp only [List.getElem_map,qi] at A;simp -implicitDefEqProofs [r1,C,E.is,x,e,c,A];rw [←z];refine ⟨m, ?_⟩;have H:ss.find? (qy L i k)=some ss[j]:=by
    rw [List.find?_eq_some_iff_getElem];exact ⟨g,j,c,rfl,fun q hq=>by simpa using o ss[q] (List.mem_take_iff_getElem.2 ⟨q,by omega,rfl⟩)⟩
   rw [H];refine ⟨rfl, ?_⟩;have hh:(if (ss.take 1).any (qy L i k) then f else max f i)=(if j=0 then f else max f i):=by
    cases ss with
    |nil=>simp at c
    |cons a ss=>
     by_cases y:j=0
     ·subst y;simp only [List.getElem_cons_zero] at g;simp [g]
     ·have:=o a (by cases j with|zero=>exact absurd rfl y|succ j=>simp);simp [this,y]
   rw [hh];exact l
 ·have e:¬(j:Int)<(ss.length:Int):=by omega
  rw [List.take_of_length_le (by omega)] at o;simp -implicitDefEqProofs [qhB,C,r1,E.is,x,e,c,qqV];rw [←z];refine ⟨S, ?_⟩;have H:ss.find? (qy L i k)=none:=List.find?_eq_none.2 fun s u=>by simp [o s u]
  rw [H];refine ⟨rfl, ?_⟩;have:(j=0)↔ss=[]:=by rw [←List.length_eq_zero_iff];omega
  simpa [this] using Y
theorem qfe {c:Type} (k:Nat) (x:Bs→N c) (y:N c):∀(ss:List Bs) (f:Nat),seen L k x y ss i f=match ss.find? (qy L i k) with|some s=>x s (i+1) (if (ss.take 1).any (qy L i k) then f else max f i)|none=>y i (if ss=[] then f else max f i)
 |[],f=>rfl
 |s::ss,f=>by
  unfold seen jr;cases a:qy L i k s with
  |true=>simp [a]
  |false=>
   rw [if_neg (by simp),qfe k x y ss (max f i)];simp only [List.find?_cons,a];cases e:ss.find? (qy L i k) with
   |none=>cases ss<;>simp
   |some t=>simp [a]
end
@[simp] theorem qG8:qg Tryz.prog 158=true:=by kernel_rfl
@[simp] theorem qGT:qg Tryz.prog 74=true:=by kernel_rfl
theorem qcc {L:List Tok} (p:xl L) (k:wK L) (z:L.length≤20000) {n i g j l:Nat} {s:Bs} (h:jA L n i g= .val (some s) j l):i≤j∧s.length≤400000:=by
 have a:=qaW p (L.length+3) n i g g rfl;rw [h] at a;have o:=qeQ (L:=L) (L.length+3) i g (by omega);cases c:kind L (L.length+3) i g with
 |oof=>exact absurd c o
 |no f=>rw [c] at a;exact absurd a.2 (by simp [qb4,wM])
 |ok u j f=>
  rw [c] at a;obtain ⟨b,x,m,e,_,y⟩:=a;subst m;obtain rfl:=Option.some.inj x;refine ⟨e, ?_⟩;rw [y];have A:=qlZ (quw k i j);have C:(vS L i j).length≤L.length:=by unfold vS;simp only [List.length_drop,List.length_take];omega
  omega
theorem qCN {L:List Tok} (z:xl L) (l:wK L) (p:L.length≤20000) {n:Nat}:∀{m i g j a:Nat} {s:Bs},xc L (jA L n) m i g= .val (some s) j a→i≤j∧s.length≤500000*(j - i):=by
 intro m
 induction m with
 |zero=>intro i g j a s h;cases h
 |succ m y=>
  intro i g j a s h;simp only [xc,kP] at h;split at h
  ·rename_i x;have e:=yW x;have A:(tk L i).text.length≤20:=l _ (by rw [wu e];exact List.getElem_mem _);simp only [xq,jr] at h;split at h
   ·rw [jF] at h;cases c:jA L n (i+1+1) g with
    |oof=>rw [c] at h;cases h
    |val o C g1=>
     rw [c] at h;cases o with
     |none=>cases h
     |some u=>
      obtain ⟨O,R⟩:=qcc z l p c;simp only [Ro.andThen,jr] at h;split at h
      ·rw [jF] at h;cases k:xc L (jA L n) m (C+1) g1 with
       |oof=>rw [k] at h;cases h
       |val o2 F J=>
        rw [k] at h;cases o2 with
        |none=>cases h
        |some t=>
         obtain ⟨H,E⟩:=y k;simp only [Ro.andThen,vi,Ro.val.injEq,Option.some.injEq] at h;obtain ⟨rfl,rfl,_⟩:=h;simp only [List.length_append,List.length_cons,List.length_nil];omega
      ·simp only [vi,Ro.val.injEq,Option.some.injEq] at h;obtain ⟨rfl,rfl,_⟩:=h;simp only [List.length_append,List.length_cons,List.length_nil];omega
   ·cases h
  ·cases h
def SR (B:Nat) (w:World) (tv:Value) (L:List Tok) (r:Ro Bs):Ending→World→Prop:=fun e w'=>match r with
 | .val (some s) j g=>e= .returned (.tuple #[.string (qc s), .bool true])∧RSt B w' tv L j g∧ExB B w w'
 | .val none j g=>(∃s,e= .returned (.tuple #[.string s, .bool false]))∧RSt B w' tv L j g∧ExB B w w'
 | .oof=>False
def qbm (s:Bs):Ro Bs→Ro Bs
 | .val (some t) j g=> .val (some (s++t)) j g
 | .val none j g=> .val none j g
 | .oof=> .oof
section
variable {B:Nat} {w w':World} {tv:Value} {L:List Tok} {i f:Nat}
theorem qwr (hG:xl L) (hL:wK L) {n:Nat} (hT:∀{i f w},RSt B w tv L i f→jA L n i f≠ .oof→Calls Tryz.prog 74 #[.pointer (some ⟨B,0,none⟩)] w (SR B w tv L (jA L n i f)))
  {m:Nat} (h:RSt B w tv L i f) (E:xc L (jA L n) m i f≠ .oof):Calls Tryz.prog 158 #[.pointer (some ⟨B,0,none⟩)] w (SR B w tv L (xc L (jA L n) m i f)):=by
 have e0:(⟨#[]⟩:ByteArray)=qc []:=rfl;have e58:(⟨#[58]⟩:ByteArray)=qc [58]:=rfl;have e44:(⟨#[44]⟩:ByteArray)=qc [44]:=rfl;generalize a:xc L (jA L n) m i f=r at E;generalize O:SR B w tv L r=R;refine qBn fun ρ r0=> ?_;simp -implicitDefEqProofs [qp8];obtain ⟨I,hI⟩:∃I:Nat→qa→World→Prop,∀j y w',I j y w'↔∃k Y s,y 0= .pointer (some ⟨B,0,none⟩)∧y 4= .string (qc s)∧RSt B w' tv L k Y∧ExB B w w'∧s.length≤k*500000∧qbm s (xc L (jA L n) j k Y)=r:=⟨_,fun _ _ _=>Iff.rfl⟩;refine qlG I m ((hI _ _ _).2 ⟨i,f,[],by simp [r0],by simp [e0],h,ExB.refl _ _,by simp,by rw [a];cases r with|oof=>rfl|val o j g=>cases o<;>rfl⟩) ?_;clear r0 a h;rintro m y w' hIw;obtain ⟨k,Y,s,r0,r4,hS,hE,hsl,a⟩:=(hI _ _ _).1 hIw;cases m with
 |zero=>exact absurd a.symm E
 |succ m=>
 have ab:=hS.tl;have hil:=hS.il;unfold xc kP at a;simp -implicitDefEqProofs [qp4,r0];refine (qkG hS).mono ?_;rintro _ w2 V;unfold NmR at V;have fin:∀(W:World) (j g:Nat),RSt B W tv L j g→ExB B w W→r= .val none j g→R (.returned (.tuple #[.string ⟨#[]⟩, .bool false])) W:=fun W j g h1 h2 h3=>by
  rw [←O,h3];exact ⟨⟨_,rfl⟩,h1,h2⟩
 cases hk:qy L k 1 [] with
 |false=>
  simp only [hk,Bool.false_eq_true,if_false] at V a;obtain ⟨rfl,H,A⟩:=V;simp -implicitDefEqProofs;exact fin _ _ _ H (hE.trans A) a.symm
 |true=>
 simp only [hk,if_true] at V a;obtain ⟨rfl,H,A⟩:=V;have hlt:=yW hk;simp -implicitDefEqProofs [r0];refine (ya H [58]).mono ?_;rintro _ w3 ⟨rfl,x,aa⟩;have c:=(hE.trans A).trans aa;unfold xq jr at a;cases U:qy L (k+1) 4 [58] with
 |false=>
  simp only [U,Bool.false_eq_true,if_false,kq] at x a;simp -implicitDefEqProofs;exact fin _ _ _ x c a.symm
 |true=>
 simp only [U,if_true] at x a;simp -implicitDefEqProofs [qp5,r0];have S:jA L n (k+1+1) Y≠ .oof:=fun e=>by
  rw [jF,e] at a;exact E a.symm
 refine (hT x S).mono ?_;intro e4 w4 J;cases Z:jA L n (k+1+1) Y with
 |oof=>exact absurd Z S
 |val o j g=>
 rw [Z] at J;rw [jF,Z] at a;cases o with
 |none=>
  obtain ⟨⟨s4,rfl⟩,l,F⟩:=J;simp -implicitDefEqProofs;exact fin _ _ _ l (c.trans F) a.symm
 |some u=>
 obtain ⟨rfl,l,F⟩:=J;obtain ⟨hij,hul⟩:=qcc hG hL ab Z;have hnl:(tk L k).text.length≤20:=hL _ (by rw [wu hlt];exact List.getElem_mem _);simp only [Ro.andThen] at a;have hjl:=l.il;simp -implicitDefEqProofs (disch:=((try simp only [List.length_append,List.length_cons,List.length_nil]);omega)) [-ki,Jg,vQ,qp6,r0,r4];refine (ya l [44]).mono ?_;rintro _ w5 ⟨rfl,p,hE5⟩;have z:=(c.trans F).trans hE5;cases C:qy L j 4 [44] with
 |false=>
  simp only [C,Bool.false_eq_true,if_false,vi,qbm] at p a;simp -implicitDefEqProofs;rw [←O,←a];exact ⟨by simp,p,z⟩
 |true=>
 simp only [C,if_true] at p a;have hjl2:=yW C;simp -implicitDefEqProofs (disch:=((try simp only [List.length_append,List.length_cons,List.length_nil]);omega)) [-ki,Jg,vQ,qp7];refine ⟨m,by omega,(hI _ _ _).2 ⟨j+1,g,s++(tk L k).text++[58]++u++[44],by simp [r0],by simp,p,z, ?_, ?_⟩⟩
 ·simp only [List.length_append,List.length_cons,List.length_nil];omega
 ·rw [←a];cases hf:xc L (jA L n) m (j+1) g with
  |oof=>simp [jF,hf,Ro.andThen,qbm]
  |val o j2 g2=>
   cases o with
   |none=>simp [jF,hf,Ro.andThen,qbm]
   |some t=>simp [jF,hf,Ro.andThen,qbm,vi]
@[simp] theorem qGv:True:=trivial
theorem qgd {W:World} {B:Nat} {ss:List Bs} (a:Blk W B (ss.map qi).toArray 9):Cells W (.slice (some ⟨B,0,none⟩) ss.length ss.length) 1 (ss.map qi):=a.cells (n:=ss.length) (by simp)
theorem ExB.cells {B X:Nat} {w w':World} {ss:List Bs} (h:ExB B w w') (c:Blk w X (ss.map qi).toArray 9) (a:X≠B):Cells w' (.slice (some ⟨X,0,none⟩) ss.length ss.length) 1 (ss.map qi):=qgd (h.blk c a)
theorem qcO (hG:xl L) (hL:wK L):∀(n:Nat) {i f:Nat} {w:World},RSt B w tv L i f→jA L n i f≠ .oof→Calls Tryz.prog 74 #[.pointer (some ⟨B,0,none⟩)] w (SR B w tv L (jA L n i f))
 |0,i,f,w,h,E=>absurd rfl E
 |n+1,i,f,w,h,E=>by
  have htl:=h.tl;have hil:=h.il;generalize a:jA L (n+1) i f=r at E;generalize hRR:SR B w tv L r=R;have fin:∀(W:World) (s:ByteArray) (j g:Nat),RSt B W tv L j g→ExB B w W→r= .val none j g→R (.returned (.tuple #[.string s, .bool false])) W:=fun W s j g h1 h2 h3=>by
   rw [←hRR,h3];exact ⟨⟨_,rfl⟩,h1,h2⟩
  have ok:∀(W:World) (s:Bs) (j g:Nat),RSt B W tv L j g→ExB B w W→r= .val (some s) j g→R (.returned (.tuple #[.string (qc s), .bool true])) W:=fun W s j g h1 h2 h3=>by
   rw [←hRR,h3];exact ⟨rfl,h1,h2⟩
  refine qyZ fun ρ r0=> ?_;simp -implicitDefEqProofs [qmY,r0];refine jz wY (by decide) (by decide) (by simp [Value.cells]) fun X w1 hX hE1 hb1 _=> ?_;simp [Value.cells] at hb1;have hb1':Blk w1 X (([[105,110,116],[98,111,111,108],[110,117,108,108]]:List Bs).map qi).toArray 9:=xd hb1 rfl;have hXB:X≠B:=by have:=h.blk.lt;omega
  have hS1:=h.ext hE1;have hEx1:ExB B w w1:=ExB.ext hE1 h.lt;simp -implicitDefEqProofs [r0];refine (qkE (ss:=[[105,110,116],[98,111,111,108],[110,117,108,108]]) hS1 2 (by decide) (qgd hb1') (fun W hW=>hW.cells hb1' hXB) (by decide)).mono ?_;rintro e2 w2 ⟨hE2,ab⟩;unfold jA at a;rw [qfe] at a;cases hf:([[105,110,116],[98,111,111,108],[110,117,108,108]]:List Bs).find? (qy L i 2) with
  |some s=>
   rw [hf] at a ab;obtain ⟨rfl,U⟩:=ab;simp -implicitDefEqProofs;exact ok _ _ _ _ U (hEx1.trans hE2) a.symm
  |none=>
  rw [hf] at a ab;obtain ⟨rfl,U⟩:=ab;have hE02:=hEx1.trans hE2;simp only [List.cons_ne_self,if_false,reduceCtorEq] at U a;simp -implicitDefEqProofs [qmV,r0];generalize hf0:max f i=f0 at U a;refine (qwg U [97,114,114,97,121]).mono ?_;rintro _ w3 ⟨rfl,H,hE3⟩;have af:=hE02.trans hE3;rw [jr] at a;cases hk1:qy L i 2 [97,114,114,97,121] with
  |true=>
   simp only [hk1,if_true] at H a;simp -implicitDefEqProofs [r0];refine (ya H [91]).mono ?_;rintro _ w4 ⟨rfl,S,ae⟩;have F:=af.trans ae;rw [xq,jr] at a;cases C:qy L (i+1) 4 [91] with
   |false=>
    simp only [C,Bool.false_eq_true,if_false,kq] at S a;simp -implicitDefEqProofs;exact fin _ _ _ _ S F a.symm
   |true=>
   simp only [C,if_true] at S a;simp -implicitDefEqProofs [qmW,r0];have A:jA L n (i+1+1) f0≠ .oof:=fun e=>by
    rw [jF,e] at a;exact E a.symm
   refine (qcO hG hL n S A).mono ?_;intro e5 w5 hR5;cases J:jA L n (i+1+1) f0 with
   |oof=>exact absurd J A
   |val o j g=>
   rw [J] at hR5;rw [jF,J] at a;cases o with
   |none=>
    obtain ⟨⟨s5,rfl⟩,p,aa⟩:=hR5;simp -implicitDefEqProofs;exact fin _ _ _ _ p (F.trans aa) a.symm
   |some u=>
   obtain ⟨rfl,p,aa⟩:=hR5;have hul:=(qcc hG hL htl J).2;simp only [Ro.andThen,xq,jr] at a;simp -implicitDefEqProofs [r0];refine (ya p [93]).mono ?_;rintro _ w6 ⟨rfl,k,V⟩;have c:=(F.trans aa).trans V;cases m:qy L j 4 [93] with
   |false=>
    simp only [m,Bool.false_eq_true,if_false,kq] at k a;simp -implicitDefEqProofs;exact fin _ _ _ _ k c a.symm
   |true=>
   simp only [m,if_true,vi] at k a;simp -implicitDefEqProofs (disch:=((try simp only [List.length_append,List.length_cons,List.length_nil]);omega)) [-ki,Jg,vQ,qmX];exact ok _ _ _ _ k c a.symm
  |false=>
  simp only [hk1,Bool.false_eq_true,if_false] at H a;generalize hf1:max f0 i=f1 at H a;simp -implicitDefEqProofs [qmN,r0];refine jz wY (by decide) (by decide) (by simp [Value.cells]) fun Y w4 hY ae hb4 _=> ?_;simp [Value.cells] at hb4;have hb4':Blk w4 Y (([[114,101,99,111,114,100],[111,110,101,111,102]]:List Bs).map qi).toArray 9:=xd hb4 rfl;have hYB:Y≠B:=by have:=H.blk.lt;omega
  have S:=H.ext ae;have F:=af.trans (ExB.ext ae H.lt);simp -implicitDefEqProofs [r0];refine (qkE (ss:=[[114,101,99,111,114,100],[111,110,101,111,102]]) S 2 (by decide) (qgd hb4') (fun W hW=>hW.cells hb4' hYB) (by decide)).mono ?_;rintro e5 w5 ⟨aa,ac⟩;have hE05:=F.trans aa;rw [qfe] at a;cases hf2:([[114,101,99,111,114,100],[111,110,101,111,102]]:List Bs).find? (qy L i 2) with
  |some many=>
   rw [hf2] at a ac;obtain ⟨rfl,p⟩:=ac;have hml:many.length≤6:=by
    have hm:=List.mem_of_find?_eq_some hf2
    revert hm
    exact (by decide:∀s∈([[114,101,99,111,114,100],[111,110,101,111,102]]:List Bs),s.length≤6) many
   dsimp only at a;generalize (if (([[114,101,99,111,114,100],[111,110,101,111,102]]:List Bs).take 1).any (qy L i 2) then f1 else max f1 i)=f2 at p a;simp -implicitDefEqProofs [r0];refine (ya p [91]).mono ?_;rintro _ w6 ⟨rfl,k,V⟩;have c:=hE05.trans V;rw [xq,jr] at a;cases C:qy L (i+1) 4 [91] with
   |false=>
    simp only [C,Bool.false_eq_true,if_false,kq] at k a;simp -implicitDefEqProofs;exact fin _ _ _ _ k c a.symm
   |true=>
   simp only [C,if_true] at k a;simp -implicitDefEqProofs [qmT,r0];have A:xc L (jA L n) n (i+1+1) f2≠ .oof:=fun e=>by
    rw [jF,e] at a;exact E a.symm
   refine (qwr hG hL (fun h E=>qcO hG hL n h E) k A).mono ?_;intro e7 w7 hR7;cases J:xc L (jA L n) n (i+1+1) f2 with
   |oof=>exact absurd J A
   |val o j g=>
   rw [J] at hR7;rw [jF,J] at a;cases o with
   |none=>
    obtain ⟨⟨s5,rfl⟩,l,y⟩:=hR7;simp -implicitDefEqProofs;exact fin _ _ _ _ l (c.trans y) a.symm
   |some u=>
   obtain ⟨rfl,l,y⟩:=hR7;have hul:=(qCN hG hL htl J).2;have hj7:=l.il;simp only [Ro.andThen,xq,jr] at a;simp -implicitDefEqProofs [r0];refine (ya l [93]).mono ?_;rintro _ w8 ⟨rfl,z,hE8⟩;have x:=(c.trans y).trans hE8;cases m:qy L j 4 [93] with
   |false=>
    simp only [m,Bool.false_eq_true,if_false,kq] at z a;simp -implicitDefEqProofs;exact fin _ _ _ _ z x a.symm
   |true=>
   simp only [m,if_true,vi] at z a;simp -implicitDefEqProofs (disch:=((try simp only [List.length_append,List.length_cons,List.length_nil]);omega)) [-ki,Jg,vQ,qmU];exact ok _ _ _ _ z x (by rw [←a];simp)
  |none=>
  rw [hf2] at a ac;obtain ⟨rfl,p⟩:=ac;simp only [reduceCtorEq,if_false] at p a;generalize hf3:max f1 i=f3 at p a;simp -implicitDefEqProofs [qmO,r0];refine (ya p [63]).mono ?_;rintro _ w6 ⟨rfl,k,V⟩;have c:=hE05.trans V;rw [jr] at a;cases C:qy L i 4 [63] with
  |true=>
   simp only [C,if_true] at k a;simp -implicitDefEqProofs [r0];refine (qbf k 1 [116] (by decide)).mono ?_;rintro _ w7 ⟨rfl,l,y⟩;have O:=c.trans y;rw [jr] at a;cases m:qy L (i+1) 1 [116] with
   |false=>
    simp only [m,Bool.false_eq_true,if_false,kq] at l a;simp -implicitDefEqProofs;exact fin _ _ _ _ l O a.symm
   |true=>
    simp only [m,if_true,vi] at l a;simp -implicitDefEqProofs;exact ok _ [63,116] _ _ l O a.symm
  |false=>
  simp only [C,Bool.false_eq_true,if_false] at k a;generalize hf4:max f3 i=f4 at k a;simp -implicitDefEqProofs [qmP,r0];refine (qkG k).mono ?_;rintro _ w7 Z;unfold NmR at Z;rw [kP] at a;cases m:qy L i 1 [] with
  |false=>
   simp only [m,Bool.false_eq_true,if_false] at Z a;obtain ⟨rfl,l,y⟩:=Z;simp -implicitDefEqProofs;exact fin _ _ _ _ l (c.trans y) a.symm
  |true=>
  simp only [m,if_true] at Z a;obtain ⟨rfl,l,y⟩:=Z;have O:=c.trans y;have hlt:=yW m;have hnl:(tk L i).text.length≤20:=hL _ (by rw [wu hlt];exact List.getElem_mem _);simp -implicitDefEqProofs [qmQ,r0];refine (ya l [91]).mono ?_;rintro _ w8 ⟨rfl,z,hE8⟩;have x:=O.trans hE8;rw [jr] at a;cases hk4:qy L (i+1) 4 [91] with
  |false=>
   simp only [hk4,Bool.false_eq_true,if_false,vi] at z a;simp -implicitDefEqProofs;exact ok _ _ _ _ z x a.symm
  |true=>
  simp only [hk4,if_true] at z a;simp -implicitDefEqProofs [qmR,r0];have A:jA L n (i+1+1) f4≠ .oof:=fun e=>by
   rw [jF,e] at a;exact E a.symm
  refine (qcO hG hL n z A).mono ?_;intro e9 w9 hR9;cases J:jA L n (i+1+1) f4 with
  |oof=>exact absurd J A
  |val o j g=>
  rw [J] at hR9;rw [jF,J] at a;cases o with
  |none=>
   obtain ⟨⟨s5,rfl⟩,hS9,hE9⟩:=hR9;simp -implicitDefEqProofs;exact fin _ _ _ _ hS9 (x.trans hE9) a.symm
  |some u=>
  obtain ⟨rfl,hS9,hE9⟩:=hR9;have hul:=(qcc hG hL htl J).2;simp only [Ro.andThen,xq,jr] at a;simp -implicitDefEqProofs [r0];refine (ya hS9 [93]).mono ?_;rintro _ wa ⟨rfl,ad,hEa⟩;have hE0a:=(x.trans hE9).trans hEa;cases hk5:qy L j 4 [93] with
  |false=>
   simp only [hk5,Bool.false_eq_true,if_false,kq] at ad a;simp -implicitDefEqProofs;exact fin _ _ _ _ ad hE0a a.symm
  |true=>
  simp only [hk5,if_true,vi] at ad a;simp -implicitDefEqProofs (disch:=((try simp only [List.length_append,List.length_cons,List.length_nil]);omega)) [-ki,Jg,vQ,qmS];exact ok _ _ _ _ ad hE0a (by rw [←a];simp)
end
@[simp] theorem qGV:qg Tryz.prog 33=true:=by kernel_rfl
@[simp] theorem qG4:qg Tryz.prog 23=true:=by kernel_rfl
@[simp] theorem qGY:qg Tryz.prog 25=true:=by kernel_rfl
@[simp] theorem qGS:qg Tryz.prog 78=true:=by kernel_rfl
theorem qDY {v:Value} (h:qn v=true):Tryz.prog.built 92 [(0,v)]=some #[v, .int .i64 0, .int .i64 0]:=by
 rcases zz h with ⟨b,o,n,c,rfl,_⟩|rfl|⟨b,o,s,rfl⟩<;>kernel_rfl
theorem ql1 {s:Bs} {a:List Tok} {cs:List Bs} (e:qu s= .ok a cs) (k:s.length≤100) {o:Option Bs} {j g:Nat} (h:jA a (a.length+3) 0 0= .val o j g) (E:j≤a.length):jg s=(match o with|some b=>decide (j=a.length)&&decide (b=s)|none=>false):=by
 have z:=qhL e;have l:=qaW z (a.length+3) (a.length+3) 0 0 0 rfl;rw [h] at l;have x:=qlL (L:=a) (Nat.le_refl _) 0;unfold jg;rw [e];simp only [k,decide_true,Bool.true_and];cases m:kind a (a.length+3) 0 0 with
 |oof=>exact absurd m x
 |no f=>
  rw [m] at l;cases o with
  |none=>rfl
  |some b=>exact absurd l.2 (by simp [qb4,wM])
 |ok u F f=>
  rw [m] at l;obtain ⟨b,y,p,C,_,A⟩:=l;subst p;subst y;have c:b=jK (vS a 0 j):=A;by_cases n:j=a.length
  ·have:vS a 0 j=a:=by unfold vS;rw [List.take_of_length_le (by omega)];rfl
   rw [this] at c;simp [n,c]
  ·have:¬a.length≤j:=by omega
   simp [n,this]
theorem qwu {w:World} (s:Bs) (hs:s.length<4611686018427387904):Calls Tryz.prog 23 #[.string (qc s)] w fun e w'=>e= .returned (.bool (jg s))∧qb w w':=by
 generalize U:(fun (e:Ending) (w':World)=>e= .returned (.bool (jg s))∧qb w w')=R;refine qAd fun ρ r0=> ?_;simp -implicitDefEqProofs [qo3,r0];refine (L01.qwc s hs).mono ?_;rintro _ w1 ⟨v,rfl,hv,hE1⟩;simp -implicitDefEqProofs [fV];refine qT L01.z31 fun F w2 hF hE2 hb2 _=> ?_;simp -implicitDefEqProofs;refine jn (B:=F) (by simp) hb2 (by simp [Value.cells]) (by simp [Value.cells]) (by simpa [Value.cells] using L01.kJ) fun w3 hO3 V=> ?_;simp [Value.cells] at V;have y:qb w1 w3:=hO3.ext hE2 hF;have H:qb w w3:=hE1.trans' y;have hc0:w3.cell? ⟨F,0,none⟩=some (.int .i64 (qu s).err):=by rw [V.cell];rfl
 simp -implicitDefEqProofs [hc0,r0];by_cases A:(qu s).err=0∧s.length≤100
 ·obtain ⟨O,z⟩:=A;have E:¬(100:Int)<(s.length:Int):=by omega
  obtain ⟨a,cs,k⟩:∃a cs,qu s= .ok a cs:=by
   cases h:qu s with
   |ok a cs=>exact ⟨a,cs,rfl⟩
   |bad e l=>rw [h] at O;exact absurd O (qjV h)
  rw [k] at hv;have C:Own w.heap.size 53 3 w1 v (qB a):=hv;have m:=qhL k;have htl:a.length≤20000:=by have:=(L01.qjT s).1;rw [k] at this;exact this
  have p:=C.isl;have hic:=jR p;have S:qk v=a.length:=by have:=(L01.jO C).len;rw [jm] at this;omega
  simp -implicitDefEqProofs [O,E,qoE,qDY p];refine vz fun B w4 hB Z Y _=> ?_;simp -implicitDefEqProofs [Value.cells,hic] at Y⊢;have hS:RSt B w4 v a 0 0:=⟨Y,Own.down ((C.ext y).ext Z) (Nat.zero_le _),htl,Nat.zero_le _,Nat.zero_le _⟩;refine (qcO m (qjL m) (a.length+3) hS (qiY (Nat.le_refl _) 0)).mono ?_;intro e5 w5 J;cases ht:jA a (a.length+3) 0 0 with
  |oof=>exact absurd ht (qiY (Nat.le_refl _) 0)
  |val o j g=>
  rw [ht] at J;have fin:∀(b:Bool) (W:World),ExB B w4 W→b=jg s→R (.returned (.bool b)) W:=fun b W hW n=>by
   rw [←U,n];refine ⟨rfl,qrT (H.trans' Z) hW.below ?_⟩;have:=H.size;omega
  cases o with
  |none=>
   obtain ⟨⟨s5,rfl⟩,u,x⟩:=J;have c:=ql1 k z ht u.il;simp -implicitDefEqProofs;exact fin _ _ x c.symm
  |some b=>
   obtain ⟨rfl,u,x⟩:=J;have c:=ql1 k z ht u.il;have c1:w5.cell? ⟨B,1,none⟩=some (.int .i64 (j:Int)):=by rw [u.blk.cell];rfl
   by_cases hj:j=a.length
   ·simp -implicitDefEqProofs [c1,p,S,hj,jp,r0];exact fin _ _ x (by rw [c];simp [hj])
   ·have hj':¬(j:Int)=(a.length:Int):=by omega
    simp -implicitDefEqProofs [c1,p,S,hj,hj',jp,r0];exact fin _ _ x (by rw [c];simp [hj])
 ·have n:(qu s).err≠0∨100<s.length:=by
   rcases Classical.em ((qu s).err=0) with h|h
   ·exact .inr (by have:=fun h2=>A ⟨h,h2⟩;omega)
   ·exact .inl h
  have c:jg s=false:=by
   unfold jg;cases h:qu s with
   |bad e l=>rfl
   |ok a cs=>
    rw [h] at n;rcases n with n|n
    ·exact absurd rfl n
    ·have:¬s.length≤100:=by omega
     simp [this]
  have fin:R (.returned (.bool false)) w3:=by rw [←U,c];exact ⟨rfl,H⟩
  rcases n with n|n
  ·simp -implicitDefEqProofs [n];exact fin
  ·have hb':(100:Int)<(s.length:Int):=by omega
   by_cases O:(qu s).err=0
   ·simp -implicitDefEqProofs [O,hb'];exact fin
   ·simp -implicitDefEqProofs [O];exact fin
theorem qwf {w:World}:Calls Tryz.prog 78 #[] w fun e w'=>∃v,e= .returned v∧Own w.heap.size 9 1 w' v (vN.map qi)∧qb w w':=by
 refine qyT fun ρ=> ?_;simp -implicitDefEqProofs [qmL];refine jz wY (by decide) (by decide) (by simp [Value.cells]) fun X j h g a _=> ?_;simp [Value.cells] at a;have c:Blk j X (vN.map qi).toArray 9:=xd a rfl;simp -implicitDefEqProofs;exact ⟨Own.lit (n:=4) (sz:=1) c (by decide) h (by decide),g⟩
theorem qDr {s:Bs} {k:Nat} (h:kT s=some k):vN.contains s=false:=by
 cases a:vN.contains s with
 |false=>rfl
 |true=>
  have c:=List.contains_iff_mem.1 a;have:kT s=none:=(by decide:∀w∈vN,kT w=none) s c;rw [h] at this;cases this
theorem qsx (c:UInt8):((c.toNat:Int)=95)↔c=95:=by
 constructor
 ·intro h;apply UInt8.toNat_inj.1;show c.toNat=95;omega
 ·rintro rfl;rfl
theorem qwv {w:World} (s:Bs) (hs:s.length<4611686018427387904):Calls Tryz.prog 25 #[.string (qc s)] w fun e w'=>e= .returned (.bool (zC s))∧qb w w':=by
 generalize o:(fun (e:Ending) (w':World)=>e= .returned (.bool (zC s))∧qb w w')=R;refine qz2 fun ρ r0=> ?_;simp -implicitDefEqProofs [qos];have rest:∀(p:qa) (k:Option Nat),p 0= .string (qc s)→p 3= .int .i64 (match k with|some k=>(k:Int)|none=> -1)→kT s=k→qdD.wp ⟨Tryz.prog,46,qor,[]⟩ (qC [.tmp 2] R) (je [.tmp 2] R) p w:=by
  intro p k r0 r3 Z;cases k with
  |some k=>
   have e:zC s=(qh (s.take k)&&qh (s.drop (k+1))):=by unfold zC;rw [qDr Z,Z];rfl
   have hkl:k<s.length:=by
    have:=Z;unfold kT at this;rw [List.findIdx?_eq_some_iff_getElem] at this;exact this.1
   have hk0:¬((k:Int)<0):=by omega
   have V:(k:Int)≤(s.length:Int):=by omega
   have hkn:k≤s.length:=by omega
   have hw1:IntKind.i64.wrap ((k:Int)+1)=(k:Int)+1:=qr (by omega);have hk1:(k:Int)+1≤(s.length:Int):=by omega
   have S:k+1≤s.length:=by omega
   have hkt:((k:Int)+1).toNat=k+1:=by omega
   have x1:=L01.QX s 0 k;have x2:=L01.qbS s (k+1);simp at x1;simp -implicitDefEqProofs [qdD,r3,hk0,qom,r0,V,hkn,x1];refine (L01.qcM (s.take k)).mono ?_;rintro _ w1 ⟨rfl,m⟩;cases h1:qh (s.take k) with
   |false=>
    simp -implicitDefEqProofs;rw [←o,e,h1];exact ⟨rfl,m⟩
   |true=>
    simp -implicitDefEqProofs [r0,r3,hw1,hk1,S,hkt,x2];refine (L01.qcM (s.drop (k+1))).mono ?_;rintro _ w2 ⟨rfl,H⟩;simp -implicitDefEqProofs;rw [←o,e,h1];exact ⟨rfl,m.trans' H⟩
  |none=>
   have e:zC s=(vN.contains s||qh s):=by unfold zC;rw [Z]
   simp -implicitDefEqProofs [qdD,r3];refine (qwf).mono ?_;rintro _ w1 ⟨v,rfl,hv,m⟩;have A:=hv.isl;have F:qk v=4:=by have:=(L01.jO hv).len;simpa [vN] using this.symm
   simp -implicitDefEqProofs;obtain ⟨I,y⟩:∃I:Nat→qa→World→Prop,∀j g w',I j g w'↔(g 0= .string (qc s)∧g 5=v∧qb w1 w'∧∀x∈vN.take j,x≠s):=⟨_,fun _ _ _=>Iff.rfl⟩;refine js 6 4 I (by simp) ((y _ _ _).2 ⟨by simp [r0],by simp,qA _,by simp⟩) ?_;clear r0 r3;rintro j g w' hj C z;obtain ⟨r0,r5,hE,l⟩:=(y _ _ _).1 z;have E:IntKind.i64.wrap ((j:Int)+1)=(j:Int)+1:=qr (by omega);by_cases c:j<4
   ·have a:(j:Int)<4:=by omega
    have Y:j<vN.length:=c;have n:=(L01.jO (hv.ext hE)).cell j (by simpa using Y);simp only [List.getElem_map,qi] at n;by_cases O:vN[j]=s
    ·simp -implicitDefEqProofs [qdC,C,r5,A,F,a,c,qgN,n,r0,jp,O];rw [←o,e];refine ⟨?_,m.trans' hE⟩;have:vN.contains s=true:=List.contains_iff_mem.2 (by rw [←O];exact List.getElem_mem _);rw [this];rfl
    ·simp -implicitDefEqProofs [qdC,C,r5,A,F,a,c,qgN,n,r0,jp,O,qoo,E];refine (y _ _ _).2 ⟨by simp [r0],by simp [r5],hE,fun x U=> ?_⟩;rw [List.take_succ_eq_append_getElem Y] at U;rcases List.mem_append.1 U with h|h
     ·exact l x h
     ·rw [List.mem_singleton.1 h];exact O
   ·have a:¬(j:Int)<4:=by omega
    have hj4:j=4:=by omega
    subst hj4;simp -implicitDefEqProofs [qdC,C,r5,A,F,qon,r0];refine (L01.qcM s).mono ?_;rintro _ w2 ⟨rfl,H⟩;simp -implicitDefEqProofs;rw [←o,e];refine ⟨?_,(m.trans' hE).trans' H⟩;have:vN.contains s=false:=by
     cases n:vN.contains s with
     |false=>rfl
     |true=>exact absurd rfl (l s (by have:=List.contains_iff_mem.1 n;simpa [vN] using this))
    rw [this];rfl
 obtain ⟨I,y⟩:∃I:Nat→qa→World→Prop,∀j g w',I j g w'↔(g 0= .string (qc s)∧g 3= .int .i64 (-1)∧w'=w∧∀q (J:q<s.length),q<j→s[q]≠95):=⟨_,fun _ _ _=>Iff.rfl⟩;refine js 4 s.length I (by simp) ((y _ _ _).2 ⟨by simp [r0],by simp,rfl,fun q _ h=>by omega⟩) ?_;clear r0;rintro j g w' hj C z;obtain ⟨r0,r3,rfl,l⟩:=(y _ _ _).1 z;have E:IntKind.i64.wrap ((j:Int)+1)=(j:Int)+1:=qr (by omega);by_cases c:j<s.length
 ·have a:(j:Int)<(s.length:Int):=by omega
  have hg:((qc s)[j]'(by simpa using c))=s[j]:=rfl;have hsz:j<(qc s).size:=by simpa using c
  simp -implicitDefEqProofs [qgM,C,r0,a,c,qop,hg];split
  ·rename_i u;have n:s[j]=95:=(qsx _).1 u;refine rest _ (some j) (by simp [r0]) (by simp) ?_;unfold kT;rw [List.findIdx?_eq_some_iff_getElem];exact ⟨c,decide_eq_true n,fun q J=>fun h=>l q (by omega) J (of_decide_eq_true h)⟩
  ·rename_i u;have n:¬s[j]=95:=fun h=>u ((qsx _).2 h);simp -implicitDefEqProofs [qoq,C,E,c];refine (y _ _ _).2 ⟨by simp [r0],by simp [r3],rfl,fun q J hqj=> ?_⟩;by_cases h:q=j
   ·subst h;exact n
   ·exact l q J (by omega)
 ·have a:¬(j:Int)<(s.length:Int):=by omega
  simp -implicitDefEqProofs [qgM,C,r0,a,c];refine rest _ none (by simp [r0]) (by simp [r3]) ?_;unfold kT;rw [List.findIdx?_eq_none_iff];intro x O;obtain ⟨q,J,rfl⟩:=List.mem_iff_getElem.1 O;simpa using l q J (by omega)
noncomputable def qam:IR:= .reg [za 5 (zI .add (zv 5) (zK 1))]
noncomputable def qal:IR:= .seq (.block 1 (zq [za 16 (.op2 .ixs (zv 1) (zv 5))] <| .block 2 (zq [za 17 (zB .eql (zv 16) (.const (zu 110)))] <| .cond (zv 17) (.reg [za 19 (zf 1 (zv 2)),zw 9 (zt 19) (zY #[])]) (zq [za 20 (zB .eql (zv 16) (.const (zu 118)))] <| .cond (zv 20) (.reg [za 22 (zf 2 (zv 2)),zw 9 (zt 22) (zY #[])]) (zq [za 23 (zB .eql (zv 16) (.const (zu 116)))] <| .cond (zv 23) (.reg [za 25 (zf 3 (zv 2)),zw 9 (zt 25) (zY #[])]) (zq [za 26 (zB .eql (zv 16) (.const (zu 78)))] <| .cond (zv 26) (.reg [za 28 (zf 4 (zv 2)),zw 3 (zt 28) (zO 0)]) .skip)))))) (qam)
noncomputable def QP:IR:=zq [za 11 (zI .lss (zv 5) (zT (zv 1)))] <| .seq (.cond (zv 11) .skip (.exit 0)) (qal)
noncomputable def qoJ:IR:=zq [za 4 (.ite (.ite (.ite (zS .eql (zo 1 (zv 2)) (.const (zs #[]))) (zS .eql (zo 2 (zv 2)) (.const (zs #[]))) (zQ false)) (zS .eql (zo 3 (zv 2)) (.const (zs #[]))) (zQ false)) (zI .eql (zo 4 (zv 2)) (zK 0)) (zQ false))] <| .ret
noncomputable def qoK:IR:=zq [zE 2 (.box 44 (zt 0)) 0,za 4 (zQ false),za 6 (zf 0 (zv 2)),zw 5 (zt 6) (.const (zu 0)),za 7 (zf 5 (zv 2)),zw 40 (zt 7) (.const (.slice none 0 0)),za 5 (zK 0)] <| .seq (.block 0 (.loop QP)) (qoJ)
def qAi:List Nat:=zV 29 [3,8,9,10,12,13,14,15,18,21,24,27]
theorem qAh:C2 238 47 qAi qoK [.tmp 4]:=c2 [] Tryz.func238
noncomputable def qhn:IR:=zq [za 2 (zQ false),za 2 (.ite (zB .geq (zv 0) (.const (zu 1))) (zB .leq (zv 0) (.const (zu 10))) (zQ false))] <| .ret
def qBA:List Nat:=[0,2]
theorem qBz:C1 152 9 qBA qhn [.tmp 2]:=c1 [] Tryz.func152
noncomputable def qn4:IR:=zq [za 2 (zQ false),za 2 (.ite (.ite (.ite (zB .geq (zv 0) (.const (zu 21))) (zB .leq (zv 0) (.const (zu 37))) (zQ false)) (zB .neq (zv 0) (.const (zu 33))) (zQ false)) (zB .neq (zv 0) (.const (zu 36))) (zQ false))] <| .ret
def qzH:List Nat:=[0,2]
theorem qzG:C1 287 17 qzH qn4 [.tmp 2]:=c1 [] Tryz.func287
noncomputable def qgX:IR:= .reg [za 6 (zI .add (zv 6) (zK 1))]
noncomputable def qoL:IR:= .seq (.block 1 (zq [za 7 (zo 0 (zx 6 (zv 0) (zl (zx 1 (zo 5 (zv 3)) (zv 6)))))] <| .block 2 (zq [za 26 (zB .eql (zv 7) (.const (zu 20)))] <| .cond (zv 26) (.reg [za 5 (zS .add (zv 5) (.const (zs #[113])))]) (zq [za 31 (zB .eql (zv 7) (.const (zu 5)))] <| .cond (zv 31) (.reg [za 5 (zS .add (zv 5) (.const (zs #[99])))]) (zq [zm 37 7,zc 38 152 #[zt 37] #[5] 4,zm 36 38] <| .cond (zv 36) (.reg [za 5 (zS .add (zv 5) (.const (zs #[101])))]) (zq [za 41 (zB .eql (zv 7) (.const (zu 33)))] <| .cond (zv 41) (.reg [za 5 (zS .add (zv 5) (.const (zs #[119])))]) (zq [za 46 (zB .eql (zv 7) (.const (zu 36)))] <| .cond (zv 46) (.reg [za 5 (zS .add (zv 5) (.const (zs #[97])))]) (zq [zm 52 7,zc 53 287 #[zt 52] #[5] 4,zm 51 53] <| .cond (zv 51) (.reg [za 5 (zS .add (zv 5) (.const (zs #[115])))]) (.reg [za 5 (zS .add (zv 5) (.const (zs #[63])))]))))))))) (qgX)
noncomputable def qdJ:IR:=zq [za 12 (zI .lss (zv 6) (zL (zo 5 (zv 3))))] <| .seq (.cond (zv 12) .skip (.exit 0)) (qoL)
noncomputable def qdK:IR:=zq [zm 4 5] <| .ret
noncomputable def qoN:IR:=zq [zE 3 (.box 44 (zt 1)) 0,za 4 (.const (zs #[])),za 5 (.const (zs #[])),za 6 (zK 0)] <| .seq (.block 0 (.loop qdJ)) (qdK)
def qoM:List Nat:=[0,1,3,4,5,6,7,12,26,31,36,37,38,41,46,51,52,53]
theorem qAj:C2 237 57 qoM qoN [.tmp 4]:=c2 [] Tryz.func237
noncomputable def qdI:IR:= .cond (zv 35) (zq [za 4 (zQ false)] <| .ret) .skip
noncomputable def qdH:IR:= .reg [za 5 (zI .add (zv 5) (zK 1))]
noncomputable def qoC:IR:= .seq (.block 1 (.seq (.drw [za 35 (.ite (zB .neq (.op2 .ixs (zv 0) (zv 5)) (.op2 .ixs (zv 1) (zv 5))) (.ite (zB .neq (.op2 .ixs (zv 0) (zv 5)) (.const (zu 99))) (zQ true) (zB .neq (.op2 .ixs (zv 1) (zv 5)) (.const (zu 101)))) (zQ false))]) (qdI))) (qdH)
noncomputable def qgR:IR:=zq [za 14 (zI .lss (zv 5) (zT (zv 0)))] <| .seq (.cond (zv 14) .skip (.exit 0)) (qoC)
noncomputable def qbH:IR:=zq [za 4 (zQ true)] <| .ret
noncomputable def qoB:IR:=zq [za 5 (zK 0)] <| .seq (.block 0 (.loop qgR)) (qbH)
noncomputable def qgS:IR:=zq [za 4 (zQ false),za 10 (zI .neq (zT (zv 0)) (zT (zv 1)))] <| .seq (.cond (zv 10) (zq [za 4 (zQ false)] <| .ret) .skip) (qoB)
def QO:List Nat:=[0,1,4,5,10,14,35]
theorem qAc:C2 240 36 QO qgS [.tmp 4]:=c2 [] Tryz.func240
noncomputable def qgW:IR:= .reg [za 7 (zI .add (zv 7) (zK 1))]
noncomputable def qgV:IR:= .seq (.block 3 (.drw [za 6 (.ite (zv 6) (zQ true) (zB .eql (.op2 .ixs (zv 0) (zv 5)) (.op2 .ixs (zv 1) (zv 7))))])) (qgW)
noncomputable def qbI:IR:=zq [za 17 (zI .lss (zv 7) (zT (zv 1)))] <| .seq (.cond (zv 17) .skip (.exit 2)) (qgV)
noncomputable def qgU:IR:=zq [za 31 (zn (zv 6))] <| .cond (zv 31) (zq [za 4 (zQ false)] <| .ret) .skip
noncomputable def qoH:IR:= .reg [za 5 (zI .add (zv 5) (zK 1))]
noncomputable def qoG:IR:= .seq (.block 1 (zq [za 6 (zQ false),za 7 (zK 0)] <| .seq (.block 2 (.loop qbI)) (qgU))) (qoH)
noncomputable def qgT:IR:=zq [za 11 (zI .lss (zv 5) (zT (zv 0)))] <| .seq (.cond (zv 11) .skip (.exit 0)) (qoG)
noncomputable def qoF:IR:=zq [za 4 (zQ true)] <| .ret
noncomputable def qoI:IR:=zq [za 4 (zQ false),za 5 (zK 0)] <| .seq (.block 0 (.loop qgT)) (qoF)
def qAg:List Nat:=[0,1,4,5,6,7,11,17,31]
theorem qAf:C2 239 32 qAg qoI [.tmp 4]:=c2 [] Tryz.func239
noncomputable def qoz:IR:= .reg [za 4 (zI .add (zv 4) (zK 1))]
noncomputable def qgQ:IR:= .seq (.block 1 (zq [za 19 (zS .eql (zl (zx 1 (zv 3) (zv 4))) (zv 0))] <| .cond (zv 19) (zq [za 2 (zQ true)] <| .ret) .skip)) (qoz)
noncomputable def qdG:IR:=zq [za 11 (zI .lss (zv 4) (zL (zv 3)))] <| .seq (.cond (zv 11) .skip (.exit 0)) (qgQ)
noncomputable def qoy:IR:=zq [za 2 (zQ false)] <| .ret
noncomputable def qoA:IR:=zq [za 2 (zQ false),zc 5 150 #[] #[] 51,zc 6 151 #[] #[] 51,zp 7 #[zt 5,zt 6] #[51,51] 51,zm 3 7,za 4 (zK 0)] <| .seq (.block 0 (.loop qdG)) (qoy)
def qAb:List Nat:=[0,2,3,4,5,6,7,11,19]
theorem qAa:C1 241 20 qAb qoA [.tmp 2]:=c1 [] Tryz.func241
noncomputable def yY:IR:=zq [za 101 (zM 6 (zv 3)),zc 102 238 #[zt 101,zY #[110,118]] #[44,9] 4,zm 103 102,zg 103 true 105 (zo 1 (zv 3)),zh 103 true 106 25 #[zt 105] #[9] 4,za 108 (.ite (zv 103) (zv 106) (zQ false)),zg 108 true 110 (zo 2 (zv 3)),zh 108 true 111 23 #[zt 110] #[9] 4,za 4 (.ite (zv 108) (zv 111) (zQ false))] <| .ret
noncomputable def yX:IR:=zq [za 85 (zS .eql (zo 2 (zv 3)) (.const (zs #[])))] <| .seq (.cond (zv 85) (zq [za 86 (zM 6 (zv 3)),zc 87 238 #[zt 86,zY #[110,116]] #[44,9] 4,za 91 (.ite (zv 87) (zv 6) (zQ false)),zg 91 true 95 (zS .eql (zo 3 (zv 3)) (.const (zs #[]))),zg 95 false 97 (zo 3 (zv 3)),zh 95 false 98 23 #[zt 97] #[9] 4,za 4 (.ite (zv 91) (.ite (zv 95) (zQ true) (zv 98)) (zQ false))] <| .ret) .skip) (yY)
noncomputable def qpR:IR:= .reg [za 7 (zI .add (zv 7) (zK 1))]
noncomputable def qhg:IR:= .seq (.block 2 (zq [za 307 (zS .eql (zo 1 (zx 6 (zv 0) (zl (zx 1 (zo 5 (zv 3)) (zv 7))))) (.const (zs #[])))] <| .cond (zv 307) (zq [za 4 (zQ false)] <| .ret) .skip)) (qpR)
noncomputable def qdT:IR:=zq [za 295 (zI .lss (zv 7) (zI .sub (zT (zv 5)) (zK 1)))] <| .seq (.cond (zv 295) .skip (.exit 1)) (qhg)
noncomputable def qpQ:IR:=zq [za 308 (zM 6 (zv 3)),zc 309 238 #[zt 308,zY #[]] #[44,9] 4,zm 4 309] <| .ret
noncomputable def qpP:IR:=zq [za 7 (zK 1)] <| .seq (.block 1 (.loop qdT)) (qpQ)
noncomputable def x6:IR:= .cond (zv 154) (zq [za 159 (zM 6 (zv 3)),zc 160 238 #[zt 159,zY #[]] #[44,9] 4,zm 161 160,zg 161 true 162 (zv 5),zh 161 true 163 240 #[zt 162,zY #[101]] #[9,9] 4,za 4 (.ite (zv 161) (zv 163) (zQ false))] <| .ret) (zq [za 165 (zB .eql (zv 15) (.const (zu 20)))] <| .cond (zv 165) (zq [za 167 (zM 6 (zv 3)),zc 168 238 #[zt 167,zY #[]] #[44,9] 4,zm 169 168,zg 169 true 170 (zv 5),zh 169 true 171 239 #[zt 170,zY #[115]] #[9,9] 4,za 4 (.ite (zv 169) (zv 171) (zQ false))] <| .ret) (zq [za 173 (zB .eql (zv 15) (.const (zu 21)))] <| .cond (zv 173) (zq [za 175 (zM 6 (zv 3)),zc 176 238 #[zt 175,zY #[110,116]] #[44,9] 4,za 180 (.ite (zv 176) (zv 6) (zQ false)),zg 180 true 182 (zo 3 (zv 3)),zh 180 true 183 23 #[zt 182] #[9] 4,za 185 (.ite (zv 180) (zv 183) (zQ false)),zg 185 true 186 (zv 5),zh 185 true 187 240 #[zt 186,zY #[101]] #[9,9] 4,za 4 (.ite (zv 185) (zv 187) (zQ false))] <| .ret) (zq [za 189 (zB .eql (zv 15) (.const (zu 22)))] <| .cond (zv 189) (zq [za 191 (zM 6 (zv 3)),zc 192 238 #[zt 191,zY #[110]] #[44,9] 4,za 196 (.ite (zv 192) (zv 6) (zQ false)),zg 196 true 197 (zv 5),zh 196 true 198 240 #[zt 197,zY #[101]] #[9,9] 4,za 4 (.ite (zv 196) (zv 198) (zQ false))] <| .ret) (zq [za 200 (zB .eql (zv 15) (.const (zu 23)))] <| .cond (zv 200) (zq [za 202 (zM 6 (zv 3)),zc 203 238 #[zt 202,zY #[]] #[44,9] 4,zm 204 203,zg 204 true 205 (zv 5),zh 204 true 206 240 #[zt 205,zY #[101,101,101]] #[9,9] 4,za 4 (.ite (zv 204) (zv 206) (zQ false))] <| .ret) (zq [za 208 (zB .eql (zv 15) (.const (zu 24)))] <| .cond (zv 208) (zq [za 210 (zM 6 (zv 3)),zc 211 238 #[zt 210,zY #[110]] #[44,9] 4,za 215 (.ite (zv 211) (zv 6) (zQ false)),zg 215 true 216 (zv 5),zh 215 true 217 240 #[zt 216,zY #[101,101]] #[9,9] 4,za 4 (.ite (zv 215) (zv 217) (zQ false))] <| .ret) (zq [za 219 (zB .eql (zv 15) (.const (zu 25)))] <| .cond (zv 219) (zq [za 221 (zM 6 (zv 3)),zc 222 238 #[zt 221,zY #[]] #[44,9] 4,za 4 (.ite (zv 222) (zS .eql (zv 5) (.const (zs #[99]))) (zQ false))] <| .ret) (zq [za 227 (zB .eql (zv 15) (.const (zu 26)))] <| .cond (zv 227) (zq [za 229 (zM 6 (zv 3)),zc 230 238 #[zt 229,zY #[]] #[44,9] 4,zm 231 230,zg 231 true 232 (zv 5),zh 231 true 233 240 #[zt 232,zY #[101,113]] #[9,9] 4,zg 231 true 234 (zv 233),zg 234 false 235 (zv 5),zh 234 false 236 240 #[zt 235,zY #[101,113,113]] #[9,9] 4,za 4 (.ite (zv 231) (.ite (zv 234) (zQ true) (zv 236)) (zQ false))] <| .ret) (zq [za 239 (zB .eql (zv 15) (.const (zu 27)))] <| .cond (zv 239) (zq [za 241 (zM 6 (zv 3)),zc 242 238 #[zt 241,zY #[]] #[44,9] 4,zm 243 242,zg 243 true 244 (zv 5),zh 243 true 245 240 #[zt 244,zY #[101,113]] #[9,9] 4,za 4 (.ite (zv 243) (zv 245) (zQ false))] <| .ret) (zq [za 247 (zB .eql (zv 15) (.const (zu 28)))] <| .cond (zv 247) (zq [za 249 (zM 6 (zv 3)),zc 250 238 #[zt 249,zY #[110,116]] #[44,9] 4,za 254 (.ite (zv 250) (zv 6) (zQ false)),zg 254 true 256 (zo 3 (zv 3)),zh 254 true 257 23 #[zt 256] #[9] 4,za 4 (.ite (.ite (zv 254) (zv 257) (zQ false)) (zS .eql (zv 5) (.const (zs #[99,113]))) (zQ false))] <| .ret) (zq [za 263 (zB .eql (zv 15) (.const (zu 29)))] <| .cond (zv 263) (zq [za 265 (zM 6 (zv 3)),zc 266 238 #[zt 265,zY #[]] #[44,9] 4,zm 267 266,zg 267 true 270 (zS .eql (zv 5) (.const (zs #[]))),zg 270 false 271 (zv 5),zh 270 false 272 240 #[zt 271,zY #[101]] #[9,9] 4,za 4 (.ite (zv 267) (.ite (zv 270) (zQ true) (zv 272)) (zQ false))] <| .ret) (zq [za 275 (zB .eql (zv 15) (.const (zu 32)))] <| .cond (zv 275) (zq [za 285 (.ite (zI .lss (zT (zv 5)) (zK 2)) (zQ true) (zB .neq (.op2 .ixs (zv 5) (zK 0)) (.const (zu 113)))),zg 285 false 287 (.op2 .stLo (zv 5) (zK 1)),zh 285 false 288 239 #[zt 287,zY #[119]] #[9,9] 4,za 290 (.ite (zv 285) (zQ true) (zn (zv 288)))] <| .seq (.cond (zv 290) (zq [za 4 (zQ false)] <| .ret) .skip) (qpP)) (zq [za 310 (zB .eql (zv 15) (.const (zu 33)))] <| .cond (zv 310) (zq [za 312 (zM 6 (zv 3)),zc 313 238 #[zt 312,zY #[110]] #[44,9] 4,za 4 (.ite (.ite (zv 313) (.ite (zS .eql (zo 1 (zv 3)) (.const (zs #[]))) (zQ true) (zv 6)) (zQ false)) (zS .eql (zv 5) (.const (zs #[113]))) (zQ false))] <| .ret) (zq [za 326 (zB .eql (zv 15) (.const (zu 35)))] <| .cond (zv 326) (zq [za 328 (zM 6 (zv 3)),zc 329 238 #[zt 328,zY #[]] #[44,9] 4,za 335 (.ite (zv 329) (zI .gtr (zT (zv 5)) (zK 1)) (zQ false)),zg 335 true 337 (.op3 .stLoHi (zv 5) (zK 0) (zK 1)),zh 335 true 338 240 #[zt 337,zY #[101]] #[9,9] 4,za 340 (.ite (zv 335) (zv 338) (zQ false)),zg 340 true 342 (.op2 .stLo (zv 5) (zK 1)),zh 340 true 343 239 #[zt 342,zY #[97]] #[9,9] 4,za 4 (.ite (zv 340) (zv 343) (zQ false))] <| .ret) (zq [za 345 (zB .eql (zv 15) (.const (zu 36)))] <| .cond (zv 345) (zq [za 347 (zM 6 (zv 3)),zc 348 238 #[zt 347,zY #[110,118,116]] #[44,9] 4,za 352 (.ite (zv 348) (zv 6) (zQ false)),zg 352 true 354 (zo 2 (zv 3)),zh 352 true 355 79 #[zt 354] #[9] 4,za 357 (.ite (zv 352) (zv 355) (zQ false)),zg 357 true 359 (zo 3 (zv 3)),zh 357 true 360 23 #[zt 359] #[9] 4,za 4 (.ite (.ite (zv 357) (zv 360) (zQ false)) (zS .eql (zv 5) (.const (zs #[113]))) (zQ false))] <| .ret) .skip))))))))))))))
noncomputable def xM:IR:= .cond (zv 61) (zq [za 64 (zM 6 (zv 3)),zc 65 238 #[zt 64,zY #[110]] #[44,9] 4,za 4 (.ite (.ite (zv 65) (zv 6) (zQ false)) (zS .eql (zv 5) (.const (zs #[]))) (zQ false))] <| .ret) (zq [za 73 (zB .eql (zv 15) (.const (zu 5)))] <| .cond (zv 73) (zq [za 78 (zI .gtr (zT (zv 5)) (zK 6)),zg 78 false 79 (zv 5),zh 78 false 80 239 #[zt 79,zY #[101,99]] #[9,9] 4,za 82 (.ite (zv 78) (zQ true) (zn (zv 80)))] <| .seq (.cond (zv 82) (zq [za 4 (zQ false)] <| .ret) .skip) (yX)) (zq [za 113 (zB .eql (zv 15) (.const (zu 6)))] <| .cond (zv 113) (zq [za 115 (zM 6 (zv 3)),zc 116 238 #[zt 115,zY #[110]] #[44,9] 4,zm 117 116,zg 117 true 121 (zS .eql (zo 1 (zv 3)) (.const (zs #[110,111,116]))),zg 121 true 122 (zv 5),zh 121 true 123 240 #[zt 122,zY #[101]] #[9,9] 4,zg 117 true 125 (.ite (zv 121) (zv 123) (zQ false)),zg 125 false 127 (zo 1 (zv 3)),zh 125 false 128 241 #[zt 127] #[9] 4,zg 125 false 129 (zv 128),zg 129 true 130 (zv 5),zh 129 true 131 240 #[zt 130,zY #[101,101]] #[9,9] 4,zg 125 false 132 (.ite (zv 129) (zv 131) (zQ false)),za 4 (.ite (zv 117) (.ite (zv 125) (zQ true) (zv 132)) (zQ false))] <| .ret) (zq [za 135 (zB .eql (zv 15) (.const (zu 7)))] <| .cond (zv 135) (zq [za 137 (zM 6 (zv 3)),zc 138 238 #[zt 137,zY #[]] #[44,9] 4,zm 139 138,zg 139 true 140 (zv 5),zh 139 true 141 240 #[zt 140,zY #[101,101]] #[9,9] 4,za 4 (.ite (zv 139) (zv 141) (zQ false))] <| .ret) (zq [za 143 (zB .eql (zv 15) (.const (zu 8)))] <| .cond (zv 143) (zq [za 145 (zM 6 (zv 3)),zc 146 238 #[zt 145,zY #[110]] #[44,9] 4,za 150 (.ite (zv 146) (zv 6) (zQ false)),zg 150 true 151 (zv 5),zh 150 true 152 240 #[zt 151,zY #[101]] #[9,9] 4,za 4 (.ite (zv 150) (zv 152) (zQ false))] <| .ret) (zq [za 154 (zB .eql (zv 15) (.const (zu 9)))] <| .seq (.cond (zv 154) .skip (zq [za 154 (zB .eql (zv 15) (.const (zu 10)))] <| .cond (zv 154) .skip (zq [za 154 (zB .eql (zv 15) (.const (zu 30)))] <| .cond (zv 154) .skip (.reg [za 154 (zB .eql (zv 15) (.const (zu 37)))])))) (x6))))))
noncomputable def xL:IR:= .cond (zv 52) (zq [za 55 (zM 6 (zv 3)),zc 56 238 #[zt 55,zY #[]] #[44,9] 4,za 4 (.ite (zv 56) (zS .eql (zv 5) (.const (zs #[]))) (zQ false))] <| .ret) (zq [za 61 (zB .eql (zv 15) (.const (zu 4)))] <| .seq (.cond (zv 61) .skip (.reg [za 61 (zB .eql (zv 15) (.const (zu 31)))])) (xM))
noncomputable def xN:IR:=zq [za 4 (zQ false)] <| .ret
noncomputable def qpT:IR:=zq [zE 3 (.box 44 (zt 1)) 0,za 4 (zQ false),zm 8 0,za 9 (zM 6 (zv 3)),zc 10 237 #[zt 8,zt 9] #[29,44] 9,zm 5 10,za 12 (zo 1 (zv 3)),zc 13 79 #[zt 12] #[9] 4,zm 6 13,za 15 (zo 0 (zv 3))] <| .seq (.block 0 (zq [za 16 (zB .eql (zv 15) (.const (zu 1)))] <| .cond (zv 16) (zq [za 18 (zM 6 (zv 3)),zc 19 238 #[zt 18,zY #[78]] #[44,9] 4,za 4 (.ite (.ite (.ite (zv 19) (zI .geq (zo 4 (zv 3)) (zK 0)) (zQ false)) (zI .leq (zo 4 (zv 3)) (zK 1000000000)) (zQ false)) (zS .eql (zv 5) (.const (zs #[]))) (zQ false))] <| .ret) (zq [za 34 (zB .eql (zv 15) (.const (zu 2)))] <| .cond (zv 34) (zq [za 36 (zM 6 (zv 3)),zc 37 238 #[zt 36,zY #[78]] #[44,9] 4,za 4 (.ite (.ite (zv 37) (.ite (zI .eql (zo 4 (zv 3)) (zK 0)) (zQ true) (zI .eql (zo 4 (zv 3)) (zK 1))) (zQ false)) (zS .eql (zv 5) (.const (zs #[]))) (zQ false))] <| .ret) (zq [za 52 (zB .eql (zv 15) (.const (zu 3)))] <| .seq (.cond (zv 52) .skip (.reg [za 52 (zB .eql (zv 15) (.const (zu 34)))])) (xL))))) (xN)
def qpS:List Nat:=[0,1,3,4,5,6,7,8,9,10,12,13,15,16,18,19,34,36,37,52,55,56,61,64,65,73,78,79,80,82,85,86,87,91,95,97,98,101,102,103,105,106,108,110,111,113,115,116,117,121,122,123,125,127,128,129,130,131,132,135,137,138,139,140,141,143,145,146,150,151,152,154,159,160,161,162,163,165,167,168,169,170,171,173,175,176,180,182,183,185,186,187,189,191,192,196,197,198,200,202,203,204,205,206,208,210,211,215,216,217,219,221,222,227,229,230,231,232,233,234,235,236,239,241,242,243,244,245,247,249,250,254,256,257,263,265,266,267,270,271,272,275,285,287,288,290,295,307,308,309,310,312,313,326,328,329,335,337,338,340,342,343,345,347,348,352,354,355,357,359,360]
theorem qA5:C2 170 366 qpS qpT [.tmp 4]:=c2 [] Tryz.func170
noncomputable def qmJ:IR:= .reg [za 7 (zI .add (zv 7) (zl (zx 1 (zv 4) (zv 9))))]
noncomputable def qgr:IR:= .seq (.cond (zv 57) (zq [za 2 (zQ false)] <| .ret) .skip) (qmJ)
noncomputable def qmG:IR:= .reg [za 8 (zI .add (zv 8) (zK 1))]
noncomputable def qgq:IR:= .seq (.block 3 (zq [za 9 (zI .add (zI .sub (zL (zv 3)) (zv 6)) (zv 8))] <| .seq (.drw [za 57 (zI .neq (zl (zx 1 (zo 5 (zx 6 (zv 0) (zv 5))) (zv 8))) (zl (zx 1 (zv 3) (zv 9))))]) (qgr))) (qmG)
noncomputable def qbE:IR:=zq [za 36 (zI .lss (zv 8) (zv 6))] <| .seq (.cond (zv 36) .skip (.exit 2)) (qgq)
noncomputable def qmF:IR:= .reg [zE 71 (.buildSlice 40 0 #[]) 40,za 77 (.op3 (.slLoHi 1) (zv 3) (zK 0) (zI .sub (zL (zv 3)) (zv 6))),zp 78 #[zt 71,zt 77] #[40,40] 40,zm 79 5,zE 80 (.buildSlice 40 1 #[(0,(zt 79))]) 40,zp 81 #[zt 78,zt 80] #[40,40] 40,zm 3 81,zE 82 (.buildSlice 40 0 #[]) 40,za 88 (.op3 (.slLoHi 1) (zv 4) (zK 0) (zI .sub (zL (zv 4)) (zv 6))),zp 89 #[zt 82,zt 88] #[40,40] 40,zm 90 7,zE 91 (.buildSlice 40 1 #[(0,(zt 90))]) 40,zp 92 #[zt 89,zt 91] #[40,40] 40,zm 4 92]
noncomputable def qmE:IR:=zq [zm 64 0,za 68 (zM 6 (zx 6 (zv 0) (zv 5))),zc 69 170 #[zt 64,zt 68] #[29,44] 4,za 70 (zn (zv 69))] <| .seq (.cond (zv 70) (zq [za 2 (zQ false)] <| .ret) .skip) (qmF)
noncomputable def qmD:IR:=zq [za 7 (zK 1),za 8 (zK 0)] <| .seq (.block 2 (.loop qbE)) (qmE)
noncomputable def qmC:IR:= .reg [za 5 (zI .add (zv 5) (zK 1))]
noncomputable def qgp:IR:= .seq (.block 1 (zq [za 6 (zL (zo 5 (zx 6 (zv 0) (zv 5)))),za 33 (zI .gtr (zv 6) (zL (zv 3)))] <| .seq (.cond (zv 33) (zq [za 2 (zQ false)] <| .ret) .skip) (qmD))) (qmC)
noncomputable def qdu:IR:=zq [za 21 (zI .lss (zv 5) (zL (zv 0)))] <| .seq (.cond (zv 21) .skip (.exit 0)) (qgp)
noncomputable def qmI:IR:=zq [za 2 (zI .eql (zL (zv 3)) (zK 1))] <| .ret
noncomputable def qmH:IR:=zq [za 3 (.const (.slice none 0 0)),za 4 (.const (.slice none 0 0)),za 5 (zK 0)] <| .seq (.block 0 (.loop qdu)) (qmI)
noncomputable def qdv:IR:=zq [za 2 (zQ false),za 17 (.ite (zI .eql (zL (zv 0)) (zK 0)) (zQ true) (zI .gtr (zL (zv 0)) (zK 400)))] <| .seq (.cond (zv 17) (zq [za 2 (zQ false)] <| .ret) .skip) (qmH)
def qyO:List Nat:=[0,2,3,4,5,6,7,8,9,17,21,33,36,57,64,68,69,70,71,77,78,79,80,81,82,88,89,90,91,92]
theorem qyN:C1 81 96 qyO qdv [.tmp 2]:=c1 [] Tryz.func81
noncomputable def qgD:IR:=zq [za 2 (zK 0)] <| .ret
noncomputable def qn8:IR:=zq [za 2 (zK 0),zm 4 0,zc 5 81 #[zt 4] #[29] 4,zm 3 5,za 17 (.ite (zn (zv 3)) (zQ true) (zB .neq (zo 0 (zx 6 (zv 0) (zI .sub (zL (zv 0)) (zK 1)))) (.const (zu 20))))] <| .seq (.cond (zv 17) (zq [za 2 (zK 21)] <| .ret) .skip) (qgD)
def qzN:List Nat:=[0,2,3,4,5,17]
theorem qzM:C1 27 18 qzN qn8 [.tmp 2]:=c1 [] Tryz.func27
noncomputable def qrj:IR:=zq [za 4 (zK 0)] <| .ret
noncomputable def qd3:IR:=zq [za 18 (.ite (zI .lss (zv 1) (zK 0)) (zQ true) (zI .geq (zv 1) (zL (zv 0))))] <| .seq (.cond (zv 18) (zq [za 4 (zK 1)] <| .ret) .skip) (qrj)
noncomputable def qrk:IR:=zq [za 4 (zK 0),zm 6 0,zc 7 27 #[zt 6] #[29] 24,zm 5 7,za 9 (zI .neq (zv 5) (zK 0))] <| .seq (.cond (zv 9) (zq [zm 4 5] <| .ret) .skip) (qd3)
def qCk:List Nat:=[0,1,4,5,6,7,9,18]
theorem qCj:C2 103 19 qCk qrk [.tmp 4]:=c2 [] Tryz.func103
noncomputable def qri:IR:= .reg [za 10 (zI .add (zv 10) (zK 1))]
noncomputable def qrh:IR:= .seq (.block 1 (.reg [zm 25 9,zm 26 0,za 34 (zl (zx 1 (zo 5 (zx 6 (zv 0) (zv 1))) (zv 10))),zm 35 2,zm 36 3,zc 37 104 #[zt 26,zt 34,zt 35,zt 36] #[29,3,3,29] 99,zE 38 (.buildSlice 182 1 #[(0,(zt 37))]) 182,zp 39 #[zt 25,zt 38] #[182,182] 182,zm 9 39])) (qri)
noncomputable def qhH:IR:=zq [za 22 (zI .lss (zv 10) (zL (zo 5 (zx 6 (zv 0) (zv 1)))))] <| .seq (.cond (zv 22) .skip (.exit 0)) (qrh)
noncomputable def qrg:IR:=zq [za 43 (zM 6 (zx 6 (zv 0) (zv 1))),zm 44 9,zc 45 149 #[zt 43,zt 44] #[44,182] 99,zm 8 45] <| .ret
noncomputable def qrf:IR:=zq [za 9 (.const (.slice none 0 0)),za 10 (zK 0)] <| .seq (.block 0 (.loop qhH)) (qrg)
noncomputable def qhI:IR:=zq [za 8 (.const (.slice none 0 0)),za 13 (zI .eql (zv 1) (zv 2))] <| .seq (.cond (zv 13) (zq [zm 8 3] <| .ret) .skip) (qrf)
def qCi:List Nat:=[0,1,2,3,8,9,10,13,22,25,26,34,35,36,37,38,39,43,44,45]
theorem qCh:C4 104 46 qCi qhI [.tmp 8]:=c4 [] Tryz.func104
noncomputable def qnt:IR:=zq [zm 6 10,za 7 (zK 0)] <| .ret
noncomputable def qns:IR:=zq [zm 21 0,za 24 (zI .sub (zL (zv 0)) (zK 1)),zm 25 1,zm 26 2,zc 27 104 #[zt 21,zt 24,zt 25,zt 26] #[29,3,3,29] 99,zm 10 27,zm 28 10,zc 29 27 #[zt 28] #[29] 24,za 30 (zI .neq (zv 29) (zK 0))] <| .seq (.cond (zv 30) (zq [za 6 (.const (.slice none 0 0)),za 7 (zK 21)] <| .ret) .skip) (qnt)
noncomputable def qnr:IR:=zq [zm 17 2,zc 18 81 #[zt 17] #[29] 4,zm 9 18,za 20 (zn (zv 9))] <| .seq (.cond (zv 20) (zq [za 6 (.const (.slice none 0 0)),za 7 (zK 21)] <| .ret) .skip) (qns)
noncomputable def qnu:IR:=zq [za 6 (.const (.slice none 0 0)),za 7 (zK 0),zm 11 0,zm 12 1,zc 13 103 #[zt 11,zt 12] #[29,3] 24,zm 8 13,za 15 (zI .neq (zv 8) (zK 0))] <| .seq (.cond (zv 15) (zq [zm 16 8,za 6 (.const (.slice none 0 0)),zm 7 16] <| .ret) .skip) (qnr)
def qzl:List Nat:=zV 31 [3,4,5,14,19,22,23]
theorem qzk:C3 42 32 qzl qnu [.tmp 6, .tmp 7]:=c3 [] Tryz.func42
noncomputable def qg6:IR:= .cond (zv 87) (zq [za 4 (zQ false)] <| .ret) .skip
noncomputable def qpA:IR:= .reg [za 8 (zI .add (zv 8) (zK 1))]
noncomputable def qpz:IR:= .seq (.block 3 (.seq (.drw [za 87 (zI .neq (zl (zx 1 (zo 5 (zv 6)) (zv 8))) (zl (zx 1 (zo 5 (zv 7)) (zv 8))))]) (qg6))) (qpA)
noncomputable def qg5:IR:=zq [za 74 (zI .lss (zv 8) (zL (zo 5 (zv 6))))] <| .seq (.cond (zv 74) .skip (.exit 2)) (qpz)
noncomputable def qpy:IR:=zq [za 8 (zK 0)] <| .block 2 (.loop qg5)
noncomputable def qpx:IR:= .reg [za 5 (zI .add (zv 5) (zK 1))]
noncomputable def qpw:IR:= .seq (.block 1 (zq [za 23 (zM 6 (zx 6 (zv 0) (zv 5))),zA 6 44,zw 44 (zt 6) (zt 23),za 27 (zM 6 (zx 6 (zv 1) (zv 5))),zA 7 44,zw 44 (zt 7) (zt 27),za 69 (.ite (.ite (.ite (.ite (.ite (zB .neq (zo 0 (zv 6)) (zo 0 (zv 7))) (zQ true) (zS .neq (zo 1 (zv 6)) (zo 1 (zv 7)))) (zQ true) (zS .neq (zo 2 (zv 6)) (zo 2 (zv 7)))) (zQ true) (zS .neq (zo 3 (zv 6)) (zo 3 (zv 7)))) (zQ true) (zI .neq (zo 4 (zv 6)) (zo 4 (zv 7)))) (zQ true) (zI .neq (zL (zo 5 (zv 6))) (zL (zo 5 (zv 7)))))] <| .seq (.cond (zv 69) (zq [za 4 (zQ false)] <| .ret) .skip) (qpy))) (qpx)
noncomputable def qg4:IR:=zq [za 17 (zI .lss (zv 5) (zL (zv 0)))] <| .seq (.cond (zv 17) .skip (.exit 0)) (qpw)
noncomputable def qpv:IR:=zq [za 4 (zQ true)] <| .ret
noncomputable def qpu:IR:=zq [za 5 (zK 0)] <| .seq (.block 0 (.loop qg4)) (qpv)
noncomputable def qg9:IR:=zq [za 4 (zQ false),za 13 (zI .neq (zL (zv 0)) (zL (zv 1)))] <| .seq (.cond (zv 13) (zq [za 4 (zQ false)] <| .ret) .skip) (qpu)
def qAV:List Nat:=[0,1,4,5,6,7,8,13,17,23,27,69,74,87]
theorem qAU:C2 20 88 qAV qg9 [.tmp 4]:=c2 [] Tryz.func20
@[simp] theorem qHn:qg Tryz.prog 192=true:=by kernel_rfl
@[simp] theorem qHj:qg Tryz.prog 99=true:=by kernel_rfl
@[simp] theorem qHk:qg Tryz.prog 43=true:=by kernel_rfl
theorem qw8 {w:World} {v:Value} {l:List Int} (j:Cells w v 1 (l.map encI)) (z:l.length≤1000000):Calls Tryz.prog 192 #[v] w fun e w'=>∃x,e= .returned x∧Own w.heap.size 3 1 w' x (l.map encI)∧qb w w':=by
 refine qAY fun ρ k=> ?_;simp -implicitDefEqProofs [qpF,k];refine qr1 (e:=3) (by kernel_rfl) (by simpa using j.is) ?_;simp -implicitDefEqProofs;cases u:yc v with
 |true=>
  have:l=[]:=by
   have y:=j.len;rcases zz j.is with ⟨b,o,n,c,rfl,_⟩|rfl|⟨b,o,s,rfl⟩
   rotate_left 2
   ·simp [yc] at u
   ·simp [yc] at u
   ·simp [qk] at y;exact y
  subst this;simp -implicitDefEqProofs;exact ⟨Own.nil _ _ _ _,qA _⟩
 |false=>
  simp -implicitDefEqProofs [qpE,k];refine jz yB (by decide) (by decide) (by simp) fun B3 W3 m g a _=> ?_;simp at a;simp -implicitDefEqProofs [k];refine ku yG g (by rfl) (by rfl) (Own.lit (n:=0) (sz:=1) a (by simp) m (by decide)) (j.ext g) (by simp [encI,Value.oneCell']) (by simp;omega) (by simp;omega) fun A W4 p h _ _=> ?_;simp at h⊢;exact ⟨h,p⟩
section
variable {P:Program} {Q:Ks} {d:Option Nat} {ty:TypeId} {K:qa→World→Prop} {ρ:qa} {w:World}
theorem qC0 {t:TypeId} {p x:Operand} {base e sz:Nat} {sv:Value} {xs:List Value} {i:Nat} (a:Own base e sz w sv xs) (A:i<xs.length) (m:qd ρ p= .pointer (some (qJ sv i)))
  (O:(qd ρ x).cells= #[qd ρ x]) (F:(qd ρ x).oneCell=true) (J:jG P t 1=true) (h:∀W B,sv.ownBlock=some B→base≤B→Only B w W→Own base e sz W sv (xs.set i (qd ρ x))→K (qm ρ d undef) W):qw P Q d (.store t p x) ty K ρ w:=by
 rcases a with ⟨rfl,rfl⟩|⟨g,off,n,cap,cur,rfl,o,C,z,c,H,j,u⟩
 ·simp at A
 ·have l:n*sz≤cap*sz:=Nat.mul_le_mul_right _ c;have k:Blk w g cur e:=⟨C⟩;simp only [qJ,zF] at m;refine qP (B:=g) (i:=off+i) m k (by omega) O F J fun W y E=> ?_;refine h W g rfl o y (.inr ⟨g,off,n,cap,_,rfl,o,E.heap,by simpa using z,c,H,by simpa using j, ?_⟩);rw [Array.toList_set,←u,←List.set_drop,List.take_set]
end
theorem qbs {b e sz:Nat} {w:World} {v:Value} {xs:List Value} {X T:Nat} {cs:Array Value} (h:Own b e sz w v xs) (c:Blk w X cs T) (l:T≠e) {k:Nat} (j:v.ownBlock=some k):X≠k:=fun g=>by
 obtain ⟨cur,a⟩:=Own.row h j;rw [←g,c.heap] at a;cases a;exact l rfl
theorem Own.le {b c e sz:Nat} {w:World} {v:Value} {xs:List Value} (h:Own c e sz w v xs) (a:b≤c):Own b e sz w v xs:=by
 rcases h with h|⟨g,off,n,cap,cur,j,k,r⟩
 ·exact .inl h
 ·exact .inr ⟨g,off,n,cap,cur,j,Nat.le_trans a k,r⟩
theorem qux {l:List Int} {g:Int→Int} {j:Nat} (h:j<l.length):((l.take j).map g++l.drop j).set j (g l[j])=(l.take (j+1)).map g++l.drop (j+1):=by
 have a:((l.take j).map g).length=j:=by simp;omega
 have c:l.drop j=l[j]::l.drop (j+1):=List.drop_eq_getElem_cons h;rw [List.take_succ_eq_append_getElem h,List.map_append,List.append_assoc,List.set_append_right _ _ (by omega),a,Nat.sub_self,c];rfl
theorem qcY {w:World} {x:NV} {F:FuncId} {caps:Array Value} {g:Int→Int} (hk:Cells w x.kv 1 (x.nd.kids.map encI)) (hkl:x.nd.kids.length≤1000000) (hcb:qg Tryz.prog F=true)
  (hc:∀W,qb w W→∀k∈x.nd.kids,Calls Tryz.prog F (#[.int .i64 k]++caps) W fun e w'=>e= .returned (.int .i64 (g k))∧qb W w'):
  Calls Tryz.prog 99 #[jf x,qG F caps] w fun e w'=>∃y:NV,e= .returned (jf y)∧y.nd=⟨x.nd.d,x.nd.kids.map g⟩∧Own w.heap.size 3 1 w' y.kv (y.nd.kids.map encI)∧qb w w':=by
 have hkc:=jR hk.is;have hko:=vI hk.is;generalize hRR:(fun (e:Ending) (w':World)=>∃y:NV,e= .returned (jf y)∧y.nd=⟨x.nd.d,x.nd.kids.map g⟩∧Own w.heap.size 3 1 w' y.kv (y.nd.kids.map encI)∧qb w w')=R;refine qyB fun ρ r0 r1=> ?_;simp -implicitDefEqProofs [qme];refine vz fun X w1 hX V ac _=> ?_;rw [show qd ρ (.tmp 0)=jf x by simp [r0],zP hk.is] at ac;simp -implicitDefEqProofs;refine qT wk fun Y w2 hY U hb2 _=> ?_;have o:=ac.ext U;have hXY:X≠Y:=by have:=ac.lt;omega
 have c5:w2.cell? ⟨X,5,none⟩=some x.kv:=by rw [o.cell];rfl
 simp -implicitDefEqProofs [c5];refine (qw8 (hk.ext (V.trans' U)) hkl).mono ?_;rintro _ w3 ⟨a,rfl,A,c⟩;have hkc':=jR A.isl;have Z:=vI A.isl;have hsz2:w.heap.size≤w2.heap.size:=(V.trans' U).size;simp -implicitDefEqProofs;refine qP (B:=X) (i:=5) (by simp) (o.ext c) (by simp [qe]) (by simp [hkc']) (by simpa using Z) (by kernel_rfl) fun w4 ak hb4=> ?_;have S:Blk w4 X (qe ⟨x.nd,a⟩).toArray 44:=xd hb4 (by simp [qe]);have E:Own w.heap.size 3 1 w4 a (x.nd.kids.map encI):=Own.le (L01.Own.same A fun k ai=>ak.block k (Ne.symm (qbs A (o.ext c) (by decide) ai))) hsz2;have aa:Blk w4 Y _ 44:=ak.blk (hb2.ext c) (Ne.symm hXY);have c5':w4.cell? ⟨X,5,none⟩=some a:=by rw [S.cell];rfl
 have O:qn a=true:=A.isl;have u:qk a=x.nd.kids.length:=by have:=(L01.jO A).len;simpa using this.symm
 have m:qb w w4:=ak.ext ((V.trans' U).trans' c) hX;simp -implicitDefEqProofs [c5',O,u];obtain ⟨I,hI⟩:∃I:Nat→qa→World→Prop,∀j p w',I j p w'↔(p 1=qG F caps∧p 2= .pointer (some ⟨X,0,none⟩)∧p 4= .pointer (some ⟨Y,0,none⟩)∧p 12=a∧p 13= .int .i64 (x.nd.kids.length:Int)∧qb w w'∧Blk w' X (qe ⟨x.nd,a⟩).toArray 44∧Blk w' Y #[.int .u8 0, .string ⟨#[]⟩, .string ⟨#[]⟩, .string ⟨#[]⟩, .int .i64 0, .slice none 0 0] 44∧Own w.heap.size 3 1 w' a (((x.nd.kids.take j).map g++x.nd.kids.drop j).map encI)):=⟨_,fun _ _ _=>Iff.rfl⟩;refine js 14 x.nd.kids.length I (by simp) ((hI _ _ _).2 ⟨by simp [r1],by simp,by simp,by simp,by simp,m,S,aa,by simpa using E⟩) ?_;clear r0 r1 aa E c5' S hb4;rintro j p w' hj rj hIw;obtain ⟨r1,r2,r4,ah,af,hE,o,ag,ho⟩:=(hI _ _ _).1 hIw;have hwj:IntKind.i64.wrap ((j:Int)+1)=(j:Int)+1:=qr (by omega);by_cases J:j<x.nd.kids.length
 ·have z:(j:Int)<(x.nd.kids.length:Int):=by omega
  have ae:w'.cell? (qJ a j)=some (.int .i64 x.nd.kids[j]):=by
   have:=(L01.jO ho).cell j (by simp;omega);rw [this];simp only [List.getElem_map,encI,Option.some.injEq,Value.int.injEq,true_and];rw [List.getElem_append_right (by simp;omega)];simp;congr 1;omega
  simp -implicitDefEqProofs [qgk,rj,af,z,J,qma,ah,O,u,ae];refine vF qyA (fun W=>Blk W X (qe ⟨x.nd,a⟩).toArray 44) fun W3 c _=>⟨o.ext c, ?_⟩;have hcX:∀W,Blk W X (qe ⟨x.nd,a⟩).toArray 44→W.cell? ⟨X,5,none⟩=some a:=fun W h=>by rw [h.cell];rfl
  have ad:=o.ext c;have hoW:=ho.ext c;have H:=hc W3 (hE.trans' c) x.nd.kids[j] (List.getElem_mem _);generalize hgk:g x.nd.kids[j]=gk at H;simp+contextual -implicitDefEqProofs [ql8,hcX,ad,r2,r1,rj,ah,O,u,z];refine x9 hcb (t:=22) (fs:= #[]) (caps:=caps) (by simp [qG]) ?_;simp -implicitDefEqProofs;refine H.mono ?_;rintro _ W4 ⟨rfl,m⟩;simp -implicitDefEqProofs;refine ⟨ad.ext m, ?_⟩;have hX4:=ad.ext m;have al:=(ag.ext c).ext m;have E:=hoW.ext m;have hE04:=(hE.trans' c).trans' m;simp -implicitDefEqProofs [O,u,J];refine qC0 (base:=w.heap.size) (e:=3) (sz:=1) (sv:=a) (i:=j) E (by simp;omega) (by simp) (by simp [Value.cells]) (by simp) qch fun W5 B hB hBw C ab=> ?_;have hX5:=C.blk hX4 (qbs E hX4 (by decide) hB);have hY5:=C.blk al (qbs E al (by decide) hB);have aj:qb w W5:=C.ext hE04 hBw;simp -implicitDefEqProofs [qmb,rj,hwj,J];refine (hI _ _ _).2 ⟨by simp [r1],by simp [r2],by simp [r4],by simp [ah],by simp [af],aj,hX5,hY5, ?_⟩;have h6:=qux (g:=g) J;rw [hgk] at h6;rw [←h6,List.map_set];simpa [encI] using ab
 ·have z:¬(j:Int)<(x.nd.kids.length:Int):=by omega
  have e:x.nd.kids.take j=x.nd.kids:=List.take_of_length_le (by omega);have e2:x.nd.kids.drop j=[]:=List.drop_eq_nil_iff.2 (by omega);rw [e,e2,List.append_nil] at ho;have an:Eng.jk w' ⟨X,0,none⟩ 0 6=some (qe ⟨x.nd,a⟩):=by
   have:=xr o;simpa [qe] using this
  have hcn:(jf ⟨x.nd,a⟩).cells=(qe ⟨x.nd,a⟩).toArray:=zP O;have hcn':(Value.agg (qe ⟨x.nd,a⟩).toArray).cells=(qe ⟨x.nd,a⟩).toArray:=hcn;have l:(Value.agg #[.int .u8 (x.nd.d.kind:Int), .string (qc x.nd.d.name), .string (qc x.nd.d.vr), .string (qc x.nd.d.typ), .int .i64 x.nd.d.n,a]).cells= #[.int .u8 (x.nd.d.kind:Int), .string (qc x.nd.d.name), .string (qc x.nd.d.vr), .string (qc x.nd.d.typ), .int .i64 x.nd.d.n,a]:=hcn;simp -implicitDefEqProofs [qgk,rj,af,z,J,ql9,r2,an,qe];refine jn (B:=Y) (by simp [r4]) ag (by simp [l]) (by simp [l,Z]) (by simpa [l] using wv) fun w5 C hb5=> ?_;have am:Blk w5 Y (qe ⟨x.nd,a⟩).toArray 44:=xd hb5 (by simp [l,qe]);have aj:qb w w5:=C.ext hE (Nat.le_trans V.size hY);have ab:Own w.heap.size 3 1 w5 a ((x.nd.kids.map g).map encI):=L01.Own.same ho fun k ai=>C.block k (Ne.symm (qbs ho ag (by decide) ai));simp -implicitDefEqProofs;refine L01.qK (by simp [r4]) am (by simp [qe]) ?_;rw [←hRR];exact ⟨⟨⟨x.nd.d,x.nd.kids.map g⟩,a⟩,rfl,rfl,ab,aj⟩
structure OwnN (base:Nat) (W:World) (v:Value) (ys:List NV):Prop where
 own:Own base 44 6 W v (qZ ys)
 kid:∀y∈ys,Own base 3 1 W y.kv (y.nd.kids.map encI)
theorem OwnN.nil (base:Nat) (W:World):OwnN base W (.slice none 0 0) []:=⟨Own.nil _ _ _ _,fun _ h=>by cases h⟩
theorem OwnN.rd {base:Nat} {W:World} {v:Value} {ys:List NV} (h:OwnN base W v ys):Rd W v ys:=⟨L01.jO h.own,fun y a=>L01.jO (h.kid y a)⟩
theorem OwnN.ext {base:Nat} {W W':World} {v:Value} {ys:List NV} (h:OwnN base W v ys) (a:qb W W'):OwnN base W' v ys:=⟨h.own.ext a,fun y c=>(h.kid y c).ext a⟩
theorem OwnN.le {b c:Nat} {W:World} {v:Value} {ys:List NV} (h:OwnN c W v ys) (a:b≤c):OwnN b W v ys:=⟨Own.le h.own a,fun y e=>Own.le (h.kid y e) a⟩
theorem _root_.Go.Eng.Cells.sub {w:World} {v:Value} {sz:Nat} {xs:List Value} (h:Cells w v sz xs) {l r m:Nat} (g:l≤r) (p:r*sz≤xs.length) (o:r≤m) (k:m≤qo v):Cells w (qR v sz l r m) sz ((xs.take (r*sz)).drop (l*sz)):=by
 have c:((xs.take (r*sz)).drop (l*sz)).length=(r - l)*sz:=by simp only [List.length_drop,List.length_take];rw [Nat.min_eq_left p,Nat.sub_mul]
 refine ⟨QL h.is sz l r m g o k,by rw [Qr _ _ _ _ h.is,c],fun j a=> ?_⟩;have n:l<r:=by
  rcases Nat.lt_or_ge l r with h|h
  ·exact h
  ·rw [c,show r - l=0 by omega] at a;simp at a
 have e:=a;rw [c,Nat.sub_mul] at e;rw [qcr sz l r m j h.is (by omega) (by omega),h.cell (l*sz+j) (by omega)];simp
theorem qlp (xs:List NV) (r:Nat):(qZ xs).take (r*6)=qZ (xs.take r):=by
 induction xs generalizing r with
 |nil=>simp [qZ]
 |cons x xs c=>
  have e:qZ (x::xs)=qe x++qZ xs:=rfl;have a:(qe x).length=6:=rfl;cases r with
  |zero=>simp [qZ]
  |succ r=>
   rw [e,List.take_append,List.take_of_length_le (by omega),a,show (r+1)*6 - 6=r*6 by omega,c];rfl
theorem qlr (xs:List NV) (l:Nat):(qZ xs).drop (l*6)=qZ (xs.drop l):=by
 induction xs generalizing l with
 |nil=>simp [qZ]
 |cons x xs c=>
  have e:qZ (x::xs)=qe x++qZ xs:=rfl;have a:(qe x).length=6:=rfl;cases l with
  |zero=>simp [qZ]
  |succ l=>
   rw [e,List.drop_append,List.drop_eq_nil_of_le (by omega),a,show (l+1)*6 - 6=l*6 by omega,c];rfl
theorem Rd.sub {w:World} {v:Value} {xs:List NV} (h:Rd w v xs) {l r m:Nat} (a:l≤r) (j:r≤xs.length) (e:r≤m) (c:m≤qo v):Rd w (qR v 6 l r m) ((xs.take r).drop l):=by
 refine ⟨?_,fun x g=>h.kids x (List.mem_of_mem_take (List.mem_of_mem_drop g))⟩;have:=h.cells.sub a (by rw [z6];omega) e c
 rwa [qlp,qlr] at this
def qF (g:Int→Int) (x:Nd):Nd:=⟨x.d,x.kids.map g⟩
theorem qc0 {W0 W1 W:World} {g h:Value} {ys:List NV} {y:NV} (l:OwnN W0.heap.size W1 g ys) (k:Own W1.heap.size 3 1 W y.kv (y.nd.kids.map encI)) (e:W0.heap.size≤W1.heap.size) (m:qb W0 W)
  (j:Own W0.heap.size 44 6 W h (qZ ys++qe y)) (a:∀z∈ys,Own W0.heap.size 3 1 W z.kv (z.nd.kids.map encI)):OwnN W0.heap.size W h (ys++[y]):=by
 refine ⟨by rw [qc9];simpa [qZ] using j,fun z c=> ?_⟩;rcases List.mem_append.1 c with c|c
 ·exact a z c
 ·rw [List.mem_singleton.1 c];exact Own.le k e
theorem xw {b e sz n l sz':Nat} {w:World} {v j:Value} {xs ys:List Value} (h:Own b e sz w v xs) (p:Own n l sz' w j ys) (g:e≠l):v.ownBlock=none∨v.ownBlock≠j.ownBlock:=by
 cases u:v.ownBlock with
 |none=>exact .inl rfl
 |some k=>
  refine .inr fun o=> ?_;obtain ⟨c,m⟩:=Own.row h u;obtain ⟨x,a⟩:=Own.row p o.symm;rw [m] at a;cases a;exact g rfl
theorem wH {b e sz:Nat} {w w':World} {v:Value} {xs:List Value} {X T:Nat} {cs:Array Value} (a:Blk w X cs T) (h:Own b e sz w v xs) (g:T≠e) (j:w.grownBy w' v.ownBlock):Blk w' X cs T:=
 ⟨(j.block X a.lt fun c=>qbs h a g c.symm rfl).trans a.heap⟩
theorem qaf {y:NV} (h:qn y.kv=true):∀u∈qe y,u.oneCell'=true:=by
 intro u a;simp only [qe,List.mem_cons,List.mem_nil_iff,or_false] at a;rcases a with rfl|rfl|rfl|rfl|rfl|rfl<;>first|rfl|skip
 revert h
 cases y.kv<;>simp [Value.oneCell',qn]
mutual
theorem yZ:∀(u:T) (b c:Nat),(u.flat b).map (qF (· +(c:Int)))=u.flat (b+c)
 | .mk d ks,b,c=>by
  have a:=flats_shift ks b c;have e:=roots_shift ks b c;simp only [T.flat,List.map_append,a,List.map_cons,List.map_nil,qF,e]
theorem flats_shift:∀(a:List T) (b c:Nat),(flats b a).map (qF (· +(c:Int)))=flats (b+c) a
 |[],_,_=>rfl
 |u::a,b,c=>by
  simp only [flats,List.map_append];rw [yZ u b c,flats_shift a (b+u.size) c];congr 2;omega
theorem roots_shift:∀(a:List T) (b c:Nat),(qx b a).map (· +(c:Int))=qx (b+c) a
 |[],_,_=>rfl
 |u::a,b,c=>by
  simp only [qx,List.map_cons];rw [roots_shift a (b+u.size) c];congr 1
  ·push_cast;omega
  ·congr 1;omega
end
theorem qjM (f g:Int→Int) (x:Nd):qF f (qF g x)=qF (fun k=>f (g k)) x:=by simp [qF,Function.comp_def]
theorem qcv {f:Int→Int} {x:Nd} (h:∀k∈x.kids,f k=k):qF f x=x:=by
 obtain ⟨d,ks⟩:=x;simp only [qF,Nd.mk.injEq,true_and]
 conv=>rhs;rw [←List.map_id ks]
 exact List.map_congr_left h
theorem qrG (u:T) (c:Nat):(u.flat c).map (qF (· - (c:Int)))=u.flat 0:=by
 have h:=yZ u 0 c;rw [Nat.zero_add] at h;rw [←h,List.map_map]
 conv=>rhs;rw [←List.map_id (u.flat 0)]
 refine List.map_congr_left fun x _=> ?_;simp only [Function.comp_apply,qjM,id];exact qcv fun k _=>by omega
theorem jo.cut {l:List Nd} {i:Nat} {u:T} (h:jo l i u):(l.take (i+1)).drop (i+1 - u.size)=u.flat (i+1 - u.size):=by
 obtain ⟨a,post,rfl,h⟩:=h;have e:i+1 - u.size=a.length:=by omega
 rw [e,h,←List.append_assoc,List.take_append_of_le_length (by rw [List.length_append,T.flat_len];exact Nat.le_refl _),List.take_of_length_le (by rw [List.length_append,T.flat_len];exact Nat.le_refl _)];simp
section
variable {w:World} {lv:Value} {xs:List NV}
theorem z3':vL Tryz.prog 3=some #[.int .i64 0]:=by kernel_rfl
theorem qxe {W:World} {B:Nat} {f k:Int} (a:Blk W B #[.int .i64 f] 3) (h:0≤k∧k≤1000000) (g:0≤f∧f≤1000000):Calls Tryz.prog 105 #[.int .i64 k, .pointer (some ⟨B,0,none⟩)] W fun e w'=>e= .returned (.int .i64 (k - f))∧qb W w':=by
 have c0:W.cell? ⟨B,0,none⟩=some (.int .i64 f):=by rw [a.cell];rfl
 have c:IntKind.i64.wrap (k - f)=k - f:=qr (by omega);refine qCf fun ρ r0 r1=> ?_;simp -implicitDefEqProofs [qre,r0,r1,c0,c];exact qA _
theorem qbW {l:List Nd} {i:Int} (h:vk l i=0):zR l=true∧0≤i∧i.toNat<l.length∧(i.toNat:Int)=i∧∃t u:T,l=t.flat 0∧t.size≤400∧l.length=t.size∧jo l i.toNat u:=by
 unfold vk at h;split at h
 ·rename_i g;split at h
  ·rename_i k;obtain ⟨t,e,c⟩:=qio g;have a:l.length=t.size:=by rw [e,T.flat_len]
   obtain ⟨u,j⟩:=qEi t (i:=i.toNat) (by omega);rw [←e] at j;exact ⟨g,k.1,by omega,by omega,t,u,e,c,a,j⟩
  ·cases h
 ·cases h
theorem qlc (hG:L01.G w) (hM:zW w) (hR:Rd w lv xs) (hok:vA (xs.map (·.nd))) (i:Int):Calls Tryz.prog 43 #[lv, .int .i64 i] w fun e w'=>
  ∃v ys,e= .returned (.tuple #[v, .int .i64 (vk (xs.map (·.nd)) i)])∧OwnN w.heap.size w' v ys∧qb w w'∧(vk (xs.map (·.nd)) i≠0→ys=[])∧(vk (xs.map (·.nd)) i=0→∀u,jo (xs.map (·.nd)) i.toNat u→ys.map (·.nd)=u.flat 0):=by
 have hl:=hR.len;have his:=hR.cells.is;have hcap:=yV his;rw [hl] at hcap;generalize hRR:(fun (e:Ending) (w':World)=>∃v ys,e= .returned (.tuple #[v, .int .i64 (vk (xs.map (·.nd)) i)])∧OwnN w.heap.size w' v ys∧qb w w'∧(vk (xs.map (·.nd)) i≠0→ys=[])∧(vk (xs.map (·.nd)) i=0→∀u,jo (xs.map (·.nd)) i.toNat u→ys.map (·.nd)=u.flat 0))=R;refine qzi fun ρ r0 r1=> ?_;simp -implicitDefEqProofs [qnq,r0,r1];refine (qlb hG hM hR hok i).mono ?_;rintro _ w2 ⟨rfl,hE⟩;by_cases hb:vk (xs.map (·.nd)) i=0
 ·obtain ⟨hc,hi0,aa,hiz,t,u,ht,h400,hlen,hu⟩:=qbW hb;rw [List.length_map] at aa hlen;have hule:=hu.le;have hus:=u.size_pos;have hpk:jW (xs.map (·.nd))=true:=by rw [ht];exact qcV t
  have hkids:=qcU hpk;obtain ⟨n,hn⟩:∃n:Nat,i=(n:Int):=⟨i.toNat,hiz.symm⟩;subst hn;simp only [Int.toNat_natCast] at aa hu hule hiz;obtain ⟨f,hf⟩:∃f:Nat,f=n+1 - u.size:=⟨_,rfl⟩;have hw1:IntKind.i64.wrap ((n:Int)+1)=(n:Int)+1:=qr (by omega);have hwf:IntKind.i64.wrap ((n:Int)+1 - (u.size:Int))=(f:Int):=by rw [qr (by omega)];omega
  have hps:=qfS hR (by omega) u.size u n w2 hE (Nat.le_refl _) hu;have ae:=hu.cut;rw [←hf] at ae;simp -implicitDefEqProofs [hb,qnm,r0,r1,hw1];refine hps.mono ?_;rintro _ w3 ⟨rfl,hE3⟩;have hE03:=hE.trans' hE3;simp -implicitDefEqProofs [hwf];refine qT z3' fun F w4 hF c hb4 _=> ?_;simp -implicitDefEqProofs;refine qP (B:=F) (i:=0) (by simp) hb4 (by simp) (by simp [Value.cells]) (by simp) qch fun w5 hO5 hb5=> ?_;have A:Blk w5 F #[.int .i64 (f:Int)] 3:=xd hb5 (by simp);have hE05:qb w w5:=(hE03).trans' (hO5.ext c hF);have c0:w5.cell? ⟨F,0,none⟩=some (.int .i64 (f:Int)):=by rw [A.cell];rfl
  have H:=hR.sub (l:=f) (r:=n+1) (m:=qo lv) (by omega) (by omega) (by omega) (Nat.le_refl _);have hfn:(f:Int)≤(n:Int)+1:=by omega
  have hnc:(n:Int)+1≤(qo lv:Int):=by omega
  have hnt:((n:Int)+1).toNat=n+1:=by omega
  have hncN:n+1≤qo lv:=by omega
  have hfnN:f≤n+1:=by omega
  have hzk:∀z∈(xs.take (n+1)).drop f,z.nd.kids.length≤1000000∧∀k∈z.nd.kids,0≤k∧k≤1000000:=fun z hz=>by
   have hzx:z.nd∈xs.map (·.nd):=List.mem_map.2 ⟨z,List.mem_of_mem_take (List.mem_of_mem_drop hz),rfl⟩;refine ⟨hok.2 z.nd hzx,fun k hk=> ?_⟩;have:=hkids _ hzx k hk;rw [List.length_map] at this;omega
  have hzn:((xs.take (n+1)).drop f).map (·.nd)=u.flat f:=by rw [←ae,List.map_drop,List.map_take]
  have hzl:((xs.take (n+1)).drop f).length≤400:=by simp;omega
  have O:=H.cells.is;have U:=H.len;simp -implicitDefEqProofs [r0,r1,hw1,c0,his,hfn,hnc,hnt,hncN,hfnN,O,U];have hsl:qk (qR lv 6 f (n+1) (qo lv))=n+1 - f:=Qr _ _ _ _ his;have ab:((xs.take (n+1)).drop f).length=n+1 - f:=by simp;omega
  rw [←ab] at hsl;generalize (xs.take (n+1)).drop f=zs at H U hzk hzn hzl hsl ab;generalize hzv:qR lv 6 f (n+1) (qo lv)=zv at H O U hsl;have hln:((n+1 - f:Nat):Int)=(zs.length:Int):=by omega
  obtain ⟨I,hI⟩:∃I:Nat→qa→World→Prop,∀j o w',I j o w'↔(o 7= .pointer (some ⟨F,0,none⟩)∧o 27=zv∧o 28= .int .i64 (zs.length:Int)∧qb w w'∧Blk w' F #[.int .i64 (f:Int)] 3∧∃ys,OwnN w.heap.size w' (o 8) ys∧ys.length=j∧ys.map (·.nd)=(zs.take j).map (fun x=>qF (· - (f:Int)) x.nd)):=⟨_,fun _ _ _=>Iff.rfl⟩;refine js 29 zs.length I (by simp) ((hI _ _ _).2 ⟨by simp,by simp,by simp;try omega,hE05,A,[],by simpa using OwnN.nil _ _,rfl,by simp⟩) ?_;clear r0 r1 hb5 A c0;rintro j o w' hj rj hIw;obtain ⟨r7,r27,r28,hE,hbF,ys,V,hyl,hym⟩:=(hI _ _ _).1 hIw;have hwj:IntKind.i64.wrap ((j:Int)+1)=(j:Int)+1:=qr (by omega);generalize S:o 8=ov at V;by_cases p:j<zs.length
  ·have C:(j:Int)<(zs.length:Int):=by omega
   have ad:=H.ext hE;have ac:=ad.row p;have hk:=ad.kids zs[j] (List.getElem_mem _);have J:=jR hk.is;have hko:=vI hk.is;have hkb:=hzk _ (List.getElem_mem p);have htk:zs.take (j+1)=zs.take j++[zs[j]]:=List.take_succ_eq_append_getElem p;generalize zs[j]=x at ac hk J hko hkb htk;simp -implicitDefEqProofs [qgx,rj,r28,C,p,qno,r27,O,U,ac];refine qT wk fun X w3 hX hE3 hb3 _=> ?_;simp -implicitDefEqProofs;refine jn (B:=X) (by simp) hb3 (by simp [Value.cells,qe,J]) (by simp [Value.cells,qe,J,hko]) (by simpa [Value.cells,qe,J] using wv) fun w4 hO4 hb4=> ?_;have c:qb w' w4:=hO4.ext hE3 hX;have hb4':Blk w4 X (qe x).toArray 44:=by simpa [Value.cells,qe,J] using hb4
   have hrow4:Eng.jk w4 ⟨X,0,none⟩ 0 6=some (qe x):=by
    have:=xr hb4';simpa [qe] using this
   simp -implicitDefEqProofs [hrow4,S,r7];refine (qcY (x:=x) (F:=105) (caps:= #[.pointer (some ⟨F,0,none⟩)]) (g:=(· - (f:Int))) (hk.ext c) hkb.1 (by kernel_rfl) fun W5 hE5 k hk5=> ?_).mono ?_
   ·exact qxe (hbF.ext (c.trans' hE5)) (hkb.2 k hk5) (by omega)
   rintro _ w5 ⟨y,rfl,hyn,Z,hE5⟩;have hyc:(jf y).cells=(qe y).toArray:=zP Z.isl;simp -implicitDefEqProofs;refine jz qcs (by decide) (by decide) (by simp [hyc,qe]) fun Y w6 hY hE6 hb6 _=> ?_;simp [hyc] at hb6;have E:=(c.trans' hE5).trans' hE6;have a:=V.ext E;simp -implicitDefEqProofs [S];refine ku qcF (W0:=w) (hE.trans' E) (sv:=ov) (xv:= .slice (some ⟨Y,0,none⟩) 1 1) (by simp [S]) (by simp) a.own (Blk.cells (cs:=qe y) hb6 (by simp [qe])) (qaf Z.isl) (by rw [z6];simp [qe];omega) (by rw [z6];simp [qe];omega) fun v' w7 hE7 ho7 hg7 _=> ?_;have hkk:Own w4.heap.size 3 1 w7 y.kv (y.nd.kids.map encI):=Own.kept (Z.ext hE6) hg7 (xw (Z.ext hE6) a.own (by decide));have hny:=qc0 (V.ext c) hkk (hE.trans' c).size hE7 ho7 fun z hz=>Own.kept (a.kid z hz) hg7 (xw (a.kid z hz) a.own (by decide));simp -implicitDefEqProofs [qnp,rj,hwj,p];refine (hI _ _ _).2 ⟨by simp [r7],by simp [r27],by simp [r28],hE7,wH (hbF.ext E) a.own (by decide) hg7,ys++[y],by simpa using hny,by simp [hyl], ?_⟩;rw [List.map_append,hym,htk,List.map_append];simp [qF,hyn]
  ·have C:¬(j:Int)<(zs.length:Int):=by omega
   rw [List.take_of_length_le (by omega)] at hym;simp -implicitDefEqProofs [qgx,rj,r28,C,p,qnn,S];rw [←hRR];refine ⟨ov,ys,by rw [hb],V,hE,fun h=>absurd hb h,fun _ v hv=> ?_⟩;rw [Int.toNat_natCast] at hv;rw [hym,jo.uniq u.size (Nat.le_refl _) hu hv|>.symm];have e:zs.map (fun x=>qF (· - (f:Int)) x.nd)=(zs.map (·.nd)).map (qF (· - (f:Int))):=by rw [List.map_map];rfl
   rw [e,hzn,qrG]
 ·simp -implicitDefEqProofs [hb];rw [←hRR];exact ⟨_,[],rfl,OwnN.nil _ _,hE,fun _=>rfl,fun h=>absurd h hb⟩
end
end Go.L02
namespace Go.L02
open Go Go.Eng Go.RowKit
open Go.Proofs hiding encI
open Go.L01 (Bs Tok qK qh qi)
set_option maxRecDepth 100000
set_option maxHeartbeats 4000000
@[simp] theorem qHl:qg Tryz.prog 41=true:=by kernel_rfl
instance:Inhabited T:=⟨.mk {kind:=0} []⟩
noncomputable def qcl (l:List Nd) (i:Nat):T:=by
 classical
 exact if h:∃u,jo l i u then h.choose else default
theorem qck {l:List Nd} {i:Nat} {u:T} (h:jo l i u):qcl l i=u:=by
 have a:∃u,jo l i u:=⟨u,h⟩;unfold qcl;rw [dif_pos a];exact jo.uniq _ (Nat.le_refl _) a.choose_spec h
def z8 (f n m:Nat) (k:Int):Int:=if k<(f:Int) then k else k - n+m
def kp (l:List Nd) (f i n:Nat) (bs:List Nd):List Nd:=(l.take f).map (qF fun k=>k)++(bs.map (qF (· +(f:Int)))++(l.drop (i+1)).map (qF (z8 f n bs.length)))
noncomputable def vd (l:List Nd) (i:Nat) (bs:List Nd):List Nd:=kp l (i+1 - (qcl l i).size) i (qcl l i).size bs
noncomputable def jH (l:List Nd) (i:Int) (bs:List Nd):Int:=if vk l i≠0 then vk l i else if jW bs=false then 21 else qel (zR (vd l i.toNat bs))
section
variable {w:World} {lv bv:Value} {xs bs:List NV}
theorem qxh {W:World} {k:Int} (_:0≤k∧k≤1000000):Calls Tryz.prog 100 (#[.int .i64 k]++ #[]) W fun e w'=>e= .returned (.int .i64 k)∧qb W w':=by
 refine qCp fun ρ r0=> ?_;simp -implicitDefEqProofs [qrn,r0];exact qA _
theorem qxg {W:World} {B:Nat} {f k:Int} (a:Blk W B #[.int .i64 f] 3) (h:0≤k∧k≤1000000) (g:0≤f∧f≤1000000):Calls Tryz.prog 101 #[.int .i64 k, .pointer (some ⟨B,0,none⟩)] W fun e w'=>e= .returned (.int .i64 (k+f))∧qb W w':=by
 have c0:W.cell? ⟨B,0,none⟩=some (.int .i64 f):=by rw [a.cell];rfl
 have c:IntKind.i64.wrap (k+f)=k+f:=qr (by omega);refine qCn fun ρ r0 r1=> ?_;simp -implicitDefEqProofs [qrm,r0,r1,c0,c];exact qA _
theorem qxf {W:World} {F Nn Bb:Nat} {f n:Nat} {k:Int} (m:Blk W F #[.int .i64 (f:Int)] 3) (h:Blk W Nn #[.int .i64 (n:Int)] 3) (j:Blk W Bb #[bv] 29) (g:Rd w bv bs) (p:0≤k∧k≤1000000) (x:f≤1000000) (y:n≤1000000) (u:bs.length≤1000000) (_:True):
  Calls Tryz.prog 102 #[.int .i64 k, .pointer (some ⟨F,0,none⟩), .pointer (some ⟨Nn,0,none⟩), .pointer (some ⟨Bb,0,none⟩)] W fun e w'=>e= .returned (.int .i64 (z8 f n bs.length k))∧qb W w':=by
 have c0:W.cell? ⟨F,0,none⟩=some (.int .i64 (f:Int)):=by rw [m.cell];rfl
 have c1:W.cell? ⟨Nn,0,none⟩=some (.int .i64 (n:Int)):=by rw [h.cell];rfl
 have c2:W.cell? ⟨Bb,0,none⟩=some bv:=by rw [j.cell];rfl
 have l:=g.len;have o:IntKind.i64.wrap (k - (n:Int))=k - n:=qr (by omega);have a:IntKind.i64.wrap (k - (n:Int)+(bs.length:Int))=k - n+bs.length:=qr (by omega);unfold z8;refine qCl fun ρ r0 r1 r2 r3=> ?_;by_cases c:k<(f:Int)
 ·simp -implicitDefEqProofs [qhJ,r0,r1,c0,c];exact qA _
 ·simp -implicitDefEqProofs [qhJ,r0,r1,r2,r3,c0,c1,c2,c,qrl,o,a,g.cells.is,l];exact qA _
theorem qle (hG:L01.G w) (hM:zW w) (hR:Rd w lv xs) (hok:vA (xs.map (·.nd))) (hB0:Rd w bv bs) (hbok:vA (bs.map (·.nd))) (hbl:bs.length≤1000000) (i:Int):Calls Tryz.prog 41 #[lv, .int .i64 i,bv] w fun e w'=>
  ∃v ys,e= .returned (.tuple #[v, .int .i64 (jH (xs.map (·.nd)) i (bs.map (·.nd)))])∧OwnN w.heap.size w' v ys∧qb w w'∧ys.map (·.nd)=if jH (xs.map (·.nd)) i (bs.map (·.nd))=0 then vd (xs.map (·.nd)) i.toNat (bs.map (·.nd)) else []:=by
 have hl:=hR.len;have his:=hR.cells.is;have hlb:=hB0.len;have hisb:=hB0.cells.is;have hcap:=yV his;rw [hl] at hcap;have hbc:=jR hisb;generalize hRR:(fun (e:Ending) (w':World)=>∃v ys,e= .returned (.tuple #[v, .int .i64 (jH (xs.map (·.nd)) i (bs.map (·.nd)))])∧OwnN w.heap.size w' v ys∧qb w w'∧ys.map (·.nd)=if jH (xs.map (·.nd)) i (bs.map (·.nd))=0 then vd (xs.map (·.nd)) i.toNat (bs.map (·.nd)) else [])=R;refine qzm fun ρ r0 r1 r2=> ?_;simp -implicitDefEqProofs [qnH];refine vz fun Bb w1 hBb hE1 hb1 _=> ?_;have hb1':Blk w1 Bb #[bv] 29:=by simpa [r2,hbc] using hb1
 simp -implicitDefEqProofs [r0,r1];refine (qlb (hG.ext hE1) (hM.ext hE1) (hR.ext hE1) hok i).mono ?_;rintro _ w2 ⟨rfl,hE2⟩;have hE02:=hE1.trans' hE2;rcases Classical.em (vk (xs.map (·.nd)) i≠0) with hb|hb'
 ·have hg:jH (xs.map (·.nd)) i (bs.map (·.nd))=vk (xs.map (·.nd)) i:=by unfold jH;rw [if_pos hb]
  simp -implicitDefEqProofs [hb];rw [←hRR];exact ⟨_,[],by rw [hg],OwnN.nil _ _,hE02,by rw [hg,if_neg hb];rfl⟩
 have hb:vk (xs.map (·.nd)) i=0:=Classical.not_not.1 hb';obtain ⟨hc,hi0,hilt,hiz,t,u,ht,h400,hlen,hu⟩:=qbW hb;have cB2:w2.cell? ⟨Bb,0,none⟩=some bv:=by rw [(hb1'.ext hE2).cell];rfl
 simp -implicitDefEqProofs [hb,qnA,cB2];refine (qk6 (hB0.ext hE02) hbl fun x hx=>hbok.2 x.nd (List.mem_map.2 ⟨x,hx,rfl⟩)).mono ?_;rintro _ w3 ⟨rfl,hE3⟩;have hE03:=hE02.trans' hE3;cases hpb:jW (bs.map (·.nd)) with
 |false=>
  have hg:jH (xs.map (·.nd)) i (bs.map (·.nd))=21:=by unfold jH;rw [if_neg (fun h=>h hb),if_pos hpb]
  simp -implicitDefEqProofs;rw [←hRR];exact ⟨_,[],by rw [hg],OwnN.nil _ _,hE03,by rw [hg];rfl⟩
 |true=>
 have hgE:jH (xs.map (·.nd)) i (bs.map (·.nd))=qel (zR (vd (xs.map (·.nd)) i.toNat (bs.map (·.nd)))):=by unfold jH;rw [if_neg (fun h=>h hb),if_neg (by rw [hpb];decide)]
 have hgO:vd (xs.map (·.nd)) i.toNat (bs.map (·.nd))=kp (xs.map (·.nd)) (i.toNat+1 - u.size) i.toNat u.size (bs.map (·.nd)):=by unfold vd;rw [qck hu]
 generalize hEE:jH (xs.map (·.nd)) i (bs.map (·.nd))=E at hRR hgE;generalize hOO:vd (xs.map (·.nd)) i.toNat (bs.map (·.nd))=O at hRR hgE hgO;clear hEE;rw [List.length_map] at hilt hlen;have hule:=hu.le;have hus:=u.size_pos;have hpk:jW (xs.map (·.nd))=true:=by rw [ht];exact qcV t
 have hkids:=qcU hpk;have hkidb:=qcU hpb;obtain ⟨n,hn⟩:∃n:Nat,i=(n:Int):=⟨i.toNat,hiz.symm⟩;subst hn;simp only [Int.toNat_natCast] at hilt hu hule hiz hgO hOO;obtain ⟨f,hf⟩:∃f:Nat,f=n+1 - u.size:=⟨_,rfl⟩;rw [←hf] at hgO;have hw1:IntKind.i64.wrap ((n:Int)+1)=(n:Int)+1:=qr (by omega);have hwf:IntKind.i64.wrap ((n:Int)+1 - (u.size:Int))=(f:Int):=by rw [qr (by omega)];omega
 have hps:=qfS hR (by omega) u.size u n w3 hE03 (Nat.le_refl _) hu;have hxk:∀z∈xs,z.nd.kids.length≤1000000∧∀k∈z.nd.kids,0≤k∧k≤1000000:=fun z hz=>by
  have hzx:z.nd∈xs.map (·.nd):=List.mem_map.2 ⟨z,hz,rfl⟩;refine ⟨hok.2 z.nd hzx,fun k hk=> ?_⟩;have:=hkids _ hzx k hk;rw [List.length_map] at this;omega
 have hbk:∀z∈bs,z.nd.kids.length≤1000000∧∀k∈z.nd.kids,0≤k∧k≤1000000:=fun z hz=>by
  have hzx:z.nd∈bs.map (·.nd):=List.mem_map.2 ⟨z,hz,rfl⟩;refine ⟨hbok.2 z.nd hzx,fun k hk=> ?_⟩;have:=hkidb _ hzx k hk;rw [List.length_map] at this;omega
 simp -implicitDefEqProofs [qnB,r0,r1];refine hps.mono ?_;rintro _ w4 ⟨rfl,A⟩;have hE04:=hE03.trans' A;simp -implicitDefEqProofs;refine qT z3' fun Nn w4' hN hE4' hb4 _=> ?_;simp -implicitDefEqProofs;refine qP (B:=Nn) (i:=0) (by simp) hb4 (by simp) (by simp [Value.cells]) (by simp) qch fun w5 hO5 hb5=> ?_;have hbN4:Blk w5 Nn #[.int .i64 (u.size:Int)] 3:=xd hb5 (by simp);have hE04':qb w w5:=hE04.trans' (hO5.ext hE4' hN);have hE45:qb w4 w5:=hO5.ext hE4' hN;have cN:w5.cell? ⟨Nn,0,none⟩=some (.int .i64 (u.size:Int)):=by rw [hbN4.cell];rfl
 simp -implicitDefEqProofs [r0,r1,hw1,cN,hwf];refine qT z3' fun F w6 hF ab hb6 _=> ?_;simp -implicitDefEqProofs;refine qP (B:=F) (i:=0) (by simp) hb6 (by simp) (by simp [Value.cells]) (by simp) qch fun w7 hO7 hb7=> ?_;have hbF5:Blk w7 F #[.int .i64 (f:Int)] 3:=xd hb7 (by simp);have hE57:qb w5 w7:=hO7.ext ab hF;have hE05:qb w w7:=hE04'.trans' hE57;have hbN5:=hbN4.ext hE57;have hbB5:Blk w7 Bb #[bv] 29:=hb1'.ext ((((hE2.trans' hE3).trans' A).trans' hE45).trans' hE57);have c0:w7.cell? ⟨F,0,none⟩=some (.int .i64 (f:Int)):=by rw [hbF5.cell];rfl
 have hRz:=hR.sub (l:=0) (r:=f) (m:=qo lv) (by omega) (by omega) (by omega) (Nat.le_refl _);have hRt:=hR.sub (l:=n+1) (r:=xs.length) (m:=qo lv) (by omega) (by omega) (by omega) (Nat.le_refl _);have hfc:(f:Int)≤(qo lv:Int):=by omega
 have hfcN:f≤qo lv:=by omega
 have hnl:(n:Int)+1≤(xs.length:Int):=by omega
 have hnlN:n+1≤xs.length:=by omega
 have hnt:((n:Int)+1).toNat=n+1:=by omega
 have hisz:=hRz.cells.is;have hlz:=hRz.len;have hist:=hRt.cells.is;have hlt2:=hRt.len;rw [List.drop_zero] at hRz hlz;rw [List.take_of_length_le (Nat.le_refl _)] at hRt hlt2;have hmin:min f xs.length=f:=by omega
 simp -implicitDefEqProofs [r0,r1,c0,his,hfc,hfcN,hisz,hlz,hmin];have hslz:qk (qR lv 6 0 f (qo lv))=f:=by rw [Qr _ _ _ _ his];omega
 have hslt:qk (qR lv 6 (n+1) xs.length (qo lv))=xs.length - (n+1):=Qr _ _ _ _ his;have hzl:(xs.take f).length=f:=by simp;omega
 have htl:(xs.drop (n+1)).length=xs.length - (n+1):=by simp
 have hzk:∀z∈xs.take f,z.nd.kids.length≤1000000∧∀k∈z.nd.kids,0≤k∧k≤1000000:=fun z hz=>hxk z (List.mem_of_mem_take hz);have htk2:∀z∈xs.drop (n+1),z.nd.kids.length≤1000000∧∀k∈z.nd.kids,0≤k∧k≤1000000:=fun z hz=>hxk z (List.mem_of_mem_drop hz);have hO':O=((xs.take f).map (fun x=>qF (fun k=>k) x.nd))++(bs.map (fun x=>qF (· +(f:Int)) x.nd)++(xs.drop (n+1)).map (fun x=>qF (z8 f u.size bs.length) x.nd)):=by
  rw [hgO];unfold kp;rw [←List.map_take,←List.map_drop,List.map_map,List.map_map,List.map_map,List.length_map];rfl
 have hOk:vA O:=by
  rw [hO'];have key:∀(g:Int→Int) (z:NV),DOk z.nd.d→z.nd.kids.length≤1000000→DOk (qF g z.nd).d∧(qF g z.nd).kids.length≤1000000:=fun g z h1 h2=>⟨h1,by simpa [qF] using h2⟩;have all:∀x∈((xs.take f).map (fun x=>qF (fun k=>k) x.nd))++(bs.map (fun x=>qF (· +(f:Int)) x.nd)++(xs.drop (n+1)).map (fun x=>qF (z8 f u.size bs.length) x.nd)),DOk x.d∧x.kids.length≤1000000:=by
   intro x hx;simp only [List.mem_append,List.mem_map] at hx;rcases hx with ⟨z,hz,rfl⟩|⟨z,hz,rfl⟩|⟨z,hz,rfl⟩
   ·exact key _ z (hok.1 _ (List.mem_map.2 ⟨z,List.mem_of_mem_take hz,rfl⟩)) (hzk z hz).1
   ·exact key _ z (hbok.1 _ (List.mem_map.2 ⟨z,hz,rfl⟩)) (hbk z hz).1
   ·exact key _ z (hok.1 _ (List.mem_map.2 ⟨z,List.mem_of_mem_drop hz,rfl⟩)) (htk2 z hz).1
  exact ⟨fun x hx=>(all x hx).1,fun x hx=>(all x hx).2⟩
 generalize xs.take f=zs at hRz hlz hzk hslz hzl hO';generalize hzv:qR lv 6 0 f (qo lv)=zsv at hRz hisz hlz hslz;generalize xs.drop (n+1)=ts at hRt hlt2 htk2 hslt htl hO';generalize htv:qR lv 6 (n+1) xs.length (qo lv)=tsv at hRt hist hlt2 hslt;obtain ⟨bsv,hbsv⟩:∃z,z=bv:=⟨_,rfl⟩;obtain ⟨Ia,hIa⟩:∃I:Nat→qa→World→Prop,∀j c w',I j c w'↔(c 0=lv∧c 1= .int .i64 (n:Int)∧c 5= .pointer (some ⟨Bb,0,none⟩)∧c 9= .pointer (some ⟨Nn,0,none⟩)∧c 10= .pointer (some ⟨F,0,none⟩)∧c 36=zsv∧c 37= .int .i64 (zs.length:Int)∧qb w w'∧Blk w' Bb #[bv] 29∧Blk w' Nn #[.int .i64 (u.size:Int)] 3∧Blk w' F #[.int .i64 (f:Int)] 3∧∃ys,OwnN w.heap.size w' (c 11) ys∧ys.length=j∧ys.map (·.nd)=[]++(zs.take j).map (fun x=>qF (fun k=>k) x.nd)):=⟨_,fun _ _ _=>Iff.rfl⟩;refine js 38 zs.length Ia (by simp) ((hIa _ _ _).2 ⟨by simp [r0],by simp [r1],by simp,by simp,by simp,by simp,by simp<;>omega,hE05,hbB5,hbN5,hbF5,[],by simpa using OwnN.nil _ _,rfl,by simp⟩) ?_;clear r0 r1 hb7 c0;rintro j c w' hj rj hIw;obtain ⟨r0,r1,r5,r9,r10,r36,r37,hE,hbB,hbN,hbF,ys,U,hyl,C⟩:=(hIa _ _ _).1 hIw;have hwj:IntKind.i64.wrap ((j:Int)+1)=(j:Int)+1:=qr (by omega);generalize H:c 11=ov at U;by_cases S:j<zs.length
 ·have V:(j:Int)<(zs.length:Int):=by omega
  have ad:=hRz.ext hE;have ac:=ad.row S;have hk:=ad.kids zs[j] (List.getElem_mem _);have Z:=jR hk.is;have hko:=vI hk.is;have hkb:=hzk _ (List.getElem_mem S);have htk:zs.take (j+1)=zs.take j++[zs[j]]:=List.take_succ_eq_append_getElem S;generalize zs[j]=x at ac hk Z hko hkb htk;simp -implicitDefEqProofs [qgA,rj,r37,V,S,qnF,r36,hisz,hlz,ac];refine qT wk fun X w3 hX hE3 hb3 _=> ?_;simp -implicitDefEqProofs;refine jn (B:=X) (by simp) hb3 (by simp [Value.cells,qe,Z]) (by simp [Value.cells,qe,Z,hko]) (by simpa [Value.cells,qe,Z] using wv) fun w4 hO4 hb4=> ?_;have A:qb w' w4:=hO4.ext hE3 hX;have hb4':Blk w4 X (qe x).toArray 44:=by simpa [Value.cells,qe,Z] using hb4
  have hrow4:Eng.jk w4 ⟨X,0,none⟩ 0 6=some (qe x):=by
   have:=xr hb4';simpa [qe] using this
  simp -implicitDefEqProofs [hrow4,H,r5,r9,r10];refine (qcY (x:=x) (F:=100) (caps:= #[]) (g:=(fun k=>k)) (hk.ext A) hkb.1 (by kernel_rfl) fun W5 hE5 k hk5=> ?_).mono ?_
  ·exact qxh (hkb.2 k hk5)
  rintro _ w5 ⟨y,rfl,hyn,aa,hE5⟩;have hyc:(jf y).cells=(qe y).toArray:=zP aa.isl;simp -implicitDefEqProofs;refine jz qcs (by decide) (by decide) (by simp [hyc,qe]) fun Y w6 hY ab hb6 _=> ?_;simp [hyc] at hb6;have o:=(A.trans' hE5).trans' ab;have a:=U.ext o;simp -implicitDefEqProofs [H];refine ku qcF (W0:=w) (hE.trans' o) (sv:=ov) (xv:= .slice (some ⟨Y,0,none⟩) 1 1) (by simp [H]) (by simp) a.own (Blk.cells (cs:=qe y) hb6 (by simp [qe])) (qaf aa.isl) (by rw [z6];simp [qe];omega) (by rw [z6];simp [qe];omega) fun v' w7 hE7 ho7 J _=> ?_;have hkk:Own w4.heap.size 3 1 w7 y.kv (y.nd.kids.map encI):=Own.kept (aa.ext ab) J (xw (aa.ext ab) a.own (by decide));have hny:=qc0 (U.ext A) hkk (hE.trans' A).size hE7 ho7 fun z hz=>Own.kept (a.kid z hz) J (xw (a.kid z hz) a.own (by decide));simp -implicitDefEqProofs [qnG,rj,hwj,S];refine (hIa _ _ _).2 ⟨by simp [r0],by simp [r1],by simp [r5],by simp [r9],by simp [r10],by simp [r36],by simp [r37],hE7,wH (hbB.ext o) a.own (by decide) J,wH (hbN.ext o) a.own (by decide) J,wH (hbF.ext o) a.own (by decide) J,ys++[y],by simpa using hny,by simp [hyl];try omega, ?_⟩;rw [List.map_append,C,htk,List.map_append];simp [qF,hyn]
 ·have V:¬(j:Int)<(zs.length:Int):=by omega
  have hjl:j=zs.length:=by omega
  subst hjl;rw [List.take_of_length_le (by omega)] at C;simp -implicitDefEqProofs [qgA,rj,r37,V,qnC,r5];have cB:w'.cell? ⟨Bb,0,none⟩=some bv:=by rw [hbB.cell];rfl
  simp -implicitDefEqProofs [cB,hisb,hlb];obtain ⟨pre1,hp1⟩:∃p:List Nd,p=zs.map (fun x=>qF (fun k=>k) x.nd):=⟨_,rfl⟩;obtain ⟨p1,hq1⟩:∃p:Nat,p=zs.length:=⟨_,rfl⟩;rw [List.nil_append,←hp1] at C;rw [←hp1] at hO';rw [hbsv.symm] at hisb hlb hB0⊢;obtain ⟨Ib,hIb⟩:∃I:Nat→qa→World→Prop,∀j c w',I j c w'↔(c 0=lv∧c 1= .int .i64 (n:Int)∧c 5= .pointer (some ⟨Bb,0,none⟩)∧c 9= .pointer (some ⟨Nn,0,none⟩)∧c 10= .pointer (some ⟨F,0,none⟩)∧c 48=bsv∧c 49= .int .i64 (bs.length:Int)∧qb w w'∧Blk w' Bb #[bv] 29∧Blk w' Nn #[.int .i64 (u.size:Int)] 3∧Blk w' F #[.int .i64 (f:Int)] 3∧∃ys,OwnN w.heap.size w' (c 11) ys∧ys.length=p1+j∧ys.map (·.nd)=pre1++(bs.take j).map (fun x=>qF (· +(f:Int)) x.nd)):=⟨_,fun _ _ _=>Iff.rfl⟩;refine js 50 bs.length Ib (by simp) ((hIb _ _ _).2 ⟨by simp [r0],by simp [r1],by simp [r5],by simp [r9],by simp [r10],by simp,by simp,hE,hbB,hbN,hbF,ys,by simpa [H] using U,by omega,by simpa using C⟩) ?_;clear r0 r1 r5 r9 r10 H hbB hbN hbF U hyl C r36 r37 rj hIw hE;rintro j c w' hj rj hIw;obtain ⟨r0,r1,r5,r9,r10,r48,r49,hE,hbB,hbN,hbF,ys,U,hyl,C⟩:=(hIb _ _ _).1 hIw;have hwj:IntKind.i64.wrap ((j:Int)+1)=(j:Int)+1:=qr (by omega);generalize H:c 11=ov at U;by_cases S:j<bs.length
  ·have V:(j:Int)<(bs.length:Int):=by omega
   have ad:=hB0.ext hE;have ac:=ad.row S;have hk:=ad.kids bs[j] (List.getElem_mem _);have Z:=jR hk.is;have hko:=vI hk.is;have hkb:=hbk _ (List.getElem_mem S);have htk:bs.take (j+1)=bs.take j++[bs[j]]:=List.take_succ_eq_append_getElem S;generalize bs[j]=x at ac hk Z hko hkb htk;simp -implicitDefEqProofs [qgz,rj,r49,V,S,qny,r48,hisb,hlb,ac];refine qT wk fun X w3 hX hE3 hb3 _=> ?_;simp -implicitDefEqProofs;refine jn (B:=X) (by simp) hb3 (by simp [Value.cells,qe,Z]) (by simp [Value.cells,qe,Z,hko]) (by simpa [Value.cells,qe,Z] using wv) fun w4 hO4 hb4=> ?_;have A:qb w' w4:=hO4.ext hE3 hX;have hb4':Blk w4 X (qe x).toArray 44:=by simpa [Value.cells,qe,Z] using hb4
   have hrow4:Eng.jk w4 ⟨X,0,none⟩ 0 6=some (qe x):=by
    have:=xr hb4';simpa [qe] using this
   simp -implicitDefEqProofs [hrow4,H,r5,r9,r10];refine (qcY (x:=x) (F:=101) (caps:= #[.pointer (some ⟨F,0,none⟩)]) (g:=(· +(f:Int))) (hk.ext A) hkb.1 (by kernel_rfl) fun W5 hE5 k hk5=> ?_).mono ?_
   ·exact qxg (hbF.ext (A.trans' hE5)) (hkb.2 k hk5) (by omega)
   rintro _ w5 ⟨y,rfl,hyn,aa,hE5⟩;have hyc:(jf y).cells=(qe y).toArray:=zP aa.isl;simp -implicitDefEqProofs;refine jz qcs (by decide) (by decide) (by simp [hyc,qe]) fun Y w6 hY ab hb6 _=> ?_;simp [hyc] at hb6;have o:=(A.trans' hE5).trans' ab;have a:=U.ext o;simp -implicitDefEqProofs [H];refine ku qcF (W0:=w) (hE.trans' o) (sv:=ov) (xv:= .slice (some ⟨Y,0,none⟩) 1 1) (by simp [H]) (by simp) a.own (Blk.cells (cs:=qe y) hb6 (by simp [qe])) (qaf aa.isl) (by rw [z6];simp [qe];omega) (by rw [z6];simp [qe];omega) fun v' w7 hE7 ho7 J _=> ?_;have hkk:Own w4.heap.size 3 1 w7 y.kv (y.nd.kids.map encI):=Own.kept (aa.ext ab) J (xw (aa.ext ab) a.own (by decide));have hny:=qc0 (U.ext A) hkk (hE.trans' A).size hE7 ho7 fun z hz=>Own.kept (a.kid z hz) J (xw (a.kid z hz) a.own (by decide));simp -implicitDefEqProofs [qnz,rj,hwj,S];refine (hIb _ _ _).2 ⟨by simp [r0],by simp [r1],by simp [r5],by simp [r9],by simp [r10],by simp [r48],by simp [r49],hE7,wH (hbB.ext o) a.own (by decide) J,wH (hbN.ext o) a.own (by decide) J,wH (hbF.ext o) a.own (by decide) J,ys++[y],by simpa using hny,by simp [hyl];try omega, ?_⟩;rw [List.map_append,C,htk,List.map_append];simp [qF,hyn]
  ·have V:¬(j:Int)<(bs.length:Int):=by omega
   have hjl:j=bs.length:=by omega
   subst hjl;rw [List.take_of_length_le (by omega)] at C;simp -implicitDefEqProofs [qgz,rj,r49,V,qnD,r0,r1,hw1,his,hl,hnl,hnt,hnlN];simp -implicitDefEqProofs [htv,hist,hlt2];obtain ⟨pre2,hp2⟩:∃p:List Nd,p=pre1++bs.map (fun x=>qF (· +(f:Int)) x.nd):=⟨_,rfl⟩;obtain ⟨p2,hq2⟩:∃p:Nat,p=p1+bs.length:=⟨_,rfl⟩;rw [←hp2] at C;rw [←List.append_assoc,←hp2] at hO';obtain ⟨Ic,hIc⟩:∃I:Nat→qa→World→Prop,∀j c w',I j c w'↔(c 0=lv∧c 1= .int .i64 (n:Int)∧c 5= .pointer (some ⟨Bb,0,none⟩)∧c 9= .pointer (some ⟨Nn,0,none⟩)∧c 10= .pointer (some ⟨F,0,none⟩)∧c 64=tsv∧c 65= .int .i64 (ts.length:Int)∧qb w w'∧Blk w' Bb #[bv] 29∧Blk w' Nn #[.int .i64 (u.size:Int)] 3∧Blk w' F #[.int .i64 (f:Int)] 3∧∃ys,OwnN w.heap.size w' (c 11) ys∧ys.length=p2+j∧ys.map (·.nd)=pre2++(ts.take j).map (fun x=>qF (z8 f u.size bs.length) x.nd)):=⟨_,fun _ _ _=>Iff.rfl⟩;refine js 66 ts.length Ic (by simp) ((hIc _ _ _).2 ⟨by simp [r0],by simp [r1],by simp [r5],by simp [r9],by simp [r10],by simp,by simp;try omega,hE,hbB,hbN,hbF,ys,by simpa [H] using U,by omega,by simpa using C⟩) ?_;clear r0 r1 r5 r9 r10 H hbB hbN hbF U hyl C r48 r49 rj hIw hE;rintro j c w' hj rj hIw;obtain ⟨r0,r1,r5,r9,r10,r64,r65,hE,hbB,hbN,hbF,ys,U,hyl,C⟩:=(hIc _ _ _).1 hIw;have hwj:IntKind.i64.wrap ((j:Int)+1)=(j:Int)+1:=qr (by omega);generalize H:c 11=ov at U;by_cases S:j<ts.length
   ·have V:(j:Int)<(ts.length:Int):=by omega
    have ad:=hRt.ext hE;have ac:=ad.row S;have hk:=ad.kids ts[j] (List.getElem_mem _);have Z:=jR hk.is;have hko:=vI hk.is;have hkb:=htk2 _ (List.getElem_mem S);have htk:ts.take (j+1)=ts.take j++[ts[j]]:=List.take_succ_eq_append_getElem S;generalize ts[j]=x at ac hk Z hko hkb htk;simp -implicitDefEqProofs [qgy,rj,r65,V,S,qnw,r64,hist,hlt2,ac];refine qT wk fun X w3 hX hE3 hb3 _=> ?_;simp -implicitDefEqProofs;refine jn (B:=X) (by simp) hb3 (by simp [Value.cells,qe,Z]) (by simp [Value.cells,qe,Z,hko]) (by simpa [Value.cells,qe,Z] using wv) fun w4 hO4 hb4=> ?_;have A:qb w' w4:=hO4.ext hE3 hX;have hb4':Blk w4 X (qe x).toArray 44:=by simpa [Value.cells,qe,Z] using hb4
    have hrow4:Eng.jk w4 ⟨X,0,none⟩ 0 6=some (qe x):=by
     have:=xr hb4';simpa [qe] using this
    simp -implicitDefEqProofs [hrow4,H,r5,r9,r10];refine (qcY (x:=x) (F:=102) (caps:= #[.pointer (some ⟨F,0,none⟩), .pointer (some ⟨Nn,0,none⟩), .pointer (some ⟨Bb,0,none⟩)]) (g:=(z8 f u.size bs.length)) (hk.ext A) hkb.1 (by kernel_rfl) fun W5 hE5 k hk5=> ?_).mono ?_
    ·exact qxf (hbF.ext (A.trans' hE5)) (hbN.ext (A.trans' hE5)) (hbB.ext (A.trans' hE5)) (hbsv▸hB0) (hkb.2 k hk5) (by omega) (by omega) (by omega) (by omega)
    rintro _ w5 ⟨y,rfl,hyn,aa,hE5⟩;have hyc:(jf y).cells=(qe y).toArray:=zP aa.isl;simp -implicitDefEqProofs;refine jz qcs (by decide) (by decide) (by simp [hyc,qe]) fun Y w6 hY ab hb6 _=> ?_;simp [hyc] at hb6;have o:=(A.trans' hE5).trans' ab;have a:=U.ext o;simp -implicitDefEqProofs [H];refine ku qcF (W0:=w) (hE.trans' o) (sv:=ov) (xv:= .slice (some ⟨Y,0,none⟩) 1 1) (by simp [H]) (by simp) a.own (Blk.cells (cs:=qe y) hb6 (by simp [qe])) (qaf aa.isl) (by rw [z6];simp [qe];omega) (by rw [z6];simp [qe];omega) fun v' w7 hE7 ho7 J _=> ?_;have hkk:Own w4.heap.size 3 1 w7 y.kv (y.nd.kids.map encI):=Own.kept (aa.ext ab) J (xw (aa.ext ab) a.own (by decide));have hny:=qc0 (U.ext A) hkk (hE.trans' A).size hE7 ho7 fun z hz=>Own.kept (a.kid z hz) J (xw (a.kid z hz) a.own (by decide));simp -implicitDefEqProofs [qnx,rj,hwj,S];refine (hIc _ _ _).2 ⟨by simp [r0],by simp [r1],by simp [r5],by simp [r9],by simp [r10],by simp [r64],by simp [r65],hE7,wH (hbB.ext o) a.own (by decide) J,wH (hbN.ext o) a.own (by decide) J,wH (hbF.ext o) a.own (by decide) J,ys++[y],by simpa using hny,by simp [hyl];try omega, ?_⟩;rw [List.map_append,C,htk,List.map_append];simp [qF,hyn]
   ·have V:¬(j:Int)<(ts.length:Int):=by omega
    have hjl:j=ts.length:=by omega
    subst hjl;rw [List.take_of_length_le (by omega)] at C;simp -implicitDefEqProofs [qgy,rj,r65,V,qnE,H];rw [←hO'] at C;rw [←C] at hOk;refine (qlf (hG.ext hE) (hM.ext hE) U.rd (hOk.ds rfl) (hOk.kl rfl)).mono ?_;rintro _ w8 ⟨rfl,hE8⟩;rw [C] at hOk;rw [C];cases hcO:zR O with
    |false=>
     have hgE2:E=21:=by rw [hgE,hcO];rfl
     simp -implicitDefEqProofs;rw [←hRR];exact ⟨_,[],by rw [hgE2],OwnN.nil _ _,hE.trans' hE8,by rw [hgE2];rfl⟩
    |true=>
     have hgE2:E=0:=by rw [hgE,hcO];rfl
     simp -implicitDefEqProofs [qnv,H];rw [←hRR];exact ⟨ov,ys,by rw [hgE2],U.ext hE8,hE.trans' hE8,by rw [hgE2,if_pos rfl];exact C⟩
end
@[simp] theorem qG2:qg Tryz.prog 238=true:=by kernel_rfl
@[simp] theorem qHa:qg Tryz.prog 152=true:=by kernel_rfl
@[simp] theorem qGW:qg Tryz.prog 287=true:=by kernel_rfl
@[simp] theorem qG3:qg Tryz.prog 237=true:=by kernel_rfl
@[simp] theorem qG0:qg Tryz.prog 240=true:=by kernel_rfl
@[simp] theorem qG1:qg Tryz.prog 239=true:=by kernel_rfl
@[simp] theorem qGZ:qg Tryz.prog 241=true:=by kernel_rfl
@[simp] theorem qHc:qg Tryz.prog 150=true:=by kernel_rfl
@[simp] theorem qHb:qg Tryz.prog 151=true:=by kernel_rfl
section
variable {w:World}
theorem qwo (k:Nat):Calls Tryz.prog 152 #[.int .u8 (k:Int)] w fun e w'=>e= .returned (.bool (qj k))∧qb w w':=by
 refine qBz fun ρ r0=> ?_;have c:qj k=(decide (1≤k)&&decide (k≤10)):=rfl;have j:(1:Int)≤(k:Int)↔1≤k:=by omega
 have g:(k:Int)≤10↔k≤10:=by omega
 by_cases h:1≤k
 ·have a:(1:Int)≤(k:Int):=by omega
  simp -implicitDefEqProofs [qhn,r0,h,a,c,g];exact qA _
 ·have a:¬(1:Int)≤(k:Int):=by omega
  simp -implicitDefEqProofs [qhn,r0,h,a,c];exact qA _
theorem qwn (k:Nat):Calls Tryz.prog 287 #[.int .u8 (k:Int)] w fun e w'=>e= .returned (.bool (decide (21≤k)&&decide (k≤37)&&decide (k≠33)&&decide (k≠36)))∧qb w w':=by
 refine qzG fun ρ r0=> ?_;have m:(k:Int)≤37↔k≤37:=by omega
 have j:(k:Int)=33↔k=33:=by omega
 have c:(k:Int)=36↔k=36:=by omega
 have l:(21:Int)≤(k:Int)↔21≤k:=by omega
 by_cases g1:21≤k<;>by_cases h:k≤37<;>by_cases g:k=33<;>by_cases a:k=36<;>(simp -implicitDefEqProofs [qn4,r0,l,m,j,c,g1,h,g,a];try exact qA _)
theorem xS (a b:UInt8):((a.toNat:Int)=(b.toNat:Int))↔a=b:=by
 constructor
 ·intro h;apply UInt8.toNat_inj.1;omega
 ·rintro rfl;rfl
theorem Qj (a:UInt8) (n:Nat) (c:n<256):((a.toNat:Int)=(n:Int))↔a=UInt8.ofNat n:=by
 have:=xS a (UInt8.ofNat n);rw [←this];simp;omega
theorem qwj {x:NV} (hx:qn x.kv=true) (fs:Bs) (hfs:fs.length≤1000000):Calls Tryz.prog 238 #[jf x, .string (qc fs)] w fun e w'=>e= .returned (.bool (qI x.nd.d (fs.contains 110) (fs.contains 118) (fs.contains 116) (fs.contains 78)))∧qb w w':=by
 have hkc:=jR hx;have e0:(⟨#[]⟩:ByteArray)=qc []:=rfl;generalize A:(fun (e:Ending) (w':World)=>e= .returned (.bool (qI x.nd.d (fs.contains 110) (fs.contains 118) (fs.contains 116) (fs.contains 78)))∧qb w w')=R;refine qAh fun ρ r0 r1=> ?_;simp -implicitDefEqProofs [qoK];refine vz fun X w1 hX hE1 Z _=> ?_;rw [show qd ρ (.tmp 0)=jf x by simp [r0],zP hx] at Z;simp -implicitDefEqProofs;refine qP (B:=X) (i:=0) (by simp) Z (by simp [qe]) (by simp [Value.cells]) (by simp) (by kernel_rfl) fun w2 m k=> ?_;simp -implicitDefEqProofs;refine qP (B:=X) (i:=5) (by simp) k (by simp [qe]) (by simp [Value.cells]) (by simp) (by kernel_rfl) fun w3 hO3 Y=> ?_;simp -implicitDefEqProofs [qe,r1] at Y⊢;have hE3:qb w w3:=(m.trans hO3).ext hE1 hX;obtain ⟨I,hI⟩:∃I:Nat→qa→World→Prop,∀j U w',I j U w'↔(U 1= .string (qc fs)∧U 2= .pointer (some ⟨X,0,none⟩)∧qb w w'∧Blk w' X #[.int .u8 0, .string (qc (if (fs.take j).contains 110 then [] else x.nd.d.name)), .string (qc (if (fs.take j).contains 118 then [] else x.nd.d.vr)), .string (qc (if (fs.take j).contains 116 then [] else x.nd.d.typ)), .int .i64 (if (fs.take j).contains 78 then 0 else x.nd.d.n), .slice none 0 0] 44):=⟨_,fun _ _ _=>Iff.rfl⟩;refine js 5 fs.length I (by simp) ((hI _ _ _).2 ⟨by simp [r1],by simp,hE3,by simpa using Y⟩) ?_;clear r0 r1 Y k Z;rintro j U w' hj E hIw;obtain ⟨r1,r2,hE,hb⟩:=(hI _ _ _).1 hIw;have F:IntKind.i64.wrap ((j:Int)+1)=(j:Int)+1:=qr (by omega);by_cases a:j<fs.length
 ·have g:(j:Int)<(fs.length:Int):=by omega
  have hg:((qc fs)[j]'(by simpa using a))=fs[j]:=rfl;have hsz:j<(qc fs).size:=by simpa using a
  have htk:fs.take (j+1)=fs.take j++[fs[j]]:=List.take_succ_eq_append_getElem a;generalize fs[j]=c at hg htk;have J:∀b:UInt8,b∈fs.take (j+1)↔(b∈fs.take j∨b=c):=fun b=>by
   rw [htk];simp
  have C:=Qj c 110 (by decide);have O:=Qj c 118 (by decide);have H:=Qj c 116 (by decide);have h78:=Qj c 78 (by decide);simp at C O H h78;have S:w.heap.size≤X:=by have:=hE1.size;omega
  by_cases y:c=110
  ·have l:(c.toNat:Int)=110:=C.2 y;simp -implicitDefEqProofs [QP,E,r1,g,a,qal,hg,l,r2];refine qP (B:=X) (i:=1) (by simp) hb (by simp) (by simp [Value.cells]) (by simp) (by kernel_rfl) fun w2 m k=> ?_;simp -implicitDefEqProofs [qam,E,F,a];refine (hI _ _ _).2 ⟨by simp [r1],by simp [r2],m.ext hE S,xd k ?_⟩;simp [J,y,e0]
  ·have l:¬(c.toNat:Int)=110:=fun h=>y (C.1 h);by_cases z:c=118
   ·have o:(c.toNat:Int)=118:=O.2 z;simp -implicitDefEqProofs [QP,E,r1,g,a,qal,hg,l,o,r2];refine qP (B:=X) (i:=2) (by simp) hb (by simp) (by simp [Value.cells]) (by simp) (by kernel_rfl) fun w2 m k=> ?_;simp -implicitDefEqProofs [qam,E,F,a];refine (hI _ _ _).2 ⟨by simp [r1],by simp [r2],m.ext hE S,xd k ?_⟩;simp [J,z,e0]
   ·have o:¬(c.toNat:Int)=118:=fun h=>z (O.1 h);by_cases p:c=116
    ·have u:(c.toNat:Int)=116:=H.2 p;simp -implicitDefEqProofs [QP,E,r1,g,a,qal,hg,l,o,u,r2];refine qP (B:=X) (i:=3) (by simp) hb (by simp) (by simp [Value.cells]) (by simp) (by kernel_rfl) fun w2 m k=> ?_;simp -implicitDefEqProofs [qam,E,F,a];refine (hI _ _ _).2 ⟨by simp [r1],by simp [r2],m.ext hE S,xd k ?_⟩;simp [J,p,e0]
    ·have u:¬(c.toNat:Int)=116:=fun h=>p (H.1 h);by_cases V:c=78
     ·have d78:(c.toNat:Int)=78:=h78.2 V;simp -implicitDefEqProofs [QP,E,r1,g,a,qal,hg,l,o,u,d78,r2];refine qP (B:=X) (i:=4) (by simp) hb (by simp) (by simp [Value.cells]) (by simp) (by kernel_rfl) fun w2 m k=> ?_;simp -implicitDefEqProofs [qam,E,F,a];refine (hI _ _ _).2 ⟨by simp [r1],by simp [r2],m.ext hE S,xd k ?_⟩;simp [J,V,e0]
     ·have d78:¬(c.toNat:Int)=78:=fun h=>V (h78.1 h);simp -implicitDefEqProofs [QP,E,r1,g,a,qal,hg,l,o,u,d78,r2];simp -implicitDefEqProofs [qam,E,F,a];refine (hI _ _ _).2 ⟨by simp [r1],by simp [r2],hE,xd hb ?_⟩;simp [J,Ne.symm y,Ne.symm z,Ne.symm p,Ne.symm V]
 ·have g:¬(j:Int)<(fs.length:Int):=by omega
  rw [List.take_of_length_le (by omega)] at hb;have cX:∀q,w'.cell? ⟨X,q,none⟩=[Value.int .u8 0, .string (qc (if fs.contains 110 then [] else x.nd.d.name)), .string (qc (if fs.contains 118 then [] else x.nd.d.vr)), .string (qc (if fs.contains 116 then [] else x.nd.d.typ)), .int .i64 (if fs.contains 78 then 0 else x.nd.d.n), .slice none 0 0][q]? :=fun q=>by rw [hb.cell];simp
  unfold qI at A;generalize fs.contains 110=b1 at cX A;generalize fs.contains 118=b2 at cX A;generalize fs.contains 116=b3 at cX A;generalize fs.contains 78=b4 at cX A;simp -implicitDefEqProofs [QP,E,r1,g,a,qoJ,r2,cX,e0,jp];rw [←A];refine ⟨?_,hE⟩;have e4:((if b4=true then (0:Int) else x.nd.d.n)==0)=(b4||decide (x.nd.d.n=0)):=by
   cases b4 with
   |true=>rfl
   |false=>exact Bool.eq_iff_iff.2 (by simp)
  rw [e4]
theorem qwq (a p:Bs) (ha:a.length≤1000000):Calls Tryz.prog 240 #[.string (qc a), .string (qc p)] w fun e w'=>e= .returned (.bool (jt a p))∧qb w w':=by
 have m:∀(a p:Bs),jt a p=true→a.length=p.length:=by
  intro a
  induction a with
  |nil=>intro p h;cases p<;>simp [jt] at h⊢
  |cons x a ih=>intro p h;cases p with
   |nil=>simp [jt] at h
   |cons y p=>simp only [jt,Bool.and_eq_true] at h;simp [ih p h.2]
 generalize k:jt a p=b;generalize C:(fun (e:Ending) (w':World)=>e= .returned (.bool b)∧qb w w')=R;refine qAc fun ρ r0 r1=> ?_;by_cases S:a.length=p.length
 ·simp -implicitDefEqProofs [qgS,r0,r1,S,qoB];obtain ⟨I,Z⟩:∃I:Nat→qa→World→Prop,∀j o w',I j o w'↔(o 0= .string (qc a)∧o 1= .string (qc p)∧qb w w'∧jt (a.drop j) (p.drop j)=b):=⟨_,fun _ _ _=>Iff.rfl⟩;refine js 5 p.length I (by simp) ((Z _ _ _).2 ⟨by simp [r0],by simp [r1],qA _,k⟩) ?_;clear r0 r1 k;rintro j o w' hj rj ab;obtain ⟨r0,r1,V,k⟩:=(Z _ _ _).1 ab;have hwj:IntKind.i64.wrap ((j:Int)+1)=(j:Int)+1:=qr (by omega);by_cases l:j<p.length
  ·have n:(j:Int)<(p.length:Int):=by omega
   have A:j<a.length:=by omega
   have hla':(j:Int)<(a.length:Int):=by omega
   have U:((qc a)[j]'(by simpa using A))=a[j]:=rfl;have F:((qc p)[j]'(by simpa using l))=p[j]:=rfl;have hsa:j<(qc a).size:=by simpa using A
   have hsp:j<(qc p).size:=by simpa using l
   rw [List.drop_eq_getElem_cons A,List.drop_eq_getElem_cons l,jt] at k;generalize a[j]=x at U k;generalize p[j]=y at F k;have aa:=xS x y;have O:=Qj x 99 (by decide);have z:=Qj y 101 (by decide);simp at O z;have step:∀u,qb w u→qdI.wp ⟨Tryz.prog,36,QO,[]⟩ (qdH.wp ⟨Tryz.prog,36,QO,[]⟩ (fun c E=>c 5= .int .i64 ((j:Int)+1)∧I (j+1) c E) ((je [.tmp 4] R).blk 0 (qbH.wp ⟨Tryz.prog,36,QO,[]⟩ (qC [.tmp 4] R) (je [.tmp 4] R)))) (((je [.tmp 4] R).blk 0 (qbH.wp ⟨Tryz.prog,36,QO,[]⟩ (qC [.tmp 4] R) (je [.tmp 4] R))).blk 1 (qdH.wp ⟨Tryz.prog,36,QO,[]⟩ (fun c E=>c 5= .int .i64 ((j:Int)+1)∧I (j+1) c E) ((je [.tmp 4] R).blk 0 (qbH.wp ⟨Tryz.prog,36,QO,[]⟩ (qC [.tmp 4] R) (je [.tmp 4] R))))) (qt (qt o 14 (.bool true)) 35 (.bool (!zD x y))) u:=by
    intro u g;cases hc:zD x y with
    |true=>
     rw [hc,Bool.true_and] at k;simp -implicitDefEqProofs [qdI,qdH,rj,hwj];exact (Z _ _ _).2 ⟨by simp [r0],by simp [r1],g,k⟩
    |false=>
     rw [hc,Bool.false_and] at k;simp -implicitDefEqProofs [qdI];rw [←C,←k];exact ⟨rfl,g⟩
   simp -implicitDefEqProofs [qgR,rj,r0,r1,S,n,l,qoC,U,F,aa,O,z];by_cases g1:x=y
   ·have H:zD x y=true:=by simp [zD,g1]
    rw [if_pos g1];rw [H] at step;exact fun u g=>step u (V.trans' g)
   ·rw [if_neg g1];by_cases J:x=99
    ·rw [if_pos J];have H:zD x y=decide (y=101):=by simp [zD,g1,J];exact fun e=>absurd (J.trans e) g1
     have hv:(!((y.toNat:Int) !=101))=decide (y=101):=by
      rw [Bool.eq_iff_iff];simp;omega
     rw [H,←hv,Bool.not_not] at step;exact fun u g=>step u (V.trans' g)
    ·have H:zD x y=false:=by simp [zD,g1,J]
     rw [if_neg J];rw [H] at step;exact fun u g=>step u (V.trans' g)
  ·have n:¬(j:Int)<(p.length:Int):=by omega
   rw [List.drop_eq_nil_of_le (by omega),List.drop_eq_nil_of_le (by omega)] at k;simp -implicitDefEqProofs [qgR,rj,r0,S,n,l,qbH];rw [←C,←k];exact ⟨rfl,V⟩
 ·have Y:b=false:=by
   cases b with
   |false=>rfl
   |true=>exact absurd (m a p k) S
  simp -implicitDefEqProofs [qgS,r0,r1,S];rw [←C,Y];exact ⟨rfl,qA _⟩
theorem qws (a c:Bs) (ha:a.length≤1000000) (hso:c.length≤1000000):Calls Tryz.prog 239 #[.string (qc a), .string (qc c)] w fun e w'=>e= .returned (.bool (xD a c))∧qb w w':=by
 generalize H:(fun (e:Ending) (w':World)=>e= .returned (.bool (xD a c))∧qb w w')=R;refine qAf fun ρ r0 r1=> ?_;simp -implicitDefEqProofs [qoI];obtain ⟨I,hI⟩:∃I:Nat→qa→World→Prop,∀j g w',I j g w'↔(g 0= .string (qc a)∧g 1= .string (qc c)∧qb w w'∧(a.take j).all c.contains=true):=⟨_,fun _ _ _=>Iff.rfl⟩;refine js 5 a.length I (by simp) ((hI _ _ _).2 ⟨by simp [r0],by simp [r1],qA _,by simp⟩) ?_;clear r0 r1;rintro j g w' hj Z hIw;obtain ⟨r0,r1,z,n⟩:=(hI _ _ _).1 hIw;have hwj:IntKind.i64.wrap ((j:Int)+1)=(j:Int)+1:=qr (by omega);by_cases m:j<a.length
 ·have l:(j:Int)<(a.length:Int):=by omega
  have V:((qc a)[j]'(by simpa using m))=a[j]:=rfl;have hsa:j<(qc a).size:=by simpa using m
  have Y:a.take (j+1)=a.take j++[a[j]]:=List.take_succ_eq_append_getElem m;have u:a[j]∈a:=List.getElem_mem _;generalize a[j]=x at V Y u;simp -implicitDefEqProofs [qgT,Z,r0,l,m,qoG];obtain ⟨J,hJ⟩:∃J:Nat→qa→World→Prop,∀q g w',J q g w'↔(g 0= .string (qc a)∧g 1= .string (qc c)∧g 5= .int .i64 (j:Int)∧g 6= .bool ((c.take q).contains x)∧qb w w'):=⟨_,fun _ _ _=>Iff.rfl⟩;refine js 7 c.length J (by simp) ((hJ _ _ _).2 ⟨by simp [r0],by simp [r1],by simp [Z],by simp,z⟩) ?_;clear r0 r1 Z z;rintro q ρ2 w2 hq F hJw;obtain ⟨s0,C,s5,p,z⟩:=(hJ _ _ _).1 hJw;have S:IntKind.i64.wrap ((q:Int)+1)=(q:Int)+1:=qr (by omega);by_cases h:q<c.length
  ·have k:(q:Int)<(c.length:Int):=by omega
   have U:((qc c)[q]'(by simpa using h))=c[q]:=rfl;have hss:q<(qc c).size:=by simpa using h
   have O:c.take (q+1)=c.take q++[c[q]]:=List.take_succ_eq_append_getElem h;generalize c[q]=y at U O;have hxy:=xS x y;have o:(c.take (q+1)).contains x=((c.take q).contains x||decide (x=y)):=by
    rw [O,Bool.eq_iff_iff];simp
   cases A:(c.take q).contains x with
   |true=>
    rw [A] at p o;simp -implicitDefEqProofs [qbI,F,C,k,h,qgV,p];intro w3 E;simp -implicitDefEqProofs [qgW,F,S,h];exact (hJ _ _ _).2 ⟨by simp [s0],by simp [C],by simp [s5],by rw [o];simp,z.trans' E⟩
   |false=>
    rw [A] at p o;simp -implicitDefEqProofs [qbI,F,s0,C,s5,k,h,l,m,qgV,p,V,U];intro w3 E;simp -implicitDefEqProofs [qgW,F,S,h];refine (hJ _ _ _).2 ⟨by simp [s0],by simp [C],by simp [s5], ?_,z.trans' E⟩;rw [o,Bool.false_or];simp;rw [Bool.eq_iff_iff];simp;exact UInt8.toNat_inj
  ·have k:¬(q:Int)<(c.length:Int):=by omega
   rw [List.take_of_length_le (by omega)] at p;cases A:c.contains x with
   |true=>
    rw [A] at p;simp -implicitDefEqProofs [qbI,F,C,k,h,qgU,p,qoH,s5,hwj];refine (hI _ _ _).2 ⟨by simp [s0],by simp [C],z, ?_⟩;rw [Y,List.all_append,n];simpa using A
   |false=>
    rw [A] at p;simp -implicitDefEqProofs [qbI,F,C,k,h,qgU,p];rw [←H];refine ⟨?_,z⟩;congr 2
    symm
    unfold xD;rw [List.all_eq_false];exact ⟨x,u,by simpa using A⟩
 ·have l:¬(j:Int)<(a.length:Int):=by omega
  rw [List.take_of_length_le (by omega)] at n;simp -implicitDefEqProofs [qgT,Z,r0,l,m,qoF];rw [←H];exact ⟨by unfold xD;rw [n],z⟩
theorem qwh:Calls Tryz.prog 150 #[] w fun e w'=>∃v,e= .returned v∧Own w.heap.size 9 1 w' v (Qs.map qi)∧qb w w':=by
 refine qBD fun ρ=> ?_;simp -implicitDefEqProofs [qql];refine jz wY (by decide) (by decide) (by simp [Value.cells]) fun X j h g a _=> ?_;simp [Value.cells] at a;have c:Blk j X (Qs.map qi).toArray 9:=xd a rfl;simp -implicitDefEqProofs;exact ⟨Own.lit (n:=7) (sz:=1) c (by decide) h (by decide),g⟩
theorem qwe:Calls Tryz.prog 151 #[] w fun e w'=>∃v,e= .returned v∧Own w.heap.size 9 1 w' v (Qi.map qi)∧qb w w':=by
 refine qBB fun ρ=> ?_;simp -implicitDefEqProofs [qqk];refine jz wY (by decide) (by decide) (by simp [Value.cells]) fun X j h g a _=> ?_;simp [Value.cells] at a;have c:Blk j X (Qi.map qi).toArray 9:=xd a rfl;simp -implicitDefEqProofs;exact ⟨Own.lit (n:=3) (sz:=1) c (by decide) h (by decide),g⟩
theorem qxy (s:Bs):(Qs++Qi).contains s=kZ.contains s:=by
 rw [Bool.eq_iff_iff];simp [Qs,Qi,kZ];constructor<;>intro h<;>(rcases h with h|h|h|h|h|h|h|h|h|h<;>simp [h])
theorem qwk (s:Bs):Calls Tryz.prog 241 #[.string (qc s)] w fun e w'=>e= .returned (.bool (kZ.contains s))∧qb w w':=by
 rw [←qxy s];generalize k:(fun (e:Ending) (w':World)=>e= .returned (.bool ((Qs++Qi).contains s))∧qb w w')=R;refine qAa fun ρ r0=> ?_;simp -implicitDefEqProofs [qoA];refine qwh.mono ?_;rintro _ w1 ⟨v1,rfl,S,V⟩;simp -implicitDefEqProofs;refine qwe.mono ?_;rintro _ w2 ⟨Z,rfl,U,y⟩;simp -implicitDefEqProofs;refine ku qkt (W0:=w) (V.trans' y) (sv:=v1) (xv:=Z) (by simp) (by simp) (S.ext y) (L01.jO U) (by simp [qi,Value.oneCell']) (by decide) (by decide) fun v w3 u A _ _=> ?_;rw [←List.map_append] at A;have l:=A.isl;have m:qk v=10:=by have:=(L01.jO A).len;simpa [Qs,Qi] using this.symm
 simp -implicitDefEqProofs;generalize Y:Qs++Qi=W at k A;have aa:W.length=10:=by rw [←Y];rfl
 obtain ⟨I,F⟩:∃I:Nat→qa→World→Prop,∀j c w',I j c w'↔(c 0= .string (qc s)∧c 3=v∧qb w3 w'∧∀x∈W.take j,x≠s):=⟨_,fun _ _ _=>Iff.rfl⟩;refine js 4 10 I (by simp) ((F _ _ _).2 ⟨by simp [r0],by simp,qA _,by simp⟩) ?_;clear r0;rintro j c w' hj J H;obtain ⟨r0,r3,C,n⟩:=(F _ _ _).1 H;have O:IntKind.i64.wrap ((j:Int)+1)=(j:Int)+1:=qr (by omega);by_cases g:j<10
 ·have a:(j:Int)<10:=by omega
  have z:j<W.length:=by omega
  have o:=(L01.jO (A.ext C)).cell j (by simpa using z);simp only [List.getElem_map,qi] at o;by_cases E:W[j]=s
  ·simp -implicitDefEqProofs [qdG,J,r3,l,m,a,g,qgQ,o,r0,jp,E];rw [←k];refine ⟨?_,u.trans' C⟩;have:W.contains s=true:=List.contains_iff_mem.2 (by rw [←E];exact List.getElem_mem _);rw [this]
  ·simp -implicitDefEqProofs [qdG,J,r3,l,m,a,g,qgQ,o,r0,jp,E,qoz,O];refine (F _ _ _).2 ⟨by simp [r0],by simp [r3],C,fun x p=> ?_⟩;rw [List.take_succ_eq_append_getElem z] at p;rcases List.mem_append.1 p with h|h
   ·exact n x h
   ·rw [List.mem_singleton.1 h];exact E
 ·have a:¬(j:Int)<10:=by omega
  rw [List.take_of_length_le (by omega)] at n;simp -implicitDefEqProofs [qdG,J,r3,l,m,a,g,qoy];rw [←k];refine ⟨?_,u.trans' C⟩;have:W.contains s=false:=by
   cases o:W.contains s with
   |false=>rfl
   |true=>exact absurd rfl (n s (List.contains_iff_mem.1 o))
  rw [this]
end
section
variable {w:World} {lv:Value} {xs:List NV}
def oK:xQ
 |152,[.int .u8 k]=>if 0≤k then some (.bool (qj k.toNat)) else none
 |287,[.int .u8 k]=>if 0≤k then some (.bool (decide (21≤k.toNat)&&decide (k.toNat≤37)&&decide (k.toNat≠33)&&decide (k.toNat≠36))) else none
 |_,_=>none
theorem qxH (w0:World):Qg Tryz.prog oK w0:=by
 intro f l v h;unfold oK at h;split at h
 ·rename_i k;split at h
  ·rename_i a;obtain ⟨n,rfl⟩:=Int.eq_ofNat_of_zero_le a;cases h;exact ⟨by simp,fun W _=>by simpa using qwo (w:=W) n⟩
  ·cases h
 ·rename_i k;split at h
  ·rename_i a;obtain ⟨n,rfl⟩:=Int.eq_ofNat_of_zero_le a;cases h;exact ⟨by simp,fun W _=>by simpa using qwn (w:=W) n⟩
  ·cases h
 ·cases h
theorem qDt (s:Bs) (n:Nat):(qc s).extract 0 n=qc (s.take n):=by
 apply ByteArray.ext;apply Array.ext';show ((qc s).extract 0 n).data.toList=_;simp [qc]
theorem qr9 (s:Bs) (k:Nat):(qc s).extract k s.length=qc (s.drop k):=L01.qbS s k
theorem qwm (hR:Rd w lv xs) {x:NV} (hx:Cells w x.kv 1 (x.nd.kids.map encI)) (hin:∀k∈x.nd.kids,0≤k∧k<xs.length) (hlen:x.nd.kids.length≤1000000) (hxl:xs.length≤1000000):
  Calls Tryz.prog 237 #[lv,jf x] w fun e w'=>e= .returned (.string (qc (jE (xs.map (·.nd)) x.nd)))∧qb w w':=by
 generalize Y:(fun (e:Ending) (w':World)=>e= .returned (.string (qc (jE (xs.map (·.nd)) x.nd)))∧qb w w')=R;refine qAj fun ρ r0 r1=> ?_;simp only [qoN,qeJ,qiL,qeI,gd,if_true];refine vz fun X V hX C H _=> ?_;rw [show qd ρ (.tmp 1)=jf x by simp [r1],zP hx.is] at H;have cX:∀q,V.cell? ⟨X,q,none⟩=(qe x)[q]? :=fun q=>by rw [H.cell];simp
 have z:=hR.ext C;have A:=hx.ext C;have O:qk x.kv=x.nd.kids.length:=by have:=hx.len;simpa using this.symm
 refine qkR (cx:=⟨Tryz.prog,57,qoM,[]⟩) (a:= .seq (.block 0 (.loop qdJ)) qdK) (qxH _) (qA V) (fun ρ=>ρ 4= .string (qc (jE (xs.map (·.nd)) x.nd))) (fun l w' hE hT=> ?_) ?_
 ·rw [qkw,←Y,hT];exact ⟨rfl,C.trans' hE⟩
 simp -implicitDefEqProofs;obtain ⟨I,Z⟩:∃I:Nat→qa→Prop,∀j l,I j l↔(l 0=lv∧l 3= .pointer (some ⟨X,0,none⟩)∧l 5= .string (qc ((x.nd.kids.take j).map fun k=>jv (jj (xs.map (·.nd)) k)))):=⟨_,fun _ _=>Iff.rfl⟩;refine qlB 6 x.nd.kids.length I (by simp) ((Z _ _).2 ⟨by simp [r0],by simp,by simp;rfl⟩) ?_;clear r0 r1;rintro j l hj p hIw;obtain ⟨r0,r3,r5⟩:=(Z _ _).1 hIw;have ab:IntKind.i64.wrap ((j:Int)+1)=(j:Int)+1:=qr (by omega);simp only [qe] at cX;by_cases h:j<x.nd.kids.length
 ·have o:(j:Int)<(x.nd.kids.length:Int):=by omega
  have hc:=A.cell j (by simpa using h);simp only [List.getElem_map,encI] at hc;have S:x.nd.kids.take (j+1)=x.nd.kids.take j++[x.nd.kids[j]]:=List.take_succ_eq_append_getElem h;have m:=hin _ (List.getElem_mem h);generalize x.nd.kids[j]=k at hc S m;obtain ⟨n,rfl⟩:=Int.eq_ofNat_of_zero_le m.1;have hn:n<xs.length:=by omega
  have E:=z.cell (k:=n) (j:=0) hn (by omega);have hK:=qlQ m;simp only [Int.toNat_natCast] at hK;have hlK:((x.nd.kids.take j).map fun k=>jv (jj (xs.map (·.nd)) k)).length≤1000000:=by simp;omega
  generalize hpr:((x.nd.kids.take j).map fun k=>jv (jj (xs.map (·.nd)) k))=pr at r5 hlK;have u:((x.nd.kids.take (j+1)).map fun k=>jv (jj (xs.map (·.nd)) k))=pr++[jv (xs[n].nd.d.kind)]:=by
   rw [S,List.map_append,hpr];simp [hK]
  simp [qe] at E;generalize xs[n].nd.d.kind=c at E u;have fin:∀g:qa,g 0=lv→g 3= .pointer (some ⟨X,0,none⟩)→g 6= .int .i64 j→g 5= .string (qc (pr++[jv c]))→qgX.mi oK V (fun y=>y 6= .int .i64 ((j:Int)+1)∧I (j+1) y) (Kp.blk ⟨fun _ _=>False,fun ρ=>ρ 4= .string (qc (jE (xs.map (·.nd)) x.nd))⟩ 0 (qdK.mi oK V (fun ρ=>ρ 4= .string (qc (jE (xs.map (·.nd)) x.nd))) ⟨fun _ _=>False,fun ρ=>ρ 4= .string (qc (jE (xs.map (·.nd)) x.nd))⟩)) g:=by
   intro g h0 h3 h6 h5;simp -implicitDefEqProofs [qgX,h6,ab,h];exact (Z _ _).2 ⟨by simp [h0],by simp [h3],by simp [h5,u]⟩
  simp -implicitDefEqProofs (maxSteps:=2000000) (disch:=(simp only [List.length_append,List.length_cons,List.length_nil];omega)) [-ki,Jg,vQ,qdJ,p,r3,r5,r0,cX,A.is,O,o,h,qoL,hc,z.cells.is,z.len,hn,E,oK,qx4];unfold jv at fin;have q20:(c:Int)=20↔c=20:=by omega
  have q5:(c:Int)=5↔c=5:=by omega
  have q33:(c:Int)=33↔c=33:=by omega
  have aa:(c:Int)=36↔c=36:=by omega
  have q37:(c:Int)≤37↔c≤37:=by omega
  simp only [q20,q5,q33,aa,q37];by_cases g1:c=20
  ·simp only [if_pos g1] at fin⊢;exact fin _ (by simp [r0]) (by simp [r3]) (by simp [p]) (by simp)
  by_cases F:c=5
  ·simp only [if_neg g1,if_pos F] at fin⊢;exact fin _ (by simp [r0]) (by simp [r3]) (by simp [p]) (by simp)
  by_cases J:qj c=true
  ·simp only [if_neg g1,if_neg F,if_pos J] at fin⊢;exact fin _ (by simp [r0]) (by simp [r3]) (by simp [p]) (by simp)
  by_cases U:c=33
  ·simp only [if_neg g1,if_neg F,if_neg J,if_pos U] at fin⊢;exact fin _ (by simp [r0]) (by simp [r3]) (by simp [p]) (by simp)
  by_cases g5:c=36
  ·simp only [if_neg g1,if_neg F,if_neg J,if_neg U,if_pos g5] at fin⊢;exact fin _ (by simp [r0]) (by simp [r3]) (by simp [p]) (by simp)
  have q6:(decide (21≤c)&&decide (c≤37)&&decide (c≠33)&&decide (c≠36))=true↔(((21≤c∧c≤37)∧¬c=33)∧¬c=36):=by simp
  by_cases g6:(((21≤c∧c≤37)∧¬c=33)∧¬c=36)
  ·simp only [if_neg g1,if_neg F,if_neg J,if_neg U,if_neg g5,q6,if_pos g6] at fin⊢;exact fin _ (by simp [r0]) (by simp [r3]) (by simp [p]) (by simp)
  ·simp only [if_neg g1,if_neg F,if_neg J,if_neg U,if_neg g5,q6,if_neg g6] at fin⊢;exact fin _ (by simp [r0]) (by simp [r3]) (by simp [p]) (by simp)
 ·have o:¬(j:Int)<(x.nd.kids.length:Int):=by omega
  rw [List.take_of_length_le (by omega)] at r5;simp -implicitDefEqProofs [qdJ,p,r3,r5,cX,A.is,O,o,h,qdK];rfl
open Classical in
noncomputable def oR (xs:List NV) (lv:Value) (x:NV):xQ
 |237,[a,b]=>if a=lv∧b=jf x then some (.string (qc (jE (xs.map (·.nd)) x.nd))) else none
 |79,[.string s]=>some (.bool (qh s.data.toList))
 |238,[a, .string s]=>if a=jf x∧s.data.toList.length≤1000000 then some (.bool (qI x.nd.d (s.data.toList.contains 110) (s.data.toList.contains 118) (s.data.toList.contains 116) (s.data.toList.contains 78))) else none
 |239,[.string a, .string b]=>if a.data.toList.length≤1000000∧b.data.toList.length≤1000000 then some (.bool (xD a.data.toList b.data.toList)) else none
 |240,[.string a, .string b]=>if a.data.toList.length≤1000000 then some (.bool (jt a.data.toList b.data.toList)) else none
 |241,[.string s]=>some (.bool (kZ.contains s.data.toList))
 |25,[.string s]=>if s.data.toList.length<4611686018427387904 then some (.bool (zC s.data.toList)) else none
 |23,[.string s]=>if s.data.toList.length<4611686018427387904 then some (.bool (jg s.data.toList)) else none
 |_,_=>none
theorem qxG (n:Rd w lv xs) {x:NV} (m:Cells w x.kv 1 (x.nd.kids.map encI)) (hin:∀k∈x.nd.kids,0≤k∧k<xs.length) (g:x.nd.kids.length≤1000000) (j:xs.length≤1000000):Qg Tryz.prog (oR xs lv x) w:=by
 intro f l v h;unfold oR at h;split at h
 ·split at h
  ·rename_i c;obtain ⟨rfl,rfl⟩:=c;cases h;exact ⟨by simp,fun W e=>qwm (n.ext e) (m.ext e) hin g j⟩
  ·cases h
 ·rename_i s;cases h;exact ⟨by simp,fun W e=>L01.qcM s.data.toList⟩
 ·rename_i a s;split at h
  ·rename_i c;obtain ⟨rfl,c⟩:=c;cases h;exact ⟨by simp,fun W e=>qwj m.is s.data.toList c⟩
  ·cases h
 ·rename_i a b;split at h
  ·rename_i c;cases h;exact ⟨by simp,fun W e=>qws a.data.toList b.data.toList c.1 c.2⟩
  ·cases h
 ·rename_i a b;split at h
  ·rename_i c;cases h;exact ⟨by simp,fun W e=>qwq a.data.toList b.data.toList c⟩
  ·cases h
 ·rename_i s;cases h;exact ⟨by simp,fun W e=>qwk s.data.toList⟩
 ·rename_i s;split at h
  ·rename_i c;cases h;exact ⟨by simp,fun W e=>qwv s.data.toList c⟩
  ·cases h
 ·rename_i s;split at h
  ·rename_i c;cases h;exact ⟨by simp,fun W e=>qwu s.data.toList c⟩
  ·cases h
 ·cases h
theorem qwi (hR:Rd w lv xs) {x:NV} (hx:Cells w x.kv 1 (x.nd.kids.map encI)) (hd:DOk x.nd.d) (hin:∀k∈x.nd.kids,0≤k∧k<xs.length) (am:x.nd.kids.length≤1000000) (hxl:xs.length≤1000000):
  Calls Tryz.prog 170 #[lv,jf x] w fun e w'=>e= .returned (.bool (qv (xs.map (·.nd)) x.nd))∧qb w w':=by
 generalize c:qv (xs.map (·.nd)) x.nd=res;generalize hRR:(fun (e:Ending) (w':World)=>e= .returned (.bool res)∧qb w w')=R;refine qA5 fun ρ r0 r1=> ?_;simp only [qpT,qeJ,qiL,qeI,gd,if_true];refine vz fun X w1 hX aj al _=> ?_;rw [show qd ρ (.tmp 1)=jf x by simp [r1],zP hx.is] at al;have cX:∀q,w1.cell? ⟨X,q,none⟩=(qe x)[q]? :=fun q=>by rw [al.cell];simp
 have g:Eng.jk w1 ⟨X,0,none⟩ 0 6=some (qe x):=Qw (l:=qe x) fun j hj=>by rw [Nat.zero_add,show (⟨X,0,none⟩:Addr).add j=⟨X,j,none⟩ by simp,cX,List.getElem?_eq_getElem hj]
 have F:=hR.ext aj;have z:=hx.ext aj;have hkl:qk x.kv=x.nd.kids.length:=by have:=hx.len;simpa using this.symm
 have c0:=cX 0;have c1:=cX 1;have c2:=cX 2;have c3:=cX 3;have c4:=cX 4;have c5:=cX 5;simp [qe] at c0 c1 c2 c3 c4 c5;have hkk:=qdi (xs.map (·.nd)) x.nd;refine qkR (cx:=⟨Tryz.prog,366,qpS,[]⟩) (a:= .seq (.block 0 _) xN) (qxG F z hin am hxl) (qA w1) (fun ρ=>ρ 4= .bool res) (fun H w' hE hT=> ?_) ?_
 ·rw [qkw,←hRR,hT];exact ⟨rfl,aj.trans' hE⟩
 have C:Value.agg (qe x).toArray=jf x:=rfl;have g1:x.nd.d.name.length<4611686018427387904:=by have:=hd.name;omega
 have J:x.nd.d.vr.length<4611686018427387904:=by have:=hd.vr;omega
 have O:x.nd.d.typ.length<4611686018427387904:=by have:=hd.typ;omega
 have m:(jE (xs.map (·.nd)) x.nd).length≤1000000:=by omega
 simp -implicitDefEqProofs [r0,g,C,oR,c0,c1];unfold qv at c;generalize jE (xs.map (·.nd)) x.nd=u at*;by_cases hr:[1,2,3,34,4,31,6,7,8,9,10,30,37,20,21,22,23,24,25,26,27,28,29,33,36].contains x.nd.d.kind=true
 ·simp only [List.contains_cons,List.contains_nil,Bool.or_false,Bool.or_eq_true,beq_iff_eq] at hr;rcases hr with h|h|h|h|h|h|h|h|h|h|h|h|h|h|h|h|h|h|h|h|h|h|h|h|h
  all_goals
   simp [h] at c0 c;subst c;simp -implicitDefEqProofs [h,c0,c1,c2,c3,c4,c5,g,C,oR,vQ,jp,g1,J,O,m,r0,xN,xL,xM,x6,yX,yY]
   repeat' (first|refine qgc (fun y=> ?_) (fun y=> ?_)|refine qgb (fun y=> ?_) (fun y=> ?_))<;>(try simp only [Bool.not_eq_true',Bool.not_eq_false',decide_eq_true_eq,decide_eq_false_iff_not] at y)<;>(try simp -implicitDefEqProofs [undef,y,h,c0,c1,c2,c3,c4,c5,g,C,oR,vQ,jp,g1,J,O,m,r0,xN,xL,xM,x6,yX,yY])
 simp only [List.contains_cons,List.contains_nil,Bool.or_false,Bool.or_eq_true,beq_iff_eq,not_or] at hr;obtain ⟨q1,q2,q3,q34,q4,q31,q6,q7,q8,q9,q10,q30,q37,q20,q21,q22,q23,q24,q25,q26,q27,q28,q29,q33,q36⟩:=hr;by_cases h:x.nd.d.kind=5
 ·simp [h] at c0 c;subst c;by_cases h6:u.length≤6
  ·have Z:¬(6:Int)<(u.length:Int):=by omega
   simp -implicitDefEqProofs [h6,Z,h,c0,c1,c2,c3,c4,c5,g,C,oR,vQ,jp,g1,J,O,m,r0,xN,xL,xM,x6,yX,yY]
   repeat' (first|refine qgc (fun y=> ?_) (fun y=> ?_)|refine qgb (fun y=> ?_) (fun y=> ?_))<;>(try simp only [Bool.not_eq_true',Bool.not_eq_false',decide_eq_true_eq,decide_eq_false_iff_not] at y)<;>(try simp -implicitDefEqProofs [undef,y,h6,Z,h,c0,c1,c2,c3,c4,c5,g,C,oR,vQ,jp,g1,J,O,m,r0,xN,xL,xM,x6,yX,yY])
  ·have Z:(6:Int)<(u.length:Int):=by omega
   simp -implicitDefEqProofs [undef,h6,Z,h,c0,oR,xL,xM]
 by_cases h:x.nd.d.kind=35
 ·simp [h, -List.drop_one] at c0 c;by_cases h1:1<u.length
  ·have U:(1:Int)<(u.length:Int):=by omega
   have h1l:(1:Int)≤(u.length:Int):=by omega
   have hx0:(qc u).extract 0 1=qc (u.take 1):=by simp [qDt]
   have z:(qc u).extract 1 u.length=qc (u.drop 1):=by simp [qr9]
   have ht1:(u.take 1).length≤1000000:=by rw [List.length_take];omega
   have ht2:(u.drop 1).length≤1000000:=by rw [List.length_drop];omega
   simp [h1, -List.drop_one] at c;subst c;generalize u.take 1=ka at*;generalize u.drop 1=kb at*;simp -implicitDefEqProofs [U,h1l,hx0,z,ht1,ht2,h,c0,c1,c2,c3,c4,c5,g,C,oR,vQ,jp,g1,J,O,m,r0,xN,xL,xM,x6,yX,yY]
   repeat' (first|refine qgc (fun y=> ?_) (fun y=> ?_)|refine qgb (fun y=> ?_) (fun y=> ?_))<;>(try simp only [Bool.not_eq_true',Bool.not_eq_false',decide_eq_true_eq,decide_eq_false_iff_not] at y)<;>(try simp -implicitDefEqProofs [undef,y,U,h1l,hx0,z,ht1,ht2,h,c0,c1,c2,c3,c4,c5,g,C,oR,vQ,jp,g1,J,O,m,r0,xN,xL,xM,x6,yX,yY])
  ·have U:¬(1:Int)<(u.length:Int):=by omega
   simp [h1] at c;subst c;simp -implicitDefEqProofs [U,h,c0,c1,c2,c3,c4,c5,g,C,oR,vQ,jp,g1,J,O,m,r0,xN,xL,xM,x6,yX,yY]
 by_cases h:x.nd.d.kind=32
 ·simp [h] at c0 c;rcases u with _|⟨a,_|⟨b,p⟩⟩
  ·simp at c;subst c;simp -implicitDefEqProofs [h,c0,c1,c2,c3,c4,c5,g,C,oR,vQ,jp,g1,J,O,m,r0,xN,xL,xM,x6]
  ·simp at c;subst c;simp -implicitDefEqProofs [h,c0,c1,c2,c3,c4,c5,g,C,oR,vQ,jp,g1,J,O,m,r0,xN,xL,xM,x6]
  simp only [List.length_cons] at hkk m;have ac:¬((p.length:Int)+1+1<2):=by omega
  have ak:(qc (a::b::p)).extract 1 (p.length+1+1)=qc (b::p):=by have:=qr9 (a::b::p) 1;simpa using this
  have ai:(1:Int)≤(p.length:Int)+1+1:=by omega
  have ah:p.length+1≤1000000:=by omega
  have ad:∀h,(qc (a::b::p))[0]'h=a:=fun _=>rfl;have V:=Qj a 113 (by decide);simp at V;by_cases ha:a=113
  ·have aa:=V.2 ha;cases A:xD (b::p) [119] with
   |false=>
    simp [A] at c;subst c;simp -implicitDefEqProofs [ac,ak,ai,ah,ad,aa,A,h,c0,c1,c2,c3,c4,c5,g,C,oR,vQ,jp,g1,J,O,m,r0,xN,xL,xM,x6]
   |true=>
    simp [A,ha] at c;have ae:IntKind.i64.wrap ((p.length:Int)+1+1 - 1)=(p.length:Int)+1:=by rw [qr (by omega)];omega
    have af:IntKind.i64.wrap ((p.length:Int)+1)=(p.length:Int)+1:=qr (by omega);simp -implicitDefEqProofs [ac,ak,ai,ah,ad,aa,A,h,c0,c1,c2,c3,c4,c5,g,C,oR,vQ,jp,g1,J,O,m,r0,xN,xL,xM,x6,qpP];obtain ⟨I,hI⟩:∃I:Nat→qa→Prop,∀i H,I i H↔(H 0=lv∧H 3= .pointer (some ⟨X,0,none⟩)∧H 5= .string (qc (a::b::p))∧∀j,1≤j→j<i→∀hj:j<x.nd.kids.length,zr (xs.map (·.nd)) x.nd.kids[j]≠[]):=⟨_,fun _ _=>Iff.rfl⟩;refine qx0 7 1 (p.length+1) I (by simp) (by omega) ((hI _ _).2 ⟨by simp [r0],by simp,by simp,fun j h1 h2=>by omega⟩) ?_;clear r0 r1;rintro i H U hin' ri hIw;obtain ⟨s0,s3,s5,hno⟩:=(hI _ _).1 hIw;by_cases hlt:i<p.length+1
    ·have E:(i:Int)<(p.length:Int)+1:=by omega
     have Y:i<x.nd.kids.length:=by omega
     have hc:=z.cell i (by simpa using Y);simp only [List.getElem_map,encI] at hc;have S:=hin _ (List.getElem_mem Y);have hK:=qlP S;generalize hk:x.nd.kids[i]=k at hc S hK;obtain ⟨n,rfl⟩:=Int.eq_ofNat_of_zero_le S.1;have hn:n<xs.length:=by omega
     have ab:=F.cell (k:=n) (j:=1) hn (by omega);simp only [Int.toNat_natCast] at hK;simp [qe] at ab;by_cases o:xs[n].nd.d.name=[]
     ·have ag:res=false:=by
       cases res with
       |false=>rfl
       |true=>
        exfalso;simp only [Bool.and_eq_true] at c;have:=(qd9 _ _).1 c.1 (i - 1) (by rw [List.length_drop];omega) (by omega);have e1:(x.nd.kids.drop 1)[i - 1]'(by rw [List.length_drop];omega)=x.nd.kids[i]:=by rw [List.getElem_drop];congr 1;omega
        rw [e1,hk,hK] at this;exact this o
      rw [o] at ab;simp -implicitDefEqProofs [qdT,ri,s0,s3,s5,ae,af,E,c5,z.is,hkl,Y,hc,F.cells.is,F.len,hn,ab,vQ,jp,qhg,ag]
     ·simp -implicitDefEqProofs [qdT,ri,s0,s3,s5,ae,af,E,c5,z.is,hkl,Y,hc,F.cells.is,F.len,hn,ab,vQ,jp,qhg,o,qpR,hlt];have hwj:IntKind.i64.wrap ((i:Int)+1)=(i:Int)+1:=qr (by omega);refine ⟨hwj,(hI _ _).2 ⟨by simp [s0],by simp [s3],by simp [s5],fun j h1 h2 hj=> ?_⟩⟩;by_cases hji:j<i
      ·exact hno j h1 hji hj
      ·have:j=i:=by omega
       subst this;rw [hk,hK];exact o
    ·have E:¬(i:Int)<(p.length:Int)+1:=by omega
     have he:y7 (xs.map (·.nd)) x.nd=true:=(qd9 _ _).2 fun j hj hj2=>by
      have:=hno (j+1) (by omega) (by omega) (by omega);have e1:(x.nd.kids.drop 1)[j]=x.nd.kids[j+1]'(by omega):=by rw [List.getElem_drop];congr 1;omega
      rw [e1];exact this
     rw [he] at c;simp -implicitDefEqProofs [qdT,ri,s0,s3,s5,ae,af,E,qpQ,g,C,oR,vQ];simpa using c
  ·have aa:((a.toNat:Int) !=113)=true:=bne_iff_ne.2 fun e=>ha (V.1 e);simp [ha] at c;subst c;simp -implicitDefEqProofs [ac,ak,ai,ah,ad,aa,h,c0,c1,c2,c3,c4,c5,g,C,oR,vQ,jp,g1,J,O,m,r0,xN,xL,xM,x6]
 have m1:((x.nd.d.kind:Int)==1)=false:=beq_false_of_ne (by omega);have m2:((x.nd.d.kind:Int)==2)=false:=beq_false_of_ne (by omega);have m3:((x.nd.d.kind:Int)==3)=false:=beq_false_of_ne (by omega);have m34:((x.nd.d.kind:Int)==34)=false:=beq_false_of_ne (by omega);have m4:((x.nd.d.kind:Int)==4)=false:=beq_false_of_ne (by omega);have m31:((x.nd.d.kind:Int)==31)=false:=beq_false_of_ne (by omega);have m5:((x.nd.d.kind:Int)==5)=false:=beq_false_of_ne (by omega);have q5:¬x.nd.d.kind=5:=by omega
 have m6:((x.nd.d.kind:Int)==6)=false:=beq_false_of_ne (by omega);have m7:((x.nd.d.kind:Int)==7)=false:=beq_false_of_ne (by omega);have m8:((x.nd.d.kind:Int)==8)=false:=beq_false_of_ne (by omega);have m9:((x.nd.d.kind:Int)==9)=false:=beq_false_of_ne (by omega);have m10:((x.nd.d.kind:Int)==10)=false:=beq_false_of_ne (by omega);have m30:((x.nd.d.kind:Int)==30)=false:=beq_false_of_ne (by omega);have m37:((x.nd.d.kind:Int)==37)=false:=beq_false_of_ne (by omega);have m20:((x.nd.d.kind:Int)==20)=false:=beq_false_of_ne (by omega);have m21:((x.nd.d.kind:Int)==21)=false:=beq_false_of_ne (by omega);have m22:((x.nd.d.kind:Int)==22)=false:=beq_false_of_ne (by omega);have m23:((x.nd.d.kind:Int)==23)=false:=beq_false_of_ne (by omega);have m24:((x.nd.d.kind:Int)==24)=false:=beq_false_of_ne (by omega);have m25:((x.nd.d.kind:Int)==25)=false:=beq_false_of_ne (by omega);have m26:((x.nd.d.kind:Int)==26)=false:=beq_false_of_ne (by omega);have m27:((x.nd.d.kind:Int)==27)=false:=beq_false_of_ne (by omega);have m28:((x.nd.d.kind:Int)==28)=false:=beq_false_of_ne (by omega);have m29:((x.nd.d.kind:Int)==29)=false:=beq_false_of_ne (by omega);have m33:((x.nd.d.kind:Int)==33)=false:=beq_false_of_ne (by omega);have m35:((x.nd.d.kind:Int)==35)=false:=beq_false_of_ne (by omega);have q35:¬x.nd.d.kind=35:=by omega
 have m36:((x.nd.d.kind:Int)==36)=false:=beq_false_of_ne (by omega);have m32:((x.nd.d.kind:Int)==32)=false:=beq_false_of_ne (by omega);have q32:¬x.nd.d.kind=32:=by omega
 simp [q1,q2,q3,q34,q4,q31,q5,q6,q7,q8,q9,q10,q30,q37,q20,q21,q22,q23,q24,q25,q26,q27,q28,q29,q33,q35,q36,q32] at c;subst c;simp -implicitDefEqProofs [m1,m2,m3,m34,m4,m31,m5,m6,m7,m8,m9,m10,m30,m37,m20,m21,m22,m23,m24,m25,m26,m27,m28,m29,m33,m35,m36,m32,c0,xN,xL,xM,x6]
end
@[simp] theorem qG6:qg Tryz.prog 170=true:=by kernel_rfl
@[simp] theorem qGR:qg Tryz.prog 81=true:=by kernel_rfl
section
variable {w:World} {lv:Value} {xs:List NV}
theorem qjz {l:List Nd} {i:Nat} {o:List Int} {x:Nd} {r:List Nd} (h:l.drop i=x::r) (a:vl (l.drop i) i o=vl l 0 []) (c:¬(x.kids.length≤o.length∧o.drop (o.length - x.kids.length)=x.kids)):jW l=false:=by
 unfold jW;rw [←a,h,qco,if_neg c]
theorem qkH (hR:Rd w lv xs) (hds:∀y∈xs,DOk y.nd.d) (hkl:∀x∈xs,x.nd.kids.length<4611686018427387904) (hlen:xs.length<4611686018427387904):
  Calls Tryz.prog 81 #[lv] w fun e w'=>e= .returned (.bool (xZ (xs.map (·.nd))))∧qb w w':=by
 have hl:=hR.len;have z:=hR.cells.is;generalize c:xZ (xs.map (·.nd))=res;generalize hRR:(fun (e:Ending) (w':World)=>e= .returned (.bool res)∧qb w w')=R;have fin:∀W,qb w W→R (.returned (.bool res)) W:=fun W hE=>by rw [←hRR];exact ⟨rfl,hE⟩
 refine qyN fun ρ r0=> ?_;unfold xZ at c;simp only [List.length_map] at c;generalize hLL:xs.map (·.nd)=L at c;by_cases h0:xs.length=0
 ·simp [h0] at c;subst c;simp -implicitDefEqProofs [qdv,r0,z,hl,h0];exact fin _ (qA _)
 by_cases h4:400<xs.length
 ·have h4i:(400:Int)<(xs.length:Int):=by omega
  have h4n:¬xs.length≤400:=by omega
  simp [h4n] at c;subst c;simp -implicitDefEqProofs [qdv,r0,z,hl,h0,h4i,h4];exact fin _ (qA _)
 have h4i:¬(400:Int)<(xs.length:Int):=by omega
 have h1:1≤xs.length:=by omega
 have h4n:xs.length≤400:=by omega
 simp [h1,h4n] at c;simp -implicitDefEqProofs [qdv,r0,z,hl,h0,h4,h4i,qmH];have hLl:L.length=xs.length:=by rw [←hLL,List.length_map]
 obtain ⟨I,hI⟩:∃I:Nat→qa→World→Prop,∀i aa w',I i aa w'↔∃(ov sv:Value) (o ss:List Int),aa 0=lv∧aa 3=ov∧aa 4=sv∧qb w w'∧Cells w' ov 1 (o.map encI)∧Cells w' sv 1 (ss.map encI)∧ss.length=o.length∧o.length≤i∧(∀k∈o,0≤k∧k<(i:Int))∧vl (L.drop i) i o=vl L 0 []∧(L.take i).all (qv L)=true:=⟨_,fun _ _ _=>Iff.rfl⟩;have hnil:∀W:World,Cells W (.slice none 0 0) 1 (([]:List Int).map encI):=fun W=>⟨rfl,rfl,fun j hj=>absurd hj (by simp)⟩;refine js 5 xs.length I (by simp) ((hI _ _ _).2 ⟨_,_,[],[],by simp [r0],by simp,by simp,qA _,hnil _,hnil _,rfl,by simp,by simp,by simp,by simp⟩) ?_;clear r0;rintro i aa w' hi ri hIw;obtain ⟨ov,sv,o,ss,r0,r3,r4,hE,ho,hs,hso,hoi,hor,Z,U⟩:=(hI _ _ _).1 hIw;have F:qk ov=o.length:=by have:=ho.len;simpa using this.symm
 have hsl:qk sv=ss.length:=by have:=hs.len;simpa using this.symm
 have hR':=hR.ext hE;by_cases u:i<xs.length
 ·have p:(i:Int)<(xs.length:Int):=by omega
  have H:=hR'.cell (k:=i) (j:=5) u (by omega);simp [qe] at H;have O:=List.getElem_mem u;have hx:=hR'.kids _ O;have hd:=hds _ O;have hkx:=hkl _ O;have hrow:=hR'.row u;have hLi:i<L.length:=by omega
  have hgL:L[i]=xs[i].nd:=by subst hLL;simp
  have hdr:L.drop i=xs[i].nd::L.drop (i+1):=by rw [List.drop_eq_getElem_cons hLi,hgL]
  have htk:L.take (i+1)=L.take i++[xs[i].nd]:=by rw [List.take_succ_eq_append_getElem hLi,hgL]
  generalize xs[i]=x at H hx hd hkx hrow hdr htk hgL;have hxl:qk x.kv=x.nd.kids.length:=by have:=hx.len;simpa using this.symm
  by_cases hk:x.nd.kids.length≤o.length
  ·have hki:¬(o.length:Int)<(x.nd.kids.length:Int):=by omega
   have hw1:IntKind.i64.wrap ((o.length:Int) - (x.nd.kids.length:Int))=((o.length - x.nd.kids.length:Nat):Int):=by rw [qr (by omega)];omega
   simp -implicitDefEqProofs [qdu,ri,r0,r3,z,hl,p,u,qgp,H,hx.is,hxl,ho.is,F,hki,qmD];obtain ⟨J,hJ⟩:∃J:Nat→qa→Prop,∀m g,J m g↔(g 0=lv∧g 3=ov∧g 4=sv∧g 5= .int .i64 i∧g 6= .int .i64 (x.nd.kids.length:Int)∧(∃n,g 7= .int .i64 n)∧∀q,q<m→(o.drop (o.length - x.nd.kids.length))[q]? =x.nd.kids[q]?):=⟨_,fun _ _=>Iff.rfl⟩;refine yQ (C:=qlj) (w0:=w') (qxx _ _) (.loop qbE) (K:=fun _=>False) (Q:=⟨fun j g=>j=2∧J x.nd.kids.length g,fun g=>g 2= .bool false∧¬o.drop (o.length - x.nd.kids.length)=x.nd.kids⟩) (qA _) (fun _ _ _ h=>h.elim) ?_ ?_ ?_
   ·intro j g w2 A hh;obtain ⟨rfl,hJw⟩:=hh;obtain ⟨s0,s3,s4,s5,s6,⟨n,s7⟩,hq⟩:=(hJ _ _).1 hJw;have hkd:o.drop (o.length - x.nd.kids.length)=x.nd.kids:=by
     apply List.ext_getElem?;intro q;by_cases hq':q<x.nd.kids.length
     ·exact hq q hq'
     ·rw [List.getElem?_eq_none (by rw [List.length_drop];omega),List.getElem?_eq_none (by omega)]
    have hin:∀k∈x.nd.kids,0≤k∧k<(xs.length:Int):=fun k hk2=>by
     rw [←hkd] at hk2;have:=hor k (List.mem_of_mem_drop hk2);omega
    have hE02:=hE.trans' A;have hrow2:=qa7 A _ _ _ _ hrow;simp -implicitDefEqProofs [qmE,s0,s5,z,hl,p,u,hrow2];refine (qwi (x:=x) (hR'.ext A) (hx.ext A) hd hin (by omega) (by omega)).mono ?_;rintro _ w3 ⟨rfl,hE3⟩;have hE03:=hE02.trans' hE3;rw [hLL];cases hr:qv L x.nd with
    |false=>
     have ha:L.all (qv L)=false:=by
      rw [List.all_eq_false];exact ⟨L[i],List.getElem_mem _,by rw [hgL,hr];simp⟩
     rw [ha,Bool.and_false] at c;subst c;simp -implicitDefEqProofs;exact fin _ hE03
    |true=>
     have hE2':=A.trans' hE3;have ho3:=ho.ext hE2';have hs3:=hs.ext hE2';have hcapo:=yV ho.is;have hcaps:=yV hs.is;have ho5:=ho3.sub (l:=0) (r:=o.length - x.nd.kids.length) (m:=qo ov) (Nat.zero_le _) (by simp) (by omega) (Nat.le_refl _);have hs5:=hs3.sub (l:=0) (r:=o.length - x.nd.kids.length) (m:=qo sv) (Nat.zero_le _) (by simp;omega) (by omega) (Nat.le_refl _);simp only [Nat.mul_one,Nat.zero_mul,List.drop_zero,←List.map_take] at ho5 hs5;have hlo:(o.take (o.length - x.nd.kids.length)).length≤400:=by rw [List.length_take];omega
     have hls:(ss.take (o.length - x.nd.kids.length)).length≤400:=by rw [List.length_take];omega
     have S:(ss.take (o.length - x.nd.kids.length)).length=(o.take (o.length - x.nd.kids.length)).length:=by rw [List.length_take,List.length_take];omega
     have hst2:vl (L.drop (i+1)) (i+1) (o.take (o.length - x.nd.kids.length)++[(i:Int)])=vl L 0 []:=by
      rw [←Z,hdr,qco,if_pos ⟨hk,hkd⟩]
     have hor2:∀k∈o.take (o.length - x.nd.kids.length)++[(i:Int)],0≤k∧k<((i+1:Nat):Int):=fun k hk2=>by
      rcases List.mem_append.1 hk2 with h|h
      ·have:=hor k (List.mem_of_mem_take h);omega
      ·rw [List.mem_singleton.1 h];omega
     have hoi2:(o.take (o.length - x.nd.kids.length)++[(i:Int)]).length≤i+1:=by rw [List.length_append,List.length_take];simp;omega
     generalize o.take (o.length - x.nd.kids.length)=o2 at ho5 hlo S hst2 hor2 hoi2;generalize ss.take (o.length - x.nd.kids.length)=s2 at hs5 hls S;have hc1:((o.length - x.nd.kids.length:Nat):Int)≤(qo ov:Int):=by omega
     have hc2:((o.length - x.nd.kids.length:Nat):Int)≤(qo sv:Int):=by omega
     have hc3:o.length≤qo ov+x.nd.kids.length:=by omega
     have hc4:o.length≤qo sv+x.nd.kids.length:=by omega
     simp -implicitDefEqProofs [qmF];refine jz yB (by decide) (by decide) (by simp) fun B4 W4 hB4 hE4 hb4 _=> ?_;simp at hb4;simp -implicitDefEqProofs [s3,s6,ho.is,F,hw1,hc1,hc3];refine ku yG hE4 (by rfl) (by rfl) (Own.lit (n:=0) (sz:=1) hb4 (by simp) hB4 (by decide)) (ho5.ext hE4) (by simp [encI,Value.oneCell']) (by simp;omega) (by simp;omega) fun u5 W5 hE5 ho6 _ _=> ?_;simp -implicitDefEqProofs [s5];refine jz yB (by decide) (by decide) (by simp [Value.cells]) fun B6 W6 hB6 hE6 hb6 _=> ?_;simp [Value.cells] at hb6;simp -implicitDefEqProofs;refine ku yG (hE5.trans' hE6) (by rfl) (by rfl) (ho6.ext hE6) (L01.jO (Own.lit (n:=1) (sz:=1) (cs:=[.int .i64 i]) hb6 (by simp) hB6 (by decide))) (by simp [Value.oneCell']) (by simp;omega) (by simp;omega) fun u7 W7 hE7 ho7 _ _=> ?_;simp -implicitDefEqProofs;refine jz yB (by decide) (by decide) (by simp) fun B8 W8 hB8 hE8 hb8 _=> ?_;simp at hb8;simp -implicitDefEqProofs [s3,s4,s6,hs.is,hsl,hso,hw1,hc2,hc4];refine ku yG hE8 (by rfl) (by rfl) (Own.lit (n:=0) (sz:=1) hb8 (by simp) hB8 (by decide)) (hs5.ext (hE7.trans' hE8)) (by simp [encI,Value.oneCell']) (by simp;omega) (by simp;omega) fun u9 W9 hE9 ho9 _ _=> ?_;simp -implicitDefEqProofs [s7];refine jz yB (by decide) (by decide) (by simp [Value.cells]) fun B10 W10 hB10 hE10 hb10 _=> ?_;simp [Value.cells] at hb10;simp -implicitDefEqProofs;refine ku yG (hE9.trans' hE10) (by rfl) (by rfl) (ho9.ext hE10) (L01.jO (Own.lit (n:=1) (sz:=1) (cs:=[.int .i64 n]) hb10 (by simp) hB10 (by decide))) (by simp [Value.oneCell']) (by simp;omega) (by simp;omega) fun u11 W11 hE11 ho11 _ _=> ?_;have hwj:IntKind.i64.wrap ((i:Int)+1)=(i:Int)+1:=qr (by omega);simp -implicitDefEqProofs [qmC,s5,hwj,u];refine (hI _ _ _).2 ⟨u7,u11,o2++[(i:Int)],s2++[n],by simp [s0],by simp,by simp,(hE03.trans' hE7).trans' hE11, ?_, ?_,by simp [S],hoi2,hor2,hst2, ?_⟩
     ·have:=L01.jO (ho7.ext hE11);simpa [encI] using this
     ·have:=L01.jO ho11;simpa [encI] using this
     ·rw [htk,List.all_append,U];simp [hr]
   ·intro g w2 A hh;have hp:=qjz hdr Z fun h=>hh.2 h.2;rw [hp] at c;simp at c;subst c;simp -implicitDefEqProofs [hh.1];exact fin _ (hE.trans' A)
   ·refine qlB 8 x.nd.kids.length J (by simp) ((hJ _ _).2 ⟨by simp [r0],by simp [r3],by simp [r4],by simp [ri],by simp,⟨1,by simp⟩,fun q hq=>by omega⟩) ?_;rintro m g hm rm hJw;obtain ⟨s0,s3,s4,s5,s6,⟨n,s7⟩,hq⟩:=(hJ _ _).1 hJw;by_cases Y:m<x.nd.kids.length
    ·have ab:(m:Int)<(x.nd.kids.length:Int):=by omega
     have V:=hx.cell m (by simpa using Y);obtain ⟨a,ha⟩:∃a,a=o.length - x.nd.kids.length+m:=⟨_,rfl⟩;have E:a<o.length:=by omega
     have hatm:a<ss.length:=by omega
     have hoc:=ho.cell a (by simpa using E);have hsc:=hs.cell a (by simpa using hatm);simp only [List.getElem_map,encI] at V hoc hsc;have hat:(a:Int)<(o.length:Int):=by omega
     have hats:(a:Int)<(ss.length:Int):=by omega
     have hw2:IntKind.i64.wrap (((o.length - x.nd.kids.length:Nat):Int)+(m:Int))=(a:Int):=by rw [qr (by omega)];omega
     have hwm:IntKind.i64.wrap ((m:Int)+1)=(m:Int)+1:=qr (by omega);have hdg:(o.drop (o.length - x.nd.kids.length))[m]? =some o[a]:=by
      rw [List.getElem?_drop,←ha,List.getElem?_eq_getElem E]
     by_cases heq:x.nd.kids[m]=o[a]
     ·have hbn:(x.nd.kids[m] !=o[a])=false:=by rw [heq];simp
      simp -implicitDefEqProofs [qbE,rm,s6,ab,Y,qgq,s0,s3,s4,s5,z,hl,p,u,H,hx.is,hxl,ho.is,F,hs.is,hsl,hw1,hw2,hat,hats,E,hatm,V,hoc,hsc,hbn,qgr,qmJ,s7,qmG,hwm];refine (hJ _ _).2 ⟨by simp [s0],by simp [s3],by simp [s4],by simp [s5],by simp [s6],⟨_,by simp;rfl⟩,fun q hq2=> ?_⟩;by_cases hqm:q<m
      ·exact hq q hqm
      ·obtain rfl:q=m:=by omega
       rw [hdg,List.getElem?_eq_getElem Y,heq]
     ·have hbn:(x.nd.kids[m] !=o[a])=true:=bne_iff_ne.2 heq;simp -implicitDefEqProofs [qbE,rm,s6,ab,Y,qgq,s0,s3,s5,z,hl,p,u,H,hx.is,hxl,ho.is,F,hw1,hw2,hat,E,V,hoc,hbn,qgr];intro he;rw [he,List.getElem?_eq_getElem Y] at hdg;exact heq (Option.some.inj hdg)
    ·have ab:¬(m:Int)<(x.nd.kids.length:Int):=by omega
     obtain rfl:m=x.nd.kids.length:=by omega
     simp -implicitDefEqProofs [qbE,rm,s6];exact (hJ _ _).2 ⟨by simp [s0],by simp [s3],by simp [s4],by simp [s5],by simp [s6],⟨n,by simp [s7]⟩,hq⟩
  ·have hki:(o.length:Int)<(x.nd.kids.length:Int):=by omega
   have hp:=qjz hdr Z fun h=>hk h.1;simp [hp] at c;subst c;simp -implicitDefEqProofs [qdu,ri,r0,r3,z,hl,p,u,qgp,H,hx.is,hxl,ho.is,F,hki];exact fin _ hE
 ·have p:¬(i:Int)<(xs.length:Int):=by omega
  rw [List.drop_eq_nil_of_le (by omega)] at Z;rw [List.take_of_length_le (by omega)] at U;have hp:jW L=decide (o.length=1):=by unfold jW;rw [←Z];rfl
  rw [hp,U,Bool.and_true] at c;have hb1:((o.length:Int)==1)=decide (o.length=1):=by rw [Bool.eq_iff_iff];simp;omega
  simp -implicitDefEqProofs [qdu,ri,r0,z,hl,p,qmI,r3,ho.is,F,hb1];subst c;exact fin _ hE
theorem qvu {L:List Nd} (c:0<xs.length) (a:xs.map (·.nd)=L):xY L=(xs[xs.length - 1]'(by omega)).nd.d.kind:=by
 subst a;unfold xY;rw [List.getLast?_eq_getElem?,List.length_map,List.getElem?_map,List.getElem?_eq_getElem (by omega)];rfl
theorem qkI (n:Rd w lv xs) (u:∀y∈xs,DOk y.nd.d) (p:∀x∈xs,x.nd.kids.length<4611686018427387904) (h:xs.length<4611686018427387904):
  Calls Tryz.prog 27 #[lv] w fun e w'=>e= .returned (.int .i64 (if zR (xs.map (·.nd)) then 0 else 21))∧qb w w':=by
 have F:=n.len;have c:=n.cells.is;have J:zR (xs.map (·.nd))=(xZ (xs.map (·.nd))&&qp 20 (xY (xs.map (·.nd)))):=qiP _ _ rfl;rw [J];refine qzM fun ρ r0=> ?_;simp -implicitDefEqProofs [qn8,r0];refine (qkH n u p h).mono ?_;rintro _ O ⟨rfl,m⟩;cases E:xZ (xs.map (·.nd)) with
 |false=>
  simp -implicitDefEqProofs;exact m
 |true=>
  have H:0<xs.length:=by
   unfold xZ at E;simp only [Bool.and_eq_true,decide_eq_true_eq,List.length_map] at E;omega
  rw [qvu H rfl];have l:xs.length - 1<xs.length:=by omega
  have a:=(n.ext m).cell (k:=xs.length - 1) (j:=0) l (by omega);simp [qe] at a;have g:IntKind.i64.wrap ((xs.length:Int) - 1)=((xs.length - 1:Nat):Int):=by rw [qr (by omega)];omega
  have A:((xs.length - 1:Nat):Int)<(xs.length:Int):=by omega
  generalize (xs[xs.length - 1]'l).nd.d.kind=z at a;have o:((z:Int)==20)=qp 20 z:=by unfold qp;rw [Bool.eq_iff_iff];simp;omega
  cases C:qp 20 z with
  |true=>
   rw [C] at o;simp -implicitDefEqProofs [r0,c,F,g,A,l,a,o,qgD,bne];exact m
  |false=>
   rw [C] at o;simp -implicitDefEqProofs [r0,c,F,g,A,l,a,o,qgD,bne];exact m
end
@[simp] theorem qGX:qg Tryz.prog 27=true:=by kernel_rfl
@[simp] theorem qHi:qg Tryz.prog 103=true:=by kernel_rfl
section
variable {w:World} {lv:Value} {xs:List NV}
theorem vA.q (h:vA (xs.map (·.nd))):(∀y∈xs,DOk y.nd.d)∧∀x∈xs,x.nd.kids.length<4611686018427387904:=
 ⟨fun y a=>h.1 _ (List.mem_map_of_mem a),fun y a=>Nat.lt_of_le_of_lt (h.2 _ (List.mem_map_of_mem a)) (by decide)⟩
theorem qwp (l:Rd w lv xs) (g:vA (xs.map (·.nd))) (h:xs.length<4611686018427387904) (i:Int):Calls Tryz.prog 103 #[lv, .int .i64 i] w fun e w'=>e= .returned (.int .i64 (vk (xs.map (·.nd)) i))∧qb w w':=by
 have n:=l.len;have c:=l.cells.is;unfold vk;rw [List.length_map];refine qCj fun ρ r0 r1=> ?_;simp -implicitDefEqProofs [qrk,r0];refine (qkI l g.q.1 g.q.2 h).mono ?_;rintro _ p ⟨rfl,j⟩;cases o:zR (xs.map (·.nd)) with
 |false=>
  simp -implicitDefEqProofs;exact j
 |true=>
  by_cases k:i<0
  ·have a:¬(0≤i∧i<(xs.length:Int)):=by omega
   simp -implicitDefEqProofs [qd3,r1,k,a];exact ⟨by omega,j⟩
  ·by_cases m:(xs.length:Int)≤i
   ·have a:¬(0≤i∧i<(xs.length:Int)):=by omega
    simp -implicitDefEqProofs [qd3,r0,r1,k,m,c,n];exact ⟨by omega,j⟩
   ·have a:(0≤i∧i<(xs.length:Int)):=by omega
    simp -implicitDefEqProofs [qd3,r0,r1,k,m,c,n,qrj];exact ⟨by omega,j⟩
theorem qjJ:xo Tryz.prog 99=some (44,6):=by kernel_rfl
theorem qks:xG Tryz.prog 99=some (44,6,88):=by kernel_rfl
end
end Go.L02
