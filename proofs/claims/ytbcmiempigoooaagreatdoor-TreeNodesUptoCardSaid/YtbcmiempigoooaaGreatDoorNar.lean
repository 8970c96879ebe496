/- Lemmas for a claim about layer 2 (tree). No conditions but those they state. -/
import Derived.Test.YtbcmiempigoooaaGreatDoorNaq
import Derived.Shelf.Strings.OnBuilder
import Derived.Test.YtbcmiempigoooaaGreatDoorProg
import Derived.KernelRfl
set_option linter.all false
namespace Go.Proofs
open Go.Shelf
def Tryz.lays156_ren:Go.Shelf.Ren:=⟨fun|156=>34|165=>88|166=>89|169=>90|240=>177|241=>178|276=>247|277=>248|n=>n,fun|31=>51|9=>9|3=>3|4=>4|0=>0|20=>20|72=>114|76=>127|70=>111|37=>112|75=>126|127=>196|164=>254|5=>5|80=>129|n=>n,fun|n=>n⟩
theorem Tryz.lays156:Go.Proofs.Lays.n156 Tryz.prog Tryz.lays156_ren:={
 mixed:=by kernel_rfl
 f156:=Tryz.func34.trans (congrArg some (by kernel_rfl))
 f165:=Tryz.func88.trans (congrArg some (by kernel_rfl))
 f166:=Tryz.func89.trans (congrArg some (by kernel_rfl))
 f169:=Tryz.func90.trans (congrArg some (by kernel_rfl))
 f240:=Tryz.func177.trans (congrArg some (by kernel_rfl))
 f241:=Tryz.func178.trans (congrArg some (by kernel_rfl))
 f276:=Tryz.func247.trans (congrArg some (by kernel_rfl))
 f277:=Tryz.func248.trans (congrArg some (by kernel_rfl))
 t0:=Tryz.underlying0
 a0:=Tryz.isAgg0
 z0:=Tryz.sizeOf0
 v0:=Tryz.zeroValue0
 t3:=Tryz.underlying3
 a3:=Tryz.isAgg3
 z3:=Tryz.sizeOf3
 v3:=Tryz.zeroValue3
 t4:=Tryz.underlying4
 a4:=Tryz.isAgg4
 z4:=Tryz.sizeOf4
 v4:=Tryz.zeroValue4
 t9:=Tryz.underlying9
 a9:=Tryz.isAgg9
 z9:=Tryz.sizeOf9
 v9:=Tryz.zeroValue9
 t20:=Tryz.underlying20
 a20:=Tryz.isAgg20
 z20:=Tryz.sizeOf20
 v20:=Tryz.zeroValue20
 t31:=Tryz.underlying51
 a31:=Tryz.isAgg51
 z31:=Tryz.sizeOf51
 v31:=Tryz.zeroValue51
 t37:=Tryz.underlying112
 a37:=Tryz.isAgg112
 z37:=Tryz.sizeOf112
 v37:=Tryz.zeroValue112
 t70:=Tryz.underlying111
 a70:=Tryz.isAgg111
 z70:=Tryz.sizeOf111
 v70:=Tryz.zeroValue111
 t72:=Tryz.underlying114
 a72:=Tryz.isAgg114
 z72:=Tryz.sizeOf114
 v72:=Tryz.zeroValue114
 t75:=Tryz.underlying126
 a75:=Tryz.isAgg126
 z75:=Tryz.sizeOf126
 v75:=Tryz.zeroValue126
 t76:=Tryz.underlying127
 a76:=Tryz.isAgg127
 z76:=Tryz.sizeOf127
 v76:=Tryz.zeroValue127
 t127:=Tryz.underlying196
 a127:=Tryz.isAgg196
 z127:=Tryz.sizeOf196
 v127:=Tryz.zeroValue196
 t164:=Tryz.underlying254
 a164:=Tryz.isAgg254
 z164:=Tryz.sizeOf254
 v164:=Tryz.zeroValue254}
theorem Tryz.extra156:Builder.Extra Tryz.prog Tryz.lays156_ren where
 sizeBuilder:=by kernel_rfl
 liesBuilder:=by kernel_rfl
 t5:=Tryz.underlying5
 a5:=Tryz.isAgg5
 z5:=Tryz.sizeOf5
 v5:=Tryz.zeroValue5
 infoByte:=by kernel_rfl
 cellsByte:=by kernel_rfl
 sizeByte:=by kernel_rfl
 neB5:=by decide
open Go.RowKit in
theorem Tryz.join (bk o c:Nat) (xs:List ByteArray) (sep:ByteArray) (w:World)
  (a:∀(j:Nat) x,xs[j]? =some x→w.cell? ⟨bk,o+j,none⟩=some (.string x))
  (k:bk<w.heap.size) (l:xs.length≤140737488355328) (g:xs.length≤c)
  (h:(Lib.join (xs.map (·.data.toList)) sep.data.toList).length≤140737488355328):
  Calls Tryz.prog 34 #[.slice (some ⟨bk,o,none⟩) xs.length c, .string sep] w fun e w'=>e= .returned (.string ⟨(Lib.join (xs.map (·.data.toList)) sep.data.toList).toArray⟩)∧Below w.heap.size w w':=Any.strings_Join Tryz.lays156 Tryz.extra156 bk o c xs sep w a k l g h
theorem Tryz.join0 (a:Option Addr) (c:Nat) (sep:ByteArray) (w:World):
  Calls Tryz.prog 34 #[.slice a 0 c, .string sep] w fun e w'=>e= .returned (.string ⟨#[]⟩)∧w'=w:=Any.strings_Join_none Tryz.lays156 Tryz.extra156 a c sep w
end Go.Proofs
namespace Go.L02
open Go Go.Eng Go.RowKit
open Go.Proofs hiding encI
open Go.L01 (Bs Own.same Tok qM qS qe qh)
set_option maxRecDepth 100000
set_option maxHeartbeats 2000000
@[simp] theorem qIK:qf Tryz.prog 34=true:=by kernel_rfl
@[simp] theorem qIJ:qf Tryz.prog 88=true:=by kernel_rfl
@[simp] theorem qIL:qf Tryz.prog 177=true:=by kernel_rfl
theorem qg5 (sep:Bs):∀ss:List Bs,Lib.join ss sep=kX sep ss
 |[]=>by simp [kX,Lib.join_nil]
 |[x]=>by simp [kX,Lib.join_one]
 |x::y::ys=>by
  have h:=qg5 sep (y::ys);rw [Lib.join_cons] at h;rw [Lib.join_cons,kX,←h];simp [Lib.joinTail]
theorem qy0 {w:World} {v:Value} {ss:List Bs} (sep:Bs) (h:Cells w v 1 (ss.map qe)) (O:ss.length≤100000000000000) (H:(kX sep ss).length≤100000000000000):
  Calls Tryz.prog 34 #[v, .string (qc sep)] w fun e w'=>e= .returned (.string (qc (kX sep ss)))∧qb w w':=by
 have p:qk v=ss.length:=by simpa using h.len.symm
 have k:∀(a:Option Addr) (c:Nat),v= .slice a 0 c→Calls Tryz.prog 34 #[v, .string (qc sep)] w fun e w'=>e= .returned (.string (qc (kX sep ss)))∧qb w w':=by
  rintro a c rfl;have y:ss=[]:=by simpa [qk] using p.symm
  subst y;refine (Tryz.join0 a c (qc sep) w).mono ?_;rintro _ _ ⟨rfl,rfl⟩;exact ⟨by simp [kX,qc],qz _⟩
 rcases zJ h.is with ⟨b,o,n,c,l,C⟩|l|⟨b,o,sp,l⟩
 ·by_cases y:ss=[]
  ·have:n=0:=by rw [l] at p;simpa [qk,y] using p
   subst this;exact k _ _ l
  ·have F:0<ss.length:=List.length_pos_iff.2 y;have z:n=ss.length:=by rw [l] at p;simpa [qk] using p
   have g:∀(j:Nat) x,(ss.map qc)[j]? =some x→w.cell? ⟨b,o+j,none⟩=some (.string x):=fun j x u=>by
    obtain ⟨m,u⟩:=List.getElem?_eq_some_iff.1 u;have:=h.cell j (by simpa using m);rw [l] at this;simp [qD,qe] at this u;rw [this,u]
   have A:b<w.heap.size:=by
    have:=g 0 (qc ss[0]) (by simp [F]);refine Nat.lt_of_not_le fun C=> ?_;unfold World.cell? at this;simp only [Array.getElem?_eq_none C] at this;cases this
   have E:(ss.map qc).map (·.data.toList)=ss:=by simp [Function.comp_def,qc]
   have m:=Tryz.join b o c (ss.map qc) (qc sep) w g A (by simp;omega) (by simp;omega) (by rw [E];simp only [qc];rw [qg5];omega);rw [E] at m;simp only [qc,List.length_map] at m;rw [qg5,←z,←l] at m;refine m.mono ?_;rintro _ w' ⟨rfl,J⟩;exact ⟨rfl,J⟩
 ·exact k _ _ l
 ·exact k _ _ l
end Go.L02
namespace Go.L02
open Go.Eng
open Go.L01 (Bs Res Tok first jO jV js jz qO qP qX qbi qbn qbo qbv qc1 qcG qh qkV ql right ve wN)
def qEH (k:Nat) (s:Bs) (c:UInt8):Bool:=if k=4 then js (s++[c]) else if k=3 then qO c else L01.part c
structure At where
 k:Nat
 s:Bs
def At.ok (a:At):Prop:=if a.k=0 then a.s≠[]∧∀c∈a.s,L01.yp c=true else right a.k a.s=true
def At.then (a:At) (r:Bs):Prop:=a.k=0∨∀c x,r=c::x→qEH a.k a.s c=false
theorem At.ok.ne {a:At} (h:a.ok):a.s≠[]:=by
 unfold At.ok at h;split at h
 ·exact h.1
 ·exact (wN h).1
def bk (s:Bs):Nat×List At:=(0,[⟨0,s⟩])
end Go.L02
namespace Go.L02
open Go Go.Eng Go.RowKit
open Go.Proofs hiding encI
open Go.L01 (Bd Bs Own.same Qo SlK Tok fV jC jF jG jH jZ jo qB qM qS qch qe qfD qfG qh ql qlE qtL qua qv2 vp)
set_option maxRecDepth 100000
set_option maxHeartbeats 2000000
def qmK (i:Nat) (u:T) (j:Nat):Nat:=i+sizes (u.kids.take (j+1)) - u.size
structure NdR (w:World) (l:List Nd) (nv:Value) (N i:Nat) (u:T) (kv:Value):Prop where
 is:qo nv=true
 len:qk nv=N
 lt:i<N
 cell:∀j,j<6→w.cell? (qD nv (i*6+j))=[Value.int .u8 (u.d.kind:Int), .string (qc u.d.name), .string (qc u.d.vr), .string (qc u.d.typ), .int .i64 u.d.n,kv][j]?
 kis:qo kv=true
 klen:qk kv=u.kids.length
 kids:Cells w kv 1 ((qL (i+1 - u.size) u.kids).map encI)
 kcell:∀j (h:j<u.kids.length),w.cell? (qD kv j)=some (.int .i64 (qmK i u j:Int))∧jK l (qmK i u j) u.kids[j]∧u.kids[j].size<u.size
theorem NdR.ext {w w':World} {l:List Nd} {nv:Value} {N i:Nat} {u:T} {kv:Value} (h:NdR w l nv N i u kv) (a:qb w w'):NdR w' l nv N i u kv where
 is:=h.is
 len:=h.len
 lt:=h.lt
 cell j hj:=by
  have:=h.cell j hj;have c:j<[Value.int .u8 (u.d.kind:Int), .string (qc u.d.name), .string (qc u.d.vr), .string (qc u.d.typ), .int .i64 u.d.n,kv].length:=by simpa using hj
  rw [List.getElem?_eq_getElem c] at this⊢;exact a.cell this
 kis:=h.kis
 klen:=h.klen
 kids:=h.kids.ext a
 kcell j hj:=⟨a.cell (h.kcell j hj).1,(h.kcell j hj).2⟩
theorem NdR.row {w:World} {l:List Nd} {nv:Value} {N i:Nat} {u:T} {kv:Value} (h:NdR w l nv N i u kv):Eng.jq w (qD nv (i*6)) 0 6=some [Value.int .u8 (u.d.kind:Int), .string (qc u.d.name), .string (qc u.d.vr), .string (qc u.d.typ), .int .i64 u.d.n,kv]:=by
 have:=yM (w:=w) (a:=qD nv (i*6)) (l:=[Value.int .u8 (u.d.kind:Int), .string (qc u.d.name), .string (qc u.d.vr), .string (qc u.d.typ), .int .i64 u.d.n,kv]) (i:=0) fun j e=>by
  have c:j<6:=by simpa using e
  rw [qcX,Nat.zero_add,h.cell j c,List.getElem?_eq_getElem e]
 exact this
theorem qak {x y:Bs} (h:x.length+y.length≤1000000000000000000):kw .add (qc x) (qc y)=some (.string (qc (x++y))):=by
 simp only [kw,qzG,qzI];rw [if_pos (by unfold maxLen;omega)]
theorem vS (l:Bs):ByteArray.mk l.toArray=qc l:=rfl
section
variable {w:World} {b:Nat} {nv:Value} {xs:List NV}
end
noncomputable def qng:Code:=((Tryz.f90.body).getD .skip)
noncomputable def qnf:IR:= .ret
noncomputable def qni:IR:=zq [za 2 (.const (zs #[]))] <| .seq (.raw (qN qng 1)) (qnf)
def qnh:List Nat:=zV 14 [1]
theorem qAo:C1 90 14 qnh qni [.tmp 2]:=c1 [1] Tryz.func90
noncomputable def qne:OT:=zy 3 (zv 0)<|zy 4 (zN (zv 3))<|zy 5 (zf 1 (zv 4))<|zy 6 (zl (zv 5))<|zy 8 (zv 0)<|zy 9 (zN (zv 8))<|zy 10 (zf 1 (zv 9))<|zy 11 (zl (zv 10))<|zy 12 (zL (zv 11))<| .step (zE 7 (.call {callee:= .builtin .unsafeSliceData,args:= #[zt 6],argTypes:= #[112]}) 196) true<| .step (zE 13 (.call {callee:= .builtin .unsafeString,args:= #[zt 7,zt 12],argTypes:= #[196,3]}) 9) false<| .step (zm 2 13) false<| .done
theorem qAn:vF Tryz.prog 14 qnh 10 (qN qng 1)=some qne:=by kernel_rfl
def Pr (B b:Nat) (nv:Value) (op:Bool) (bs:Bs) (w:World):Prop:=B≤b∧∃p v,Blk w b #[p,v,nv, .bool op] 116∧(p= .pointer none∨p= .pointer (some ⟨b,0,none⟩))∧w.ownsRow B 5 1 v bs.length (bs.map jk)∧v.ownBlock≠some b
def prP:Nat→TypeId→Prop:=fun _ T=>T≠116∧T≠5
theorem qv8 {w:World} {b:Nat} {p v nv o:Value} (h:Blk w b #[p,v,nv,o] 116):w.shape? b=some (116,4):=by simp [World.shape?,h.heap]
theorem qzW:liesAt Tryz.prog Tryz.prog.depth 116 (4 / Tryz.prog.cellsOf 116) 0 114 1=true:=by kernel_rfl
theorem qyf (b:Nat) (w:World) (a:w.cell? ⟨b,0,none⟩=some (.pointer (some ⟨b,0,none⟩))):
  Calls Tryz.prog 177 #[.pointer (some ⟨b,0,none⟩)] w fun e w'=>e= .returned (.tuple #[])∧w'=w:=L01.qjw b w a
theorem qyg (b:Nat) (w:World) {v nv o:Value} (h:Blk w b #[.pointer none,v,nv,o] 116):
  Calls Tryz.prog 177 #[.pointer (some ⟨b,0,none⟩)] w fun e w'=>e= .returned (.tuple #[])∧w'=w.setCell ⟨b,0,none⟩ (.pointer (some ⟨b,0,none⟩)):=by
 obtain ⟨j,g,c⟩:=L01.qiJ;have l:w.cell? ⟨b,0,none⟩=some (.pointer none):=by rw [h.cell];rfl
 have a:=qv8 h;have k:w.frozen? ⟨b,0,none⟩=false:=by simp [World.frozen?,h.heap]
 go_enter Tryz.func177,Tryz.ntmps177
 go_wp2
 rw [Lib.run_to_unsafe w ⟨b,0,none⟩ Tryz.underlying111 Tryz.underlying254 g (by rw [c];decide) a (Nat.zero_lt_succ 3)];simp only [Result.andThen];rw [Oper.upon_value]
 go_wp2
 rw [run_callFunc_extern Tryz.func247 (by kernel_rfl) (by kernel_rfl) (by kernel_rfl) (e:=Extern.AbiNoEscape.same) (by kernel_rfl),Lib.run_noEscape];simp only [Result.andThen];rw [Oper.upon_value]
 go_wp2
 rw [Lib.run_from_unsafe w ⟨b,0,none⟩ Tryz.underlying254 Tryz.underlying111 g a qzW];simp only [Result.andThen];rw [Oper.upon_value]
 go_wp2
 go_end0
 exact ⟨rfl,rfl⟩
theorem qyh {w:World} {b:Nat} {p v nv o:Value} (h:Blk w b #[p,v,nv,o] 116) (a:p= .pointer none∨p= .pointer (some ⟨b,0,none⟩)):
  Calls Tryz.prog 177 #[.pointer (some ⟨b,0,none⟩)] w fun e w'=>e= .returned (.tuple #[])∧Blk w' b #[.pointer (some ⟨b,0,none⟩),v,nv,o] 116∧Only b w w':=by
 rcases a with rfl|rfl
 ·refine (qyg b w h).mono ?_;rintro _ _ ⟨rfl,rfl⟩;exact ⟨rfl,by simpa using qe5 h 0 (.pointer (some ⟨b,0,none⟩)),qds _ _ _ _⟩
 ·refine (qyf b w (by rw [h.cell];rfl)).mono ?_;rintro _ _ ⟨rfl,rfl⟩;exact ⟨rfl,h,Only.refl _ _⟩
theorem qbN {w w':World} {B:Nat} {v:Value} {n:Nat} {xs:List Value} (h:w.ownsRow B 5 1 v n xs) (e:∀k,v.ownBlock=some k→w'.heap[k]? =w.heap[k]?):w'.ownsRow B 5 1 v n xs:=by
 refine ⟨h.1, ?_⟩;rcases h.2 with j|⟨g,cap,cur,rfl,a,c,r⟩
 ·exact .inl j
 ·exact .inr ⟨g,cap,cur,rfl,a,(e g rfl).trans c,r⟩
theorem qld {w:World} {B:Nat} {v:Value} {n:Nat} {xs:List Value} (h:w.ownsRow B 5 1 v n xs) {k:Nat} (a:v.ownBlock=some k):∃cur,w.heap[k]? =some (.cells cur 5 (0,0)):=by
 rcases h.2 with ⟨rfl,_⟩|⟨g,cap,cur,rfl,e,c,r⟩
 ·simp at a
 ·simp at a;subst a;exact ⟨cur,c⟩
theorem Pr.ext {w w':World} {B b:Nat} {nv:Value} {op:Bool} {bs:Bs} (h:Pr B b nv op bs w) (e:qb w w'):Pr B b nv op bs w':=by
 obtain ⟨j,p,v,m,l,c,a⟩:=h;exact ⟨j,p,v,m.ext e,l,qbN c (fun k g=>by obtain ⟨cur,n⟩:=qld c g;exact e.block k (Array.getElem?_eq_some_iff.1 n).1),a⟩
theorem Pr.at' {p:Nat→TypeId→Prop} {w w':World} {B b:Nat} {nv:Value} {op:Bool} {bs:Bs} (h:Pr B b nv op bs w) (c:qC p w w') (g:∀k,p k 116) (u:∀k,p k 5):Pr B b nv op bs w':=by
 obtain ⟨l,q,v,n,m,e,a⟩:=h;exact ⟨l,q,v,n.at' c (g _),m,qbN e (fun k j=>by obtain ⟨cur,o⟩:=qld e j;exact c k _ _ _ o (u _)),a⟩
theorem Pr.nodes {w:World} {B b:Nat} {nv:Value} {op:Bool} {bs:Bs} (h:Pr B b nv op bs w):w.cell? ⟨b,2,none⟩=some nv:=by
 obtain ⟨e,q,v,a,g,j,c⟩:=h;rw [a.cell];rfl
structure Chg (w0 w w':World):Prop where
 ext:qb w0 w'
 same:qC prP w w'
 size:w.heap.size≤w'.heap.size
theorem Chg.trans {w0 a b c:World} (h:Chg w0 a b) (k:Chg w0 b c):Chg w0 a c:=⟨k.ext,h.same.trans k.same,Nat.le_trans h.size k.size⟩
theorem qtt {P:Program} {Q:Ks} {d:Option Nat} {b:Builtin} {args:Array Operand} {a:Array TypeId} {ty:TypeId} {K:qa→World→Prop} {ρ:qa} {w:World} (h:j9 P Q d (.call {callee:= .builtin b,args:=args,argTypes:=a}) ty K ρ w):qr P Q d (.call {callee:= .builtin b,args:=args,argTypes:=a}) ty K ρ w:=h
def ndC (t:T) (kv:Value):List Value:=[Value.int .u8 (t.d.kind:Int), .string (qc t.d.name), .string (qc t.d.vr), .string (qc t.d.typ), .int .i64 t.d.n,kv]
structure StC (w0 W:World) (b:Nat) (nv:Value) (bs vq:Bs) (t:T) (kv:Value) (P I X:Nat):Prop where
 ext:qb w0 W
 pr:Pr w0.heap.size b nv true bs W
 bP:Blk W P #[.pointer (some ⟨b,0,none⟩)] 110
 bI:Blk W I #[.string (qc vq)] 9
 bX:Blk W X (ndC t kv).toArray 44
section
variable {w0 W:World} {b:Nat} {nv:Value} {bs vq:Bs} {t:T} {kv:Value} {P I X:Nat}
theorem StC.cs (h:StC w0 W b nv bs vq t kv P I X):W.cell? ⟨P,0,none⟩=some (.pointer (some ⟨b,0,none⟩))∧W.cell? ⟨I,0,none⟩=some (.string (qc vq))∧W.cell? ⟨X,0,none⟩=some (.int .u8 (t.d.kind:Int))∧W.cell? ⟨X,1,none⟩=some (.string (qc t.d.name))∧W.cell? ⟨X,3,none⟩=some (.string (qc t.d.typ))∧W.cell? ⟨X,5,none⟩=some kv:=
 ⟨by rw [h.bP.cell];rfl,by rw [h.bI.cell];rfl,by rw [h.bX.cell];rfl,by rw [h.bX.cell];rfl,by rw [h.bX.cell];rfl,by rw [h.bX.cell];rfl⟩
end
theorem kL.rd {q:Nat→Prop} {w:World} {v:Value} {l:List Nd} (h:kL q w v l):RdN w v l:=by
 obtain ⟨xs,e,c,a⟩:=h;exact ⟨xs,e,qxB c fun x g=>(a x g).1⟩
theorem wS.rd {e:Type} {b T sz:Nat} {C C':List Value→e→Prop} {w:World} {v:Value} {l:List e} (h:wS b T sz C w v l) (g:∀c a,C c a→C' c a):xh sz C' w v l:=by
 obtain ⟨css,j,k⟩:=h;exact ⟨css,L01.jM j,k.imp g⟩
theorem Qm.rd {w:World} {cs:List Value} {s:Sig} (h:Qm w cs s):wu w cs s:=by
 obtain ⟨g,sv,e,c,a⟩:=h;exact ⟨g,sv,e,L01.jM c,L01.jM a⟩
theorem yu.rd {q:Nat→Prop} {w:World} {cs:List Value} {m:Mod} (h:yu (kL q w) w cs m):qae w cs m:=by
 obtain ⟨a,b,c,e,k,j,g⟩:=h;refine ⟨a,b,c,e,k.rd ?_,j.rd ?_,g.rd ?_⟩
 ·rintro _ _ ⟨c,e,h⟩;exact ⟨c,e,h.rd⟩
 ·rintro _ _ ⟨c,e,h⟩;exact ⟨c,e,h.rd⟩
 ·rintro _ _ ⟨c,n,l,e,k,j,g⟩;exact ⟨c,n,l,e,k.rd,L01.jM j,g.rd⟩
def RdM (w:World) (v:Value) (l:List Mod):Prop:=xh 7 (qae w) w v l
theorem RdM.ext {w w':World} {v:Value} {l:List Mod} (h:RdM w v l) (a:qb w w'):RdM w' v l:=xh.ext h a fun _ _ h=>h.ext a
theorem qGv {w W:World} {base:Nat} {v k:Value} {n:Nat} {xs:List Value} (s:ByteArray) (a:w.ownsRow base 5 1 v n xs) (A:n+s.size≤140737488355328) (o:(Builtin.append_ #[112,9] 112 #[v, .string s]).run Tryz.prog w= .ok k W) (j:k= .slice none 0 0↔v= .slice none 0 0∧s.size=0):k.ownBlock=v.ownBlock∨k.ownBlock=some w.heap.size:=by
 obtain ⟨i,p,y,x,h⟩:=qch;have l:xs.length=n:=by simpa using a.1
 rcases a.2 with ⟨rfl,rfl⟩|⟨g,cap,cur,rfl,J,E,H,F,u,m⟩
 ·by_cases C:s.size=0
  ·left;rw [j.2 ⟨rfl,C⟩]
  ·have c:=run_append_nil_string (P:=Tryz.prog) w 112 9 112 5 i (.int .u8 0) Tryz.underlying112 Tryz.underlying9 p y s (by omega) (by omega) (by rw [h];omega);rw [o] at c;cases c;right;rfl
 ·have z:cur.size=cap:=by simpa using u
  by_cases e:n+s.size≤cap
  ·have c:=Lib.run_append_room_string (P:=Tryz.prog) w 112 9 112 5 i Tryz.underlying112 Tryz.underlying9 p x g n cap cur E s e (by omega);rw [o] at c;cases c;left;rfl
  ·have c:=Lib.run_append_grow_string (P:=Tryz.prog) w 112 9 112 5 i (.int .u8 0) Tryz.underlying112 Tryz.underlying9 p y ⟨g,0,none⟩ n cap xs (by rw [x];simpa using l) (a.cells (g:=g) rfl) s (by omega) (by omega) (by rw [h];exact growslice_fits (by omega) (by omega));rw [o] at c;cases c;right;rfl
def wV (B O:Nat) (v:Value) (bs:Bs) (w:World):Prop:=B≤O∧(∃p,(p= .pointer none∨p= .pointer (some ⟨O,0,none⟩))∧Blk w O #[p,v] 114)∧w.ownsRow B 5 1 v bs.length (bs.map jk)∧v.ownBlock≠some O
theorem wV.bd {B O:Nat} {v:Value} {bs:Bs} {w:World} (h:wV B O v bs w):Bd B O bs w:=by
 obtain ⟨e,⟨p,j,c⟩,g,a⟩:=h;rcases j with rfl|rfl
 ·exact .inl ⟨e,v,c.heap,by simpa using g,a⟩
 ·exact .inr ⟨e,v,c.heap,by simpa using g,a⟩
theorem wV.keep {B O:Nat} {v:Value} {bs:Bs} {w w':World} (h:wV B O v bs w) (c:w'.heap[O]? =w.heap[O]?) (l:∀k,v.ownBlock=some k→w'.heap[k]? =w.heap[k]?):wV B O v bs w':=by
 obtain ⟨g,⟨p,j,e⟩,m,a⟩:=h;exact ⟨g,⟨p,j,⟨c.trans e.heap⟩⟩,qbN m l,a⟩
theorem wV.lt {B O:Nat} {v:Value} {bs:Bs} {w:World} (h:wV B O v bs w):O<w.heap.size∧∀k,v.ownBlock=some k→k<w.heap.size:=by
 obtain ⟨j,⟨p,l,a⟩,g,e⟩:=h;exact ⟨a.lt,fun k c=>(g.lt k c).2⟩
theorem wV.ext {B O:Nat} {v:Value} {bs:Bs} {w w':World} (h:wV B O v bs w) (a:qb w w'):wV B O v bs w':=h.keep (a.block O h.lt.1) fun k c=>a.block k (h.lt.2 k c)
end Go.L02
namespace Go.L02
open Go Go.Eng
open Go.L01 (Bs Tok)
set_option maxRecDepth 100000
set_option maxHeartbeats 2000000
def exB:Bs:=[112,114,111,99,32,112,40,41,32,105,115,32,120,32,58,61,32,97,91,105,110,116,93,59,32,112,117,116,32,49,32,101,110,100]
def exC:Bs:=[112,114,111,99,32,112,40,41,32,115,105,103,110,97,108,115,40,98,44,32,97,41,32,105,115,32,101,110,100]
theorem ty1:jh [114,101,99,111,114,100,91,98,58,105,110,116,44,97,58,115,101,116,91,63,116,93,93]=true:=by decide+kernel
theorem op1:zP [103,101,116,95,102]=true:=by decide+kernel
theorem op2:zP [103,101,116,95]=false:=by decide+kernel
end Go.L02
namespace Go.L02
open Go Go.Eng Go.Proofs
set_option maxRecDepth 100000
set_option maxHeartbeats 2000000
noncomputable def qsd:IR:=zq [zm 26 0,zm 27 1,zc 28 31 #[zt 26,zt 27] #[29,3] 45,zm 25 28,za 29 (ze 0 (zv 25)),za 30 (ze 1 (zv 25)),zm 5 29,zm 6 30,zm 32 0,zm 33 1,zc 34 45 #[zt 32,zt 33] #[29,3] 45,zm 31 34,za 35 (ze 0 (zv 31)),za 36 (ze 1 (zv 31)),zm 7 35,zm 8 36,zm 38 0,zc 39 30 #[zt 38] #[29] 41,zm 37 39,za 40 (ze 0 (zv 37)),za 41 (ze 1 (zv 37)),zm 9 40,zm 10 41,zm 43 0,zc 44 46 #[zt 43] #[29] 41,zm 42 44,za 45 (ze 0 (zv 42)),za 46 (ze 1 (zv 42)),zm 11 45,zm 12 46,zm 48 0,zm 49 1,zc 50 43 #[zt 48,zt 49] #[29,3] 68,zm 47 50,za 51 (ze 0 (zv 47)),za 52 (ze 1 (zv 47)),zm 13 51,zm 14 52,zm 54 0,zm 55 1,zc 56 47 #[zt 54,zt 55] #[29,3] 68,zm 53 56,za 57 (ze 0 (zv 53)),za 58 (ze 1 (zv 53)),zm 15 57,zm 16 58,zm 60 0,zc 61 48 #[zt 60] #[29] 74,zm 59 61,za 62 (ze 0 (zv 59)),za 63 (ze 1 (zv 59)),zm 17 62,zm 18 63,zm 65 0,zc 66 49 #[zt 65] #[29] 74,zm 64 66,za 67 (ze 0 (zv 64)),za 68 (ze 1 (zv 64)),zm 19 67,zm 20 68,zc 69 14 #[] #[] 4,za 80 (.ite (.ite (zv 69) (zI .eql (zv 5) (zv 7)) (zQ false)) (zI .eql (zv 6) (zv 8)) (zQ false)),zg 80 true 81 (zv 9),zg 80 true 82 (zv 11),zh 80 true 83 50 #[zt 81,zt 82] #[40,40] 4,za 90 (.ite (.ite (zv 80) (zv 83) (zQ false)) (zI .eql (zv 10) (zv 12)) (zQ false)),zg 90 true 91 (zv 13),zg 90 true 92 (zv 15),zh 90 true 93 20 #[zt 91,zt 92] #[29,29] 4,za 100 (.ite (.ite (zv 90) (zv 93) (zQ false)) (zI .eql (zv 14) (zv 16)) (zQ false)),zg 100 true 101 (zv 17),zg 100 true 102 (zv 19),zh 100 true 103 51 #[zt 101,zt 102] #[51,51] 4,za 4 (.ite (.ite (zv 100) (zv 103) (zQ false)) (zI .eql (zv 18) (zv 20)) (zQ false))] <| .ret
noncomputable def qsg:IR:=zq [za 4 (zQ false),zm 21 0,zc 22 21 #[zt 21] #[29] 4,za 23 (zn (zv 22))] <| .seq (.cond (zv 23) (zq [zc 24 14 #[] #[] 4,zm 4 24] <| .ret) .skip) (qsd)
def qD7:List Nat:=zV 104 [2,3,70,71,72,73,74,75,76,77,78,79,84,85,86,87,88,89,94,95,96,97,98,99]
theorem qD6:C2 12 110 qD7 qsg [.tmp 4]:=c2 [] Tryz.func12
noncomputable def qqI:IR:= .reg [za 11 (zI .add (zv 11) (zK 1))]
noncomputable def qqH:IR:= .seq (.block 1 (zq [za 14 (zM 6 (zx 6 (zv 9) (zv 11))),zA 4 44,zw 44 (zt 4) (zt 14),za 36 (.ite (.ite (.ite (zI .gtr (zT (zo 1 (zv 4))) (zK 40)) (zQ true) (zI .gtr (zT (zo 2 (zv 4))) (zK 110))) (zQ true) (zI .gtr (zT (zo 3 (zv 4))) (zK 110))) (zQ true) (zI .gtr (zL (zo 5 (zv 4))) (zK 420)))] <| .cond (zv 36) (zq [za 2 (zQ false)] <| .ret) .skip)) (qqI)
noncomputable def qh2:IR:=zq [za 12 (zI .lss (zv 11) (zv 10))] <| .seq (.cond (zv 12) .skip (.exit 0)) (qqH)
noncomputable def qqG:IR:=zq [za 2 (.ite (zI .leq (zL (zv 0)) (zK 120)) (zQ true) (.ite (zI .gtr (zL (zv 0)) (zK 400)) (zI .leq (zL (zv 0)) (zK 410)) (zQ false)))] <| .ret
noncomputable def qqL:IR:=zq [za 2 (zQ false),zm 5 0,za 7 (zL (zv 0)),zE 8 (.call {callee:= .builtin .min,args:= #[zt 7,zO 420],argTypes:= #[3,3]}) 3,za 9 (.op3 (.slLoHi 6) (zv 5) (zK 0) (zv 8)),za 10 (zL (zv 9)),za 11 (zK 0)] <| .seq (.block 0 (.loop qh2)) (qqG)
def qCP:List Nat:=[0,2,4,5,7,8,9,10,11,12,14,36]
theorem qCO:C1 21 51 qCP qqL [.tmp 2]:=c1 [] Tryz.func21
end Go.L02
namespace Go.L02
open Go Go.Eng Go.RowKit
open Go.Proofs hiding encI
open Go.L01 (Bd Bs Own.same Qo SlK Tok fV jC jF jG jH jZ jo qB qM qS qch qe qh ql vp vt)
set_option maxRecDepth 100000
set_option maxHeartbeats 2000000
theorem g26:Tryz.prog.eqGuardType Tryz.prog.depth 26=false:=by kernel_rfl
theorem qEN : ((Tryz.prog.fieldsOf 26).toList.map fun f => (f.name == "_", f.type, f.offset)) = [(false, 24, 0), (false, 3, 1)] := by kernel_rfl
theorem qvJ:Tryz.prog.underlying 26=some (.struct (Tryz.prog.fieldsOf 26)):=by kernel_rfl
theorem qEA:Tryz.prog.stoodInHeld 26=false:=by kernel_rfl
theorem qE3 (a b c d:Int) (w:World):(Op.equalIn 10000 26 (.agg #[.int .i64 a, .int .i64 b]) (.agg #[.int .i64 c, .int .i64 d])).run Tryz.prog w= .ok (decide (a=c)&&decide (b=d)) w:=by
 have j:=qEN;obtain ⟨o,m,g⟩:∃o m,(Tryz.prog.fieldsOf 26).toList=[o,m]:=by
  match h:(Tryz.prog.fieldsOf 26).toList with
  |[o,m]=>exact ⟨o,m,rfl⟩
  |[] |[_] |_::_::_::_=>rw [h] at j;simp at j
 rw [g] at j;simp at j;obtain ⟨⟨E,H,o1⟩,n2,C,o2⟩:=j;have e:=run_equalIn_agg (P:=Tryz.prog) w 9999 26 #[.int .i64 a, .int .i64 b] #[.int .i64 c, .int .i64 d] qvJ qEA;have p:∀(cs:Array Value) (v:Value) (off t:Nat),xz Tryz.prog t=some false→cs[off]? =some v→(Go.part t cs off).run Tryz.prog w= .ok v w:=fun cs v off t A R=>qf2 A R;have k:xz Tryz.prog 24=some false:=by kernel_rfl
 have i3:xz Tryz.prog 3=some false:=by kernel_rfl
 have n:=run_equalIn_int (P:=Tryz.prog) w 9998 24 .i64 .i64 a c (by kernel_rfl);have l:=run_equalIn_int (P:=Tryz.prog) w 9998 3 .i64 .i64 b d (by kernel_rfl);refine e.trans ?_;rw [g];have J:=p #[.int .i64 a, .int .i64 b] (.int .i64 a) 0 24 k rfl;have O:=p #[.int .i64 a, .int .i64 b] (.int .i64 b) 1 3 i3 rfl;have F:=p #[.int .i64 c, .int .i64 d] (.int .i64 c) 0 24 k rfl;have b2:=p #[.int .i64 c, .int .i64 d] (.int .i64 d) 1 3 i3 rfl;have u:(a==c)=decide (a=c):=by rw [Bool.eq_iff_iff];simp
 have y:(b==d)=decide (b=d):=by rw [Bool.eq_iff_iff];simp
 rw [u] at n;rw [y] at l;generalize decide (a=c)=x at n;generalize decide (b=d)=z at l;simp only [Nat.reduceAdd] at n l;cases x<;>cases z<;>simp [Op.eqFields,E,n2,H,C,o1,o2,J,O,F,b2,n,l]
@[simp] theorem qII:qf Tryz.prog 14=true:=by kernel_rfl
@[simp] theorem qIH:qf Tryz.prog 21=true:=by kernel_rfl
def Q8 (b:Bool) (o:Option Value) (d:Nat) (K:qa→World→Prop) (ρ:qa) (w:World):Prop:=if b then vJ o (fun v=>K (qu ρ d v) w) else K (qu ρ d undef) w
def Q9 (P:Program) (Q:Ks) (b:Bool) (d:Option Nat) (op:Op) (ty:TypeId) (K:qa→World→Prop) (ρ:qa) (w:World):Prop:=if b then qr P Q d op ty K ρ w else K (qm ρ d undef) w
section
variable {P:Program} {Q:Ks} {K:qa→World→Prop} {ρ:qa} {w:World} {r:List St}
theorem wa2 {g:Option (Nat×Bool)} {d:Nat} {e:Ex}:qV P Q (.asg g d e::r) K ρ w=Q8 (gd ρ g) (e.ev ρ w) d (qV P Q r K) ρ w:=rfl
theorem we2 {g:Option (Nat×Bool)} {d:Option Nat} {op:Op} {ty:TypeId}:qV P Q (.eff g d op ty::r) K ρ w=Q9 P Q (gd ρ g) d op ty (qV P Q r K) ρ w:=rfl
@[simp] theorem qED {d:Nat} {v:Value}:Q8 true (some v) d K ρ w=K (qu ρ d v) w:=rfl
@[simp] theorem qEE {o:Option Value} {d:Nat}:Q8 false o d K ρ w=K (qu ρ d undef) w:=rfl
@[simp] theorem qEF {d:Option Nat} {op:Op} {ty:TypeId}:Q9 P Q true d op ty K ρ w=qr P Q d op ty K ρ w:=rfl
@[simp] theorem qEG {d:Option Nat} {op:Op} {ty:TypeId}:Q9 P Q false d op ty K ρ w=K (qm ρ d undef) w:=rfl
end
def okR (w:World):Ending→World→Prop:=fun e w'=>e= .returned (.bool true)∧qb w w'
def kV (x:Nd):Bool:=decide (x.d.name.length≤40)&&decide (x.d.vr.length≤110)&&decide (x.d.typ.length≤110)&&decide (x.kids.length≤420)
def wo (l:List Nd):Bool:=(l.take 420).all kV&&(decide (l.length≤120)||(decide (400<l.length)&&decide (l.length≤410)))
theorem qs7 {l:List Nd} (h:wo l=true):l.length≤410:=by
 simp only [wo,Bool.and_eq_true,Bool.or_eq_true,decide_eq_true_eq] at h;omega
theorem qEU {l:List Nd} (h:wo l=true):∀x∈l,kV x=true:=by
 have a:=qs7 h;simp only [wo,Bool.and_eq_true] at h;have:=h.1;rw [List.take_of_length_le (by omega)] at this;exact List.all_eq_true.1 this
theorem qET {l:List Nd} (h:wo l=true) (e:∀x∈l,x.d.kind<256):z8 l:=by
 have c:=qEU h;refine ⟨fun x a=> ?_,fun x a=> ?_⟩
 ·have:=c x a;simp only [kV,Bool.and_eq_true,decide_eq_true_eq] at this;exact ⟨e x a,by omega,by omega,by omega⟩
 ·have:=c x a;simp only [kV,Bool.and_eq_true,decide_eq_true_eq] at this;omega
theorem qyO {w:World} {lv:Value} {xs:List NV} (hR:Rd w lv xs) (hlen:xs.length<4611686018427387904) (hkl:∀x∈xs,x.nd.kids.length<4611686018427387904):Calls Tryz.prog 21 #[lv] w fun e w'=>e= .returned (.bool (wo (xs.map (·.nd))))∧qb w w':=by
 have hl:=hR.len;have a:=hR.cells.is;have hcap:=y9 a;generalize hRR:(fun (e:Ending) (w':World)=>e= .returned (.bool (wo (xs.map (·.nd))))∧qb w w')=R;refine qCO fun ρ r0=> ?_;simp -implicitDefEqProofs [qqL,r0,a,hl];refine qFc (x:=(xs.length:Int)) (y:=420) (k:= .i64) (by simp) (by simp) ?_;obtain ⟨m,hm,hmm⟩:∃m:Nat,(if (420:Int)<(xs.length:Int) then 420 else (xs.length:Int))=(m:Int)∧m=min xs.length 420:=by
  refine ⟨min xs.length 420, ?_,rfl⟩;split<;>omega
 rw [hm];have hml:m≤qv lv:=by omega
 have hml':(m:Int)≤(qv lv:Int):=by omega
 have hs1:=QY a 6 0 m (qv lv) (Nat.zero_le _) hml (Nat.le_refl _);have Y:qk (qY lv 6 0 m (qv lv))=m:=by rw [qbf _ _ _ _ a];omega
 have hsa:∀j,0<m→qD (qY lv 6 0 m (qv lv)) j=qD lv j:=fun j h0=>by rw [qcW 6 0 m _ j a (by omega) (by omega)];simp
 generalize hsv:qY lv 6 0 m (qv lv)=sv at hs1 Y hsa;simp -implicitDefEqProofs [a,hml,hml',hsv,hs1,Y];have g:wo (xs.map (·.nd))=((xs.take m).all (fun x=>kV x.nd)&&(decide (xs.length≤120)||(decide (400<xs.length)&&decide (xs.length≤410)))):=by
  unfold wo;rw [List.length_map,←List.map_take,List.all_map];congr 2;rw [hmm];by_cases h:xs.length≤420
  ·rw [List.take_of_length_le (by omega),List.take_of_length_le (by omega)]
  ·rw [show min xs.length 420=420 by omega]
 obtain ⟨J,hJ⟩:∃J:Nat→qa→World→Prop,∀j u w',J j u w'↔(u 0=lv∧u 9=sv∧u 10= .int .i64 (m:Int)∧(xs.take j).all (fun x=>kV x.nd)=true∧qb w w'):=⟨_,fun _ _ _=>Iff.rfl⟩;refine jj 11 m J (by simp) ((hJ _ _ _).2 ⟨by simp [r0],by simp,by simp,by simp,qz _⟩) ?_;clear r0;rintro j u w' hj rj hJw;obtain ⟨r0,r9,S,F,hE⟩:=(hJ _ _ _).1 hJw;have hwj:IntKind.i64.wrap ((j:Int)+1)=(j:Int)+1:=qp (by omega);by_cases hlt:j<m
 ·have H:(j:Int)<(m:Int):=by omega
  have hjx:j<xs.length:=by omega
  have hR':=hR.ext hE;have A:=hR'.row hjx;rw [←hsa (j*6) (by omega)] at A;have hk:=hR'.kids xs[j] (List.getElem_mem _);have V:qk xs[j].kv=xs[j].nd.kids.length:=by simpa using hk.len.symm
  have z:=vl hk.is;have hko:=vU hk.is;have htk:(xs.take (j+1)).all (fun x=>kV x.nd)=kV xs[j].nd:=by rw [List.take_succ_eq_append_getElem hjx,List.all_append,F];simp
  have hno:kV xs[j].nd=false→wo (xs.map (·.nd))=false:=fun h=>by
   rw [g];have:(xs.take m).all (fun x=>kV x.nd)=false:=by
    rw [List.all_eq_false];exact ⟨xs[j],List.mem_iff_getElem.2 ⟨j,by rw [List.length_take];omega,by simp⟩,by simp [h]⟩
   rw [this];rfl
  generalize xs[j]=x at A hk V z hko htk hno;simp -implicitDefEqProofs [qh2,rj,S,H,hlt,qqH,r9,hs1,Y,A];refine qR ww fun X w1 hX hE1 hb1 _=> ?_;simp -implicitDefEqProofs;refine jl (B:=X) (by simp) hb1 (by simp [Value.cells,qi,z]) (by simp [Value.cells,qi,z,hko]) (by simpa [Value.cells,qi,z] using wE) fun w2 hO2 p=> ?_;simp -implicitDefEqProofs [Value.cells,qi,z] at p;have hE2:qb w' w2:=hO2.ext hE1 hX;have c1:w2.cell? ⟨X,1,none⟩=some (.string (qc x.nd.d.name)):=by rw [p.cell];rfl
  have c2:w2.cell? ⟨X,2,none⟩=some (.string (qc x.nd.d.vr)):=by rw [p.cell];rfl
  have c3:w2.cell? ⟨X,3,none⟩=some (.string (qc x.nd.d.typ)):=by rw [p.cell];rfl
  have c5:w2.cell? ⟨X,5,none⟩=some x.kv:=by rw [p.cell];rfl
  have bad:kV x.nd=false→R (.returned (.bool false)) w2:=fun h=>by rw [←hRR];exact ⟨by rw [hno h],hE.trans' hE2⟩
  have n:kV x.nd=(decide (x.nd.d.name.length≤40)&&decide (x.nd.d.vr.length≤110)&&decide (x.nd.d.typ.length≤110)&&decide (x.nd.kids.length≤420)):=rfl;by_cases q1:40<x.nd.d.name.length
  ·have c:(40:Int)<(x.nd.d.name.length:Int):=by omega
   simp -implicitDefEqProofs [c1,q1,c];exact bad (by rw [n];simp;omega)
  have c:¬(40:Int)<(x.nd.d.name.length:Int):=by omega
  by_cases q2:110<x.nd.d.vr.length
  ·have l:(110:Int)<(x.nd.d.vr.length:Int):=by omega
   simp -implicitDefEqProofs [c1,q1,c,c2,q2,l];exact bad (by rw [n];simp;omega)
  have l:¬(110:Int)<(x.nd.d.vr.length:Int):=by omega
  by_cases q3:110<x.nd.d.typ.length
  ·have C:(110:Int)<(x.nd.d.typ.length:Int):=by omega
   simp -implicitDefEqProofs [c1,q1,c,c2,q2,l,c3,q3,C];exact bad (by rw [n];simp;omega)
  have C:¬(110:Int)<(x.nd.d.typ.length:Int):=by omega
  by_cases q4:420<x.nd.kids.length
  ·have U:(420:Int)<(x.nd.kids.length:Int):=by omega
   simp -implicitDefEqProofs [c1,q1,c,c2,q2,l,c3,q3,C,c5,hk.is,V,q4,U];exact bad (by rw [n];simp;omega)
  have U:¬(420:Int)<(x.nd.kids.length:Int):=by omega
  simp -implicitDefEqProofs [c1,q1,c,c2,q2,l,c3,q3,C,c5,hk.is,V,q4,U,qqI,rj,hwj];refine (hJ _ _ _).2 ⟨by simp [r0],by simp [r9],by simp [S], ?_,hE.trans' hE2⟩;rw [htk,n];simp;omega
 ·have H:¬(j:Int)<(m:Int):=by omega
  have hjm:j=m:=by omega
  subst hjm;rw [F,Bool.true_and] at g;simp -implicitDefEqProofs [qh2,rj,S,qqG,r0,a,hl];rw [←hRR];by_cases O:xs.length≤120
  ·have o:(xs.length:Int)≤120:=by omega
   simp [O,o];exact ⟨by rw [g];simp [O],hE⟩
  ·have o:¬(xs.length:Int)≤120:=by omega
   by_cases p2:400<xs.length
   ·have E:(400:Int)<(xs.length:Int):=by omega
    by_cases p3:xs.length≤410
    ·have Z:(xs.length:Int)≤410:=by omega
     simp [O,o,p2,E,p3,Z];exact ⟨by rw [g];simp [O,p2,p3],hE⟩
    ·have Z:¬(xs.length:Int)≤410:=by omega
     simp [O,o,p2,E,p3,Z];exact ⟨by rw [g];simp [O,p2,p3],hE⟩
   ·have E:¬(400:Int)<(xs.length:Int):=by omega
    simp [O,o,p2,E];exact ⟨by rw [g];simp [O,p2],hE⟩
noncomputable section
theorem qbW (b:ByteArray):qc b.data.toList=b:=by cases b;simp [qc]
section
variable {σ:Sg} {w0 w W:World} {s s':Sx}
theorem qze (C:Iv σ w0 s w) (Z:qb w W) {Y:Value} {t sz n i:Nat} {cs cs':List Value} (V:qn σ cs cs') (ho:Own w.heap.size t sz W Y cs') (E:cs.length=n*sz) (h1:1≤cs.length) (u:sz≠0) {k:Option Nat} (h:xe s k ⟨cs,t,sz,false,false⟩=some (i,s')):
  ∃m,σ.le m∧Iv m w0 s' W∧VR m (.slice (some ⟨i,0,none⟩) n n) Y:=by
 have A:=V.len;rcases ho with ⟨_,y⟩|⟨g,off,a,cap,cur,rfl,U,J,S,hnc,hcm,H,l⟩
 ·rw [y,List.length_nil] at A;omega
 ·have hn:a=n:=Nat.eq_of_mul_eq_mul_right (Nat.pos_of_ne_zero u) (by rw [←E,A,←S]);subst hn;obtain ⟨m,e,O,F⟩:=qdy C h (b:=g) (f:=off) (x:=cap - a) (C.mr.ext Z) (C.ext.trans' Z) (Nat.le_trans C.ext.size U) (fun j oj pj hj hp he=>by
   obtain ⟨p,z,hlt⟩:=C.mr.at' hj;rw [hp] at z;cases z;omega) fun m e O=>⟨fun hz=>absurd hz u,fun _=>⟨cur,O,J,by
    dsimp only;rw [E,l];exact V.mono e,by
    dsimp only;rw [E];have:a*sz+(cap - a)*sz=cap*sz:=by rw [←Nat.add_mul];congr 1;omega
    omega,(fun R=>by cases R),fun _=>⟨a,E,by omega⟩,(fun R=>by cases R)⟩⟩
  refine ⟨m,e,F, ?_⟩;have:=VR.slc (σ:=m) (o:=0) (n:=a) (c:=a) O (Nat.le_refl _)
  rwa [show a+(cap - a)=cap by omega] at this
theorem qjX {a b c e:Value} (j:VR σ a c) (k:VR σ b e):VR σ (.tuple #[a,b]) (.tuple #[c,e]):=by
 obtain ⟨g,h⟩:=qn.arr (cs:= #[a,b]) (ds:= #[c,e]) ⟨j,k,trivial⟩;exact .tup g h
theorem qaq {P:Program} {f:FuncId} {args:Array Value} {v:Value} (c:Iv σ w0 s w) (g:qaS v=true) (h:Calls P f args w fun e w'=>e= .returned v∧qb w w'):Calls P f args w (vN σ w0 (.ret v s)):=
 h.mono fun _ w' a=>⟨σ,v,Sg.le_refl σ,c.toExt a.2,wP g,a.1⟩
theorem qbc {b:ByteArray} {args':List Value} (h:qn σ [.string b] args'):args'=[.string (qc b.data.toList)]:=by
 rw [qbW]
 match args',h with
 |[x],h=>rw [h.1.uniq (.pln (v:= .string b) rfl)]
def qcR:List Value→Option (List Bs)
 |[]=>some []
 | .string b::l=>match qcR l with|some r=>some (b.data.toList::r)|none=>none
 |_=>none
theorem qkm:∀{l e:List Value} {ss:List Bs},qn σ l e→qcR l=some ss→e=ss.map qe
 |[],[],ss,_,h=>by cases h;rfl
 |a::l,b::m,ss,g,h=>by
  unfold qcR at h;split at h
  ·rename_i c;cases c
  ·rename_i j l1 c;cases c;split at h
   ·rename_i r k;cases h;rw [qkm g.2 k,g.1.uniq (.pln (v:= .string j) rfl)];simp [qe,qbW]
   ·cases h
  ·cases h
def qeB:List Value→Option (List Int)
 |[]=>some []
 | .int .i64 n::l=>match qeB l with|some r=>some (n::r)|none=>none
 |_=>none
theorem qsL:∀{l g:List Value} {c:List Int},qn σ l g→qeB l=some c→g=c.map encI
 |[],[],c,_,h=>by cases h;rfl
 |a::l,b::m,c,j,h=>by
  unfold qeB at h;split at h
  ·rename_i e;cases e
  ·rename_i k l1 e;cases e;split at h
   ·rename_i r n;cases h;rw [qsL j.2 n,j.1.uniq (.pln (v:= .int .i64 k) rfl)];rfl
   ·cases h
  ·cases h
def qmj (H:vg) (k:Int) (a b c:ByteArray) (n:Int) (kv:Value):Option Nd:=
 match yH H 1 kv with
 |some ks=>match qeB ks with
  |some is=>bif decide (0≤k) then some ⟨⟨k.toNat,a.data.toList,b.data.toList,c.data.toList,n⟩,is⟩ else none
  |none=>none
 |none=>none
def qdx (H:vg):List Value→Option (List Nd)
 |[]=>some []
 | .int .u8 k:: .string a:: .string b:: .string c:: .int .i64 n::kv::l=>match qmj H k a b c n kv,qdx H l with
  |some x,some r=>some (x::r)
  |_,_=>none
 |_=>none
theorem qmi (Z:Iv σ w0 s w):∀(n:Nat) {l j:List Value} {C:List Nd},l.length≤n→qn σ l j→qdx s.H l=some C→∃xs:List NV,je xs=j∧xs.map (·.nd)=C∧∀x∈xs,Cells w x.kv 1 (x.nd.kids.map encI)
 |0,l,j,C,U,o,h=>by
  obtain rfl:=List.length_eq_zero_iff.1 (Nat.le_zero.1 U);cases h;cases j with
  |nil=>exact ⟨[],rfl,rfl,fun x g=>by simp at g⟩
  |cons _ _=>exact o.elim
 |Y+1,l,j,C,U,o,h=>by
  unfold qdx at h;split at h
  ·cases h;cases j with
   |nil=>exact ⟨[],rfl,rfl,fun x g=>by simp at g⟩
   |cons _ _=>exact o.elim
  ·rename_i k a b c n kv l1;have J:l1.length≤Y:=by simp at U;omega
   obtain ⟨F,E,z,A,u,p,m,rfl⟩:∃F E z A u p m,j=F::E::z::A::u::p::m:=by
    have:=o.len
    match j,this with
    |F::E::z::A::u::p::m,_=>exact ⟨F,E,z,A,u,p,m,rfl⟩
    |[],e|[_],e|[_,_],e|[_,_,_],e|[_,_,_,_],e|[_,_,_,_,_],e=>simp at e
   obtain ⟨h1,h2,h3,h4,h5,h6,o⟩:=o;split at h
   ·rename_i x r g hr;cases h;obtain ⟨xs,e1,e2,e3⟩:=qmi Z Y J o hr;unfold qmj at g;split at g
    ·rename_i ks O;split at g
     ·rename_i is S;obtain ⟨R,g⟩:=ji g;have R:0≤k:=by simpa using R
      cases g;obtain ⟨ks',g1,g2⟩:=qbe Z h6 O;refine ⟨⟨⟨⟨k.toNat,a.data.toList,b.data.toList,c.data.toList,n⟩,is⟩,p⟩::xs, ?_,by simp [e2],fun y V=> ?_⟩
      ·show qi _++je xs=_;rw [e1];have ek:((k.toNat:Nat):Int)=k:=Int.toNat_of_nonneg R;rw [h1.uniq (.pln (v:= .int .u8 k) rfl),h2.uniq (.pln (v:= .string a) rfl),h3.uniq (.pln (v:= .string b) rfl),h4.uniq (.pln (v:= .string c) rfl),h5.uniq (.pln (v:= .int .i64 n) rfl)];simp [qi,qbW,ek]
      ·rcases List.mem_cons.1 V with rfl|V
       ·rw [←qsL g2 S];exact g1
       ·exact e3 y V
     ·cases g
    ·cases g
   ·cases h
  ·cases h
end
def p53 (s:Sx):List Value→Option (Value×Sx)
 |[.string b]=>bif Nat.blt b.size 4611686018427387904&&Nat.ble 1 (qB (ql b.data.toList).toks).length&&(qB (ql b.data.toList).toks).all zF then
   (match xe s none ⟨qB (ql b.data.toList).toks,53,3,false,false⟩ with
   |some (i,s')=>some (.tuple #[.slice (some ⟨i,0,none⟩) (ql b.data.toList).toks.length (ql b.data.toList).toks.length,fV b.data.toList],s')
   |none=>none) else none
 |_=>none
def p77 (s:Sx):List Value→Option (Value×Sx)
 |[.string b]=>some (.bool (qh b.data.toList),s)
 |_=>none
def p22 (s:Sx):List Value→Option (Value×Sx)
 |[.string b]=>bif Nat.blt b.size 4611686018427387904 then some (.bool (jh b.data.toList),s) else none
 |_=>none
def p24 (s:Sx):List Value→Option (Value×Sx)
 |[.string b]=>bif Nat.blt b.size 4294967281 then some (.bool (zP b.data.toList),s) else none
 |_=>none
def p34 (s:Sx):List Value→Option (Value×Sx)
 |[v, .string b]=>match yH s.H 1 v with
  |some l=>match qcR l with
   |some ss=>bif Nat.ble ss.length 100000000000000&&Nat.ble (kX b.data.toList ss).length 100000000000000 then some (.string (qc (kX b.data.toList ss)),s) else none
   |none=>none
  |none=>none
 |_=>none
def qlh (g:FuncId):Option (Nat→Bool):=bif Nat.beq g 65 then some qj else bif Nat.beq g 80 then some (qt 20) else none
def qeP (x:Nd):Bool:=decide (x.d.kind<256)&&decide (x.d.name.length<4294967281)&&decide (x.d.vr.length<4294967281)&&decide (x.d.typ.length<4294967281)&&decide (x.kids.length≤1000000)
def p64 (s:Sx):List Value→Option (Value×Sx)
 |[v, .func (.func g) fs cs]=>match yH s.H 6 v with
  |some l=>match qdx s.H l,qlh g with
   |some ns,some root=>bif fs.isEmpty&&cs.isEmpty&&ns.all qeP then some (.bool (whole ns root),s) else none
   |_,_=>none
  |none=>none
 |_=>none
def qub (b:Bs):Option Int:=match Lib.atoiAll b with| .ok n=>some n|_=>none
def qgF (s:Sx):List Value→Option (Value×Sx)
 |[.string b]=>bif Nat.ble b.size 20 then (match qub b.data.toList with|some n=>some (.tuple #[.int .i64 n, .nilIface],s)|none=>none) else none
 |_=>none
def GM (w:World):Prop:=L01.G w∧vY w
section
variable {σ:Sg} {w0 w:World} {s s':Sx} {args args':List Value} {v:Value}
theorem gm (a:GM w0) (c:Iv σ w0 s w):L01.G w∧vY w:=⟨a.1.ext c.ext,a.2.ext c.ext⟩
theorem qy8 (m:GM w0) (e:Iv σ w0 s w) (x:qn σ args args') (h:p53 s args=some (v,s')):Calls Tryz.prog 53 args'.toArray w (vN σ w0 (.ret v s')):=by
 unfold p53 at h;split at h
 ·rename_i b;obtain ⟨a,h⟩:=ji h;simp only [Bool.and_eq_true,Nat.ble_eq,Nat.blt_eq] at a;rw [qbc x];split at h
  ·rename_i i y o;cases h;refine (L01.qfC (gm m e).1 b.data.toList a.1.1).mono ?_;rintro _ W ⟨u,rfl,g,p⟩;obtain ⟨j,l,c,k⟩:=qze (n:=(ql b.data.toList).toks.length) e p (QO a.2) g (L01.jo _) a.1.2 (by decide) o;exact ⟨j,_,l,c,qjX k (wP rfl),rfl⟩
  ·cases h
 ·cases h
theorem qy6 (c:GM w0) (a:Iv σ w0 s w) (e:qn σ args args') (h:p77 s args=some (v,s')):Calls Tryz.prog 77 args'.toArray w (vN σ w0 (.ret v s')):=by
 unfold p77 at h;split at h
 ·rename_i b;cases h;rw [qbc e];exact qaq a rfl (L01.Qx (gm c a).1 b.data.toList)
 ·cases h
theorem qzc (c:GM w0) (a:Iv σ w0 s w) (g:qn σ args args') (h:p22 s args=some (v,s')):Calls Tryz.prog 22 args'.toArray w (vN σ w0 (.ret v s')):=by
 unfold p22 at h;split at h
 ·rename_i b;obtain ⟨e,h⟩:=ji h;cases h;rw [qbc g];exact qaq a rfl (qdp (gm c a).1 b.data.toList (by simpa [Nat.blt_eq] using e))
 ·cases h
theorem qzb (c:GM w0) (a:Iv σ w0 s w) (g:qn σ args args') (h:p24 s args=some (v,s')):Calls Tryz.prog 24 args'.toArray w (vN σ w0 (.ret v s')):=by
 unfold p24 at h;split at h
 ·rename_i b;obtain ⟨e,h⟩:=ji h;cases h;rw [qbc g];exact qaq a rfl (ql2 (gm c a).1 (gm c a).2 b.data.toList (by simpa [Nat.blt_eq] using e))
 ·cases h
theorem qy9 (j:Iv σ w0 s w) (a:qn σ args args') (h:p34 s args=some (v,s')):Calls Tryz.prog 34 args'.toArray w (vN σ w0 (.ret v s')):=by
 unfold p34 at h;split at h
 ·rename_i u b;split at h
  ·rename_i l m;split at h
   ·rename_i ss e;obtain ⟨c,h⟩:=ji h;cases h;simp only [Bool.and_eq_true,Nat.ble_eq] at c
    match args',a with
    |[x,y],a=>
     obtain ⟨o,g,n⟩:=qbe j a.1 m;rw [qkm n e] at g;have k:y= .string (qc b.data.toList):=by rw [qbW];exact a.2.1.uniq (.pln (v:= .string b) rfl)
     subst k;exact qaq j rfl (qy0 b.data.toList g c.1 c.2)
   ·cases h
  ·cases h
 ·cases h
theorem qy7 (p:GM w0) (j:Iv σ w0 s w) (m:qn σ args args') (h:p64 s args=some (v,s')):Calls Tryz.prog 64 args'.toArray w (vN σ w0 (.ret v s')):=by
 unfold p64 at h;split at h
 ·rename_i u g fs cs;split at h
  ·rename_i l H;split at h
   ·rename_i U root o a;obtain ⟨z,h⟩:=ji h;cases h;simp only [Bool.and_eq_true,Array.isEmpty_iff] at z;obtain ⟨⟨rfl,rfl⟩,O⟩:=z
    match args',m with
    |[x,y],m=>
     obtain ⟨V,E,S⟩:=qbe j m.1 H;obtain ⟨xs,J,A,F⟩:=qmi j l.length (Nat.le_refl _) S o;have R:y=qG g #[]:=m.2.1.uniq (wP (v:= .func (.func g) #[] #[]) rfl);subst R;have C:vD w (qG g #[]) root:=by
      unfold qlh at a;cases e:Nat.beq g 65 with
      |true=>
       rw [e] at a;cases a;rw [Nat.eq_of_beq_eq_true e];exact qmM
      |false=>
       rw [e] at a;obtain ⟨n,a⟩:=ji (b:=Nat.beq g 80) a;cases a;rw [Nat.eq_of_beq_eq_true n];exact qg4
     have c:∀x∈xs,qeP x.nd=true:=fun x k=>List.all_eq_true.1 O x.nd (by rw [←A];exact List.mem_map.2 ⟨x,k,rfl⟩);have:=qlV (gm p j).1 (gm p j).2 (xs:=xs) ⟨by rw [J];exact E,F⟩ (fun x k=>by
      have:=c x k;simp only [qeP,Bool.and_eq_true,decide_eq_true_eq] at this;exact ⟨this.1.1.1.1,this.1.1.1.2,this.1.1.2,this.1.2⟩) (fun x k=>by
      have:=c x k;simp only [qeP,Bool.and_eq_true,decide_eq_true_eq] at this;exact this.2) C
     rw [A] at this;exact qaq j rfl this
   ·cases h
  ·cases h
 ·cases h
theorem qza (g:Iv σ w0 s w) (k:qn σ args args') (h:qgF s args=some (v,s')):Calls Tryz.prog 273 args'.toArray w (vN σ w0 (.ret v s')):=by
 unfold qgF at h;split at h
 ·rename_i b;obtain ⟨c,h⟩:=ji h;split at h
  ·rename_i n a;cases h;rw [qbc k];unfold qub at a;split at a
   ·rename_i m j;cases a;refine qaq g rfl ((qyU (by simpa [Nat.ble_eq] using c) j).mono ?_);rintro _ W ⟨e,rfl⟩;exact ⟨rfl,e⟩
   ·cases a
  ·cases h
 ·cases h
end
end
theorem qbR {s:Sx} {i:Nat} {o:Ob} (h:QZ s i o=true):s.H.get i=some o:=by
 unfold QZ at h;split at h
 ·rename_i p a;rw [a,qbQ h]
 ·cases h
def yP:TrP:=⟨54,83,4,3,85,153⟩
theorem qFK {c:List PanicEntry} (h:chainB yP c=true):c=yD:=by
 unfold chainB at h;split at h
 ·rename_i p;obtain ⟨v,e,g⟩:=p;simp only [Bool.and_eq_true,Bool.not_eq_true'] at h;obtain ⟨⟨a,rfl⟩,rfl⟩:=h;split at a
  ·rename_i t cs;simp only [Bool.and_eq_true,beq_iff_eq,Array.isEmpty_iff] at a;obtain ⟨rfl,rfl⟩:=a;rfl
  ·cases a
 ·cases h
theorem qdu {σ:Sg} {w0 w:World} {s:Sx} (k:Iv σ w0 s w) {i b:Nat} {v:Value} {t:TypeId} (h:s.H.get i=some ⟨[v],t,1,true,false⟩) (j:zF v=true) (c:σ i=some (b,0,0)):Blk w b #[v] t:=by
 obtain ⟨l,cs',g,e,a⟩:=qcs k h rfl (show (1:Nat)≠0 by decide);rw [c] at g;cases g
 match cs',e,a with
 |[x],e,a=>
  rw [e.1.uniq (.pln j)] at a;exact a
theorem qu2 {r:Sx→Tk→Option Ou} (hr:Sound Tryz.prog GM r) {s:Sx} {o:Ou} {σ:Sg} {w0 w:World} (hg:GM w0) (hI:Iv σ w0 s w) {b B g i f n:Nat} {cs:List Value} {ds:Array Value} {tv' V:Value} (hσB:σ b=some (B,0,0)) (hB:Blk w B #[tv', .int .i64 (i:Int), .int .i64 (f:Int),V] 85)
  (hsl:qo V=true) (hln:qk V=n) (hcs:qn σ cs ds.toList) (hcb:qf Tryz.prog g=true) (h:qfs r s yP b g cs (i:Int) n=some o):
  Calls Tryz.prog 54 #[.pointer (some ⟨B,0,none⟩), .func (.func g) #[] ds] w (vN σ w0 o):=by
 unfold qfs at h;split at h
 ·cases h
 rename_i iA s1 n1;split at h
 ·cases h
 rename_i iY s2 n2;split at h
 ·cases h
 rename_i iN s3 n3;split at h
 ·cases h
 rename_i iM s4 n4;generalize hR:vN σ w0 o=R;refine qn4 fun ρ r0 r1 rg=> ?_;simp [qdY,r0];refine vv fun A W1 hA hE1 hbA hA1=> ?_;simp [Value.cells,r0] at hbA;simp;refine qR z4 fun Y W2 hY hE2 hbY hY1=> ?_;simp;have hB2:=hB.ext (hE1.trans' hE2);have hA2:=hbA.ext hE2;refine vH (hpn:=qj0 (by decide)) qn3 (fun W=>Blk W A #[.pointer (some ⟨B,0,none⟩)] 83∧Blk W B #[tv', .int .i64 (i:Int), .int .i64 (f:Int),V] 85) fun W3 hE3 _=> ?_;have F:=hB2.ext hE3;have y:=hA2.ext hE3;have hY3:=hbY.ext hE3;have hJ:Blk W3 A #[.pointer (some ⟨B,0,none⟩)] 83∧Blk W3 B #[tv', .int .i64 (i:Int), .int .i64 (f:Int),V] 85:=⟨y,F⟩;refine ⟨hJ, ?_⟩;have cA:∀W,(Blk W A #[.pointer (some ⟨B,0,none⟩)] 83∧Blk W B #[tv', .int .i64 (i:Int), .int .i64 (f:Int),V] 85)→W.cell? ⟨A,0,none⟩=some (.pointer (some ⟨B,0,none⟩))∧W.cell? ⟨B,1,none⟩=some (.int .i64 (i:Int))∧W.cell? ⟨B,3,none⟩=some V:=fun W h=>⟨by rw [h.1.cell];rfl,by rw [h.2.cell];rfl,by rw [h.2.cell];rfl⟩;simp+contextual -implicitDefEqProofs [qhi,cA,hJ,hsl];have rest:∀(J:qa) (W4:World) (X5 X6:Nat),qb W3 W4→W3.heap.size≤X5→W3.heap.size≤X6→X5≠X6→Blk W4 X5 #[.int .i64 (i:Int)] 3→Blk W4 X6 #[.int .i64 (n:Int)] 3→J 1=ρ 1→J 2= .pointer (some ⟨A,0,none⟩)→J 4= .pointer (some ⟨Y,0,none⟩)→J 5= .pointer (some ⟨X5,0,none⟩)→J 6= .pointer (some ⟨X6,0,none⟩)→J gS= .tuple #[]→
   qb2.wp ⟨Tryz.prog,19,qaA,z6⟩ (jD Tryz.prog [.cell1 4] R .returning) (vC Tryz.prog [.cell1 4] R) J W4:=by
  intro J W4 X5 X6 k q5 q6 q56 Z z e1 e2 e4 e5 e6 eg;have hA4:=y.ext k;have hY4:=hY3.ext k;have hE04:qb w W4:=((hE1.trans' hE2).trans' hE3).trans' k;have z1:=hE1.size;have z2:=hE2.size;have z3:=hE3.size;have hI4:=hI.toExt hE04;have wle:=hI.ext.size;have low:∀j o p,s.H.get j=some o→σ j=some p→p.1<w.heap.size:=fun j o p hj hp=>by
   obtain ⟨q,hq,hlt⟩:=hI.mr.at' hj;rw [hp] at hq;cases hq;exact hlt
  obtain ⟨τ1,l1,i1,I1,d1⟩:=qdh (cs':=[.pointer (some ⟨B,0,none⟩)]) hI4 n1 (b:=A) (by omega) (fun j oj pj hj hp=>by have:=low j oj pj hj hp;omega) hA4 ⟨yS hσB,trivial⟩;obtain ⟨τ2,l2,i2,I2,d2⟩:=qdh (cs':=[.bool false]) I1 n2 (b:=Y) (by omega) (fun j oj pj hj hp=>by
   rcases d1 j oj pj hj hp with e|⟨a1,a2⟩
   ·omega
   ·have:=low j oj pj a1 a2;omega) hY4 ⟨.pln rfl,trivial⟩
  have d2':∀j o p,s2.H.get j=some o→τ2 j=some p→p.1<W2.heap.size:=fun j o p hj hp=>by
   rcases d2 j o p hj hp with e|⟨a1,a2⟩
   ·omega
   ·rcases d1 j o p a1 a2 with e|⟨b1,b2⟩
    ·omega
    ·have:=low j o p b1 b2;omega
  obtain ⟨τ3,l3,i3,I3,d3⟩:=qdh (cs':=[.int .i64 (i:Int)]) I2 n3 (b:=X5) (by omega) (fun j oj pj hj hp=>by have:=d2' j oj pj hj hp;omega) Z ⟨.pln rfl,trivial⟩;obtain ⟨τ4,l4,i4,I4,d4⟩:=qdh (cs':=[.int .i64 (n:Int)]) I3 n4 (b:=X6) (by omega) (fun j oj pj hj hp=>by
   rcases d3 j oj pj hj hp with e|⟨a1,a2⟩
   ·omega
   ·have:=d2' j oj pj a1 a2;omega) z ⟨.pln rfl,trivial⟩
  have l04:σ.le τ4:=Sg.le_trans l1 (Sg.le_trans l2 (Sg.le_trans l3 l4));simp [qb2];refine qiW (f:=116) (caps:= #[.pointer (some ⟨X5,0,none⟩), .pointer (some ⟨A,0,none⟩), .pointer (some ⟨X6,0,none⟩), .pointer (some ⟨Y,0,none⟩)]) (by simp [e2,e4,e5,e6]) trivial ?_;have eg':J 1000000000= .tuple #[]:=eg;simp [gS,e1,r1,eg'];refine kp (f:=g) hcb (fs:= #[]) (caps:=ds) (by simp) ?_;simp;cases ho:r s4 (.call g cs) with
  |none=>rw [ho] at h;cases h
  |some o1=>
   rw [ho] at h;have hcall:=hr.call _ _ _ _ ho τ4 w0 W4 ds.toList hg I4 (hcs.mono l04);rw [Array.toArray_toList] at hcall;refine hcall.mono ?_;cases o1 with
   |ret v s'=>
    rintro e w5 ⟨τ,v',hl,E,hv',rfl⟩;obtain ⟨hc,h⟩:=ji h;simp only [Bool.and_eq_true] at hc;obtain ⟨⟨c1,c2⟩,c3⟩:=hc;cases h;have hYo:=qbR c1;have iY5:=hl _ _ (l4 _ _ (l3 _ _ i2));have hY5:=qdu E hYo rfl iY5;simp;refine qK (B:=Y) (i:=0) (by simp [e4]) hY5 (by simp) (by simp [Value.cells]) (by simp) sz4 fun W6 u z=> ?_;simp at z;simp [vC,jD,gS,e4];refine jZ (by simp) qeW (qtD.mono ?_);rintro e u' w' ⟨⟨v,rfl⟩,rfl,rfl⟩;refine qay ?_;have cY:w'.cell? ⟨Y,0,none⟩=some (.bool true):=by rw [z.cell];rfl
    simp [qw,vE,RV.val,e4,cY,wB,←hR];exact ⟨τ, .bool true,Sg.le_trans l04 hl,qtz E hYo (kI c2) iY5 u, .pln rfl,rfl⟩
   |pn c s'=>
    rintro e w5 ⟨τ,hl,E,rfl⟩;obtain ⟨hc,h9⟩:=ji h;simp only [Bool.and_eq_true,Bool.not_eq_true'] at hc;obtain ⟨⟨⟨⟨⟨c1,c2⟩,c3⟩,c4⟩,c5⟩,c6⟩:=hc;obtain rfl:=qFK c1;have hYo:=qbR c3;have iY5:=hl _ _ (l4 _ _ (l3 _ _ i2));have hY5:=qdu E hYo rfl iY5;have h55:=qdu E (qbR c4) rfl (hl _ _ (l4 _ _ i3));have h56:=qdu E (qbR c5) rfl (hl _ _ i4);have C:τ b=some (B,0,0):=hl _ _ (l04 _ _ hσB);have hA5:Blk w5 A #[.pointer (some ⟨B,0,none⟩)] 83:=by
     obtain ⟨b',cs',g1,g2,g3⟩:=qcs E (qbR c2) rfl (show (1:Nat)≠0 by decide);rw [hl _ _ (l4 _ _ (l3 _ _ (l2 _ _ i1)))] at g1;cases g1
     match cs',g2,g3 with
     |[x],g2,g3=>
      rw [g2.1.uniq (yS C)] at g3;exact g3
    unfold qt7 at h9;split at h9
    ·rename_i ob hob;split at h9
     ·rename_i tv i' far a m c hcl;split at h9
      ·rename_i nv2 hsub;obtain ⟨hc,h8⟩:=ji h9;cases h8;simp only [Bool.and_eq_true,decide_eq_true_eq,Nat.ble_eq] at hc;obtain ⟨⟨⟨⟨⟨g1,g2⟩,g3⟩,g4⟩,g5⟩,g6⟩:=hc;have hobe:=qbQ g6;subst hobe;obtain ⟨b',cs',k1,k2,k3⟩:=qcs E hob rfl (show (1:Nat)≠0 by decide);rw [C] at k1;cases k1
       match cs',k2,k3 with
       |[tx,x1,x2,nx],k2,k3=>
        obtain ⟨v1,v2,v3,v4,_⟩:=k2;obtain ⟨j,rfl⟩:=Int.eq_ofNat_of_zero_le g1;obtain ⟨f2,rfl⟩:=Int.eq_ofNat_of_zero_le g2;have u2:=v2.uniq (.pln (v:= .int .i64 (j:Int)) rfl);have u3:=v3.uniq (.pln (v:= .int .i64 (f2:Int)) rfl);subst u2;subst u3;obtain ⟨hsx,hlx⟩:=qcV v4;obtain ⟨m1,m2,m3,m4,nv2',m5,m6⟩:=qfF v4 hsub;simp [vC,jD,gS,e4];refine jZ (by simp) qeW ((qtC (n:=n) h55 hA5 h56 (.inr hY5) k3 hsx (by rw [hlx];exact g3)).mono ?_);rintro e u' w' ⟨⟨v,rfl⟩,hu,W6,W7,hE6,U,O,hO8,hb8⟩;show jP _ _ _ _ [] (settle u') w';rw [hu];refine qay ?_;have cY:w'.cell? ⟨Y,0,none⟩=some (.bool false):=by rw [hb8.cell];rfl
        simp [qw,vE,RV.val,e4,cY,wB,←hR];have hI6:=E.toExt hE6;have hm5:qY nx 6 0 n (qv nx)=nv2':=by simpa using m5
        rw [hm5] at O;have hI7:Iv τ w0 ⟨s'.H.set b ⟨[tv, .int .i64 (i:Int), .int .i64 (f2:Int),nv2],yP.tt,1,true,false⟩,s'.nx,s'.rs⟩ W7:=by
         refine qjm hI6 hob (kI g4) C U ⟨(fun hz=>by cases hz),fun _=>⟨_,C,O.heap, ?_,by simp,fun _=>⟨rfl,rfl,by simp⟩,(fun hw=>by cases hw),(fun hx=>by cases hx)⟩⟩;exact ⟨v1, .pln rfl, .pln rfl,m6,trivial⟩
        have hYo2:(s'.H.set b ⟨[tv, .int .i64 (i:Int), .int .i64 (f2:Int),nv2],yP.tt,1,true,false⟩).get iY=some ⟨[.bool false],yP.tb,1,true,false⟩:=by
         rw [Tr.get_set _ _ (kI g4),if_neg (fun e=>by rw [e] at c6;simp at c6)];exact hYo
        exact ⟨τ, .bool false,Sg.le_trans l04 hl,qtz hI7 hYo2 (kI g5) iY5 hO8, .pln rfl,rfl⟩
      ·cases h9
     ·cases h9
    ·cases h9
   |go e s'=>exact fun e w h=>h.elim
   |ex j e s'=>exact fun e w h=>h.elim
   |rt e s'=>exact fun e w h=>h.elim
 refine ⟨?_, ?_⟩
 ·refine qR z3 fun X5 W4 hX5 k hb4 hs4=>⟨⟨y.ext k,F.ext k⟩, ?_⟩;refine qR z3 fun X6 W5 hX6 l Z hs5=>⟨⟨(y.ext k).ext l,(F.ext k).ext l⟩, ?_⟩;have l5:W3.heap.size≤X5:=hX5;have S:X5≠X6:=by omega
  have z4:=k.size;refine qK (B:=X5) (i:=0) (by simp) (hb4.ext l) (by simp) (by simp [Value.cells]) (by simp) zz fun W6 u z=> ?_;simp at z;have hA6:=u.blk ((y.ext k).ext l) (by have:=y.lt;omega);have hB6:=u.blk ((F.ext k).ext l) (by have:=F.lt;omega);refine ⟨⟨hA6,hB6⟩, ?_⟩;refine qK (B:=X6) (i:=0) (by simp) (u.blk Z (Ne.symm S)) (by simp) (by simp [Value.cells]) (by simp) zz fun W7 U O=> ?_;simp [hln] at O;exact rest _ W7 X5 X6 (U.ext (u.ext (k.trans' l) l5) (by omega)) l5 (by omega) S (U.blk z S) O (by simp) (by simp) (by simp) (by simp) (by simp) (by simp [gS] at rg⊢;exact rg)
 ·refine qR z3 fun X6 W4 hX6 k hb4 hs4=>⟨⟨y.ext k,F.ext k⟩, ?_⟩;refine qR z3 fun X5 W5 hX5 l Z hs5=>⟨⟨(y.ext k).ext l,(F.ext k).ext l⟩, ?_⟩;have z4:=k.size;have l5:W3.heap.size≤X5:=by omega
  have S:X6≠X5:=by omega
  refine qK (B:=X5) (i:=0) (by simp) Z (by simp) (by simp [Value.cells]) (by simp) zz fun W6 u z=> ?_;simp at z;have hA6:=u.blk ((y.ext k).ext l) (by have:=y.lt;omega);have hB6:=u.blk ((F.ext k).ext l) (by have:=F.lt;omega);refine ⟨⟨hA6,hB6⟩, ?_⟩;refine qK (B:=X6) (i:=0) (by simp) (u.blk (hb4.ext l) S) (by simp) (by simp [Value.cells]) (by simp) zz fun W7 U O=> ?_;simp [hln] at O;exact rest _ W7 X5 X6 (U.ext (u.ext (k.trans' l) l5) hX6) l5 hX6 (Ne.symm S) (U.blk z (Ne.symm S)) O (by simp) (by simp) (by simp) (by simp) (by simp) (by simp [gS] at rg⊢;exact rg)
theorem t54:qjz Tryz.prog GM (some yP):=by
 intro q hq r U s args o h σ w0 w args' hg R J;cases hq;unfold qfq at h;split at h
 ·rename_i b g fs cs;split at h
  ·rename_i ob A;unfold qjY at h;split at h
   ·rename_i tv at0 far a n c p;obtain ⟨O,h9⟩:=ji h;simp only [Bool.and_eq_true,Array.isEmpty_iff,decide_eq_true_eq] at O;obtain ⟨⟨⟨⟨rfl,h0⟩,S⟩,F⟩,e⟩:=O;have e:=qbQ e;subst e;obtain ⟨B,C,l,m,k⟩:=qcs R A rfl (show (1:Nat)≠0 by decide)
    match C,m,k with
    |[tv',x1,x2,V],m,k=>
     obtain ⟨ht,e1,e2,e3,_⟩:=m;obtain ⟨i,rfl⟩:=Int.eq_ofNat_of_zero_le h0;obtain ⟨f,rfl⟩:=Int.eq_ofNat_of_zero_le S;have u1:=e1.uniq (.pln (v:= .int .i64 (i:Int)) rfl);have u2:=e2.uniq (.pln (v:= .int .i64 (f:Int)) rfl);subst u1;subst u2;obtain ⟨H,z⟩:=qcV e3
     match args',J with
     |[y1,y2],J=>
      obtain ⟨u,E,_⟩:=J;have Z:=u.uniq (yS l);subst Z;cases E with
      |pln Y=>cases Y
      |fnc k1 k2 k3 k4=>
       rename_i gs ds;have:gs= #[]:=Array.eq_empty_of_size_eq_zero (by simpa using k1.symm);subst this;exact qu2 (cs:=cs.toList) U hg R l k H z (qn.of (by simpa using k3) fun j x y hx hy=>k4 j x y (by simpa using hx) (by simpa using hy)) F h9
   ·cases h
  ·cases h
 ·cases h
theorem qFJ {w:World} {b:Nat} {p v:Value} (c:p= .pointer none∨p= .pointer (some ⟨b,0,none⟩)) (a:Blk w b #[p,v] 114):
  Calls Tryz.prog 177 #[.pointer (some ⟨b,0,none⟩)] w fun e w'=>e= .returned (.tuple #[])∧Blk w' b #[.pointer (some ⟨b,0,none⟩),v] 114∧Only b w w':=by
 rcases c with rfl|rfl
 ·refine (L01.qt9 b w (by rw [a.cell];rfl) (by simp [World.shape?,a.heap]) (by simp [World.frozen?,a.heap])).mono ?_;rintro _ _ ⟨rfl,rfl⟩;exact ⟨rfl,by simpa using qe5 a 0 (.pointer (some ⟨b,0,none⟩)),qds _ _ _ _⟩
 ·refine (L01.qjw b w (by rw [a.cell];rfl)).mono ?_;rintro _ _ ⟨rfl,rfl⟩;exact ⟨rfl,a,Only.refl _ _⟩
theorem quD {w:World} {B b:Nat} {v:Value} {bs:Bs} {rest:List Value} {T:TypeId} (s:Bs) (hB:B≤b) (hblt:b<w.heap.size) (y:w.ownsRow B 5 1 v bs.length (bs.map jk)) (p:v.ownBlock≠some b)
  (C:Calls Tryz.prog 177 #[.pointer (some ⟨b,0,none⟩)] w fun e w'=>e= .returned (.tuple #[])∧Blk w' b (.pointer (some ⟨b,0,none⟩)::v::rest).toArray T∧Only b w w') (hlen:bs.length+s.length≤100000000000000) (hBw:B≤w.heap.size):
  Calls Tryz.prog 89 #[.pointer (some ⟨b,0,none⟩), .string (qc s)] w fun e w'=>e= .returned (.tuple #[.int .i64 s.length, .nilIface])∧∃c,Blk w' b (.pointer (some ⟨b,0,none⟩)::c::rest).toArray T∧w'.ownsRow B 5 1 c (bs++s).length ((bs++s).map jk)∧c.ownBlock≠some b∧Below B w w'∧
   (∀k,k<w.heap.size→k≠b→v.ownBlock≠some k→w'.heap[k]? =w.heap[k]?)∧(c.ownBlock=v.ownBlock∨c.ownBlock=some w.heap.size):=by
 refine L01.qnj fun ρ h0 h1=> ?_;simp [L01.qha,h0];refine C.mono ?_;rintro _ Y ⟨rfl,U,l⟩;have S:Y.cell? ⟨b,1,none⟩=some v:=by rw [U.cell];rfl
 simp [h0,h1,S];obtain ⟨i,hi,hz,hs,O⟩:=qch;have aa:=l.size;have Z:=U.lt;have n:(qc s).size=s.length:=rfl;have j:Y.ownsRow B 5 1 v bs.length (bs.map jk):=qbN y fun k A=>l.block k fun e=>p (by rw [A,e]);obtain ⟨c,W3,hr,u,z,E⟩:=Lib.run_append_own_string (P:=Tryz.prog) Y B 112 9 112 5 i Tryz.underlying112 Tryz.underlying9 hi hz hs O v bs.length (bs.map jk) (by simpa using j) (qc s) (by rw [n];simp only [maxLen];omega) (by rw [n];omega) (by omega);have x:=qGv (qc s) j (by rw [n];omega) hr E;rw [aa] at x;have a:W3.ownsRow B 5 1 c (bs++s).length ((bs++s).map jk):=by simpa [L01.qfG] using u
 have V:Blk W3 b (.pointer (some ⟨b,0,none⟩)::v::rest).toArray T:=⟨(z.block b Z (fun e=>p e.symm)).trans U.heap⟩;refine jf (v:=c) (w':=W3) (by simp [execOp,qA,resolve,invoke,builtin,hr]) ?_;have J:c.cells= #[c]∧c.oneCell=true:=by
  rcases a.2 with ⟨rfl,_⟩|⟨g,cap,cur,rfl,_⟩<;>exact ⟨rfl,rfl⟩
 simp;refine qK (B:=b) (i:=1) (by simp) V (by simp) (by simp;exact J.1) (by simp;exact J.2) L01.qfD fun W4 o H=> ?_;simp [h1] at H⊢;have m:c.ownBlock≠some b:=by
  rcases x with h|h
  ·rw [h];exact p
  ·rw [h];simp;omega
 have h3:Below B w W3:=(wj l hB).grown z (by omega) fun k A=>(j.lt k A).1;refine ⟨c,H,by simpa using qbN a (fun k A=>o.block k fun e=>m (by rw [A,e])),m,Below.trans h3 (wj o hB),fun k hk1 F R=> ?_,x⟩;exact (o.block k F).trans ((z.block k (by omega) (fun e=>R e.symm)).trans (l.block k F))
theorem qvL {b g cap:Nat} {cur:Array Value} {bs:Bs} {w:World} (a:w.cell? ⟨b,1,none⟩=some (.slice (some ⟨g,0,none⟩) bs.length cap)) (C:w.heap[g]? =some (.cells cur 5 (0,0))) (O:bs≠[]) (E:bs.length≤cap) (A:cap≤maxLen) (R:cur.size=cap*1) (m:cur.toList.take (bs.length*1)=bs.map jk):
  Calls Tryz.prog 90 #[.pointer (some ⟨b,0,none⟩)] w fun e w'=>e= .returned (.string (qc bs))∧Below g w w'∧∀k,k≠g→w'.heap[k]? =w.heap[k]? :=by
 have S:0<bs.length:=List.length_pos_iff.2 O;refine qAo fun ρ r0=> ?_;simp -implicitDefEqProofs [qni];refine vH qAn (fun W=>W.heap=w.heap) fun h l c=>⟨c, ?_⟩;have J:∀W:World,W.heap=w.heap→W.cell? ⟨b,1,none⟩=some (.slice (some ⟨g,0,none⟩) bs.length cap):=fun W e=>by
  rw [←a];simp only [World.cell?,e]
 have y:qo (.slice (some ⟨g,0,none⟩) bs.length cap)=true:=by simp [qo,E]
 have u:qk (.slice (some ⟨g,0,none⟩) bs.length cap)=bs.length:=rfl;simp+contextual -implicitDefEqProofs [qne,r0,J,J h c,y,u];have z:(Builtin.unsafeSliceData_ #[112] 196 #[.slice (some ⟨g,0,none⟩) bs.length cap]).run Tryz.prog h= .ok (.pointer (some ⟨g,0,none⟩)) h:=
  Lib.run_unsafeSliceData_row _ _ _ _ _ _ (by omega)
 refine qtt ?_;refine jf (v:= .pointer (some ⟨g,0,none⟩)) (w':=h) (by simp [execOp,qA,resolve,invoke,builtin,z]) ?_;refine ⟨c, ?_⟩;have n:h.heap[g]? =some (.cells cur 5 (0,0)):=by rw [c];exact C
 have H:(Builtin.unsafeString_ #[196,3] 9 #[.pointer (some ⟨g,0,none⟩), .int .i64 bs.length]).run Tryz.prog h= .ok (.string ⟨bs.toArray⟩) (h.freeze ⟨g,0,none⟩ bs.length):=by
  refine Lib.run_unsafeString_row h 196 3 9 5 Tryz.underlying196 (by kernel_rfl) g cur.size (by simp [World.shape?,n]) bs O (by omega) (by unfold maxLen at A;omega) ?_;intro j x U;have a:cur.toList[j]? =some (jk x):=by
   have o:(bs.map jk)[j]? =some (jk x):=by simp [U]
   rw [←m,List.getElem?_take] at o;split at o
   ·exact o
   ·cases o
  simp only [World.cell?,vM,Nat.zero_add,n];simpa [jk] using a
 refine qtt ?_;refine jf (v:= .string ⟨bs.toArray⟩) (w':=h.freeze ⟨g,0,none⟩ bs.length) (by simp [execOp,qA,resolve,invoke,builtin,H]) ?_;simp -implicitDefEqProofs [qnf];refine ⟨rfl,Lib.below_freeze (⟨l.os,l.tape,l.output,l.size,fun k _=>by rw [c]⟩:Below g w h) (p:=⟨g,0,none⟩) (Nat.le_refl _) _,fun k F=> ?_⟩;rw [←c];unfold World.freeze;split
 ·rfl
 ·simp only [Array.getElem?_modify];rw [if_neg (by simpa using fun e=>F e.symm)]
section
variable {σ:Sg} {w0 w:World} {s s':Sx} {args args':List Value} {v:Value}
def qjs:Value→Option UInt8
 | .int .u8 k=>bif decide (0≤k)&&decide (k<256) then some (UInt8.ofNat k.toNat) else none
 |_=>none
def qeZ:List Value→Option Bs
 |[]=>some []
 |a::l=>match qjs a,qeZ l with|some c,some r=>some (c::r)|_,_=>none
theorem qF0 {a:Value} {c:UInt8} (h:qjs a=some c):a=jk c:=by
 unfold qjs at h;split at h
 ·rename_i k;obtain ⟨e,h⟩:=ji h;simp only [Bool.and_eq_true,decide_eq_true_eq] at e;cases h;have:k.toNat<256:=by omega
  simp only [jk,Value.int.injEq,true_and];rw [UInt8.toNat_ofNat',Nat.mod_eq_of_lt (by simpa using this),Int.toNat_of_nonneg e.1]
 ·cases h
theorem qtQ:∀{l e:List Value} {bs:Bs},qn σ l e→qeZ l=some bs→e=bs.map jk
 |[],[],bs,_,h=>by cases h;rfl
 |a::l,b::m,bs,g,h=>by
  unfold qeZ at h;split at h
  ·rename_i c r j k;cases h;have n:=qF0 j;subst n;rw [qtQ g.2 k,g.1.uniq (.pln (v:=jk c) rfl)];rfl
  ·cases h
noncomputable def qcp (s:Sx):Value→Option (Bs×vg)
 | .slice none 0 0=>some ([],s.H)
 | .slice (some ⟨j,0,none⟩) n c=>match s.H.get j with
  |some ob=>bif ob.ex&&Nat.beq ob.ty 5&&Nat.beq ob.sz 1&& !ob.whole&&Nat.beq n ob.cells.length&&Nat.beq c n&&Nat.blt j vk then
    (match qeZ ob.cells with|some bs=>some (bs,s.H.del j)|none=>none) else none
  |none=>none
 |_=>none
theorem qtT (J:Iv σ w0 s w) {u F:Value} (hv:VR σ u F) {bs:Bs} {H:vg} (h:qcp s u=some (bs,H)):
  w.ownsRow w0.heap.size 5 1 F bs.length (bs.map jk)∧(∀j o,H.get j=some o→s.H.get j=some o)∧(∀j o p,H.get j=some o→σ j=some p→some p.1≠F.ownBlock)∧(∀b i o,s.H.get i=some o→σ i=some (b,0,0)→o.ty≠5→F.ownBlock≠some b∧(∃o',H.get i=some o'∧o'=o)):=by
 unfold qcp at h;split at h
 ·cases h;cases hv with
  |pln _=>exact ⟨⟨by simp, .inl ⟨rfl,rfl⟩⟩,fun _ _ h=>h,fun _ _ _ _ _=>by simp [Value.ownBlock],fun b i o g l ht=>⟨by simp [Value.ownBlock],o,g,rfl⟩⟩
 ·rename_i j n c;split at h
  ·rename_i ob a;obtain ⟨hc,V⟩:=ji h;simp only [Bool.and_eq_true,Bool.not_eq_true'] at hc;obtain ⟨⟨⟨⟨⟨⟨c1,c2⟩,c3⟩,c4⟩,c5⟩,c6⟩,k⟩:=hc;have c2:=Nat.eq_of_beq_eq_true c2;have c3:=Nat.eq_of_beq_eq_true c3;have c5:=Nat.eq_of_beq_eq_true c5;have c6:=Nat.eq_of_beq_eq_true c6;have k:=kI k;subst c6;split at V
   ·rename_i bs1 U;cases V;cases hv with
    |pln h'=>cases h'
    |slc l hn=>
     rename_i b f x;obtain ⟨b1,f1,x1,cur,m⟩:=(J.mr j ob a).2 (by rw [c3];decide);have y:=m.at';rw [l] at y;cases y;obtain ⟨aa,O⟩:=m.exact c1;subst aa;rw [c3,Nat.mul_one] at O;obtain ⟨n0,Z,hm0⟩:=m.most c4;rw [c3,Nat.mul_one] at Z;have C:=m.cs;simp only [List.drop_zero] at C;have z:=qtQ C U;have E:bs.length=ob.cells.length:=by
      have:=congrArg List.length z;rw [List.length_take,Array.length_toList,List.length_map] at this;omega
     refine ⟨⟨by simp, .inr ⟨b,c+x,cur,by rw [c5,E],J.own j ob _ a l,by rw [←c2];exact m.heap,by omega,by omega,by omega, ?_⟩⟩,fun i o g=>(get_del k g).2,fun i o p g Y he=> ?_,fun b' i o g Y ht=> ?_⟩
     ·rw [Nat.mul_one,E];exact z
     ·obtain ⟨S,R⟩:=get_del k g;refine S (J.ap i j o ob p _ R a Y l ?_);simpa [Value.ownBlock] using he
     ·have A:i≠j:=fun e=>by subst e;rw [a] at g;cases g;exact ht c2
      refine ⟨fun e=>A (J.ap i j o ob _ _ g a Y l ?_),o, ?_,rfl⟩
      ·simp [Value.ownBlock] at e;exact e.symm
      ·rw [Tr.get_del _ k,if_neg A];exact g
   ·cases V
  ·cases h
 ·cases h
theorem qxA (u:Iv σ w0 s w) {i:Nat} (C:i<vk) {b f x:Nat} (k:σ i=some (b,f,x)) (y:∀j o p,s.H.get j=some o→σ j=some p→j≠i→p.1≠b) (F:w0.heap.size≤b) {ob:Ob} (S:ob.sz≠0) {cur:Array Value} (R:RO σ w i ob b f x cur):
  Iv σ w0 ⟨s.H.set i ob,s.nx,s.rs⟩ w:=by
 have O:∀j,(s.H.set i ob).get j=if j=i then some ob else s.H.get j:=fun j=>Tr.get_set _ _ C j
 refine ⟨fun j m c=> ?_,u.dom,u.res,fun j l m ol E pl c n a g J=> ?_,u.ext,fun j m E c a=> ?_⟩
 ·dsimp only at c;rw [O] at c;split at c
  ·rename_i e;cases c;subst e;exact ⟨fun h=>absurd h S,fun _=>⟨b,f,x,cur,R⟩⟩
  ·exact u.mr j m c
 ·dsimp only at c n;rw [O] at c n;split at c
  ·rename_i A;subst A;rw [k] at a;cases a;split at n
   ·rename_i z;exact z.symm
   ·rename_i z;exact absurd J.symm (y l ol pl n g z)
  ·rename_i A;split at n
   ·rename_i z;subst z;rw [k] at g;cases g;exact absurd J (y j m E c a A)
   ·exact u.ap j l m ol E pl c n a g J
 ·dsimp only at c;rw [O] at c;split at c
  ·rename_i A;subst A;rw [k] at a;cases a;exact F
  ·exact u.own j m E c a
def qjv (t:TypeId) (n:Nat):Bool:=(Nat.beq t 114&&Nat.beq n 0)||(Nat.beq t 116&&Nat.beq n 2)
def qum (i:Nat):Value→Bool
 | .pointer none=>true
 | .pointer (some ⟨j,0,none⟩)=>Nat.beq j i
 |_=>false
noncomputable def wrX (s:Sx) (i:Nat) (ob:Ob) (b:ByteArray) (rest:List Value) (bs:Bs) (H:vg):Option (Value×Sx):=
 bif Nat.ble (bs.length+b.size) 100000000000000&&Nat.ble 1 (bs.length+b.size) then
  match xe ⟨H.del i,s.nx,s.rs⟩ none ⟨(bs++b.data.toList).map jk,5,1,false,true⟩ with
  |some (k,s1)=>some (.tuple #[.int .i64 b.size, .nilIface],⟨s1.H.set i ⟨.pointer (some ⟨i,0,none⟩):: .slice (some ⟨k,0,none⟩) (bs.length+b.size) (bs.length+b.size)::rest,ob.ty,1,true,false⟩,s1.nx,s1.rs⟩)
  |none=>none
 else none
noncomputable def wrA (s:Sx) (i:Nat) (ob:Ob) (b:ByteArray):Option (Value×Sx):=
 match ob.cells with
 |p::bv::rest=>bif qum i p&&qjv ob.ty rest.length&&Nat.blt i vk&&QU ob ⟨p::bv::rest,ob.ty,1,true,false⟩ then
   (match qcp s bv with|some (bs,H)=>wrX s i ob b rest bs H|none=>none) else none
 |_=>none
noncomputable def p89 (s:Sx):List Value→Option (Value×Sx)
 |[.pointer (some ⟨i,0,none⟩), .string b]=>match s.H.get i with
  |some ob=>wrA s i ob b
  |none=>none
 |_=>none
theorem qy5 (z:Iv σ w0 s w) (hv:qn σ args args') (h:p89 s args=some (v,s')):Calls Tryz.prog 89 args'.toArray w (vN σ w0 (.ret v s')):=by
 unfold p89 at h;split at h
 ·rename_i i b;split at h
  ·rename_i ob R;unfold wrA at h;split at h
   ·rename_i p bv rest hcells;obtain ⟨hc,h9⟩:=ji h;simp only [Bool.and_eq_true] at hc;obtain ⟨⟨⟨c1,c2⟩,c3⟩,c4⟩:=hc;have ac:=qbQ c4;generalize hty:ob.ty=T at*;subst ac;split at h9
    ·rename_i bs H af;unfold wrX at h9;obtain ⟨hc,h8⟩:=ji h9;simp only [Bool.and_eq_true,Nat.ble_eq] at hc;split at h8
     ·rename_i k s1 hnew;cases h8;have E:=kI c3;obtain ⟨B,bs',F,V,a⟩:=qcs z R rfl (show (1:Nat)≠0 by decide)
      match bs',V,a with
      |p'::bv'::m,V,a=>
       obtain ⟨v1,v2,v3⟩:=V;have hT5:T≠5:=fun e=>by subst e;simp [qjv] at c2
       obtain ⟨b1,b2,b3,b4⟩:=qtT z v2 af;obtain ⟨b5,_⟩:=b4 B i _ R F hT5;have hB0:w0.heap.size≤B:=z.own i _ _ R F;have ad:p'= .pointer none∨p'= .pointer (some ⟨B,0,none⟩):=by
        unfold qum at c1;split at c1
        ·exact .inl (v1.uniq (.pln rfl))
        ·rename_i j;have:=Nat.eq_of_beq_eq_true c1;subst this;exact .inr (v1.uniq (yS F))
        ·cases c1
       have hchk:Calls Tryz.prog 177 #[.pointer (some ⟨B,0,none⟩)] w fun e w'=>e= .returned (.tuple #[])∧Blk w' B (.pointer (some ⟨B,0,none⟩)::bv'::m).toArray T∧Only B w w':=by
        simp only [qjv,Bool.or_eq_true,Bool.and_eq_true] at c2;have hrl:=v3.len;rcases c2 with ⟨Z,U⟩|⟨Z,U⟩
        ·have Z:=Nat.eq_of_beq_eq_true Z;have U:=Nat.eq_of_beq_eq_true U;subst Z
         match m,hrl,a with
         |[],_,a=>exact qFJ ad a
         |_::_,e,_=>exact absurd (e.symm.trans U) (by simp)
        ·have Z:=Nat.eq_of_beq_eq_true Z;have U:=Nat.eq_of_beq_eq_true U;subst Z
         match m,hrl,a with
         |[nv,o],_,a=>exact qyh a ad
         |[],e,_=>exact absurd (e.symm.trans U) (by simp)
         |[_],e,_=>exact absurd (e.symm.trans U) (by simp)
         |_::_::_::_,e,_=>exact absurd (e.symm.trans U) (by simp)
       have O:b.data.toList.length=b.size:=rfl
       match args',hv with
       |[y1,y2],hv=>
        obtain ⟨g1,g2,_⟩:=hv;have u1:=g1.uniq (yS F);have u2:y2= .string (qc b.data.toList):=by rw [qbW];exact g2.uniq (.pln (v:= .string b) rfl)
        subst u1;subst u2;refine (quD b.data.toList hB0 a.lt b1 b5 hchk (by rw [O];exact hc.1) z.ext.size).mono ?_;rintro _ W ⟨rfl,v',k1,k2,k3,k4,k5,k6⟩;have C:(bs++b.data.toList).length=bs.length+b.size:=by rw [List.length_append,O]
        have aa:Iv σ w0 ⟨H.del i,s.nx,s.rs⟩ w:=by
         have sub:∀j o,(H.del i).get j=some o→j≠i∧s.H.get j=some o:=fun j o u=>⟨(get_del E u).1,b2 j o (get_del E u).2⟩;exact ⟨z.mr.keep (fun j o u=>(sub j o u).2) fun _ _ _ _ _=>rfl,z.dom,z.res,fun j l oj ol pj pl u hl=>z.ap j l oj ol pj pl (sub j oj u).2 (sub l ol hl).2,z.ext,fun j o p u=>z.own j o p (sub j o u).2⟩
        have Y:∀j o q,(H.del i).get j=some o→σ j=some q→q.1<w.heap.size∧q.1≠B∧some q.1≠bv'.ownBlock:=fun j o q u J=>by
         obtain ⟨r,hr,hlt⟩:=aa.mr.at' u;rw [J] at hr;cases hr;obtain ⟨hne,ae⟩:=get_del E u;exact ⟨hlt,fun e=>hne (z.ap j i o _ q _ (b2 j o ae) R J F e),b3 j o q ae J⟩
        rcases k2.2 with ⟨_,hz⟩|⟨g,cap,cur,hv',hg0,hgh,hnc,hcm,hcs,A⟩
        ·rw [C] at hz;omega
        ·subst hv';rw [C] at hnc A;have hMW:MR σ (H.del i) W:=aa.mr.keep (fun _ _ h=>h) fun j o q u J=>by
          obtain ⟨e1,e2,e3⟩:=Y j o q u J;exact k5 q.1 e1 e2 fun e=>e3 e.symm
         have hEW:qb w0 W:=⟨k4.os.trans z.ext.os,k4.tape.trans z.ext.tape,k4.output.trans z.ext.output,Nat.le_trans z.ext.size k4.size,fun q J=>(k4.block q J).trans (z.ext.block q J)⟩;have hgB:g≠B:=fun e=>k3 (by simp [Value.ownBlock,e]);obtain ⟨τ,S,hi,hI',e4,e5,e6⟩:=qgT aa hnew (b:=g) (f:=0) (x:=cap - (bs.length+b.size)) (W:=W) hMW hEW hg0 (fun j oj pj u hp e=>by
          obtain ⟨e1,e2,e3⟩:=Y j oj pj u hp;rcases k6 with k6|k6
          ·exact e3 (by rw [←k6,e];rfl)
          ·simp [Value.ownBlock] at k6;omega) fun τ S hi=>⟨(fun hz=>by cases hz),fun _=>⟨cur,hi,hgh,by
          dsimp only;rw [List.length_map,C,List.drop_zero];rw [Nat.mul_one] at A;rw [A];exact QO (by rw [List.all_eq_true];intro x hx;obtain ⟨c,_,rfl⟩:=List.mem_map.1 hx;rfl),by
          dsimp only;rw [List.length_map,C];omega,(fun hw=>by cases hw),fun _=>⟨bs.length+b.size,by rw [List.length_map,C,Nat.mul_one],by omega⟩,fun _=>⟨rfl,by
          dsimp only;rw [List.length_map,C];omega⟩⟩⟩
         have y:τ i=some (B,0,0):=S _ _ F;have hki:k≠i:=fun e=>by
          subst e;rw [hi] at y;exact hgB (congrArg Prod.fst (Option.some.inj y))
         have hsl:VR τ (.slice (some ⟨k,0,none⟩) (bs.length+b.size) (bs.length+b.size)) (.slice (some ⟨g,0,none⟩) (bs++b.data.toList).length cap):=by
          have:=VR.slc (σ:=τ) (o:=0) (n:=bs.length+b.size) (c:=bs.length+b.size) hi (Nat.le_refl _);rw [show bs.length+b.size+(cap - (bs.length+b.size))=cap by omega] at this;rw [C];exact this
         refine ⟨τ,_,S,qxA hI' E y (fun j o q u J hne e=> ?_) hB0 (show (1:Nat)≠0 by decide) (ob:=⟨.pointer (some ⟨i,0,none⟩):: .slice (some ⟨k,0,none⟩) (bs.length+b.size) (bs.length+b.size)::rest,T,1,true,false⟩) (cur:=(.pointer (some ⟨B,0,none⟩):: .slice (some ⟨g,0,none⟩) (bs++b.data.toList).length cap::m).toArray) ?_, ?_,rfl⟩
         ·rw [e4,Tr.get_set _ _ e5] at u;split at u
          ·rename_i e7;subst e7;rw [hi] at J;cases J;exact hgB e
          ·rename_i e7;exact (Y j o q u (e6 j q J e7)).2.1 e
         ·have ab:=v3.len;refine ⟨y,k1.heap, ?_,by simp [ab],fun _=>⟨rfl,rfl,by simp [ab]⟩,(fun hw=>by cases hw),(fun hx=>by cases hx)⟩;simp only [List.drop_zero];rw [List.take_of_length_le (by simp [ab])];exact ⟨yS y,hsl,v3.mono S⟩
         ·rw [O];exact wP (v:= .tuple #[.int .i64 (b.size:Int), .nilIface]) rfl
     ·cases h8
    ·cases h9
   ·cases h
  ·cases h
 ·cases h
noncomputable def qkn (s:Sx) (j:Nat) (bs:Bs):Option (Value×Sx):=bif Nat.ble 1 bs.length&&Nat.blt j vk then some (.string (qc bs),⟨s.H.del j,s.nx,s.rs⟩) else none
def qle:Value→Option Nat
 | .slice (some ⟨j,0,none⟩) _ _=>some j
 |_=>none
noncomputable def p90 (s:Sx):List Value→Option (Value×Sx)
 |[.pointer (some ⟨i,0,none⟩)]=>match s.H.get i with
  |some ob=>bif ob.whole&&Nat.beq ob.sz 1 then (match qeV s.H ⟨i,1,none⟩ with
   |some bv=>match qcp s bv,qle bv with
    |some (bs,_),some j=>qkn s j bs
    |_,_=>none
   |none=>none) else none
  |none=>none
 |_=>none
theorem qy4 (k:Iv σ w0 s w) (hv:qn σ args args') (h:p90 s args=some (v,s')):Calls Tryz.prog 90 args'.toArray w (vN σ w0 (.ret v s')):=by
 unfold p90 at h;split at h
 ·rename_i i;split at h
  rotate_left
  ·cases h
  rename_i ob hob;obtain ⟨hw,h⟩:=ji h;simp only [Bool.and_eq_true] at hw;have aa:=Nat.eq_of_beq_eq_true hw.2;split at h
  ·rename_i bv af;split at h
   ·rename_i bs H j a m;unfold qkn at h;obtain ⟨Y,h9⟩:=ji h;cases h9;simp only [Bool.and_eq_true,Nat.ble_eq] at Y;have E:=kI Y.2
    match args',hv with
    |[y1],hv=>
     obtain ⟨g1,_⟩:=hv;cases g1 with
     |pln Z=>cases Z
     |ptr S=>
      rename_i B f x;obtain ⟨u,hu,O⟩:=qtJ k.mr (.ptr (o:=1) S) af;have A:w.cell? ⟨B,f+1,none⟩=some u:=hu;obtain ⟨b1,b2,b3,b4⟩:=qtT k O a;unfold qle at m;split at m
      ·rename_i j' n c;cases m;rcases b1.2 with ⟨_,hz⟩|⟨g,cap,cur,ab,hg0,hgh,ad,hcm,hcs,C⟩
       ·omega
       ·subst ab;have U:∃q,σ j=some q∧q.1=g:=by
         cases O with
         |pln Z=>cases Z
         |slc hs hn=>exact ⟨_,hs,rfl⟩
        obtain ⟨q,hq,hqg⟩:=U;have hf:f=0:=by
         obtain ⟨b5,f5,x5,cur5,V⟩:=(k.mr i ob hob).2 (by rw [aa];decide);have J:=V.at';rw [S] at J;cases J;exact (V.whole hw.1).1
        subst hf;refine (qvL A hgh (by intro e;rw [e] at Y;simp at Y) ad hcm hcs C).mono ?_;rintro _ W ⟨rfl,R,hk⟩;have hEW:qb w0 W:=⟨R.os.trans k.ext.os,R.tape.trans k.ext.tape,R.output.trans k.ext.output,Nat.le_trans k.ext.size R.size,fun r hr=>(R.block r (by omega)).trans (k.ext.block r hr)⟩;refine ⟨σ,_,Sg.le_refl σ,⟨?_,k.dom,k.res,fun F l z ol pj pl y h2=>k.ap F l z ol pj pl (get_del E y).2 (get_del E h2).2,hEW,fun F o p y=>k.own F o p (get_del E y).2⟩, .pln rfl,rfl⟩;obtain ⟨z,ae⟩:∃z,s.H.get j=some z:=by
         cases ac:s.H.get j with
         |some z=>exact ⟨z,rfl⟩
         |none=>unfold qcp at a;simp only [ac] at a;cases a
        exact k.mr.keep (fun F o y=>(get_del E y).2) fun F o p y hp=>hk p.1 fun e=>(get_del E y).1 (k.ap F j o z p q (get_del E y).2 ae hp hq (by rw [e,hqg]))
      ·cases m
   ·cases h
  ·cases h
 ·cases h
end
noncomputable def qdj:qaZ:=fun f args s=>
 bif Nat.beq f 89 then p89 s args else bif Nat.beq f 90 then p90 s args else bif Nat.beq f 53 then p53 s args else bif Nat.beq f 77 then p77 s args else bif Nat.beq f 22 then p22 s args else bif Nat.beq f 24 then p24 s args else
 bif Nat.beq f 34 then p34 s args else bif Nat.beq f 64 then p64 s args else bif Nat.beq f 273 then qgF s args else none
theorem wR {c:Type} {f n:Nat} {x y:Option c} {v:c} (h:(bif Nat.beq f n then x else y)=some v):(f=n∧x=some v)∨y=some v:=by
 cases a:Nat.beq f n with
 |true=>rw [a] at h;exact .inl ⟨Nat.eq_of_beq_eq_true a,h⟩
 |false=>rw [a] at h;exact .inr h
theorem qlN:qfi Tryz.prog GM qdj:=by
 intro f args s v s' h σ w0 w args' e a c;unfold qdj at h;rcases wR h with ⟨rfl,h⟩|h
 ·exact qy5 a c h
 rcases wR h with ⟨rfl,h⟩|h
 ·exact qy4 a c h
 rcases wR h with ⟨rfl,h⟩|h
 ·exact qy8 e a c h
 rcases wR h with ⟨rfl,h⟩|h
 ·exact qy6 e a c h
 rcases wR h with ⟨rfl,h⟩|h
 ·exact qzc e a c h
 rcases wR h with ⟨rfl,h⟩|h
 ·exact qzb e a c h
 rcases wR h with ⟨rfl,h⟩|h
 ·exact qy9 a c h
 rcases wR h with ⟨rfl,h⟩|h
 ·exact qy7 e a c h
 rcases wR h with ⟨rfl,h⟩|h
 ·exact qza a c h
 ·cases h
def prZ (t:TypeId):Bool:=Nat.beq t 26
theorem qlO:yq Tryz.prog prZ:=fun t e=>by
 have:=Nat.eq_of_beq_eq_true e;subst this;exact ⟨g26,fun a b c d w=>qE3 a b c d w⟩
def skZ (f:FuncId) (i:Nat):List Nat:=bif Nat.beq f 122&&Nat.beq i 4 then [5] else []
noncomputable def qc6 (f:FuncId) (args:List Value):Option Ou:=kC Tryz.prog qdj (some yP) skZ prZ 3000 ⟨.lf,0,[]⟩ (.call f args)
theorem iv0 (w:World):Iv (fun _=>none) w ⟨.lf,0,[]⟩ w:=⟨qbV,(fun i p h=>by cases h),(fun i h=>by cases h),(fun i j g c e a h=>by cases h),qz w,(fun i o p h=>by cases h)⟩
def qjZ:Option Ou→Bool
 |some (.ret (.bool true) _)=>true
 |_=>false
def wO (a b:Int):Value:= .tuple #[.slice none 0 0, .agg #[.int .i64 a, .int .i64 b]]
def qbw (v:Value):Option Ou→Bool
 |some (.ret u _)=>zi 4 u v
 |_=>false
theorem qs9 {σ:Sg} (a b:Int):VR σ (wO a b) (wO a b):=qjX (.pln rfl) (wP (v:= .agg #[.int .i64 a, .int .i64 b]) rfl)
theorem qwS:qbw (wO 20 1) (qc6 15 [.string (qc exB)])=true:=by kernel_rfl
theorem qwR:qbw (wO 21 1) (qc6 15 [.string (qc exC)])=true:=by kernel_rfl
theorem qEX {b:ByteArray} {x y:Int} (h:qbw (wO x y) (qc6 15 [.string b])=true) {w:World} (g:GM w):Calls Tryz.prog 15 #[.string b] w fun e w'=>e= .returned (wO x y)∧qb w w':=by
 unfold qbw at h;split at h
 ·rename_i u s a;have c:=wx 4 _ _ h;subst c;refine ((qkW qlO qlN t54 3000).call 15 [.string b] _ _ a (fun _=>none) w w [.string b] g (iv0 w) ⟨.pln rfl,trivial⟩).mono ?_;rintro e w' ⟨l,n,m,j,k,rfl⟩;exact ⟨by rw [k.uniq (qs9 x y)],j.ext⟩
 ·cases h
noncomputable def p15 (s:Sx):List Value→Option (Value×Sx)
 |[.string b]=>bif kz b (qc exB) then some (wO 20 1,s) else bif kz b (qc exC) then some (wO 21 1,s) else none
 |_=>none
noncomputable def qgu:qaZ:=fun f args s=>bif Nat.beq f 15 then p15 s args else qdj f args s
theorem qye:qfi Tryz.prog GM qgu:=by
 intro f args s v s' h σ w0 w args' l k j;unfold qgu at h;rcases wR h with ⟨rfl,a⟩|a
 ·clear h;unfold p15 at a;split at a
  ·rename_i b;have key:∀{c:Bs} {x y:Int},qbw (wO x y) (qc6 15 [.string (qc c)])=true→b=qc c→Calls Tryz.prog 15 args'.toArray w (vN σ w0 (.ret (wO x y) s)):=by
    intro c x y m g;subst g;have o:args'=[.string (qc c)]:=by
     match args',j with
     |[z],j=>rw [j.1.uniq (.pln (v:= .string (qc c)) rfl)]
    rw [o];refine (qEX m (gm l k)).mono ?_;rintro e W ⟨rfl,p⟩;exact ⟨σ,_,Sg.le_refl σ,k.toExt p,qs9 x y,rfl⟩
   cases g:kz b (qc exB) with
   |true=>
    rw [g] at a;cases a;exact key qwS (QA.1 g)
   |false=>
    rw [g] at a;obtain ⟨n,u⟩:=ji (b:=kz b (qc exC)) a;cases u;exact key qwR (QA.1 n)
  ·cases a
 ·exact qlN f args s v s' a σ w0 w args' l k j
noncomputable def qwP (f:FuncId) (args:List Value):Option Ou:=kC Tryz.prog qgu (some yP) skZ prZ 3000 ⟨.lf,0,[]⟩ (.call f args)
theorem qwT:qjZ (qwP 14 [])=true:=by kernel_rfl
theorem quz {w:World} (k:L01.G w) (a:vY w):Calls Tryz.prog 14 #[] w (okR w):=by
 have h:=qwT;unfold qjZ at h;split at h
 ·rename_i s c;refine ((qkW qlO qye t54 3000).call 14 [] _ _ c (fun _=>none) w w [] ⟨k,a⟩ (iv0 w) trivial).mono ?_;rintro e w' ⟨m,l,n,g,j,rfl⟩;exact ⟨by rw [j.uniq (.pln (v:= .bool true) rfl)],g.ext⟩
 ·cases h
theorem qyl {t:T} {i:Nat} (h:i+1<t.size):∃(p:Nat) (x:Nd),(t.flat 0)[p]? =some x∧(i:Int)∈x.kids:=by
 have a:=qeU t 0 (i:Int);have e:vq (0:Int) (0+t.size - 1) (i:Int)=1:=by
  unfold vq;rw [if_pos ⟨by omega,by omega⟩]
 have j:(i:Int)∈vT (t.flat 0):=by
  refine List.count_pos_iff.1 ?_;have:((vT (t.flat 0)).count (i:Int))=1:=by rw [a];exact_mod_cast e
  omega
 obtain ⟨x,k,c⟩:=List.mem_flatMap.1 j;obtain ⟨p,g,rfl⟩:=List.mem_iff_getElem.1 k;exact ⟨p,_,List.getElem?_eq_getElem g,c⟩
noncomputable def qqr:Code:=((Tryz.f228.body).getD .skip)
noncomputable def qqq:IR:=zq [za 6 (zQ false)] <| .ret
noncomputable def qqp:IR:= .seq (.raw (qN qqr 3)) (qqq)
noncomputable def qej:IR:= .seq (.cond (zv 50) (zq [za 6 (zQ true)] <| .ret) .skip) (qqp)
noncomputable def qqs:IR:=zq [za 6 (zQ false)] <| .seq (.drw [za 50 (.ite (.ite (zI .lss (zo 1 (zN (zv 0))) (zL (zo 0 (zN (zv 0))))) (zB .eql (zo 0 (zx 3 (zo 0 (zN (zv 0))) (zo 1 (zN (zv 0))))) (zv 1)) (zQ false)) (.ite (zS .eql (zv 2) (.const (zs #[]))) (zQ true) (zS .eql (zo 1 (zx 3 (zo 0 (zN (zv 0))) (zo 1 (zN (zv 0))))) (zv 2))) (zQ false))]) (qej)
def qh0:List Nat:=[0,1,2,6,50,51,52,53,54,55,56,57,58,59,60,61,62]
theorem qCz:C3 228 63 qh0 qqs [.tmp 6]:=c3 [3] Tryz.func228
noncomputable def qqo:OT:=zy 51 (zv 0)<|zy 52 (zv 0)<|zy 53 (zN (zv 52))<|zy 54 (zf 2 (zv 53))<|zy 55 (zl (zv 54))<|zy 56 (zv 0)<|zy 57 (zN (zv 56))<|zy 58 (zf 1 (zv 57))<|zy 59 (zl (zv 58))<| .step (zE 60 (.call {callee:= .builtin .max,args:= #[zt 55,zt 59],argTypes:= #[3,3]}) 3) true<| .step (za 61 (zN (zv 51))) false<| .step (za 62 (zf 2 (zv 61))) false<| .step (zw 3 (zt 62) (zt 60)) false<| .done
theorem qCy:vF Tryz.prog 63 qh0 10 (qN qqr 3)=some qqo:=by kernel_rfl
noncomputable def qin:IR:=zq [zm 6 7] <| .ret
noncomputable def qrr:IR:=zq [za 6 (zQ false),zm 8 0,zm 9 1,zm 10 2,zc 11 228 #[zt 8,zt 9,zt 10] #[90,5,9] 4,zm 7 11,zm 12 7] <| .seq (.cond (zv 12) (.reg [zm 13 0,za 17 (zI .add (zo 1 (zN (zv 13))) (zK 1)),za 19 (zf 1 (zN (zv 13))),zw 3 (zt 19) (zt 17)]) .skip) (qin)
def qDs:List Nat:=zV 20 [3,4,5,14,15,16,18]
theorem qDr:C3 159 21 qDs qrr [.tmp 6]:=c3 [] Tryz.func159
noncomputable def qrx:IR:=zq [za 4 (zQ false),zm 5 0,zm 6 1,zc 7 159 #[zt 5,(.const (zu 4)),zt 6] #[90,5,9] 4,zm 4 7] <| .ret
def qDw:List Nat:=zV 8 [2,3]
theorem qDv:C2 157 8 qDw qrx [.tmp 4]:=c2 [] Tryz.func157
noncomputable def qr8:IR:=zq [za 4 (zQ false),zm 5 0,zm 6 1,zc 7 159 #[zt 5,(.const (zu 2)),zt 6] #[90,5,9] 4,zm 4 7] <| .ret
def qD3:List Nat:=zV 8 [2,3]
theorem qD2:C2 132 8 qD3 qr8 [.tmp 4]:=c2 [] Tryz.func132
noncomputable def qr6:IR:= .ret
noncomputable def qr5:IR:= .seq (.drw [za 2 (zo 1 (zx 3 (zo 0 (zN (zv 0))) (zI .sub (zo 1 (zN (zv 0))) (zK 1)))),za 3 (zQ true)]) (qr6)
noncomputable def qr7:IR:=zq [za 2 (.const (zs #[])),za 3 (zQ false),zm 5 0,zc 6 159 #[zt 5,(.const (zu 1)),zY #[]] #[90,5,9] 4,zm 4 6,za 8 (zn (zv 4))] <| .seq (.cond (zv 8) (zq [za 2 (.const (zs #[])),za 3 (zQ false)] <| .ret) .skip) (qr5)
def qD1:List Nat:=zV 9 [1,7]
theorem qD0:C1 134 21 qD1 qr7 [.tmp 2, .tmp 3]:=c1 [] Tryz.func134
noncomputable def qsb:IR:= .reg [za 8 (zI .add (zv 8) (zK 1))]
noncomputable def qsa:IR:= .seq (.block 1 (zq [zm 16 0,zm 17 2,za 21 (zl (zx 1 (zv 1) (zv 8))),zc 22 159 #[zt 16,zt 17,zt 21] #[90,5,9] 4,zm 9 22,zm 23 9] <| .cond (zv 23) (zq [za 6 (zl (zx 1 (zv 1) (zv 8))),za 7 (zQ true)] <| .ret) .skip)) (qsb)
noncomputable def qiA:IR:=zq [za 13 (zI .lss (zv 8) (zL (zv 1)))] <| .seq (.cond (zv 13) .skip (.exit 0)) (qsa)
noncomputable def qr9:IR:=zq [za 6 (.const (zs #[])),za 7 (zQ false)] <| .ret
noncomputable def qsc:IR:=zq [za 6 (.const (zs #[])),za 7 (zQ false),za 8 (zK 0)] <| .seq (.block 0 (.loop qiA)) (qr9)
def qD5:List Nat:=[0,1,2,6,7,8,9,13,16,17,21,22,23]
theorem qD4:C3 131 28 qD5 qsc [.tmp 6, .tmp 7]:=c3 [] Tryz.func131
noncomputable def qrv:IR:= .reg [za 4 (zS .add (zv 4) (.const (zs #[44])))]
noncomputable def qru:IR:=zq [za 4 (zS .add (zS .add (zS .add (zv 4) (zv 5)) (.const (zs #[58]))) (zv 7)),zm 34 0,zc 35 157 #[zt 34,zY #[44]] #[90,9] 4,za 36 (zn (zv 35))] <| .seq (.cond (zv 36) (zq [zm 2 4,za 3 (zQ true)] <| .ret) .skip) (qrv)
noncomputable def qrt:IR:=zq [zm 22 0,zc 23 74 #[zt 22] #[90] 105,zm 21 23,za 24 (ze 0 (zv 21)),za 25 (ze 1 (zv 21)),zm 7 24,zm 8 25,za 27 (zn (zv 8))] <| .seq (.cond (zv 27) (zq [za 2 (.const (zs #[])),za 3 (zQ false)] <| .ret) .skip) (qru)
noncomputable def qrs:IR:= .block 1 (zq [zm 10 0,zc 11 134 #[zt 10] #[90] 105,zm 9 11,za 12 (ze 0 (zv 9)),za 13 (ze 1 (zv 9)),zm 5 12,zm 6 13,za 16 (zn (zv 6)),zg 16 false 17 (zv 0),zh 16 false 18 157 #[zt 17,zY #[58]] #[90,9] 4,za 20 (.ite (zv 16) (zQ true) (zn (zv 18)))] <| .seq (.cond (zv 20) (zq [za 2 (.const (zs #[])),za 3 (zQ false)] <| .ret) .skip) (qrt))
noncomputable def qrw:IR:=zq [za 2 (.const (zs #[])),za 3 (zQ false),za 4 (.const (zs #[]))] <| .block 0 (.loop qrs)
def qDu:List Nat:=zV 37 [1,14,15,19,26,28,29,30,31,32,33]
theorem qDt:C1 158 40 qDu qrw [.tmp 2, .tmp 3]:=c1 [] Tryz.func158
noncomputable def qnR:IR:=zq [za 2 (zS .add (zS .add (.const (zs #[97,114,114,97,121,91])) (zv 6)) (.const (zs #[93]))),za 3 (zQ true)] <| .ret
noncomputable def qnQ:IR:=zq [zm 28 0,zc 29 74 #[zt 28] #[90] 105,zm 27 29,za 30 (ze 0 (zv 27)),za 31 (ze 1 (zv 27)),zm 6 30,zm 7 31,za 34 (zn (zv 7)),zg 34 false 35 (zv 0),zh 34 false 36 157 #[zt 35,zY #[93]] #[90,9] 4,za 38 (.ite (zv 34) (zQ true) (zn (zv 36)))] <| .seq (.cond (zv 38) (zq [za 2 (.const (zs #[])),za 3 (zQ false)] <| .ret) .skip) (qnR)
noncomputable def qnO:IR:=zq [za 2 (zS .add (zS .add (zS .add (zv 8) (.const (zs #[91]))) (zv 9)) (.const (zs #[93]))),za 3 (zQ true)] <| .ret
noncomputable def qnN:IR:=zq [zm 53 0,zc 54 158 #[zt 53] #[90] 105,zm 52 54,za 55 (ze 0 (zv 52)),za 56 (ze 1 (zv 52)),zm 9 55,zm 10 56,za 59 (zn (zv 10)),zg 59 false 60 (zv 0),zh 59 false 61 157 #[zt 60,zY #[93]] #[90,9] 4,za 63 (.ite (zv 59) (zQ true) (zn (zv 61)))] <| .seq (.cond (zv 63) (zq [za 2 (.const (zs #[])),za 3 (zQ false)] <| .ret) .skip) (qnO)
noncomputable def qnM:IR:=zq [za 2 (zS .add (zS .add (zS .add (zv 11) (.const (zs #[91]))) (zv 12)) (.const (zs #[93]))),za 3 (zQ true)] <| .ret
noncomputable def qnL:IR:=zq [zm 85 0,zc 86 74 #[zt 85] #[90] 105,zm 84 86,za 87 (ze 0 (zv 84)),za 88 (ze 1 (zv 84)),zm 12 87,zm 13 88,za 91 (zn (zv 13)),zg 91 false 92 (zv 0),zh 91 false 93 157 #[zt 92,zY #[93]] #[90,9] 4,za 95 (.ite (zv 91) (zQ true) (zn (zv 93)))] <| .seq (.cond (zv 95) (zq [za 2 (.const (zs #[])),za 3 (zQ false)] <| .ret) .skip) (qnM)
noncomputable def qnK:IR:=zq [zm 80 0,zc 81 157 #[zt 80,zY #[91]] #[90,9] 4,za 82 (zn (zv 81))] <| .seq (.cond (zv 82) (zq [zm 2 11,za 3 (zQ true)] <| .ret) .skip) (qnL)
noncomputable def qnJ:IR:=zq [zm 74 0,zc 75 134 #[zt 74] #[90] 105,zm 73 75,za 76 (ze 0 (zv 73)),za 77 (ze 1 (zv 73)),zm 11 76,zm 5 77,za 79 (zn (zv 5))] <| .seq (.cond (zv 79) (zq [za 2 (.const (zs #[])),za 3 (zQ false)] <| .ret) .skip) (qnK)
noncomputable def qnI:IR:=zq [zm 69 0,zc 70 157 #[zt 69,zY #[63]] #[90,9] 4] <| .seq (.cond (zv 70) (zq [zm 71 0,zc 72 159 #[zt 71,(.const (zu 1)),zY #[116]] #[90,5,9] 4,za 2 (.const (zs #[63,116])),zm 3 72] <| .ret) .skip) (qnJ)
noncomputable def qnH:IR:=zq [zm 43 0,zE 44 (.buildSlice 51 2 #[(0,(zY #[114,101,99,111,114,100])),(1,(zY #[111,110,101,111,102]))]) 51,zc 45 131 #[zt 43,zt 44,(.const (zu 2))] #[90,51,5] 105,zm 42 45,za 46 (ze 0 (zv 42)),za 47 (ze 1 (zv 42)),zm 8 46,zm 5 47,zm 48 5] <| .seq (.cond (zv 48) (zq [zm 49 0,zc 50 157 #[zt 49,zY #[91]] #[90,9] 4,za 51 (zn (zv 50))] <| .seq (.cond (zv 51) (zq [za 2 (.const (zs #[])),za 3 (zQ false)] <| .ret) .skip) (qnN)) .skip) (qnI)
noncomputable def qnP:IR:=zq [zm 22 0,zc 23 132 #[zt 22,zY #[97,114,114,97,121]] #[90,9] 4] <| .seq (.cond (zv 23) (zq [zm 24 0,zc 25 157 #[zt 24,zY #[91]] #[90,9] 4,za 26 (zn (zv 25))] <| .seq (.cond (zv 26) (zq [za 2 (.const (zs #[])),za 3 (zQ false)] <| .ret) .skip) (qnQ)) .skip) (qnH)
noncomputable def qnS:IR:=zq [za 2 (.const (zs #[])),za 3 (zQ false),zm 15 0,zE 16 (.buildSlice 51 3 #[(0,(zY #[105,110,116])),(1,(zY #[98,111,111,108])),(2,(zY #[110,117,108,108]))]) 51,zc 17 131 #[zt 15,zt 16,(.const (zu 2))] #[90,51,5] 105,zm 14 17,za 18 (ze 0 (zv 14)),za 19 (ze 1 (zv 14)),zm 4 18,zm 5 19,zm 20 5] <| .seq (.cond (zv 20) (zq [zm 2 4,za 3 (zQ true)] <| .ret) .skip) (qnP)
def qAJ:List Nat:=zV 96 [1,21,32,33,37,39,40,41,57,58,62,64,65,66,67,68,78,83,89,90,94]
theorem qAI:C1 74 101 qAJ qnS [.tmp 2, .tmp 3]:=c1 [] Tryz.func74
noncomputable def qnF:IR:=zq [za 0 (.const (.slice none 0 0)),zE 1 (.buildSlice 51 4 #[(0,(zY #[109,111,100])),(1,(zY #[97,110,100])),(2,(zY #[111,114])),(3,(zY #[110,111,116]))]) 51,zm 0 1] <| .ret
def qAD:List Nat:=[0,1]
theorem qAC:C0 78 2 qAD qnF [.tmp 0]:=c0 [] Tryz.func78
noncomputable def qrJ:IR:=zq [za 0 (.const (.slice none 0 0)),zE 1 (.buildSlice 51 7 #[(0,(zY #[43])),(1,(zY #[45])),(2,(zY #[42])),(3,(zY #[47])),(4,(zY #[60])),(5,(zY #[60,61])),(6,(zY #[61]))]) 51,zm 0 1] <| .ret
def qDK:List Nat:=[0,1]
theorem qDJ:C0 150 2 qDK qrJ [.tmp 0]:=c0 [] Tryz.func150
noncomputable def qrI:IR:=zq [za 0 (.const (.slice none 0 0)),zE 1 (.buildSlice 51 3 #[(0,(zY #[109,111,100])),(1,(zY #[97,110,100])),(2,(zY #[111,114]))]) 51,zm 0 1] <| .ret
def qDI:List Nat:=[0,1]
theorem qDH:C0 151 2 qDI qrI [.tmp 0]:=c0 [] Tryz.func151
noncomputable def qsG:IR:= .reg [za 6 (zI .add (zv 6) (zK 1))]
noncomputable def qsF:IR:= .seq (.block 1 (.reg [zm 17 5,zm 18 0,za 26 (zl (zx 1 (zo 5 (zx 6 (zv 0) (zv 1))) (zv 6))),zc 27 107 #[zt 18,zt 26] #[29,3] 3,za 5 (zI .add (zv 17) (zv 27))])) (qsG)
noncomputable def qiI:IR:=zq [za 14 (zI .lss (zv 6) (zL (zo 5 (zx 6 (zv 0) (zv 1)))))] <| .seq (.cond (zv 14) .skip (.exit 0)) (qsF)
noncomputable def qsE:IR:=zq [zm 4 5] <| .ret
noncomputable def qsH:IR:=zq [za 4 (zK 0),za 5 (zK 1),za 6 (zK 0)] <| .seq (.block 0 (.loop qiI)) (qsE)
def qEu:List Nat:=[0,1,4,5,6,14,17,18,26,27]
theorem qEt:C2 107 30 qEu qsH [.tmp 4]:=c2 [] Tryz.func107
noncomputable def qsC:IR:= .reg [za 10 (zI .add (zv 10) (zK 1))]
noncomputable def qsB:IR:= .seq (.block 3 (.reg [zm 34 9,za 41 (zI .sub (zl (zx 1 (zo 5 (zv 8)) (zv 10))) (zv 5)),zE 42 (.buildSlice 40 1 #[(0,(zt 41))]) 40,zp 43 #[zt 34,zt 42] #[40,40] 40,zm 9 43])) (qsC)
noncomputable def qiH:IR:=zq [za 31 (zI .lss (zv 10) (zL (zo 5 (zv 8))))] <| .seq (.cond (zv 31) .skip (.exit 2)) (qsB)
noncomputable def qsA:IR:= .reg [zm 44 9,za 45 (zf 5 (zv 8)),zw 40 (zt 45) (zt 44),zm 46 6,za 47 (zM 6 (zv 8)),zE 48 (.buildSlice 99 1 #[(0,(zt 47))]) 99,zp 49 #[zt 46,zt 48] #[99,99] 99,zm 6 49]
noncomputable def qsz:IR:= .reg [za 7 (zI .add (zv 7) (zK 1))]
noncomputable def qsy:IR:= .seq (.block 1 (zq [za 26 (zM 6 (zx 6 (zv 0) (zv 7))),zA 8 44,zw 44 (zt 8) (zt 26),za 9 (.const (.slice none 0 0)),za 10 (zK 0)] <| .seq (.block 2 (.loop qiH)) (qsA))) (qsz)
noncomputable def qiG:IR:=zq [za 20 (zI .leq (zv 7) (zv 1))] <| .seq (.cond (zv 20) .skip (.exit 0)) (qsy)
noncomputable def qsx:IR:=zq [zm 4 6] <| .ret
noncomputable def qsD:IR:=zq [za 4 (.const (.slice none 0 0)),za 12 (zI .add (zv 1) (zK 1)),zm 13 0,zm 14 1,zc 15 107 #[zt 13,zt 14] #[29,3] 3,za 5 (zI .sub (zv 12) (zv 15)),za 6 (.const (.slice none 0 0)),zm 7 5] <| .seq (.block 0 (.loop qiG)) (qsx)
def qEs:List Nat:=[0,1,4,5,6,7,8,9,10,12,13,14,15,20,26,31,34,41,42,43,44,45,46,47,48,49]
theorem qEr:C2 108 51 qEs qsD [.tmp 4]:=c2 [] Tryz.func108
noncomputable def qpW:IR:=zq [zm 21 3,zE 22 (.build 92 #[(0,(zt 21))]) 92,zE 23 (.box 92 (zt 22)) 90,zm 5 23,zm 25 5,zc 26 74 #[zt 25] #[90] 105,zm 24 26,za 27 (ze 0 (zv 24)),za 28 (ze 1 (zv 24)),zm 6 27,zm 7 28,za 2 (.ite (.ite (zv 7) (zI .eql (zo 1 (zN (zv 5))) (zL (zv 3))) (zQ false)) (zS .eql (zv 6) (zv 0)) (zQ false))] <| .ret
noncomputable def qql:IR:=zq [za 2 (zQ false),zm 9 0,zc 10 33 #[zt 9] #[9] 49,zm 8 10,za 11 (ze 0 (zv 8)),za 12 (ze 1 (zv 8)),zA 4 26,zm 3 11,zw 26 (zt 4) (zt 12),za 20 (.ite (zI .neq (zo 0 (zv 4)) (zK 0)) (zQ true) (zI .gtr (zT (zv 0)) (zK 100)))] <| .seq (.cond (zv 20) (zq [za 2 (zQ false)] <| .ret) .skip) (qpW)
def qCe:List Nat:=zV 29 [1,13,14,15,16,17,18,19]
theorem qCd:C1 23 44 qCe qql [.tmp 2]:=c1 [] Tryz.func23
noncomputable def qpI:IR:= .reg [za 4 (zI .add (zv 4) (zK 1))]
noncomputable def qpH:IR:= .seq (.block 1 (zq [za 16 (zB .eql (.op2 .ixs (zv 0) (zv 4)) (.const (zu 95)))] <| .cond (zv 16) (zq [zm 3 4] <| .exit 0) .skip)) (qpI)
noncomputable def qhL:IR:=zq [za 10 (zI .lss (zv 4) (zT (zv 0)))] <| .seq (.cond (zv 10) .skip (.exit 0)) (qpH)
noncomputable def qpG:IR:= .reg [za 6 (zI .add (zv 6) (zK 1))]
noncomputable def qhM:IR:= .seq (.block 3 (zq [za 32 (zS .eql (zl (zx 1 (zv 5) (zv 6))) (zv 0))] <| .cond (zv 32) (zq [za 2 (zQ true)] <| .ret) .skip)) (qpG)
noncomputable def qd6:IR:=zq [za 24 (zI .lss (zv 6) (zL (zv 5)))] <| .seq (.cond (zv 24) .skip (.exit 2)) (qhM)
noncomputable def qpF:IR:=zq [zm 33 0,zc 34 79 #[zt 33] #[9] 4,zm 2 34] <| .ret
noncomputable def qpE:IR:=zq [za 37 (.op3 .stLoHi (zv 0) (zK 0) (zv 3)),zc 38 79 #[zt 37] #[9] 4,zm 39 38,zg 39 true 43 (.op2 .stLo (zv 0) (zI .add (zv 3) (zK 1))),zh 39 true 44 79 #[zt 43] #[9] 4,za 2 (.ite (zv 39) (zv 44) (zQ false))] <| .ret
noncomputable def qd7:IR:=zq [za 19 (zI .lss (zv 3) (zK 0))] <| .seq (.cond (zv 19) (zq [zc 20 78 #[] #[] 51,zm 5 20,za 6 (zK 0)] <| .seq (.block 2 (.loop qd6)) (qpF)) .skip) (qpE)
noncomputable def qpK:IR:=zq [za 2 (zQ false),za 3 (.const (.int .i64 (-1))),za 4 (zK 0)] <| .seq (.block 0 (.loop qhL)) (qd7)
def qpJ:List Nat:=[0,2,3,4,5,6,10,16,19,20,24,32,33,34,37,38,39,43,44]
theorem qB2:C1 25 46 qpJ qpK [.tmp 2]:=c1 [] Tryz.func25
@[simp] theorem qJi:qf Tryz.prog 228=true:=by kernel_rfl
@[simp] theorem qJk:qf Tryz.prog 159=true:=by kernel_rfl
@[simp] theorem qJm:qf Tryz.prog 157=true:=by kernel_rfl
@[simp] theorem qJr:qf Tryz.prog 132=true:=by kernel_rfl
@[simp] theorem qJq:qf Tryz.prog 134=true:=by kernel_rfl
@[simp] theorem qJs:qf Tryz.prog 131=true:=by kernel_rfl
structure ExB (B:Nat) (w w':World):Prop where
 below:Below B w w'
 block:∀k,k<w.heap.size→k≠B→w'.heap[k]? =w.heap[k]?
theorem ExB.size {B:Nat} {w w':World} (h:ExB B w w'):w.heap.size≤w'.heap.size:=h.below.size
theorem ExB.refl (B:Nat) (w:World):ExB B w w:=⟨Below.refl _ _,fun _ _ _=>rfl⟩
theorem ExB.trans {B:Nat} {a b c:World} (h:ExB B a b) (k:ExB B b c):ExB B a c:=⟨h.below.trans k.below,fun j g e=>(k.block j (by have:=h.size;omega) e).trans (h.block j g e)⟩
theorem ExB.ext {B:Nat} {w w':World} (h:qb w w') (a:B≤w.heap.size):ExB B w w':=⟨h.mono a,fun k c _=>h.block k c⟩
theorem ExB.only {B:Nat} {w w':World} (h:Only B w w'):ExB B w w':=⟨wj h (Nat.le_refl _),fun k _ a=>h.block k a⟩
theorem ExB.blk {B X:Nat} {w w':World} {cs:Array Value} {T:TypeId} (h:ExB B w w') (c:Blk w X cs T) (a:X≠B):Blk w' X cs T:=⟨(h.block X c.lt a).trans c.heap⟩
structure RSt (B:Nat) (W:World) (tv:Value) (L:List Tok) (i f:Nat):Prop where
 blk:Blk W B #[tv, .int .i64 (i:Int), .int .i64 (f:Int)] 92
 tok:Own 0 53 3 W tv (qB L)
 tl:L.length≤20000
 il:i≤L.length
 fl:f≤L.length
section
variable {B:Nat} {w w':World} {tv:Value} {L:List Tok} {i f:Nat}
theorem RSt.lt (h:RSt B w tv L i f):B≤w.heap.size:=Nat.le_of_lt h.blk.lt
theorem RSt.slk (h:RSt B w tv L i f):SlK w tv L:=SlK.own h.tok (by have:=h.tl;omega)
theorem RSt.ext (h:RSt B w tv L i f) (a:qb w w'):RSt B w' tv L i f:=⟨h.blk.ext a,h.tok.ext a,h.tl,h.il,h.fl⟩
theorem RSt.ne (h:RSt B w tv L i f) {b e sz:Nat} {v:Value} {ys:List Value} (c:Own b e sz w v ys) (j:e≠92) {k:Nat} (l:v.ownBlock=some k):k≠B:=fun g=>by
 obtain ⟨cur,a⟩:=Own.row c l;rw [g,h.blk.heap] at a;cases a;exact j rfl
theorem RSt.keep (h:RSt B w tv L i f) (j:ExB B w w') {b e sz:Nat} {v:Value} {ys:List Value} (a:Own b e sz w v ys) (g:e≠92):Own b e sz w' v ys:=Own.same a fun k c=>j.block k (a.blk k c).2 (h.ne a g c)
theorem RSt.move (h:RSt B w tv L i f) {c a:Nat} (e:Only B w w') (g:Blk w' B #[tv, .int .i64 (c:Int), .int .i64 (a:Int)] 92) (j:c≤L.length) (k:a≤L.length):RSt B w' tv L c a∧ExB B w w':=
 ⟨⟨g,h.keep (ExB.only e) h.tok (by decide),h.tl,j,k⟩,ExB.only e⟩
def TkR (B:Nat) (w:World) (tv:Value) (L:List Tok) (i f k:Nat) (s:Bs):Ending→World→Prop:=fun e w'=>e= .returned (.bool (qy L i k s))∧(if qy L i k s then RSt B w' tv L (i+1) f else RSt B w' tv L i (max f i))∧ExB B w w'
theorem qxT (h:RSt B w tv L i f) (k:Nat) (s:Bs) (hk:k<256):Calls Tryz.prog 228 #[.pointer (some ⟨B,0,none⟩), .int .u8 (k:Int), .string (qc s)] w fun e w'=>e= .returned (.bool (qy L i k s))∧RSt B w' tv L i (if qy L i k s then f else max f i)∧ExB B w w':=by
 have Z:=h.tl;have U:=h.il;have Y:=h.fl;have V:(⟨#[]⟩:ByteArray)=qc []:=rfl;generalize x:(fun (e:Ending) (w':World)=>e= .returned (.bool (qy L i k s))∧RSt B w' tv L i (if qy L i k s then f else max f i)∧ExB B w w')=R;refine qCz fun ρ r0 r1 r2=> ?_;simp -implicitDefEqProofs [qqs,r0,r1,r2];have c0:∀W,qb w W→W.cell? ⟨B,0,none⟩=some tv:=fun W A=>by rw [(h.blk.ext A).cell];rfl
 have c1:∀W,qb w W→W.cell? ⟨B,1,none⟩=some (.int .i64 (i:Int)):=fun W A=>by rw [(h.blk.ext A).cell];rfl
 have c2:∀W,qb w W→W.cell? ⟨B,2,none⟩=some (.int .i64 (f:Int)):=fun W A=>by rw [(h.blk.ext A).cell];rfl
 have p:=h.slk;have step:∀C,qb w C→(qej).wp ⟨Tryz.prog,63,qh0,[]⟩ (qw [.tmp 6] R) (qF [.tmp 6] R) (qu (qu ρ 6 (.bool false)) 50 (.bool (qy L i k s))) C:=fun C m=>by
  cases z:qy L i k s with
  |true=>
   simp -implicitDefEqProofs [qej];rw [←x,z];exact ⟨rfl,by simpa using h.ext m,ExB.ext m h.lt⟩
  |false=>
   simp -implicitDefEqProofs [qej,qqp];refine vH qCy (fun W=>RSt B W tv L i f) fun W3 u _=>⟨h.ext (m.trans' u), ?_⟩;have o:=h.ext (m.trans' u);have F:∀W,RSt B W tv L i f→∀j,W.cell? ⟨B,j,none⟩= #[tv,Value.int .i64 (i:Int), .int .i64 (f:Int)][j]? :=fun W h=>h.blk.cell;simp+contextual -implicitDefEqProofs [qqo,F,o,r0];refine qeK (k:= .i64) (a:=(f:Int)) (b:=(i:Int)) (by simp) (by simp) ?_;have e1:(if (i:Int)>(f:Int) then (i:Int) else (f:Int))=((max f i:Nat):Int):=by split<;>omega
   rw [e1];refine ⟨o, ?_⟩;simp [r0];refine qK (B:=B) (i:=2) (by simp) o.blk (by simp) (by simp [Value.cells]) (by simp) zz fun W4 E y=> ?_;simp at y;have O:Blk W4 B #[tv, .int .i64 (i:Int), .int .i64 ((max f i:Nat):Int)] 92:=by simpa using y
   obtain ⟨S,H⟩:=o.move E O U (by omega);simp -implicitDefEqProofs [qqq];rw [←x,z];exact ⟨rfl,by simpa using S,(ExB.ext (m.trans' u) h.lt).trans H⟩
 by_cases c:i<L.length
 ·obtain ⟨c3,c4,c5⟩:=p.cell i c;have g:(i:Int)<(L.length:Int):=by omega
  have l:qy L i k s=(decide ((tk L i).kind=k)&&(decide (s=[])||decide ((tk L i).text=s))):=by unfold qy;simp [c]
  have J:tk L i=L[i]:=zr c;rw [←J] at c3 c4;cases n:decide ((tk L i).kind=k) with
  |true=>
   rw [n,Bool.true_and] at l;have:((tk L i).kind:Int)=(k:Int):=by have:=of_decide_eq_true n;omega
   simp -implicitDefEqProofs [c0 w (qz _),c1 w (qz _),p.is,p.len,g,c,c3,c4,V,qJ,this];rw [←l];exact step
  |false=>
   rw [n,Bool.false_and] at l;have:¬((tk L i).kind:Int)=(k:Int):=by have:=of_decide_eq_false n;omega
   rw [l] at step;simp -implicitDefEqProofs [c0 w (qz _),c1 w (qz _),p.is,p.len,g,c,c3,c4,V,qJ,this];exact step
 ·have g:¬(i:Int)<(L.length:Int):=by omega
  have l:qy L i k s=false:=by unfold qy;simp [c]
  rw [l] at step;simp -implicitDefEqProofs [c0 w (qz _),c1 w (qz _),p.is,p.len,g,c];exact step
theorem qbA (h:RSt B w tv L i f) (k:Nat) (s:Bs) (o:k<256):Calls Tryz.prog 159 #[.pointer (some ⟨B,0,none⟩), .int .u8 (k:Int), .string (qc s)] w (TkR B w tv L i f k s):=by
 refine qDr fun ρ r0 r1 r2=> ?_;simp -implicitDefEqProofs [qrr,r0,r1,r2];refine (qxT h k s o).mono ?_;rintro _ y ⟨rfl,c,n⟩;cases a:qy L i k s with
 |false=>
  rw [a] at c;simp -implicitDefEqProofs [qin];unfold TkR;rw [a];exact ⟨rfl,by simpa using c,n⟩
 |true=>
  rw [a,if_pos rfl] at c;have x:=Qa a;have p:=h.tl;have u:IntKind.i64.wrap ((i:Int)+1)=((i+1:Nat):Int):=by rw [qp (by omega)];push_cast;rfl
  simp -implicitDefEqProofs [r0,c.blk.cell,u];refine qK (B:=B) (i:=1) (by simp) c.blk (by simp) (by simp [Value.cells]) (by simp) zz fun W4 g e=> ?_;simp at e;have l:Blk W4 B #[tv, .int .i64 ((i+1:Nat):Int), .int .i64 (f:Int)] 92:=by simpa using e
  obtain ⟨m,j⟩:=c.move g l (by omega) h.fl;simp -implicitDefEqProofs [qin];unfold TkR;rw [a,if_pos rfl];exact ⟨rfl,m,n.trans j⟩
theorem yg (h:RSt B w tv L i f) (s:Bs):Calls Tryz.prog 157 #[.pointer (some ⟨B,0,none⟩), .string (qc s)] w (TkR B w tv L i f 4 s):=by
 refine qDv fun ρ r0 r1=> ?_;simp -implicitDefEqProofs [qrx,r0,r1];refine (qbA h 4 s (by decide)).mono ?_;rintro _ e ⟨rfl,a,c⟩;simp -implicitDefEqProofs;exact ⟨rfl,a,c⟩
theorem qxO (h:RSt B w tv L i f) (s:Bs):Calls Tryz.prog 132 #[.pointer (some ⟨B,0,none⟩), .string (qc s)] w (TkR B w tv L i f 2 s):=by
 refine qD2 fun ρ r0 r1=> ?_;simp -implicitDefEqProofs [qr8,r0,r1];refine (qbA h 2 s (by decide)).mono ?_;rintro _ e ⟨rfl,a,c⟩;simp -implicitDefEqProofs;exact ⟨rfl,a,c⟩
def NmR (B:Nat) (w:World) (tv:Value) (L:List Tok) (i f:Nat):Ending→World→Prop:=fun e w'=>
 if qy L i 1 [] then e= .returned (.tuple #[.string (qc (tk L i).text), .bool true])∧RSt B w' tv L (i+1) f∧ExB B w w' else e= .returned (.tuple #[.string (qc []), .bool false])∧RSt B w' tv L i (max f i)∧ExB B w w'
theorem qlw (h:RSt B w tv L i f):Calls Tryz.prog 134 #[.pointer (some ⟨B,0,none⟩)] w (NmR B w tv L i f):=by
 refine qD0 fun ρ r0=> ?_;simp -implicitDefEqProofs [qr7,r0];refine (qbA h 1 [] (by decide)).mono ?_;rintro _ u ⟨rfl,a,m⟩;unfold NmR;cases c:qy L i 1 [] with
 |false=>
  rw [c] at a;simp -implicitDefEqProofs;exact ⟨rfl,by simpa using a,m⟩
 |true=>
  rw [c,if_pos rfl] at a;have e:=Qa c;have n:=h.tl;have k:=a.slk;obtain ⟨c3,c4,c5⟩:=k.cell i e;have l:tk L i=L[i]:=zr e;rw [←l] at c4;have o:IntKind.i64.wrap (i:Int)=(i:Int):=by rw [qp (by omega)]
  have g:(i:Int)<(L.length:Int):=by omega
  simp -implicitDefEqProofs [qr5,r0,a.blk.cell,k.is,k.len,o,g,e,c4];intro p j;simp -implicitDefEqProofs [qr6];exact ⟨a.ext j,m.trans (ExB.ext j a.lt)⟩
def SnR (B:Nat) (w:World) (tv:Value) (L:List Tok) (i f k:Nat) (ss:List Bs):Ending→World→Prop:=fun e w'=>ExB B w w'∧
 match ss.find? (qy L i k) with
 |some s=>e= .returned (.tuple #[.string (qc s), .bool true])∧RSt B w' tv L (i+1) (if (ss.take 1).any (qy L i k) then f else max f i)
 |none=>e= .returned (.tuple #[.string (qc []), .bool false])∧RSt B w' tv L i (if ss=[] then f else max f i)
theorem qlv (h:RSt B w tv L i f) {lv:Value} {ss:List Bs} (k:Nat) (hk:k<256) (E:Cells w lv 1 (ss.map qe)) (u:∀W,ExB B w W→Cells W lv 1 (ss.map qe)) (hbd:ss.length≤1000000):Calls Tryz.prog 131 #[.pointer (some ⟨B,0,none⟩),lv, .int .u8 (k:Int)] w (SnR B w tv L i f k ss):=by
 have x:qk lv=ss.length:=by simpa using E.len.symm
 refine qD4 fun ρ r0 r1 r2=> ?_;generalize A:SnR B w tv L i f k ss=R;simp -implicitDefEqProofs [qsc];obtain ⟨I,O⟩:∃I:Nat→qa→World→Prop,∀j l w',I j l w'↔(l 0= .pointer (some ⟨B,0,none⟩)∧l 1=lv∧l 2= .int .u8 (k:Int)∧ExB B w w'∧RSt B w' tv L i (if j=0 then f else max f i)∧(∀s∈ss.take j,qy L i k s=false)):=⟨_,fun _ _ _=>Iff.rfl⟩;refine jj 8 ss.length I (by simp) ((O _ _ _).2 ⟨by simp [r0],by simp [r1],by simp [r2],ExB.refl _ _,by simpa using h,by simp⟩) ?_;clear r0 r1 r2;rintro j l w' hj C J;obtain ⟨r0,r1,r2,U,V,o⟩:=(O _ _ _).1 J;have H:IntKind.i64.wrap ((j:Int)+1)=(j:Int)+1:=qp (by omega);by_cases c:j<ss.length
 ·have e:(j:Int)<(ss.length:Int):=by omega
  have Y:=(u w' U).cell j (by simpa using c);simp only [List.getElem_map,qe] at Y;simp -implicitDefEqProofs [qiA,C,r1,E.is,x,e,c,qsa,r0,r2,Y];refine (qbA V k ss[j] hk).mono ?_;rintro _ w2 ⟨rfl,n,F⟩;have m:=U.trans F;cases g:qy L i k ss[j] with
  |false=>
   rw [g] at n;have e2:max (if j=0 then f else max f i) i=max f i:=by split<;>omega
   simp [e2] at n;simp -implicitDefEqProofs [qsb,C,H,c];refine (O _ _ _).2 ⟨by simp [r0],by simp [r1],by simp [r2],m,by simpa using n,fun s p=> ?_⟩;rw [List.take_succ_eq_append_getElem c] at p;rcases List.mem_append.1 p with p|p
   ·exact o s p
   ·rw [List.mem_singleton.1 p];exact g
  |true=>
   rw [g,if_pos rfl] at n;have z:=(u w2 m).cell j (by simpa using c);simp only [List.getElem_map,qe] at z;simp -implicitDefEqProofs [r1,C,E.is,x,e,c,z];rw [←A];refine ⟨m, ?_⟩;have S:ss.find? (qy L i k)=some ss[j]:=by
    rw [List.find?_eq_some_iff_getElem];exact ⟨g,j,c,rfl,fun q hq=>by simpa using o ss[q] (List.mem_take_iff_getElem.2 ⟨q,by omega,rfl⟩)⟩
   rw [S];refine ⟨rfl, ?_⟩;have Z:(if (ss.take 1).any (qy L i k) then f else max f i)=(if j=0 then f else max f i):=by
    cases ss with
    |nil=>simp at c
    |cons a ss=>
     by_cases y:j=0
     ·subst y;simp only [List.getElem_cons_zero] at g;simp [g]
     ·have:=o a (by cases j with|zero=>exact absurd rfl y|succ j=>simp);simp [this,y]
   rw [Z];exact n
 ·have e:¬(j:Int)<(ss.length:Int):=by omega
  rw [List.take_of_length_le (by omega)] at o;simp -implicitDefEqProofs [qiA,C,r1,E.is,x,e,c,qr9];rw [←A];refine ⟨U, ?_⟩;have S:ss.find? (qy L i k)=none:=List.find?_eq_none.2 fun s p=>by simp [o s p]
  rw [S];refine ⟨rfl, ?_⟩;have:(j=0)↔ss=[]:=by rw [←List.length_eq_zero_iff];omega
  simpa [this] using V
theorem qfT {c:Type} (k:Nat) (x:Bs→N c) (y:N c):∀(ss:List Bs) (f:Nat),seen L k x y ss i f=match ss.find? (qy L i k) with|some s=>x s (i+1) (if (ss.take 1).any (qy L i k) then f else max f i)|none=>y i (if ss=[] then f else max f i)
 |[],f=>rfl
 |s::ss,f=>by
  unfold seen jr;cases a:qy L i k s with
  |true=>simp [a]
  |false=>
   rw [if_neg (by simp),qfT k x y ss (max f i)];simp only [List.find?_cons,a];cases e:ss.find? (qy L i k) with
   |none=>cases ss<;>simp
   |some t=>simp [a]
end
@[simp] theorem qJl:qf Tryz.prog 158=true:=by kernel_rfl
@[simp] theorem qI7:qf Tryz.prog 74=true:=by kernel_rfl
theorem qcK {L:List Tok} (m:xo L) (o:wt L) (A:L.length≤20000) {n i g j l:Nat} {s:Bs} (h:jE L n i g= .val (some s) j l):i≤j∧s.length≤400000:=by
 have a:=qbg m (L.length+3) n i g g rfl;rw [h] at a;have k:=qft (L:=L) (L.length+3) i g (by omega);cases c:kind L (L.length+3) i g with
 |oof=>exact absurd c k
 |no f=>rw [c] at a;exact absurd a.2 (by simp [qcB,wT])
 |ok u j f=>
  rw [c] at a;obtain ⟨b,p,x,e,_,y⟩:=a;subst x;obtain rfl:=Option.some.inj p;refine ⟨e, ?_⟩;rw [y];have z:=qmS (qv4 o i j);have C:(vW L i j).length≤L.length:=by unfold vW;simp only [List.length_drop,List.length_take];omega
  omega
theorem qES {L:List Tok} (z:xo L) (l:wt L) (C:L.length≤20000) {n:Nat}:∀{m i g j a:Nat} {s:Bs},xf L (jE L n) m i g= .val (some s) j a→i≤j∧s.length≤500000*(j - i):=by
 intro m
 induction m with
 |zero=>intro i g j a s h;cases h
 |succ m A=>
  intro i g j a s h;simp only [xf,kW] at h;split at h
  ·rename_i p;have e:=Qa p;have y:(tk L i).text.length≤20:=l _ (by rw [zr e];exact List.getElem_mem _);simp only [xr,jr] at h;split at h
   ·rw [jJ] at h;cases c:jE L n (i+1+1) g with
    |oof=>rw [c] at h;cases h
    |val o x g1=>
     rw [c] at h;cases o with
     |none=>cases h
     |some u=>
      obtain ⟨H,R⟩:=qcK z l C c;simp only [Ro.andThen,jr] at h;split at h
      ·rw [jJ] at h;cases k:xf L (jE L n) m (x+1) g1 with
       |oof=>rw [k] at h;cases h
       |val o2 O J=>
        rw [k] at h;cases o2 with
        |none=>cases h
        |some t=>
         obtain ⟨E,F⟩:=A k;simp only [Ro.andThen,vj,Ro.val.injEq,Option.some.injEq] at h;obtain ⟨rfl,rfl,_⟩:=h;simp only [List.length_append,List.length_cons,List.length_nil];omega
      ·simp only [vj,Ro.val.injEq,Option.some.injEq] at h;obtain ⟨rfl,rfl,_⟩:=h;simp only [List.length_append,List.length_cons,List.length_nil];omega
   ·cases h
  ·cases h
def SR (B:Nat) (w:World) (tv:Value) (L:List Tok) (r:Ro Bs):Ending→World→Prop:=fun e w'=>match r with
 | .val (some s) j g=>e= .returned (.tuple #[.string (qc s), .bool true])∧RSt B w' tv L j g∧ExB B w w'
 | .val none j g=>(∃s,e= .returned (.tuple #[.string s, .bool false]))∧RSt B w' tv L j g∧ExB B w w'
 | .oof=>False
def qbI (s:Bs):Ro Bs→Ro Bs
 | .val (some t) j g=> .val (some (s++t)) j g
 | .val none j g=> .val none j g
 | .oof=> .oof
section
variable {B:Nat} {w w':World} {tv:Value} {L:List Tok} {i f:Nat}
theorem qxY (hG:xo L) (hL:wt L) {n:Nat} (hT:∀{i f w},RSt B w tv L i f→jE L n i f≠ .oof→Calls Tryz.prog 74 #[.pointer (some ⟨B,0,none⟩)] w (SR B w tv L (jE L n i f)))
  {m:Nat} (h:RSt B w tv L i f) (F:xf L (jE L n) m i f≠ .oof):Calls Tryz.prog 158 #[.pointer (some ⟨B,0,none⟩)] w (SR B w tv L (xf L (jE L n) m i f)):=by
 have e0:(⟨#[]⟩:ByteArray)=qc []:=rfl;have e58:(⟨#[58]⟩:ByteArray)=qc [58]:=rfl;have e44:(⟨#[44]⟩:ByteArray)=qc [44]:=rfl;generalize a:xf L (jE L n) m i f=r at F;generalize Y:SR B w tv L r=R;refine qDt fun ρ r0=> ?_;simp -implicitDefEqProofs [qrw];obtain ⟨I,hI⟩:∃I:Nat→qa→World→Prop,∀j x w',I j x w'↔∃k U s,x 0= .pointer (some ⟨B,0,none⟩)∧x 4= .string (qc s)∧RSt B w' tv L k U∧ExB B w w'∧s.length≤k*500000∧qbI s (xf L (jE L n) j k U)=r:=⟨_,fun _ _ _=>Iff.rfl⟩;refine qg0 I m ((hI _ _ _).2 ⟨i,f,[],by simp [r0],by simp [e0],h,ExB.refl _ _,by simp,by rw [a];cases r with|oof=>rfl|val o j g=>cases o<;>rfl⟩) ?_;clear r0 a h;rintro m x w' hIw;obtain ⟨k,U,s,r0,r4,hS,hE,hsl,a⟩:=(hI _ _ _).1 hIw;cases m with
 |zero=>exact absurd a.symm F
 |succ m=>
 have htl:=hS.tl;have hil:=hS.il;unfold xf kW at a;simp -implicitDefEqProofs [qrs,r0];refine (qlw hS).mono ?_;rintro _ w2 S;unfold NmR at S;have fin:∀(W:World) (j g:Nat),RSt B W tv L j g→ExB B w W→r= .val none j g→R (.returned (.tuple #[.string ⟨#[]⟩, .bool false])) W:=fun W j g h1 h2 h3=>by
  rw [←Y,h3];exact ⟨⟨_,rfl⟩,h1,h2⟩
 cases hk:qy L k 1 [] with
 |false=>
  simp only [hk,Bool.false_eq_true,if_false] at S a;obtain ⟨rfl,C,E⟩:=S;simp -implicitDefEqProofs;exact fin _ _ _ C (hE.trans E) a.symm
 |true=>
 simp only [hk,if_true] at S a;obtain ⟨rfl,C,E⟩:=S;have hlt:=Qa hk;simp -implicitDefEqProofs [r0];refine (yg C [58]).mono ?_;rintro _ w3 ⟨rfl,p,hE3⟩;have c:=(hE.trans E).trans hE3;unfold xr jr at a;cases V:qy L (k+1) 4 [58] with
 |false=>
  simp only [V,Bool.false_eq_true,if_false,kE] at p a;simp -implicitDefEqProofs;exact fin _ _ _ p c a.symm
 |true=>
 simp only [V,if_true] at p a;simp -implicitDefEqProofs [qrt,r0];have O:jE L n (k+1+1) U≠ .oof:=fun e=>by
  rw [jJ,e] at a;exact F a.symm
 refine (hT p O).mono ?_;intro e4 w4 J;cases Z:jE L n (k+1+1) U with
 |oof=>exact absurd Z O
 |val o j g=>
 rw [Z] at J;rw [jJ,Z] at a;cases o with
 |none=>
  obtain ⟨⟨s4,rfl⟩,l,A⟩:=J;simp -implicitDefEqProofs;exact fin _ _ _ l (c.trans A) a.symm
 |some u=>
 obtain ⟨rfl,l,A⟩:=J;obtain ⟨hij,hul⟩:=qcK hG hL htl Z;have hnl:(tk L k).text.length≤20:=hL _ (by rw [zr hlt];exact List.getElem_mem _);simp only [Ro.andThen] at a;have hjl:=l.il;simp -implicitDefEqProofs (disch:=((try simp only [List.length_append,List.length_cons,List.length_nil]);omega)) [-kw,qak,vS,qru,r0,r4];refine (yg l [44]).mono ?_;rintro _ w5 ⟨rfl,y,hE5⟩;have z:=(c.trans A).trans hE5;cases H:qy L j 4 [44] with
 |false=>
  simp only [H,Bool.false_eq_true,if_false,vj,qbI] at y a;simp -implicitDefEqProofs;rw [←Y,←a];exact ⟨by simp,y,z⟩
 |true=>
 simp only [H,if_true] at y a;have hjl2:=Qa H;simp -implicitDefEqProofs (disch:=((try simp only [List.length_append,List.length_cons,List.length_nil]);omega)) [-kw,qak,vS,qrv];refine ⟨m,by omega,(hI _ _ _).2 ⟨j+1,g,s++(tk L k).text++[58]++u++[44],by simp [r0],by simp,y,z, ?_, ?_⟩⟩
 ·simp only [List.length_append,List.length_cons,List.length_nil];omega
 ·rw [←a];cases hf:xf L (jE L n) m (j+1) g with
  |oof=>simp [jJ,hf,Ro.andThen,qbI]
  |val o j2 g2=>
   cases o with
   |none=>simp [jJ,hf,Ro.andThen,qbI]
   |some t=>simp [jJ,hf,Ro.andThen,qbI,vj]
@[simp] theorem qIE:True:=trivial
theorem qg1 {W:World} {B:Nat} {ss:List Bs} (a:Blk W B (ss.map qe).toArray 9):Cells W (.slice (some ⟨B,0,none⟩) ss.length ss.length) 1 (ss.map qe):=a.cells (n:=ss.length) (by simp)
theorem ExB.cells {B X:Nat} {w w':World} {ss:List Bs} (h:ExB B w w') (c:Blk w X (ss.map qe).toArray 9) (a:X≠B):Cells w' (.slice (some ⟨X,0,none⟩) ss.length ss.length) 1 (ss.map qe):=qg1 (h.blk c a)
theorem qdf (hG:xo L) (hL:wt L):∀(n:Nat) {i f:Nat} {w:World},RSt B w tv L i f→jE L n i f≠ .oof→Calls Tryz.prog 74 #[.pointer (some ⟨B,0,none⟩)] w (SR B w tv L (jE L n i f))
 |0,i,f,w,h,E=>absurd rfl E
 |n+1,i,f,w,h,E=>by
  have htl:=h.tl;have hil:=h.il;generalize a:jE L (n+1) i f=r at E;generalize hRR:SR B w tv L r=R;have fin:∀(W:World) (s:ByteArray) (j g:Nat),RSt B W tv L j g→ExB B w W→r= .val none j g→R (.returned (.tuple #[.string s, .bool false])) W:=fun W s j g h1 h2 h3=>by
   rw [←hRR,h3];exact ⟨⟨_,rfl⟩,h1,h2⟩
  have ok:∀(W:World) (s:Bs) (j g:Nat),RSt B W tv L j g→ExB B w W→r= .val (some s) j g→R (.returned (.tuple #[.string (qc s), .bool true])) W:=fun W s j g h1 h2 h3=>by
   rw [←hRR,h3];exact ⟨rfl,h1,h2⟩
  refine qAI fun ρ r0=> ?_;simp -implicitDefEqProofs [qnS,r0];refine jN kP (by decide) (by decide) (by simp [Value.cells]) fun X w1 hX hE1 hb1 _=> ?_;simp [Value.cells] at hb1;have hb1':Blk w1 X (([[105,110,116],[98,111,111,108],[110,117,108,108]]:List Bs).map qe).toArray 9:=xn hb1 rfl;have hXB:X≠B:=by have:=h.blk.lt;omega
  have hS1:=h.ext hE1;have af:ExB B w w1:=ExB.ext hE1 h.lt;simp -implicitDefEqProofs [r0];refine (qlv (ss:=[[105,110,116],[98,111,111,108],[110,117,108,108]]) hS1 2 (by decide) (qg1 hb1') (fun W hW=>hW.cells hb1' hXB) (by decide)).mono ?_;rintro e2 w2 ⟨hE2,ae⟩;unfold jE at a;rw [qfT] at a;cases hf:([[105,110,116],[98,111,111,108],[110,117,108,108]]:List Bs).find? (qy L i 2) with
  |some s=>
   rw [hf] at a ae;obtain ⟨rfl,U⟩:=ae;simp -implicitDefEqProofs;exact ok _ _ _ _ U (af.trans hE2) a.symm
  |none=>
  rw [hf] at a ae;obtain ⟨rfl,U⟩:=ae;have hE02:=af.trans hE2;simp only [List.cons_ne_self,if_false,reduceCtorEq] at U a;simp -implicitDefEqProofs [qnP,r0];generalize hf0:max f i=f0 at U a;refine (qxO U [97,114,114,97,121]).mono ?_;rintro _ w3 ⟨rfl,H,hE3⟩;have hE03:=hE02.trans hE3;rw [jr] at a;cases hk1:qy L i 2 [97,114,114,97,121] with
  |true=>
   simp only [hk1,if_true] at H a;simp -implicitDefEqProofs [r0];refine (yg H [91]).mono ?_;rintro _ w4 ⟨rfl,S,ac⟩;have C:=hE03.trans ac;rw [xr,jr] at a;cases F:qy L (i+1) 4 [91] with
   |false=>
    simp only [F,Bool.false_eq_true,if_false,kE] at S a;simp -implicitDefEqProofs;exact fin _ _ _ _ S C a.symm
   |true=>
   simp only [F,if_true] at S a;simp -implicitDefEqProofs [qnQ,r0];have A:jE L n (i+1+1) f0≠ .oof:=fun e=>by
    rw [jJ,e] at a;exact E a.symm
   refine (qdf hG hL n S A).mono ?_;intro e5 w5 hR5;cases O:jE L n (i+1+1) f0 with
   |oof=>exact absurd O A
   |val o j g=>
   rw [O] at hR5;rw [jJ,O] at a;cases o with
   |none=>
    obtain ⟨⟨s5,rfl⟩,p,Z⟩:=hR5;simp -implicitDefEqProofs;exact fin _ _ _ _ p (C.trans Z) a.symm
   |some u=>
   obtain ⟨rfl,p,Z⟩:=hR5;have hul:=(qcK hG hL htl O).2;simp only [Ro.andThen,xr,jr] at a;simp -implicitDefEqProofs [r0];refine (yg p [93]).mono ?_;rintro _ w6 ⟨rfl,k,V⟩;have c:=(C.trans Z).trans V;cases m:qy L j 4 [93] with
   |false=>
    simp only [m,Bool.false_eq_true,if_false,kE] at k a;simp -implicitDefEqProofs;exact fin _ _ _ _ k c a.symm
   |true=>
   simp only [m,if_true,vj] at k a;simp -implicitDefEqProofs (disch:=((try simp only [List.length_append,List.length_cons,List.length_nil]);omega)) [-kw,qak,vS,qnR];exact ok _ _ _ _ k c a.symm
  |false=>
  simp only [hk1,Bool.false_eq_true,if_false] at H a;generalize hf1:max f0 i=f1 at H a;simp -implicitDefEqProofs [qnH,r0];refine jN kP (by decide) (by decide) (by simp [Value.cells]) fun Y w4 hY ac hb4 _=> ?_;simp [Value.cells] at hb4;have hb4':Blk w4 Y (([[114,101,99,111,114,100],[111,110,101,111,102]]:List Bs).map qe).toArray 9:=xn hb4 rfl;have hYB:Y≠B:=by have:=H.blk.lt;omega
  have S:=H.ext ac;have C:=hE03.trans (ExB.ext ac H.lt);simp -implicitDefEqProofs [r0];refine (qlv (ss:=[[114,101,99,111,114,100],[111,110,101,111,102]]) S 2 (by decide) (qg1 hb4') (fun W hW=>hW.cells hb4' hYB) (by decide)).mono ?_;rintro e5 w5 ⟨Z,ad⟩;have hE05:=C.trans Z;rw [qfT] at a;cases hf2:([[114,101,99,111,114,100],[111,110,101,111,102]]:List Bs).find? (qy L i 2) with
  |some many=>
   rw [hf2] at a ad;obtain ⟨rfl,p⟩:=ad;have hml:many.length≤6:=by
    have hm:=List.mem_of_find?_eq_some hf2
    revert hm
    exact (by decide:∀s∈([[114,101,99,111,114,100],[111,110,101,111,102]]:List Bs),s.length≤6) many
   dsimp only at a;generalize (if (([[114,101,99,111,114,100],[111,110,101,111,102]]:List Bs).take 1).any (qy L i 2) then f1 else max f1 i)=f2 at p a;simp -implicitDefEqProofs [r0];refine (yg p [91]).mono ?_;rintro _ w6 ⟨rfl,k,V⟩;have c:=hE05.trans V;rw [xr,jr] at a;cases F:qy L (i+1) 4 [91] with
   |false=>
    simp only [F,Bool.false_eq_true,if_false,kE] at k a;simp -implicitDefEqProofs;exact fin _ _ _ _ k c a.symm
   |true=>
   simp only [F,if_true] at k a;simp -implicitDefEqProofs [qnN,r0];have A:xf L (jE L n) n (i+1+1) f2≠ .oof:=fun e=>by
    rw [jJ,e] at a;exact E a.symm
   refine (qxY hG hL (fun h E=>qdf hG hL n h E) k A).mono ?_;intro e7 w7 hR7;cases O:xf L (jE L n) n (i+1+1) f2 with
   |oof=>exact absurd O A
   |val o j g=>
   rw [O] at hR7;rw [jJ,O] at a;cases o with
   |none=>
    obtain ⟨⟨s5,rfl⟩,l,z⟩:=hR7;simp -implicitDefEqProofs;exact fin _ _ _ _ l (c.trans z) a.symm
   |some u=>
   obtain ⟨rfl,l,z⟩:=hR7;have hul:=(qES hG hL htl O).2;have hj7:=l.il;simp only [Ro.andThen,xr,jr] at a;simp -implicitDefEqProofs [r0];refine (yg l [93]).mono ?_;rintro _ w8 ⟨rfl,y,hE8⟩;have x:=(c.trans z).trans hE8;cases m:qy L j 4 [93] with
   |false=>
    simp only [m,Bool.false_eq_true,if_false,kE] at y a;simp -implicitDefEqProofs;exact fin _ _ _ _ y x a.symm
   |true=>
   simp only [m,if_true,vj] at y a;simp -implicitDefEqProofs (disch:=((try simp only [List.length_append,List.length_cons,List.length_nil]);omega)) [-kw,qak,vS,qnO];exact ok _ _ _ _ y x (by rw [←a];simp)
  |none=>
  rw [hf2] at a ad;obtain ⟨rfl,p⟩:=ad;simp only [reduceCtorEq,if_false] at p a;generalize hf3:max f1 i=f3 at p a;simp -implicitDefEqProofs [qnI,r0];refine (yg p [63]).mono ?_;rintro _ w6 ⟨rfl,k,V⟩;have c:=hE05.trans V;rw [jr] at a;cases F:qy L i 4 [63] with
  |true=>
   simp only [F,if_true] at k a;simp -implicitDefEqProofs [r0];refine (qbA k 1 [116] (by decide)).mono ?_;rintro _ w7 ⟨rfl,l,z⟩;have J:=c.trans z;rw [jr] at a;cases m:qy L (i+1) 1 [116] with
   |false=>
    simp only [m,Bool.false_eq_true,if_false,kE] at l a;simp -implicitDefEqProofs;exact fin _ _ _ _ l J a.symm
   |true=>
    simp only [m,if_true,vj] at l a;simp -implicitDefEqProofs;exact ok _ [63,116] _ _ l J a.symm
  |false=>
  simp only [F,Bool.false_eq_true,if_false] at k a;generalize hf4:max f3 i=f4 at k a;simp -implicitDefEqProofs [qnJ,r0];refine (qlw k).mono ?_;rintro _ w7 aa;unfold NmR at aa;rw [kW] at a;cases m:qy L i 1 [] with
  |false=>
   simp only [m,Bool.false_eq_true,if_false] at aa a;obtain ⟨rfl,l,z⟩:=aa;simp -implicitDefEqProofs;exact fin _ _ _ _ l (c.trans z) a.symm
  |true=>
  simp only [m,if_true] at aa a;obtain ⟨rfl,l,z⟩:=aa;have J:=c.trans z;have hlt:=Qa m;have hnl:(tk L i).text.length≤20:=hL _ (by rw [zr hlt];exact List.getElem_mem _);simp -implicitDefEqProofs [qnK,r0];refine (yg l [91]).mono ?_;rintro _ w8 ⟨rfl,y,hE8⟩;have x:=J.trans hE8;rw [jr] at a;cases hk4:qy L (i+1) 4 [91] with
  |false=>
   simp only [hk4,Bool.false_eq_true,if_false,vj] at y a;simp -implicitDefEqProofs;exact ok _ _ _ _ y x a.symm
  |true=>
  simp only [hk4,if_true] at y a;simp -implicitDefEqProofs [qnL,r0];have A:jE L n (i+1+1) f4≠ .oof:=fun e=>by
   rw [jJ,e] at a;exact E a.symm
  refine (qdf hG hL n y A).mono ?_;intro e9 w9 hR9;cases O:jE L n (i+1+1) f4 with
  |oof=>exact absurd O A
  |val o j g=>
  rw [O] at hR9;rw [jJ,O] at a;cases o with
  |none=>
   obtain ⟨⟨s5,rfl⟩,hS9,hE9⟩:=hR9;simp -implicitDefEqProofs;exact fin _ _ _ _ hS9 (x.trans hE9) a.symm
  |some u=>
  obtain ⟨rfl,hS9,hE9⟩:=hR9;have hul:=(qcK hG hL htl O).2;simp only [Ro.andThen,xr,jr] at a;simp -implicitDefEqProofs [r0];refine (yg hS9 [93]).mono ?_;rintro _ wa ⟨rfl,ab,hEa⟩;have hE0a:=(x.trans hE9).trans hEa;cases hk5:qy L j 4 [93] with
  |false=>
   simp only [hk5,Bool.false_eq_true,if_false,kE] at ab a;simp -implicitDefEqProofs;exact fin _ _ _ _ ab hE0a a.symm
  |true=>
  simp only [hk5,if_true,vj] at ab a;simp -implicitDefEqProofs (disch:=((try simp only [List.length_append,List.length_cons,List.length_nil]);omega)) [-kw,qak,vS,qnM];exact ok _ _ _ _ ab hE0a (by rw [←a];simp)
end
@[simp] theorem qI8:qf Tryz.prog 33=true:=by kernel_rfl
@[simp] theorem qJh:qf Tryz.prog 23=true:=by kernel_rfl
@[simp] theorem qJb:qf Tryz.prog 25=true:=by kernel_rfl
@[simp] theorem qI6:qf Tryz.prog 78=true:=by kernel_rfl
theorem qF6 {v:Value} (h:qo v=true):Tryz.prog.built 92 [(0,v)]=some #[v, .int .i64 0, .int .i64 0]:=by
 rcases zJ h with ⟨b,o,n,c,rfl,_⟩|rfl|⟨b,o,s,rfl⟩<;>kernel_rfl
theorem qmV {s:Bs} {a:List Tok} {cs:List Bs} (e:ql s= .ok a cs) (l:s.length≤100) {o:Option Bs} {j g:Nat} (h:jE a (a.length+3) 0 0= .val o j g) (F:j≤a.length):jh s=(match o with|some b=>decide (j=a.length)&&decide (b=s)|none=>false):=by
 have x:=qeD e;have c:=qbg x (a.length+3) (a.length+3) 0 0 0 rfl;rw [h] at c;have p:=qmE (L:=a) (Nat.le_refl _) 0;unfold jh;rw [e];simp only [l,decide_true,Bool.true_and];cases m:kind a (a.length+3) 0 0 with
 |oof=>exact absurd m p
 |no f=>
  rw [m] at c;cases o with
  |none=>rfl
  |some b=>exact absurd c.2 (by simp [qcB,wT])
 |ok u E f=>
  rw [m] at c;obtain ⟨b,z,A,y,_,C⟩:=c;subst A;subst z;have k:b=jR (vW a 0 j):=C;by_cases n:j=a.length
  ·have:vW a 0 j=a:=by unfold vW;rw [List.take_of_length_le (by omega)];rfl
   rw [this] at k;simp [n,k]
  ·have:¬a.length≤j:=by omega
   simp [n,this]
theorem qx6 {w:World} (s:Bs) (hs:s.length<4611686018427387904):Calls Tryz.prog 23 #[.string (qc s)] w fun e w'=>e= .returned (.bool (jh s))∧qb w w':=by
 generalize S:(fun (e:Ending) (w':World)=>e= .returned (.bool (jh s))∧qb w w')=R;refine qCd fun ρ r0=> ?_;simp -implicitDefEqProofs [qql,r0];refine (L01.qlu s hs).mono ?_;rintro _ w1 ⟨v,rfl,hv,hE1⟩;simp -implicitDefEqProofs [fV];refine qR L01.z31 fun F w2 hF hE2 hb2 _=> ?_;simp -implicitDefEqProofs;refine jl (B:=F) (by simp) hb2 (by simp [Value.cells]) (by simp [Value.cells]) (by simpa [Value.cells] using L01.x4) fun w3 hO3 V=> ?_;simp [Value.cells] at V;have y:qb w1 w3:=hO3.ext hE2 hF;have J:qb w w3:=hE1.trans' y;have hc0:w3.cell? ⟨F,0,none⟩=some (.int .i64 (ql s).err):=by rw [V.cell];rfl
 simp -implicitDefEqProofs [hc0,r0];by_cases A:(ql s).err=0∧s.length≤100
 ·obtain ⟨O,z⟩:=A;have C:¬(100:Int)<(s.length:Int):=by omega
  obtain ⟨a,cs,k⟩:∃a cs,ql s= .ok a cs:=by
   cases h:ql s with
   |ok a cs=>exact ⟨a,cs,rfl⟩
   |bad e l=>rw [h] at O;exact absurd O (qkR h)
  rw [k] at hv;have E:Own w.heap.size 53 3 w1 v (qB a):=hv;have n:=qeD k;have htl:a.length≤20000:=by have:=(L01.QD s).1;rw [k] at this;exact this
  have u:=E.isl;have hic:=vl u;have Y:qk v=a.length:=by have:=(L01.jM E).len;rw [jo] at this;omega
  simp -implicitDefEqProofs [O,C,qpW,qF6 u];refine vv fun B w4 hB U Z _=> ?_;simp -implicitDefEqProofs [Value.cells,hic] at Z⊢;have hS:RSt B w4 v a 0 0:=⟨Z,Own.down ((E.ext y).ext U) (Nat.zero_le _),htl,Nat.zero_le _,Nat.zero_le _⟩;refine (qdf n (qfP n) (a.length+3) hS (qjV (Nat.le_refl _) 0)).mono ?_;intro e5 w5 H;cases ht:jE a (a.length+3) 0 0 with
  |oof=>exact absurd ht (qjV (Nat.le_refl _) 0)
  |val o j g=>
  rw [ht] at H;have fin:∀(b:Bool) (W:World),ExB B w4 W→b=jh s→R (.returned (.bool b)) W:=fun b W hW m=>by
   rw [←S,m];refine ⟨rfl,qtb (J.trans' U) hW.below ?_⟩;have:=J.size;omega
  cases o with
  |none=>
   obtain ⟨⟨s5,rfl⟩,x,p⟩:=H;have c:=qmV k z ht x.il;simp -implicitDefEqProofs;exact fin _ _ p c.symm
  |some b=>
   obtain ⟨rfl,x,p⟩:=H;have c:=qmV k z ht x.il;have c1:w5.cell? ⟨B,1,none⟩=some (.int .i64 (j:Int)):=by rw [x.blk.cell];rfl
   by_cases hj:j=a.length
   ·simp -implicitDefEqProofs [c1,u,Y,hj,qJ,r0];exact fin _ _ p (by rw [c];simp [hj])
   ·have hj':¬(j:Int)=(a.length:Int):=by omega
    simp -implicitDefEqProofs [c1,u,Y,hj,hj',qJ,r0];exact fin _ _ p (by rw [c];simp [hj])
 ·have m:(ql s).err≠0∨100<s.length:=by
   rcases Classical.em ((ql s).err=0) with h|h
   ·exact .inr (by have:=fun h2=>A ⟨h,h2⟩;omega)
   ·exact .inl h
  have c:jh s=false:=by
   unfold jh;cases h:ql s with
   |bad e l=>rfl
   |ok a cs=>
    rw [h] at m;rcases m with m|m
    ·exact absurd rfl m
    ·have:¬s.length≤100:=by omega
     simp [this]
  have fin:R (.returned (.bool false)) w3:=by rw [←S,c];exact ⟨rfl,J⟩
  rcases m with m|m
  ·simp -implicitDefEqProofs [m];exact fin
  ·have hb':(100:Int)<(s.length:Int):=by omega
   by_cases O:(ql s).err=0
   ·simp -implicitDefEqProofs [O,hb'];exact fin
   ·simp -implicitDefEqProofs [O];exact fin
theorem qxN {w:World}:Calls Tryz.prog 78 #[] w fun e w'=>∃v,e= .returned v∧Own w.heap.size 9 1 w' v (vP.map qe)∧qb w w':=by
 refine qAC fun ρ=> ?_;simp -implicitDefEqProofs [qnF];refine jN kP (by decide) (by decide) (by simp [Value.cells]) fun X h j g a _=> ?_;simp [Value.cells] at a;have c:Blk h X (vP.map qe).toArray 9:=xn a rfl;simp -implicitDefEqProofs;exact ⟨Own.lit (n:=4) (sz:=1) c (by decide) j (by decide),g⟩
theorem qFw {s:Bs} {k:Nat} (h:kZ s=some k):vP.contains s=false:=by
 cases a:vP.contains s with
 |false=>rfl
 |true=>
  have c:=List.contains_iff_mem.1 a;have:kZ s=none:=(by decide:∀w∈vP,kZ w=none) s c;rw [h] at this;cases this
theorem qtS (c:UInt8):((c.toNat:Int)=95)↔c=95:=by
 constructor
 ·intro h;apply UInt8.toNat_inj.1;show c.toNat=95;omega
 ·rintro rfl;rfl
theorem qx7 {w:World} (s:Bs) (hs:s.length<4611686018427387904):Calls Tryz.prog 25 #[.string (qc s)] w fun e w'=>e= .returned (.bool (zP s))∧qb w w':=by
 generalize n:(fun (e:Ending) (w':World)=>e= .returned (.bool (zP s))∧qb w w')=R;refine qB2 fun ρ r0=> ?_;simp -implicitDefEqProofs [qpK];have rest:∀(p:qa) (k:Option Nat),p 0= .string (qc s)→p 3= .int .i64 (match k with|some k=>(k:Int)|none=> -1)→kZ s=k→qd7.wp ⟨Tryz.prog,46,qpJ,[]⟩ (qw [.tmp 2] R) (qF [.tmp 2] R) p w:=by
  intro p k r0 r3 Z;cases k with
  |some k=>
   have e:zP s=(qh (s.take k)&&qh (s.drop (k+1))):=by unfold zP;rw [qFw Z,Z];rfl
   have hkl:k<s.length:=by
    have:=Z;unfold kZ at this;rw [List.findIdx?_eq_some_iff_getElem] at this;exact this.1
   have hk0:¬((k:Int)<0):=by omega
   have Y:(k:Int)≤(s.length:Int):=by omega
   have hkn:k≤s.length:=by omega
   have hw1:IntKind.i64.wrap ((k:Int)+1)=(k:Int)+1:=qp (by omega);have hk1:(k:Int)+1≤(s.length:Int):=by omega
   have V:k+1≤s.length:=by omega
   have hkt:((k:Int)+1).toNat=k+1:=by omega
   have x1:=L01.Jf s 0 k;have x2:=L01.qcm s (k+1);simp at x1;simp -implicitDefEqProofs [qd7,r3,hk0,qpE,r0,Y,hkn,x1];refine (L01.qdd (s.take k)).mono ?_;rintro _ w1 ⟨rfl,m⟩;cases h1:qh (s.take k) with
   |false=>
    simp -implicitDefEqProofs;rw [←n,e,h1];exact ⟨rfl,m⟩
   |true=>
    simp -implicitDefEqProofs [r0,r3,hw1,hk1,V,hkt,x2];refine (L01.qdd (s.drop (k+1))).mono ?_;rintro _ w2 ⟨rfl,u⟩;simp -implicitDefEqProofs;rw [←n,e,h1];exact ⟨rfl,m.trans' u⟩
  |none=>
   have e:zP s=(vP.contains s||qh s):=by unfold zP;rw [Z]
   simp -implicitDefEqProofs [qd7,r3];refine (qxN).mono ?_;rintro _ w1 ⟨v,rfl,hv,m⟩;have C:=hv.isl;have H:qk v=4:=by have:=(L01.jM hv).len;simpa [vP] using this.symm
   simp -implicitDefEqProofs;obtain ⟨I,E⟩:∃I:Nat→qa→World→Prop,∀j g w',I j g w'↔(g 0= .string (qc s)∧g 5=v∧qb w1 w'∧∀x∈vP.take j,x≠s):=⟨_,fun _ _ _=>Iff.rfl⟩;refine jj 6 4 I (by simp) ((E _ _ _).2 ⟨by simp [r0],by simp,qz _,by simp⟩) ?_;clear r0 r3;rintro j g w' hj y A;obtain ⟨r0,r5,hE,l⟩:=(E _ _ _).1 A;have z:IntKind.i64.wrap ((j:Int)+1)=(j:Int)+1:=qp (by omega);by_cases c:j<4
   ·have a:(j:Int)<4:=by omega
    have U:j<vP.length:=c;have o:=(L01.jM (hv.ext hE)).cell j (by simpa using U);simp only [List.getElem_map,qe] at o;by_cases J:vP[j]=s
    ·simp -implicitDefEqProofs [qd6,y,r5,C,H,a,c,qhM,o,r0,qJ,J];rw [←n,e];refine ⟨?_,m.trans' hE⟩;have:vP.contains s=true:=List.contains_iff_mem.2 (by rw [←J];exact List.getElem_mem _);rw [this];rfl
    ·simp -implicitDefEqProofs [qd6,y,r5,C,H,a,c,qhM,o,r0,qJ,J,qpG,z];refine (E _ _ _).2 ⟨by simp [r0],by simp [r5],hE,fun x S=> ?_⟩;rw [List.take_succ_eq_append_getElem U] at S;rcases List.mem_append.1 S with h|h
     ·exact l x h
     ·rw [List.mem_singleton.1 h];exact J
   ·have a:¬(j:Int)<4:=by omega
    have hj4:j=4:=by omega
    subst hj4;simp -implicitDefEqProofs [qd6,y,r5,C,H,qpF,r0];refine (L01.qdd s).mono ?_;rintro _ w2 ⟨rfl,u⟩;simp -implicitDefEqProofs;rw [←n,e];refine ⟨?_,(m.trans' hE).trans' u⟩;have:vP.contains s=false:=by
     cases o:vP.contains s with
     |false=>rfl
     |true=>exact absurd rfl (l s (by have:=List.contains_iff_mem.1 o;simpa [vP] using this))
    rw [this];rfl
 obtain ⟨I,E⟩:∃I:Nat→qa→World→Prop,∀j g w',I j g w'↔(g 0= .string (qc s)∧g 3= .int .i64 (-1)∧w'=w∧∀q (O:q<s.length),q<j→s[q]≠95):=⟨_,fun _ _ _=>Iff.rfl⟩;refine jj 4 s.length I (by simp) ((E _ _ _).2 ⟨by simp [r0],by simp,rfl,fun q _ h=>by omega⟩) ?_;clear r0;rintro j g w' hj y A;obtain ⟨r0,r3,rfl,l⟩:=(E _ _ _).1 A;have z:IntKind.i64.wrap ((j:Int)+1)=(j:Int)+1:=qp (by omega);by_cases c:j<s.length
 ·have a:(j:Int)<(s.length:Int):=by omega
  have hg:((qc s)[j]'(by simpa using c))=s[j]:=rfl;have hsz:j<(qc s).size:=by simpa using c
  simp -implicitDefEqProofs [qhL,y,r0,a,c,qpH,hg];split
  ·rename_i F;have o:s[j]=95:=(qtS _).1 F;refine rest _ (some j) (by simp [r0]) (by simp) ?_;unfold kZ;rw [List.findIdx?_eq_some_iff_getElem];exact ⟨c,decide_eq_true o,fun q O=>fun h=>l q (by omega) O (of_decide_eq_true h)⟩
  ·rename_i F;have o:¬s[j]=95:=fun h=>F ((qtS _).2 h);simp -implicitDefEqProofs [qpI,y,z,c];refine (E _ _ _).2 ⟨by simp [r0],by simp [r3],rfl,fun q O hqj=> ?_⟩;by_cases h:q=j
   ·subst h;exact o
   ·exact l q O (by omega)
 ·have a:¬(j:Int)<(s.length:Int):=by omega
  simp -implicitDefEqProofs [qhL,y,r0,a,c];refine rest _ none (by simp [r0]) (by simp [r3]) ?_;unfold kZ;rw [List.findIdx?_eq_none_iff];intro x J;obtain ⟨q,O,rfl⟩:=List.mem_iff_getElem.1 J;simpa using l q O (by omega)
noncomputable def qaE:IR:= .reg [za 5 (zI .add (zv 5) (zK 1))]
noncomputable def qaD:IR:= .seq (.block 1 (zq [za 16 (.op2 .ixs (zv 1) (zv 5))] <| .block 2 (zq [za 17 (zB .eql (zv 16) (.const (zu 110)))] <| .cond (zv 17) (.reg [za 19 (zf 1 (zv 2)),zw 9 (zt 19) (zY #[])]) (zq [za 20 (zB .eql (zv 16) (.const (zu 118)))] <| .cond (zv 20) (.reg [za 22 (zf 2 (zv 2)),zw 9 (zt 22) (zY #[])]) (zq [za 23 (zB .eql (zv 16) (.const (zu 116)))] <| .cond (zv 23) (.reg [za 25 (zf 3 (zv 2)),zw 9 (zt 25) (zY #[])]) (zq [za 26 (zB .eql (zv 16) (.const (zu 78)))] <| .cond (zv 26) (.reg [za 28 (zf 4 (zv 2)),zw 3 (zt 28) (zO 0)]) .skip)))))) (qaE)
noncomputable def Q5:IR:=zq [za 11 (zI .lss (zv 5) (zT (zv 1)))] <| .seq (.cond (zv 11) .skip (.exit 0)) (qaD)
noncomputable def qp1:IR:=zq [za 4 (.ite (.ite (.ite (zS .eql (zo 1 (zv 2)) (.const (zs #[]))) (zS .eql (zo 2 (zv 2)) (.const (zs #[]))) (zQ false)) (zS .eql (zo 3 (zv 2)) (.const (zs #[]))) (zQ false)) (zI .eql (zo 4 (zv 2)) (zK 0)) (zQ false))] <| .ret
noncomputable def qp2:IR:=zq [zE 2 (.box 44 (zt 0)) 0,za 4 (zQ false),za 6 (zf 0 (zv 2)),zw 5 (zt 6) (.const (zu 0)),za 7 (zf 5 (zv 2)),zw 40 (zt 7) (.const (.slice none 0 0)),za 5 (zK 0)] <| .seq (.block 0 (.loop Q5)) (qp1)
def qCi:List Nat:=zV 29 [3,8,9,10,12,13,14,15,18,21,24,27]
theorem qCh:C2 238 47 qCi qp2 [.tmp 4]:=c2 [] Tryz.func238
noncomputable def qip:IR:=zq [za 2 (zQ false),za 2 (.ite (zB .geq (zv 0) (.const (zu 1))) (zB .leq (zv 0) (.const (zu 10))) (zQ false))] <| .ret
def qDG:List Nat:=[0,2]
theorem qDF:C1 152 9 qDG qip [.tmp 2]:=c1 [] Tryz.func152
noncomputable def qpj:IR:=zq [za 2 (zQ false),za 2 (.ite (.ite (.ite (zB .geq (zv 0) (.const (zu 21))) (zB .leq (zv 0) (.const (zu 37))) (zQ false)) (zB .neq (zv 0) (.const (zu 33))) (zQ false)) (zB .neq (zv 0) (.const (zu 36))) (zQ false))] <| .ret
def qBD:List Nat:=[0,2]
theorem qBC:C1 287 17 qBD qpj [.tmp 2]:=c1 [] Tryz.func287
noncomputable def qhW:IR:= .reg [za 6 (zI .add (zv 6) (zK 1))]
noncomputable def qp3:IR:= .seq (.block 1 (zq [za 7 (zo 0 (zx 6 (zv 0) (zl (zx 1 (zo 5 (zv 3)) (zv 6)))))] <| .block 2 (zq [za 26 (zB .eql (zv 7) (.const (zu 20)))] <| .cond (zv 26) (.reg [za 5 (zS .add (zv 5) (.const (zs #[113])))]) (zq [za 31 (zB .eql (zv 7) (.const (zu 5)))] <| .cond (zv 31) (.reg [za 5 (zS .add (zv 5) (.const (zs #[99])))]) (zq [zm 37 7,zc 38 152 #[zt 37] #[5] 4,zm 36 38] <| .cond (zv 36) (.reg [za 5 (zS .add (zv 5) (.const (zs #[101])))]) (zq [za 41 (zB .eql (zv 7) (.const (zu 33)))] <| .cond (zv 41) (.reg [za 5 (zS .add (zv 5) (.const (zs #[119])))]) (zq [za 46 (zB .eql (zv 7) (.const (zu 36)))] <| .cond (zv 46) (.reg [za 5 (zS .add (zv 5) (.const (zs #[97])))]) (zq [zm 52 7,zc 53 287 #[zt 52] #[5] 4,zm 51 53] <| .cond (zv 51) (.reg [za 5 (zS .add (zv 5) (.const (zs #[115])))]) (.reg [za 5 (zS .add (zv 5) (.const (zs #[63])))]))))))))) (qhW)
noncomputable def qed:IR:=zq [za 12 (zI .lss (zv 6) (zL (zo 5 (zv 3))))] <| .seq (.cond (zv 12) .skip (.exit 0)) (qp3)
noncomputable def qee:IR:=zq [zm 4 5] <| .ret
noncomputable def qp5:IR:=zq [zE 3 (.box 44 (zt 1)) 0,za 4 (.const (zs #[])),za 5 (.const (zs #[])),za 6 (zK 0)] <| .seq (.block 0 (.loop qed)) (qee)
def qp4:List Nat:=[0,1,3,4,5,6,7,12,26,31,36,37,38,41,46,51,52,53]
theorem qCj:C2 237 57 qp4 qp5 [.tmp 4]:=c2 [] Tryz.func237
noncomputable def qec:IR:= .cond (zv 35) (zq [za 4 (zQ false)] <| .ret) .skip
noncomputable def qeb:IR:= .reg [za 5 (zI .add (zv 5) (zK 1))]
noncomputable def qpU:IR:= .seq (.block 1 (.seq (.drw [za 35 (.ite (zB .neq (.op2 .ixs (zv 0) (zv 5)) (.op2 .ixs (zv 1) (zv 5))) (.ite (zB .neq (.op2 .ixs (zv 0) (zv 5)) (.const (zu 99))) (zQ true) (zB .neq (.op2 .ixs (zv 1) (zv 5)) (.const (zu 101)))) (zQ false))]) (qec))) (qeb)
noncomputable def qhQ:IR:=zq [za 14 (zI .lss (zv 5) (zT (zv 0)))] <| .seq (.cond (zv 14) .skip (.exit 0)) (qpU)
noncomputable def qb8:IR:=zq [za 4 (zQ true)] <| .ret
noncomputable def qpT:IR:=zq [za 5 (zK 0)] <| .seq (.block 0 (.loop qhQ)) (qb8)
noncomputable def qhR:IR:=zq [za 4 (zQ false),za 10 (zI .neq (zT (zv 0)) (zT (zv 1)))] <| .seq (.cond (zv 10) (zq [za 4 (zQ false)] <| .ret) .skip) (qpT)
def Q4:List Nat:=[0,1,4,5,10,14,35]
theorem qCc:C2 240 36 Q4 qhR [.tmp 4]:=c2 [] Tryz.func240
noncomputable def qhV:IR:= .reg [za 7 (zI .add (zv 7) (zK 1))]
noncomputable def qhU:IR:= .seq (.block 3 (.drw [za 6 (.ite (zv 6) (zQ true) (zB .eql (.op2 .ixs (zv 0) (zv 5)) (.op2 .ixs (zv 1) (zv 7))))])) (qhV)
noncomputable def qb9:IR:=zq [za 17 (zI .lss (zv 7) (zT (zv 1)))] <| .seq (.cond (zv 17) .skip (.exit 2)) (qhU)
noncomputable def qhT:IR:=zq [za 31 (zn (zv 6))] <| .cond (zv 31) (zq [za 4 (zQ false)] <| .ret) .skip
noncomputable def qpZ:IR:= .reg [za 5 (zI .add (zv 5) (zK 1))]
noncomputable def qpY:IR:= .seq (.block 1 (zq [za 6 (zQ false),za 7 (zK 0)] <| .seq (.block 2 (.loop qb9)) (qhT))) (qpZ)
noncomputable def qhS:IR:=zq [za 11 (zI .lss (zv 5) (zT (zv 0)))] <| .seq (.cond (zv 11) .skip (.exit 0)) (qpY)
noncomputable def qpX:IR:=zq [za 4 (zQ true)] <| .ret
noncomputable def qp0:IR:=zq [za 4 (zQ false),za 5 (zK 0)] <| .seq (.block 0 (.loop qhS)) (qpX)
def qCg:List Nat:=[0,1,4,5,6,7,11,17,31]
theorem qCf:C2 239 32 qCg qp0 [.tmp 4]:=c2 [] Tryz.func239
noncomputable def qpR:IR:= .reg [za 4 (zI .add (zv 4) (zK 1))]
noncomputable def qhP:IR:= .seq (.block 1 (zq [za 19 (zS .eql (zl (zx 1 (zv 3) (zv 4))) (zv 0))] <| .cond (zv 19) (zq [za 2 (zQ true)] <| .ret) .skip)) (qpR)
noncomputable def qea:IR:=zq [za 11 (zI .lss (zv 4) (zL (zv 3)))] <| .seq (.cond (zv 11) .skip (.exit 0)) (qhP)
noncomputable def qpQ:IR:=zq [za 2 (zQ false)] <| .ret
noncomputable def qpS:IR:=zq [za 2 (zQ false),zc 5 150 #[] #[] 51,zc 6 151 #[] #[] 51,zp 7 #[zt 5,zt 6] #[51,51] 51,zm 3 7,za 4 (zK 0)] <| .seq (.block 0 (.loop qea)) (qpQ)
def qCb:List Nat:=[0,2,3,4,5,6,7,11,19]
theorem qCa:C1 241 20 qCb qpS [.tmp 2]:=c1 [] Tryz.func241
noncomputable def Qc:IR:=zq [za 101 (zM 6 (zv 3)),zc 102 238 #[zt 101,zY #[110,118]] #[44,9] 4,zm 103 102,zg 103 true 105 (zo 1 (zv 3)),zh 103 true 106 25 #[zt 105] #[9] 4,za 108 (.ite (zv 103) (zv 106) (zQ false)),zg 108 true 110 (zo 2 (zv 3)),zh 108 true 111 23 #[zt 110] #[9] 4,za 4 (.ite (zv 108) (zv 111) (zQ false))] <| .ret
noncomputable def Qb:IR:=zq [za 85 (zS .eql (zo 2 (zv 3)) (.const (zs #[])))] <| .seq (.cond (zv 85) (zq [za 86 (zM 6 (zv 3)),zc 87 238 #[zt 86,zY #[110,116]] #[44,9] 4,za 91 (.ite (zv 87) (zv 6) (zQ false)),zg 91 true 95 (zS .eql (zo 3 (zv 3)) (.const (zs #[]))),zg 95 false 97 (zo 3 (zv 3)),zh 95 false 98 23 #[zt 97] #[9] 4,za 4 (.ite (zv 91) (.ite (zv 95) (zQ true) (zv 98)) (zQ false))] <| .ret) .skip) (Qc)
noncomputable def qrf:IR:= .reg [za 7 (zI .add (zv 7) (zK 1))]
noncomputable def qii:IR:= .seq (.block 2 (zq [za 307 (zS .eql (zo 1 (zx 6 (zv 0) (zl (zx 1 (zo 5 (zv 3)) (zv 7))))) (.const (zs #[])))] <| .cond (zv 307) (zq [za 4 (zQ false)] <| .ret) .skip)) (qrf)
noncomputable def qen:IR:=zq [za 295 (zI .lss (zv 7) (zI .sub (zT (zv 5)) (zK 1)))] <| .seq (.cond (zv 295) .skip (.exit 1)) (qii)
noncomputable def qre:IR:=zq [za 308 (zM 6 (zv 3)),zc 309 238 #[zt 308,zY #[]] #[44,9] 4,zm 4 309] <| .ret
noncomputable def qrd:IR:=zq [za 7 (zK 1)] <| .seq (.block 1 (.loop qen)) (qre)
noncomputable def ki:IR:= .cond (zv 154) (zq [za 159 (zM 6 (zv 3)),zc 160 238 #[zt 159,zY #[]] #[44,9] 4,zm 161 160,zg 161 true 162 (zv 5),zh 161 true 163 240 #[zt 162,zY #[101]] #[9,9] 4,za 4 (.ite (zv 161) (zv 163) (zQ false))] <| .ret) (zq [za 165 (zB .eql (zv 15) (.const (zu 20)))] <| .cond (zv 165) (zq [za 167 (zM 6 (zv 3)),zc 168 238 #[zt 167,zY #[]] #[44,9] 4,zm 169 168,zg 169 true 170 (zv 5),zh 169 true 171 239 #[zt 170,zY #[115]] #[9,9] 4,za 4 (.ite (zv 169) (zv 171) (zQ false))] <| .ret) (zq [za 173 (zB .eql (zv 15) (.const (zu 21)))] <| .cond (zv 173) (zq [za 175 (zM 6 (zv 3)),zc 176 238 #[zt 175,zY #[110,116]] #[44,9] 4,za 180 (.ite (zv 176) (zv 6) (zQ false)),zg 180 true 182 (zo 3 (zv 3)),zh 180 true 183 23 #[zt 182] #[9] 4,za 185 (.ite (zv 180) (zv 183) (zQ false)),zg 185 true 186 (zv 5),zh 185 true 187 240 #[zt 186,zY #[101]] #[9,9] 4,za 4 (.ite (zv 185) (zv 187) (zQ false))] <| .ret) (zq [za 189 (zB .eql (zv 15) (.const (zu 22)))] <| .cond (zv 189) (zq [za 191 (zM 6 (zv 3)),zc 192 238 #[zt 191,zY #[110]] #[44,9] 4,za 196 (.ite (zv 192) (zv 6) (zQ false)),zg 196 true 197 (zv 5),zh 196 true 198 240 #[zt 197,zY #[101]] #[9,9] 4,za 4 (.ite (zv 196) (zv 198) (zQ false))] <| .ret) (zq [za 200 (zB .eql (zv 15) (.const (zu 23)))] <| .cond (zv 200) (zq [za 202 (zM 6 (zv 3)),zc 203 238 #[zt 202,zY #[]] #[44,9] 4,zm 204 203,zg 204 true 205 (zv 5),zh 204 true 206 240 #[zt 205,zY #[101,101,101]] #[9,9] 4,za 4 (.ite (zv 204) (zv 206) (zQ false))] <| .ret) (zq [za 208 (zB .eql (zv 15) (.const (zu 24)))] <| .cond (zv 208) (zq [za 210 (zM 6 (zv 3)),zc 211 238 #[zt 210,zY #[110]] #[44,9] 4,za 215 (.ite (zv 211) (zv 6) (zQ false)),zg 215 true 216 (zv 5),zh 215 true 217 240 #[zt 216,zY #[101,101]] #[9,9] 4,za 4 (.ite (zv 215) (zv 217) (zQ false))] <| .ret) (zq [za 219 (zB .eql (zv 15) (.const (zu 25)))] <| .cond (zv 219) (zq [za 221 (zM 6 (zv 3)),zc 222 238 #[zt 221,zY #[]] #[44,9] 4,za 4 (.ite (zv 222) (zS .eql (zv 5) (.const (zs #[99]))) (zQ false))] <| .ret) (zq [za 227 (zB .eql (zv 15) (.const (zu 26)))] <| .cond (zv 227) (zq [za 229 (zM 6 (zv 3)),zc 230 238 #[zt 229,zY #[]] #[44,9] 4,zm 231 230,zg 231 true 232 (zv 5),zh 231 true 233 240 #[zt 232,zY #[101,113]] #[9,9] 4,zg 231 true 234 (zv 233),zg 234 false 235 (zv 5),zh 234 false 236 240 #[zt 235,zY #[101,113,113]] #[9,9] 4,za 4 (.ite (zv 231) (.ite (zv 234) (zQ true) (zv 236)) (zQ false))] <| .ret) (zq [za 239 (zB .eql (zv 15) (.const (zu 27)))] <| .cond (zv 239) (zq [za 241 (zM 6 (zv 3)),zc 242 238 #[zt 241,zY #[]] #[44,9] 4,zm 243 242,zg 243 true 244 (zv 5),zh 243 true 245 240 #[zt 244,zY #[101,113]] #[9,9] 4,za 4 (.ite (zv 243) (zv 245) (zQ false))] <| .ret) (zq [za 247 (zB .eql (zv 15) (.const (zu 28)))] <| .cond (zv 247) (zq [za 249 (zM 6 (zv 3)),zc 250 238 #[zt 249,zY #[110,116]] #[44,9] 4,za 254 (.ite (zv 250) (zv 6) (zQ false)),zg 254 true 256 (zo 3 (zv 3)),zh 254 true 257 23 #[zt 256] #[9] 4,za 4 (.ite (.ite (zv 254) (zv 257) (zQ false)) (zS .eql (zv 5) (.const (zs #[99,113]))) (zQ false))] <| .ret) (zq [za 263 (zB .eql (zv 15) (.const (zu 29)))] <| .cond (zv 263) (zq [za 265 (zM 6 (zv 3)),zc 266 238 #[zt 265,zY #[]] #[44,9] 4,zm 267 266,zg 267 true 270 (zS .eql (zv 5) (.const (zs #[]))),zg 270 false 271 (zv 5),zh 270 false 272 240 #[zt 271,zY #[101]] #[9,9] 4,za 4 (.ite (zv 267) (.ite (zv 270) (zQ true) (zv 272)) (zQ false))] <| .ret) (zq [za 275 (zB .eql (zv 15) (.const (zu 32)))] <| .cond (zv 275) (zq [za 285 (.ite (zI .lss (zT (zv 5)) (zK 2)) (zQ true) (zB .neq (.op2 .ixs (zv 5) (zK 0)) (.const (zu 113)))),zg 285 false 287 (.op2 .stLo (zv 5) (zK 1)),zh 285 false 288 239 #[zt 287,zY #[119]] #[9,9] 4,za 290 (.ite (zv 285) (zQ true) (zn (zv 288)))] <| .seq (.cond (zv 290) (zq [za 4 (zQ false)] <| .ret) .skip) (qrd)) (zq [za 310 (zB .eql (zv 15) (.const (zu 33)))] <| .cond (zv 310) (zq [za 312 (zM 6 (zv 3)),zc 313 238 #[zt 312,zY #[110]] #[44,9] 4,za 4 (.ite (.ite (zv 313) (.ite (zS .eql (zo 1 (zv 3)) (.const (zs #[]))) (zQ true) (zv 6)) (zQ false)) (zS .eql (zv 5) (.const (zs #[113]))) (zQ false))] <| .ret) (zq [za 326 (zB .eql (zv 15) (.const (zu 35)))] <| .cond (zv 326) (zq [za 328 (zM 6 (zv 3)),zc 329 238 #[zt 328,zY #[]] #[44,9] 4,za 335 (.ite (zv 329) (zI .gtr (zT (zv 5)) (zK 1)) (zQ false)),zg 335 true 337 (.op3 .stLoHi (zv 5) (zK 0) (zK 1)),zh 335 true 338 240 #[zt 337,zY #[101]] #[9,9] 4,za 340 (.ite (zv 335) (zv 338) (zQ false)),zg 340 true 342 (.op2 .stLo (zv 5) (zK 1)),zh 340 true 343 239 #[zt 342,zY #[97]] #[9,9] 4,za 4 (.ite (zv 340) (zv 343) (zQ false))] <| .ret) (zq [za 345 (zB .eql (zv 15) (.const (zu 36)))] <| .cond (zv 345) (zq [za 347 (zM 6 (zv 3)),zc 348 238 #[zt 347,zY #[110,118,116]] #[44,9] 4,za 352 (.ite (zv 348) (zv 6) (zQ false)),zg 352 true 354 (zo 2 (zv 3)),zh 352 true 355 79 #[zt 354] #[9] 4,za 357 (.ite (zv 352) (zv 355) (zQ false)),zg 357 true 359 (zo 3 (zv 3)),zh 357 true 360 23 #[zt 359] #[9] 4,za 4 (.ite (.ite (zv 357) (zv 360) (zQ false)) (zS .eql (zv 5) (.const (zs #[113]))) (zQ false))] <| .ret) .skip))))))))))))))
noncomputable def xP:IR:= .cond (zv 61) (zq [za 64 (zM 6 (zv 3)),zc 65 238 #[zt 64,zY #[110]] #[44,9] 4,za 4 (.ite (.ite (zv 65) (zv 6) (zQ false)) (zS .eql (zv 5) (.const (zs #[]))) (zQ false))] <| .ret) (zq [za 73 (zB .eql (zv 15) (.const (zu 5)))] <| .cond (zv 73) (zq [za 78 (zI .gtr (zT (zv 5)) (zK 6)),zg 78 false 79 (zv 5),zh 78 false 80 239 #[zt 79,zY #[101,99]] #[9,9] 4,za 82 (.ite (zv 78) (zQ true) (zn (zv 80)))] <| .seq (.cond (zv 82) (zq [za 4 (zQ false)] <| .ret) .skip) (Qb)) (zq [za 113 (zB .eql (zv 15) (.const (zu 6)))] <| .cond (zv 113) (zq [za 115 (zM 6 (zv 3)),zc 116 238 #[zt 115,zY #[110]] #[44,9] 4,zm 117 116,zg 117 true 121 (zS .eql (zo 1 (zv 3)) (.const (zs #[110,111,116]))),zg 121 true 122 (zv 5),zh 121 true 123 240 #[zt 122,zY #[101]] #[9,9] 4,zg 117 true 125 (.ite (zv 121) (zv 123) (zQ false)),zg 125 false 127 (zo 1 (zv 3)),zh 125 false 128 241 #[zt 127] #[9] 4,zg 125 false 129 (zv 128),zg 129 true 130 (zv 5),zh 129 true 131 240 #[zt 130,zY #[101,101]] #[9,9] 4,zg 125 false 132 (.ite (zv 129) (zv 131) (zQ false)),za 4 (.ite (zv 117) (.ite (zv 125) (zQ true) (zv 132)) (zQ false))] <| .ret) (zq [za 135 (zB .eql (zv 15) (.const (zu 7)))] <| .cond (zv 135) (zq [za 137 (zM 6 (zv 3)),zc 138 238 #[zt 137,zY #[]] #[44,9] 4,zm 139 138,zg 139 true 140 (zv 5),zh 139 true 141 240 #[zt 140,zY #[101,101]] #[9,9] 4,za 4 (.ite (zv 139) (zv 141) (zQ false))] <| .ret) (zq [za 143 (zB .eql (zv 15) (.const (zu 8)))] <| .cond (zv 143) (zq [za 145 (zM 6 (zv 3)),zc 146 238 #[zt 145,zY #[110]] #[44,9] 4,za 150 (.ite (zv 146) (zv 6) (zQ false)),zg 150 true 151 (zv 5),zh 150 true 152 240 #[zt 151,zY #[101]] #[9,9] 4,za 4 (.ite (zv 150) (zv 152) (zQ false))] <| .ret) (zq [za 154 (zB .eql (zv 15) (.const (zu 9)))] <| .seq (.cond (zv 154) .skip (zq [za 154 (zB .eql (zv 15) (.const (zu 10)))] <| .cond (zv 154) .skip (zq [za 154 (zB .eql (zv 15) (.const (zu 30)))] <| .cond (zv 154) .skip (.reg [za 154 (zB .eql (zv 15) (.const (zu 37)))])))) (ki))))))
noncomputable def xO:IR:= .cond (zv 52) (zq [za 55 (zM 6 (zv 3)),zc 56 238 #[zt 55,zY #[]] #[44,9] 4,za 4 (.ite (zv 56) (zS .eql (zv 5) (.const (zs #[]))) (zQ false))] <| .ret) (zq [za 61 (zB .eql (zv 15) (.const (zu 4)))] <| .seq (.cond (zv 61) .skip (.reg [za 61 (zB .eql (zv 15) (.const (zu 31)))])) (xP))
noncomputable def xQ:IR:=zq [za 4 (zQ false)] <| .ret
noncomputable def qrh:IR:=zq [zE 3 (.box 44 (zt 1)) 0,za 4 (zQ false),zm 8 0,za 9 (zM 6 (zv 3)),zc 10 237 #[zt 8,zt 9] #[29,44] 9,zm 5 10,za 12 (zo 1 (zv 3)),zc 13 79 #[zt 12] #[9] 4,zm 6 13,za 15 (zo 0 (zv 3))] <| .seq (.block 0 (zq [za 16 (zB .eql (zv 15) (.const (zu 1)))] <| .cond (zv 16) (zq [za 18 (zM 6 (zv 3)),zc 19 238 #[zt 18,zY #[78]] #[44,9] 4,za 4 (.ite (.ite (.ite (zv 19) (zI .geq (zo 4 (zv 3)) (zK 0)) (zQ false)) (zI .leq (zo 4 (zv 3)) (zK 1000000000)) (zQ false)) (zS .eql (zv 5) (.const (zs #[]))) (zQ false))] <| .ret) (zq [za 34 (zB .eql (zv 15) (.const (zu 2)))] <| .cond (zv 34) (zq [za 36 (zM 6 (zv 3)),zc 37 238 #[zt 36,zY #[78]] #[44,9] 4,za 4 (.ite (.ite (zv 37) (.ite (zI .eql (zo 4 (zv 3)) (zK 0)) (zQ true) (zI .eql (zo 4 (zv 3)) (zK 1))) (zQ false)) (zS .eql (zv 5) (.const (zs #[]))) (zQ false))] <| .ret) (zq [za 52 (zB .eql (zv 15) (.const (zu 3)))] <| .seq (.cond (zv 52) .skip (.reg [za 52 (zB .eql (zv 15) (.const (zu 34)))])) (xO))))) (xQ)
def qrg:List Nat:=[0,1,3,4,5,6,7,8,9,10,12,13,15,16,18,19,34,36,37,52,55,56,61,64,65,73,78,79,80,82,85,86,87,91,95,97,98,101,102,103,105,106,108,110,111,113,115,116,117,121,122,123,125,127,128,129,130,131,132,135,137,138,139,140,141,143,145,146,150,151,152,154,159,160,161,162,163,165,167,168,169,170,171,173,175,176,180,182,183,185,186,187,189,191,192,196,197,198,200,202,203,204,205,206,208,210,211,215,216,217,219,221,222,227,229,230,231,232,233,234,235,236,239,241,242,243,244,245,247,249,250,254,256,257,263,265,266,267,270,271,272,275,285,287,288,290,295,307,308,309,310,312,313,326,328,329,335,337,338,340,342,343,345,347,348,352,354,355,357,359,360]
theorem qDb:C2 170 366 qrg qrh [.tmp 4]:=c2 [] Tryz.func170
noncomputable def qnD:IR:= .reg [za 7 (zI .add (zv 7) (zl (zx 1 (zv 4) (zv 9))))]
noncomputable def qhf:IR:= .seq (.cond (zv 57) (zq [za 2 (zQ false)] <| .ret) .skip) (qnD)
noncomputable def qnA:IR:= .reg [za 8 (zI .add (zv 8) (zK 1))]
noncomputable def qhe:IR:= .seq (.block 3 (zq [za 9 (zI .add (zI .sub (zL (zv 3)) (zv 6)) (zv 8))] <| .seq (.drw [za 57 (zI .neq (zl (zx 1 (zo 5 (zx 6 (zv 0) (zv 5))) (zv 8))) (zl (zx 1 (zv 3) (zv 9))))]) (qhf))) (qnA)
noncomputable def qb1:IR:=zq [za 36 (zI .lss (zv 8) (zv 6))] <| .seq (.cond (zv 36) .skip (.exit 2)) (qhe)
noncomputable def qnz:IR:= .reg [zE 71 (.buildSlice 40 0 #[]) 40,za 77 (.op3 (.slLoHi 1) (zv 3) (zK 0) (zI .sub (zL (zv 3)) (zv 6))),zp 78 #[zt 71,zt 77] #[40,40] 40,zm 79 5,zE 80 (.buildSlice 40 1 #[(0,(zt 79))]) 40,zp 81 #[zt 78,zt 80] #[40,40] 40,zm 3 81,zE 82 (.buildSlice 40 0 #[]) 40,za 88 (.op3 (.slLoHi 1) (zv 4) (zK 0) (zI .sub (zL (zv 4)) (zv 6))),zp 89 #[zt 82,zt 88] #[40,40] 40,zm 90 7,zE 91 (.buildSlice 40 1 #[(0,(zt 90))]) 40,zp 92 #[zt 89,zt 91] #[40,40] 40,zm 4 92]
noncomputable def qny:IR:=zq [zm 64 0,za 68 (zM 6 (zx 6 (zv 0) (zv 5))),zc 69 170 #[zt 64,zt 68] #[29,44] 4,za 70 (zn (zv 69))] <| .seq (.cond (zv 70) (zq [za 2 (zQ false)] <| .ret) .skip) (qnz)
noncomputable def qnx:IR:=zq [za 7 (zK 1),za 8 (zK 0)] <| .seq (.block 2 (.loop qb1)) (qny)
noncomputable def qnw:IR:= .reg [za 5 (zI .add (zv 5) (zK 1))]
noncomputable def qhd:IR:= .seq (.block 1 (zq [za 6 (zL (zo 5 (zx 6 (zv 0) (zv 5)))),za 33 (zI .gtr (zv 6) (zL (zv 3)))] <| .seq (.cond (zv 33) (zq [za 2 (zQ false)] <| .ret) .skip) (qnx))) (qnw)
noncomputable def qdU:IR:=zq [za 21 (zI .lss (zv 5) (zL (zv 0)))] <| .seq (.cond (zv 21) .skip (.exit 0)) (qhd)
noncomputable def qnC:IR:=zq [za 2 (zI .eql (zL (zv 3)) (zK 1))] <| .ret
noncomputable def qnB:IR:=zq [za 3 (.const (.slice none 0 0)),za 4 (.const (.slice none 0 0)),za 5 (zK 0)] <| .seq (.block 0 (.loop qdU)) (qnC)
noncomputable def qdV:IR:=zq [za 2 (zQ false),za 17 (.ite (zI .eql (zL (zv 0)) (zK 0)) (zQ true) (zI .gtr (zL (zv 0)) (zK 400)))] <| .seq (.cond (zv 17) (zq [za 2 (zQ false)] <| .ret) .skip) (qnB)
def qAx:List Nat:=[0,2,3,4,5,6,7,8,9,17,21,33,36,57,64,68,69,70,71,77,78,79,80,81,82,88,89,90,91,92]
theorem qAw:C1 81 96 qAx qdV [.tmp 2]:=c1 [] Tryz.func81
noncomputable def qhB:IR:=zq [za 2 (zK 0)] <| .ret
noncomputable def qpn:IR:=zq [za 2 (zK 0),zm 4 0,zc 5 81 #[zt 4] #[29] 4,zm 3 5,za 17 (.ite (zn (zv 3)) (zQ true) (zB .neq (zo 0 (zx 6 (zv 0) (zI .sub (zL (zv 0)) (zK 1)))) (.const (zu 20))))] <| .seq (.cond (zv 17) (zq [za 2 (zK 21)] <| .ret) .skip) (qhB)
def qBJ:List Nat:=[0,2,3,4,5,17]
theorem qBI:C1 27 18 qBJ qpn [.tmp 2]:=c1 [] Tryz.func27
noncomputable def qsJ:IR:=zq [za 4 (zK 0)] <| .ret
noncomputable def qeA:IR:=zq [za 18 (.ite (zI .lss (zv 1) (zK 0)) (zQ true) (zI .geq (zv 1) (zL (zv 0))))] <| .seq (.cond (zv 18) (zq [za 4 (zK 1)] <| .ret) .skip) (qsJ)
noncomputable def qsK:IR:=zq [za 4 (zK 0),zm 6 0,zc 7 27 #[zt 6] #[29] 24,zm 5 7,za 9 (zI .neq (zv 5) (zK 0))] <| .seq (.cond (zv 9) (zq [zm 4 5] <| .ret) .skip) (qeA)
def qEy:List Nat:=[0,1,4,5,6,7,9,18]
theorem qEx:C2 103 19 qEy qsK [.tmp 4]:=c2 [] Tryz.func103
noncomputable def qoH:IR:=zq [zm 13 0,zm 14 1,zc 15 107 #[zt 13,zt 14] #[29,3] 3,zm 4 15,za 5 (zK 0)] <| .ret
noncomputable def qoI:IR:=zq [za 4 (zK 0),za 5 (zK 0),zm 7 0,zm 8 1,zc 9 103 #[zt 7,zt 8] #[29,3] 24,zm 6 9,za 11 (zI .neq (zv 6) (zK 0))] <| .seq (.cond (zv 11) (zq [zm 12 6,za 4 (zK 0),zm 5 12] <| .ret) .skip) (qoH)
def qBd:List Nat:=zV 16 [2,3,10]
theorem qBc:C2 45 16 qBd qoI [.tmp 4, .tmp 5]:=c2 [] Tryz.func45
noncomputable def qoF:IR:= .reg [za 6 (zI .add (zv 6) (zK 1))]
noncomputable def qoE:IR:= .seq (.block 1 (.reg [za 25 (zx 1 (zv 5) (zv 6)), .eff none none (.store 3 (zt 25) (.const (.int .i64 (-1)))) 0])) (qoF)
noncomputable def qhv:IR:=zq [za 20 (zI .lss (zv 6) (zL (zv 0)))] <| .seq (.cond (zv 20) .skip (.exit 0)) (qoE)
noncomputable def qoB:IR:= .reg [za 8 (zI .add (zv 8) (zK 1))]
noncomputable def qoA:IR:= .seq (.block 5 (.reg [zm 42 5,za 50 (zl (zx 1 (zo 5 (zx 6 (zv 0) (zv 7))) (zv 8))),zm 51 7,za 52 (zx 1 (zv 42) (zv 50)),zw 3 (zt 52) (zt 51)])) (qoB)
noncomputable def qhu:IR:=zq [za 39 (zI .lss (zv 8) (zL (zo 5 (zx 6 (zv 0) (zv 7)))))] <| .seq (.cond (zv 39) .skip (.exit 4)) (qoA)
noncomputable def qoz:IR:= .reg [za 7 (zI .add (zv 7) (zK 1))]
noncomputable def qoy:IR:= .seq (.block 3 (zq [za 8 (zK 0)] <| .block 4 (.loop qhu))) (qoz)
noncomputable def qht:IR:=zq [za 29 (zI .lss (zv 7) (zL (zv 0)))] <| .seq (.cond (zv 29) .skip (.exit 2)) (qoy)
noncomputable def qox:IR:=zq [zm 2 5,za 3 (zK 0)] <| .ret
noncomputable def qoD:IR:=zq [za 7 (zK 0)] <| .seq (.block 2 (.loop qht)) (qox)
noncomputable def qoC:IR:=zq [za 15 (zL (zv 0)),zE 16 (.makeSlice 40 (zt 15) (zt 15)) 40,zm 5 16,za 6 (zK 0)] <| .seq (.block 0 (.loop qhv)) (qoD)
noncomputable def qoG:IR:=zq [za 2 (.const (.slice none 0 0)),za 3 (zK 0),zm 9 0,zc 10 27 #[zt 9] #[29] 24,zm 4 10,za 12 (zI .neq (zv 4) (zK 0))] <| .seq (.cond (zv 12) (zq [zm 13 4,za 2 (.const (.slice none 0 0)),zm 3 13] <| .ret) .skip) (qoC)
def qBb:List Nat:=[0,2,3,4,5,6,7,8,9,10,12,13,15,16,20,25,29,39,42,50,51,52]
theorem qBa:C1 46 54 qBb qoG [.tmp 2, .tmp 3]:=c1 [] Tryz.func46
noncomputable def qov:IR:=zq [zm 13 0,zm 14 1,zc 15 108 #[zt 13,zt 14] #[29,3] 99,zm 4 15,za 5 (zK 0)] <| .ret
noncomputable def qow:IR:=zq [za 4 (.const (.slice none 0 0)),za 5 (zK 0),zm 7 0,zm 8 1,zc 9 103 #[zt 7,zt 8] #[29,3] 24,zm 6 9,za 11 (zI .neq (zv 6) (zK 0))] <| .seq (.cond (zv 11) (zq [zm 12 6,za 4 (.const (.slice none 0 0)),zm 5 12] <| .ret) .skip) (qov)
def qA9:List Nat:=zV 16 [2,3,10]
theorem qA8:C2 47 16 qA9 qow [.tmp 4, .tmp 5]:=c2 [] Tryz.func47
noncomputable def qsr:IR:= .block 1 (.reg [za 5 (zI .add (zv 5) (zK 1))])
noncomputable def qcg:IR:=zq [za 18 (.ite (zI .lss (zv 5) (zL (zv 0))) (zS .lss (zl (zx 1 (zv 0) (zv 5))) (zv 1)) (zQ false))] <| .seq (.cond (zv 18) .skip (.exit 0)) (qsr)
noncomputable def qiF:IR:=zq [zE 34 (.buildSlice 51 0 #[]) 51,za 37 (.op3 (.slLoHi 1) (zv 0) (zK 0) (zv 5)),zp 38 #[zt 34,zt 37] #[51,51] 51,zm 39 1,zE 40 (.buildSlice 51 1 #[(0,(zt 39))]) 51,zp 41 #[zt 38,zt 40] #[51,51] 51,zm 6 41,zm 42 6,za 45 (.op2 (.slLo 1) (zv 0) (zv 5)),zp 46 #[zt 42,zt 45] #[51,51] 51,zm 4 46] <| .ret
noncomputable def qez:IR:=zq [za 32 (.ite (zI .lss (zv 5) (zL (zv 0))) (zS .eql (zl (zx 1 (zv 0) (zv 5))) (zv 1)) (zQ false))] <| .seq (.cond (zv 32) (zq [zm 4 0] <| .ret) .skip) (qiF)
noncomputable def qst:IR:=zq [za 4 (.const (.slice none 0 0)),za 5 (zK 0)] <| .seq (.block 0 (.loop qcg)) (qez)
def qss:List Nat:=[0,1,4,5,6,18,32,34,37,38,39,40,41,42,45,46]
theorem qEk:C2 112 47 qss qst [.tmp 4]:=c2 [] Tryz.func112
noncomputable def qey:IR:= .reg [za 7 (zI .add (zv 7) (zK 1))]
noncomputable def qce:IR:= .seq (.block 1 (zq [za 8 (.ite (zI .lss (zI .add (zv 7) (zK 1)) (zL (zv 5))) (zS .eql (zo 1 (zx 3 (zv 5) (zI .add (zv 7) (zK 1)))) (.const (zs #[58]))) (zQ false)),za 9 (.ite (zI .gtr (zv 7) (zK 0)) (zS .eql (zo 1 (zx 3 (zv 5) (zI .sub (zv 7) (zK 1)))) (.const (zs #[63]))) (zQ false)),za 59 (.ite (.ite (zB .eql (zo 0 (zx 3 (zv 5) (zv 7))) (.const (zu 1))) (zn (zv 8)) (zQ false)) (zn (zv 9)) (zQ false))] <| .cond (zv 59) (.reg [zm 60 0,za 65 (zo 1 (zx 3 (zv 5) (zv 7))),zc 66 112 #[zt 60,zt 65] #[51,9] 51,zm 0 66]) .skip)) (qey)
noncomputable def qaH:IR:=zq [za 18 (zI .lss (zv 7) (zL (zv 5)))] <| .seq (.cond (zv 18) .skip (.exit 0)) (qce)
noncomputable def qex:IR:=zq [zm 4 0] <| .ret
noncomputable def qsq:IR:=zq [za 4 (.const (.slice none 0 0)),zm 11 1,zc 12 33 #[zt 11] #[9] 49,zm 10 12,za 13 (ze 0 (zv 10)),za 14 (ze 1 (zv 10)),zA 6 26,zm 5 13,zw 26 (zt 6) (zt 14),za 7 (zK 0)] <| .seq (.block 0 (.loop qaH)) (qex)
def qcf:List Nat:=[0,1,4,5,6,7,8,9,10,11,12,13,14,18,59,60,65,66]
theorem qEj:C2 113 68 qcf qsq [.tmp 4]:=c2 [] Tryz.func113
noncomputable def qho:IR:= .reg [zm 42 5,za 44 (zo 3 (zv 7)),zc 45 113 #[zt 42,zt 44] #[51,9] 51,zm 5 45]
noncomputable def qd0:IR:=zq [za 37 (zB .eql (zo 0 (zv 7)) (.const (zu 5)))] <| .seq (.cond (zv 37) (.reg [zm 38 5,za 40 (zo 2 (zv 7)),zc 41 113 #[zt 38,zt 40] #[51,9] 51,zm 5 41]) .skip) (qho)
noncomputable def qdZ:IR:= .reg [za 6 (zI .add (zv 6) (zK 1))]
noncomputable def qom:IR:= .seq (.block 1 (zq [za 22 (zM 6 (zx 6 (zv 0) (zv 6))),zA 7 44,zw 44 (zt 7) (zt 22),za 30 (.ite (zB .eql (zo 0 (zv 7)) (.const (zu 5))) (zS .eql (zo 2 (zv 7)) (.const (zs #[]))) (zQ false))] <| .seq (.cond (zv 30) (.reg [zm 31 5,za 33 (zo 1 (zv 7)),zc 34 112 #[zt 31,zt 33] #[51,9] 51,zm 5 34]) .skip) (qd0))) (qdZ)
noncomputable def qhn:IR:=zq [za 16 (zI .lss (zv 6) (zL (zv 0)))] <| .seq (.cond (zv 16) .skip (.exit 0)) (qom)
noncomputable def qb3:IR:=zq [zm 2 5,za 3 (zK 0)] <| .ret
noncomputable def qol:IR:=zq [za 5 (.const (.slice none 0 0)),za 6 (zK 0)] <| .seq (.block 0 (.loop qhn)) (qb3)
noncomputable def qon:IR:=zq [za 2 (.const (.slice none 0 0)),za 3 (zK 0),zm 8 0,zc 9 27 #[zt 8] #[29] 24,zm 4 9,za 11 (zI .neq (zv 4) (zK 0))] <| .seq (.cond (zv 11) (zq [zm 12 4,za 2 (.const (.slice none 0 0)),zm 3 12] <| .ret) .skip) (qol)
def Q0:List Nat:=[0,2,3,4,5,6,7,8,9,11,12,16,22,30,31,33,34,37,38,40,41,42,44,45]
theorem qA3:C1 49 47 Q0 qon [.tmp 2, .tmp 3]:=c1 [] Tryz.func49
noncomputable def qh5:IR:= .cond (zv 87) (zq [za 4 (zQ false)] <| .ret) .skip
noncomputable def qqS:IR:= .reg [za 8 (zI .add (zv 8) (zK 1))]
noncomputable def qqR:IR:= .seq (.block 3 (.seq (.drw [za 87 (zI .neq (zl (zx 1 (zo 5 (zv 6)) (zv 8))) (zl (zx 1 (zo 5 (zv 7)) (zv 8))))]) (qh5))) (qqS)
noncomputable def qh4:IR:=zq [za 74 (zI .lss (zv 8) (zL (zo 5 (zv 6))))] <| .seq (.cond (zv 74) .skip (.exit 2)) (qqR)
noncomputable def qqQ:IR:=zq [za 8 (zK 0)] <| .block 2 (.loop qh4)
noncomputable def qqP:IR:= .reg [za 5 (zI .add (zv 5) (zK 1))]
noncomputable def qqO:IR:= .seq (.block 1 (zq [za 23 (zM 6 (zx 6 (zv 0) (zv 5))),zA 6 44,zw 44 (zt 6) (zt 23),za 27 (zM 6 (zx 6 (zv 1) (zv 5))),zA 7 44,zw 44 (zt 7) (zt 27),za 69 (.ite (.ite (.ite (.ite (.ite (zB .neq (zo 0 (zv 6)) (zo 0 (zv 7))) (zQ true) (zS .neq (zo 1 (zv 6)) (zo 1 (zv 7)))) (zQ true) (zS .neq (zo 2 (zv 6)) (zo 2 (zv 7)))) (zQ true) (zS .neq (zo 3 (zv 6)) (zo 3 (zv 7)))) (zQ true) (zI .neq (zo 4 (zv 6)) (zo 4 (zv 7)))) (zQ true) (zI .neq (zL (zo 5 (zv 6))) (zL (zo 5 (zv 7)))))] <| .seq (.cond (zv 69) (zq [za 4 (zQ false)] <| .ret) .skip) (qqQ))) (qqP)
noncomputable def qh3:IR:=zq [za 17 (zI .lss (zv 5) (zL (zv 0)))] <| .seq (.cond (zv 17) .skip (.exit 0)) (qqO)
noncomputable def qqN:IR:=zq [za 4 (zQ true)] <| .ret
noncomputable def qqM:IR:=zq [za 5 (zK 0)] <| .seq (.block 0 (.loop qh3)) (qqN)
noncomputable def qh8:IR:=zq [za 4 (zQ false),za 13 (zI .neq (zL (zv 0)) (zL (zv 1)))] <| .seq (.cond (zv 13) (zq [za 4 (zQ false)] <| .ret) .skip) (qqM)
def qCV:List Nat:=[0,1,4,5,6,7,8,13,17,23,27,69,74,87]
theorem qCU:C2 20 88 qCV qh8 [.tmp 4]:=c2 [] Tryz.func20
@[simp] theorem qJB:qf Tryz.prog 192=true:=by kernel_rfl
@[simp] theorem qJy:qf Tryz.prog 99=true:=by kernel_rfl
@[simp] theorem qJz:qf Tryz.prog 43=true:=by kernel_rfl
theorem qyS {w:World} {v:Value} {l:List Int} (j:Cells w v 1 (l.map encI)) (z:l.length≤1000000):Calls Tryz.prog 192 #[v] w fun e w'=>∃x,e= .returned x∧Own w.heap.size 3 1 w' x (l.map encI)∧qb w w':=by
 refine qC4 fun ρ p=> ?_;simp -implicitDefEqProofs [qq3,p];refine qtn (e:=3) (by kernel_rfl) (by simpa using j.is) ?_;simp -implicitDefEqProofs;cases y:yi v with
 |true=>
  have:l=[]:=by
   have u:=j.len;rcases zJ j.is with ⟨b,o,n,c,rfl,_⟩|rfl|⟨b,o,s,rfl⟩
   rotate_left 2
   ·simp [yi] at y
   ·simp [yi] at y
   ·simp [qk] at u;exact u
  subst this;simp -implicitDefEqProofs;exact ⟨Own.nil _ _ _ _,qz _⟩
 |false=>
  simp -implicitDefEqProofs [qq2,p];refine jN QB (by decide) (by decide) (by simp) fun B3 W3 m h g _=> ?_;simp at g;simp -implicitDefEqProofs [p];refine kF QH h (by rfl) (by rfl) (Own.lit (n:=0) (sz:=1) g (by simp) m (by decide)) (j.ext h) (by simp [encI,Value.oneCell']) (by simp;omega) (by simp;omega) fun A W4 k a _ _=> ?_;simp at a⊢;exact ⟨a,k⟩
section
variable {P:Program} {Q:Ks} {d:Option Nat} {ty:TypeId} {K:qa→World→Prop} {ρ:qa} {w:World}
theorem qE6 {t:TypeId} {p x:Operand} {base e sz:Nat} {sv:Value} {xs:List Value} {i:Nat} (a:Own base e sz w sv xs) (H:i<xs.length) (l:qd ρ p= .pointer (some (qD sv i)))
  (O:(qd ρ x).cells= #[qd ρ x]) (y:(qd ρ x).oneCell=true) (u:jA P t 1=true) (h:∀W B,sv.ownBlock=some B→base≤B→Only B w W→Own base e sz W sv (xs.set i (qd ρ x))→K (qm ρ d undef) W):qr P Q d (.store t p x) ty K ρ w:=by
 rcases a with ⟨rfl,rfl⟩|⟨g,off,n,cap,cur,rfl,m,E,J,c,A,k,C⟩
 ·simp at H
 ·have o:n*sz≤cap*sz:=Nat.mul_le_mul_right _ c;have j:Blk w g cur e:=⟨E⟩;simp only [qD,vM] at l;refine qK (B:=g) (i:=off+i) l j (by omega) O y u fun W F z=> ?_;refine h W g rfl m F (.inr ⟨g,off,n,cap,_,rfl,m,z.heap,by simpa using J,c,A,by simpa using k, ?_⟩);rw [Array.toList_set,←C,←List.set_drop,List.take_set]
end
theorem qbO {b e sz:Nat} {w:World} {v:Value} {xs:List Value} {X T:Nat} {cs:Array Value} (h:Own b e sz w v xs) (c:Blk w X cs T) (l:T≠e) {k:Nat} (j:v.ownBlock=some k):X≠k:=fun g=>by
 obtain ⟨cur,a⟩:=Own.row h j;rw [←g,c.heap] at a;cases a;exact l rfl
theorem Own.le {b c e sz:Nat} {w:World} {v:Value} {xs:List Value} (h:Own c e sz w v xs) (a:b≤c):Own b e sz w v xs:=by
 rcases h with h|⟨g,off,n,cap,cur,k,j,r⟩
 ·exact .inl h
 ·exact .inr ⟨g,off,n,cap,cur,k,Nat.le_trans a j,r⟩
theorem qv5 {l:List Int} {g:Int→Int} {j:Nat} (h:j<l.length):((l.take j).map g++l.drop j).set j (g l[j])=(l.take (j+1)).map g++l.drop (j+1):=by
 have c:((l.take j).map g).length=j:=by simp;omega
 have a:l.drop j=l[j]::l.drop (j+1):=List.drop_eq_getElem_cons h;rw [List.take_succ_eq_append_getElem h,List.map_append,List.append_assoc,List.set_append_right _ _ (by omega),c,Nat.sub_self,a];rfl
theorem qys {w:World} {x:NV} {F:FuncId} {caps:Array Value} {g:Int→Int} (hk:Cells w x.kv 1 (x.nd.kids.map encI)) (hkl:x.nd.kids.length≤1000000) (hcb:qf Tryz.prog F=true)
  (hc:∀W,qb w W→∀k∈x.nd.kids,Calls Tryz.prog F (#[.int .i64 k]++caps) W fun e w'=>e= .returned (.int .i64 (g k))∧qb W w'):
  Calls Tryz.prog 99 #[ju x,qG F caps] w fun e w'=>∃y:NV,e= .returned (ju y)∧y.nd=⟨x.nd.d,x.nd.kids.map g⟩∧Own w.heap.size 3 1 w' y.kv (y.nd.kids.map encI)∧qb w w':=by
 have hkc:=vl hk.is;have hko:=vU hk.is;generalize hRR:(fun (e:Ending) (w':World)=>∃y:NV,e= .returned (ju y)∧y.nd=⟨x.nd.d,x.nd.kids.map g⟩∧Own w.heap.size 3 1 w' y.kv (y.nd.kids.map encI)∧qb w w')=R;refine qAk fun ρ r0 r1=> ?_;simp -implicitDefEqProofs [qm8];refine vv fun X w1 hX V ad _=> ?_;rw [show qd ρ (.tmp 0)=ju x by simp [r0],kf hk.is] at ad;simp -implicitDefEqProofs;refine qR ww fun Y w2 hY U hb2 _=> ?_;have m:=ad.ext U;have hXY:X≠Y:=by have:=ad.lt;omega
 have c5:w2.cell? ⟨X,5,none⟩=some x.kv:=by rw [m.cell];rfl
 simp -implicitDefEqProofs [c5];refine (qyS (hk.ext (V.trans' U)) hkl).mono ?_;rintro _ w3 ⟨a,rfl,A,c⟩;have hkc':=vl A.isl;have Z:=vU A.isl;have hsz2:w.heap.size≤w2.heap.size:=(V.trans' U).size;simp -implicitDefEqProofs;refine qK (B:=X) (i:=5) (by simp) (m.ext c) (by simp [qi]) (by simp [hkc']) (by simpa using Z) (by kernel_rfl) fun w4 ab hb4=> ?_;have O:Blk w4 X (qi ⟨x.nd,a⟩).toArray 44:=xn hb4 (by simp [qi]);have E:Own w.heap.size 3 1 w4 a (x.nd.kids.map encI):=Own.le (L01.Own.same A fun k ak=>ab.block k (Ne.symm (qbO A (m.ext c) (by decide) ak))) hsz2;have aa:Blk w4 Y _ 44:=ab.blk (hb2.ext c) (Ne.symm hXY);have c5':w4.cell? ⟨X,5,none⟩=some a:=by rw [O.cell];rfl
 have J:qo a=true:=A.isl;have u:qk a=x.nd.kids.length:=by have:=(L01.jM A).len;simpa using this.symm
 have o:qb w w4:=ab.ext ((V.trans' U).trans' c) hX;simp -implicitDefEqProofs [c5',J,u];obtain ⟨I,hI⟩:∃I:Nat→qa→World→Prop,∀j p w',I j p w'↔(p 1=qG F caps∧p 2= .pointer (some ⟨X,0,none⟩)∧p 4= .pointer (some ⟨Y,0,none⟩)∧p 12=a∧p 13= .int .i64 (x.nd.kids.length:Int)∧qb w w'∧Blk w' X (qi ⟨x.nd,a⟩).toArray 44∧Blk w' Y #[.int .u8 0, .string ⟨#[]⟩, .string ⟨#[]⟩, .string ⟨#[]⟩, .int .i64 0, .slice none 0 0] 44∧Own w.heap.size 3 1 w' a (((x.nd.kids.take j).map g++x.nd.kids.drop j).map encI)):=⟨_,fun _ _ _=>Iff.rfl⟩;refine jj 14 x.nd.kids.length I (by simp) ((hI _ _ _).2 ⟨by simp [r1],by simp,by simp,by simp,by simp,o,O,aa,by simpa using E⟩) ?_;clear r0 r1 aa E c5' O hb4;rintro j p w' hj rj hIw;obtain ⟨r1,r2,r4,ah,ai,hE,m,af,ho⟩:=(hI _ _ _).1 hIw;have hwj:IntKind.i64.wrap ((j:Int)+1)=(j:Int)+1:=qp (by omega);by_cases H:j<x.nd.kids.length
 ·have z:(j:Int)<(x.nd.kids.length:Int):=by omega
  have ag:w'.cell? (qD a j)=some (.int .i64 x.nd.kids[j]):=by
   have:=(L01.jM ho).cell j (by simp;omega);rw [this];simp only [List.getElem_map,encI,Option.some.injEq,Value.int.injEq,true_and];rw [List.getElem_append_right (by simp;omega)];simp;congr 1;omega
  simp -implicitDefEqProofs [qg8,rj,ai,z,H,qm4,ah,J,u,ag];refine vH qAj (fun W=>Blk W X (qi ⟨x.nd,a⟩).toArray 44) fun W3 c _=>⟨m.ext c, ?_⟩;have hcX:∀W,Blk W X (qi ⟨x.nd,a⟩).toArray 44→W.cell? ⟨X,5,none⟩=some a:=fun W h=>by rw [h.cell];rfl
  have ae:=m.ext c;have hoW:=ho.ext c;have S:=hc W3 (hE.trans' c) x.nd.kids[j] (List.getElem_mem _);generalize hgk:g x.nd.kids[j]=gk at S;simp+contextual -implicitDefEqProofs [qm2,hcX,ae,r2,r1,rj,ah,J,u,z];refine kp hcb (t:=22) (fs:= #[]) (caps:=caps) (by simp [qG]) ?_;simp -implicitDefEqProofs;refine S.mono ?_;rintro _ W4 ⟨rfl,o⟩;simp -implicitDefEqProofs;refine ⟨ae.ext o, ?_⟩;have hX4:=ae.ext o;have hY4:=(af.ext c).ext o;have E:=hoW.ext o;have hE04:=(hE.trans' c).trans' o;simp -implicitDefEqProofs [J,u,H];refine qE6 (base:=w.heap.size) (e:=3) (sz:=1) (sv:=a) (i:=j) E (by simp;omega) (by simp) (by simp [Value.cells]) (by simp) qaj fun W5 B hB hBw C ac=> ?_;have hX5:=C.blk hX4 (qbO E hX4 (by decide) hB);have hY5:=C.blk hY4 (qbO E hY4 (by decide) hB);have aj:qb w W5:=C.ext hE04 hBw;simp -implicitDefEqProofs [qm5,rj,hwj,H];refine (hI _ _ _).2 ⟨by simp [r1],by simp [r2],by simp [r4],by simp [ah],by simp [ai],aj,hX5,hY5, ?_⟩;have h6:=qv5 (g:=g) H;rw [hgk] at h6;rw [←h6,List.map_set];simpa [encI] using ac
 ·have z:¬(j:Int)<(x.nd.kids.length:Int):=by omega
  have e:x.nd.kids.take j=x.nd.kids:=List.take_of_length_le (by omega);have e2:x.nd.kids.drop j=[]:=List.drop_eq_nil_iff.2 (by omega);rw [e,e2,List.append_nil] at ho;have hrow:Eng.jq w' ⟨X,0,none⟩ 0 6=some (qi ⟨x.nd,a⟩):=by
   have:=kT m;simpa [qi] using this
  have hcn:(ju ⟨x.nd,a⟩).cells=(qi ⟨x.nd,a⟩).toArray:=kf J;have hcn':(Value.agg (qi ⟨x.nd,a⟩).toArray).cells=(qi ⟨x.nd,a⟩).toArray:=hcn;have l:(Value.agg #[.int .u8 (x.nd.d.kind:Int), .string (qc x.nd.d.name), .string (qc x.nd.d.vr), .string (qc x.nd.d.typ), .int .i64 x.nd.d.n,a]).cells= #[.int .u8 (x.nd.d.kind:Int), .string (qc x.nd.d.name), .string (qc x.nd.d.vr), .string (qc x.nd.d.typ), .int .i64 x.nd.d.n,a]:=hcn;simp -implicitDefEqProofs [qg8,rj,ai,z,H,qm3,r2,hrow,qi];refine jl (B:=Y) (by simp [r4]) af (by simp [l]) (by simp [l,Z]) (by simpa [l] using wE) fun w5 C hb5=> ?_;have hb5':Blk w5 Y (qi ⟨x.nd,a⟩).toArray 44:=xn hb5 (by simp [l,qi]);have aj:qb w w5:=C.ext hE (Nat.le_trans V.size hY);have ac:Own w.heap.size 3 1 w5 a ((x.nd.kids.map g).map encI):=L01.Own.same ho fun k ak=>C.block k (Ne.symm (qbO ho af (by decide) ak));simp -implicitDefEqProofs;refine L01.qM (by simp [r4]) hb5' (by simp [qi]) ?_;rw [←hRR];exact ⟨⟨⟨x.nd.d,x.nd.kids.map g⟩,a⟩,rfl,rfl,ac,aj⟩
structure OwnN (base:Nat) (W:World) (v:Value) (ys:List NV):Prop where
 own:Own base 44 6 W v (je ys)
 kid:∀y∈ys,Own base 3 1 W y.kv (y.nd.kids.map encI)
theorem OwnN.nil (base:Nat) (W:World):OwnN base W (.slice none 0 0) []:=⟨Own.nil _ _ _ _,fun _ h=>by cases h⟩
theorem OwnN.rd {base:Nat} {W:World} {v:Value} {ys:List NV} (h:OwnN base W v ys):Rd W v ys:=⟨L01.jM h.own,fun y a=>L01.jM (h.kid y a)⟩
theorem OwnN.ext {base:Nat} {W W':World} {v:Value} {ys:List NV} (h:OwnN base W v ys) (a:qb W W'):OwnN base W' v ys:=⟨h.own.ext a,fun y c=>(h.kid y c).ext a⟩
theorem OwnN.le {b c:Nat} {W:World} {v:Value} {ys:List NV} (h:OwnN c W v ys) (a:b≤c):OwnN b W v ys:=⟨Own.le h.own a,fun y e=>Own.le (h.kid y e) a⟩
theorem _root_.Go.Eng.Cells.sub {w:World} {v:Value} {sz:Nat} {xs:List Value} (h:Cells w v sz xs) {l r m:Nat} (o:l≤r) (p:r*sz≤xs.length) (g:r≤m) (n:m≤qv v):Cells w (qY v sz l r m) sz ((xs.take (r*sz)).drop (l*sz)):=by
 have c:((xs.take (r*sz)).drop (l*sz)).length=(r - l)*sz:=by simp only [List.length_drop,List.length_take];rw [Nat.min_eq_left p,Nat.sub_mul]
 refine ⟨QY h.is sz l r m o g n,by rw [qbf _ _ _ _ h.is,c],fun j e=> ?_⟩;have k:l<r:=by
  rcases Nat.lt_or_ge l r with h|h
  ·exact h
  ·rw [c,show r - l=0 by omega] at e;simp at e
 have a:=e;rw [c,Nat.sub_mul] at a;rw [qcW sz l r m j h.is (by omega) (by omega),h.cell (l*sz+j) (by omega)];simp
theorem qmc (xs:List NV) (r:Nat):(je xs).take (r*6)=je (xs.take r):=by
 induction xs generalizing r with
 |nil=>simp [je]
 |cons x xs a=>
  have e:je (x::xs)=qi x++je xs:=rfl;have c:(qi x).length=6:=rfl;cases r with
  |zero=>simp [je]
  |succ r=>
   rw [e,List.take_append,List.take_of_length_le (by omega),c,show (r+1)*6 - 6=r*6 by omega,a];rfl
theorem qme (xs:List NV) (l:Nat):(je xs).drop (l*6)=je (xs.drop l):=by
 induction xs generalizing l with
 |nil=>simp [je]
 |cons x xs a=>
  have e:je (x::xs)=qi x++je xs:=rfl;have c:(qi x).length=6:=rfl;cases l with
  |zero=>simp [je]
  |succ l=>
   rw [e,List.drop_append,List.drop_eq_nil_of_le (by omega),c,show (l+1)*6 - 6=l*6 by omega,a];rfl
theorem Rd.sub {w:World} {v:Value} {xs:List NV} (h:Rd w v xs) {l r m:Nat} (e:l≤r) (j:r≤xs.length) (a:r≤m) (c:m≤qv v):Rd w (qY v 6 l r m) ((xs.take r).drop l):=by
 refine ⟨?_,fun x g=>h.kids x (List.mem_of_mem_take (List.mem_of_mem_drop g))⟩;have:=h.cells.sub e (by rw [wJ];omega) a c
 rwa [qmc,qme] at this
def zC (g:Int→Int) (x:Nd):Nd:=⟨x.d,x.kids.map g⟩
theorem ql4 {W0 W1 W:World} {e h:Value} {ys:List NV} {y:NV} (m:OwnN W0.heap.size W1 e ys) (k:Own W1.heap.size 3 1 W y.kv (y.nd.kids.map encI)) (g:W0.heap.size≤W1.heap.size) (l:qb W0 W)
  (j:Own W0.heap.size 44 6 W h (je ys++qi y)) (c:∀z∈ys,Own W0.heap.size 3 1 W z.kv (z.nd.kids.map encI)):OwnN W0.heap.size W h (ys++[y]):=by
 refine ⟨by rw [qmf];simpa [je] using j,fun z a=> ?_⟩;rcases List.mem_append.1 a with a|a
 ·exact c z a
 ·rw [List.mem_singleton.1 a];exact Own.le k g
theorem qat {b e sz p j sz':Nat} {w:World} {v l:Value} {xs ys:List Value} (h:Own b e sz w v xs) (m:Own p j sz' w l ys) (g:e≠j):v.ownBlock=none∨v.ownBlock≠l.ownBlock:=by
 cases u:v.ownBlock with
 |none=>exact .inl rfl
 |some k=>
  refine .inr fun o=> ?_;obtain ⟨c,n⟩:=Own.row h u;obtain ⟨x,a⟩:=Own.row m o.symm;rw [n] at a;cases a;exact g rfl
theorem qGn {b e sz:Nat} {w w':World} {v:Value} {xs:List Value} {X T:Nat} {cs:Array Value} (a:Blk w X cs T) (h:Own b e sz w v xs) (j:T≠e) (c:w.grownBy w' v.ownBlock):Blk w' X cs T:=
 ⟨(c.block X a.lt fun g=>qbO h a j g.symm rfl).trans a.heap⟩
theorem qmn {y:NV} (h:qo y.kv=true):∀u∈qi y,u.oneCell'=true:=by
 intro u a;simp only [qi,List.mem_cons,List.mem_nil_iff,or_false] at a;rcases a with rfl|rfl|rfl|rfl|rfl|rfl<;>first|rfl|skip
 revert h
 cases y.kv<;>simp [Value.oneCell',qo]
mutual
theorem qsZ:∀(u:T) (b c:Nat),(u.flat b).map (zC (· +(c:Int)))=u.flat (b+c)
 | .mk d ks,b,c=>by
  have a:=flats_shift ks b c;have e:=roots_shift ks b c;simp only [T.flat,List.map_append,a,List.map_cons,List.map_nil,zC,e]
theorem flats_shift:∀(a:List T) (b c:Nat),(flats b a).map (zC (· +(c:Int)))=flats (b+c) a
 |[],_,_=>rfl
 |u::a,b,c=>by
  simp only [flats,List.map_append];rw [qsZ u b c,flats_shift a (b+u.size) c];congr 2;omega
theorem roots_shift:∀(a:List T) (b c:Nat),(qL b a).map (· +(c:Int))=qL (b+c) a
 |[],_,_=>rfl
 |u::a,b,c=>by
  simp only [qL,List.map_cons];rw [roots_shift a (b+u.size) c];congr 1
  ·push_cast;omega
  ·congr 1;omega
end
theorem qv6 (f g:Int→Int) (x:Nd):zC f (zC g x)=zC (fun k=>f (g k)) x:=by simp [zC,Function.comp_def]
theorem qv7 {f:Int→Int} {x:Nd} (h:∀k∈x.kids,f k=k):zC f x=x:=by
 obtain ⟨d,ks⟩:=x;simp only [zC,Nd.mk.injEq,true_and]
 conv=>rhs;rw [←List.map_id ks]
 exact List.map_congr_left h
theorem qsY (u:T) (c:Nat):(u.flat c).map (zC (· - (c:Int)))=u.flat 0:=by
 have h:=qsZ u 0 c;rw [Nat.zero_add] at h;rw [←h,List.map_map]
 conv=>rhs;rw [←List.map_id (u.flat 0)]
 refine List.map_congr_left fun x _=> ?_;simp only [Function.comp_apply,qv6,id];exact qv7 fun k _=>by omega
theorem jK.cut {l:List Nd} {i:Nat} {u:T} (h:jK l i u):(l.take (i+1)).drop (i+1 - u.size)=u.flat (i+1 - u.size):=by
 obtain ⟨a,post,rfl,h⟩:=h;have e:i+1 - u.size=a.length:=by omega
 rw [e,h,←List.append_assoc,List.take_append_of_le_length (by rw [List.length_append,T.flat_len];exact Nat.le_refl _),List.take_of_length_le (by rw [List.length_append,T.flat_len];exact Nat.le_refl _)];simp
section
variable {w:World} {lv:Value} {xs:List NV}
theorem z3':vG Tryz.prog 3=some #[.int .i64 0]:=by kernel_rfl
theorem qy2 {W:World} {B:Nat} {f k:Int} (a:Blk W B #[.int .i64 f] 3) (g:0≤k∧k≤1000000) (h:0≤f∧f≤1000000):Calls Tryz.prog 105 #[.int .i64 k, .pointer (some ⟨B,0,none⟩)] W fun e w'=>e= .returned (.int .i64 (k - f))∧qb W w':=by
 have c0:W.cell? ⟨B,0,none⟩=some (.int .i64 f):=by rw [a.cell];rfl
 have c:IntKind.i64.wrap (k - f)=k - f:=qp (by omega);refine qEv fun ρ r0 r1=> ?_;simp -implicitDefEqProofs [qsI,r0,r1,c0,c];exact qz _
theorem qcr {l:List Nd} {i:Int} (h:jm l i=0):jI l=true∧0≤i∧i.toNat<l.length∧(i.toNat:Int)=i∧∃t u:T,l=t.flat 0∧t.size≤400∧l.length=t.size∧jK l i.toNat u:=by
 unfold jm at h;split at h
 ·rename_i g;split at h
  ·rename_i k;obtain ⟨t,e,a⟩:=Ji g;have c:l.length=t.size:=by rw [e,T.flat_len]
   obtain ⟨u,j⟩:=qud t (i:=i.toNat) (by omega);rw [←e] at j;exact ⟨g,k.1,by omega,by omega,t,u,e,a,c,j⟩
  ·cases h
 ·cases h
theorem qyX (hG:L01.G w) (hM:vY w) (hR:Rd w lv xs) (hok:z8 (xs.map (·.nd))) (i:Int):Calls Tryz.prog 43 #[lv, .int .i64 i] w fun e w'=>
  ∃v ys,e= .returned (.tuple #[v, .int .i64 (jm (xs.map (·.nd)) i)])∧OwnN w.heap.size w' v ys∧qb w w'∧(jm (xs.map (·.nd)) i≠0→ys=[])∧(jm (xs.map (·.nd)) i=0→∀u,jK (xs.map (·.nd)) i.toNat u→ys.map (·.nd)=u.flat 0):=by
 have hl:=hR.len;have his:=hR.cells.is;have hcap:=y9 his;rw [hl] at hcap;generalize hRR:(fun (e:Ending) (w':World)=>∃v ys,e= .returned (.tuple #[v, .int .i64 (jm (xs.map (·.nd)) i)])∧OwnN w.heap.size w' v ys∧qb w w'∧(jm (xs.map (·.nd)) i≠0→ys=[])∧(jm (xs.map (·.nd)) i=0→∀u,jK (xs.map (·.nd)) i.toNat u→ys.map (·.nd)=u.flat 0))=R;refine qBe fun ρ r0 r1=> ?_;simp -implicitDefEqProofs [qoN,r0,r1];refine (ql1 hG hM hR hok i).mono ?_;rintro _ w2 ⟨rfl,hE⟩;by_cases hb:jm (xs.map (·.nd)) i=0
 ·obtain ⟨hc,hi0,aa,hiz,t,u,ht,h400,hlen,hu⟩:=qcr hb;rw [List.length_map] at aa hlen;have hule:=hu.le;have hus:=u.size_pos;have hpk:vA (xs.map (·.nd))=true:=by rw [ht];exact qdl t
  have hkids:=qbJ hpk;obtain ⟨n,hn⟩:∃n:Nat,i=(n:Int):=⟨i.toNat,hiz.symm⟩;subst hn;simp only [Int.toNat_natCast] at aa hu hule hiz;obtain ⟨f,hf⟩:∃f:Nat,f=n+1 - u.size:=⟨_,rfl⟩;have hw1:IntKind.i64.wrap ((n:Int)+1)=(n:Int)+1:=qp (by omega);have hwf:IntKind.i64.wrap ((n:Int)+1 - (u.size:Int))=(f:Int):=by rw [qp (by omega)];omega
  have hps:=qgC hR (by omega) u.size u n w2 hE (Nat.le_refl _) hu;have hcut:=hu.cut;rw [←hf] at hcut;simp -implicitDefEqProofs [hb,qoJ,r0,r1,hw1];refine hps.mono ?_;rintro _ w3 ⟨rfl,hE3⟩;have hE03:=hE.trans' hE3;simp -implicitDefEqProofs [hwf];refine qR z3' fun F w4 hF c hb4 _=> ?_;simp -implicitDefEqProofs;refine qK (B:=F) (i:=0) (by simp) hb4 (by simp) (by simp [Value.cells]) (by simp) qaj fun w5 hO5 hb5=> ?_;have C:Blk w5 F #[.int .i64 (f:Int)] 3:=xn hb5 (by simp);have hE05:qb w w5:=(hE03).trans' (hO5.ext c hF);have c0:w5.cell? ⟨F,0,none⟩=some (.int .i64 (f:Int)):=by rw [C.cell];rfl
  have A:=hR.sub (l:=f) (r:=n+1) (m:=qv lv) (by omega) (by omega) (by omega) (Nat.le_refl _);have hfn:(f:Int)≤(n:Int)+1:=by omega
  have hnc:(n:Int)+1≤(qv lv:Int):=by omega
  have hnt:((n:Int)+1).toNat=n+1:=by omega
  have hncN:n+1≤qv lv:=by omega
  have hfnN:f≤n+1:=by omega
  have hzk:∀z∈(xs.take (n+1)).drop f,z.nd.kids.length≤1000000∧∀k∈z.nd.kids,0≤k∧k≤1000000:=fun z hz=>by
   have hzx:z.nd∈xs.map (·.nd):=List.mem_map.2 ⟨z,List.mem_of_mem_take (List.mem_of_mem_drop hz),rfl⟩;refine ⟨hok.2 z.nd hzx,fun k hk=> ?_⟩;have:=hkids _ hzx k hk;rw [List.length_map] at this;omega
  have hzn:((xs.take (n+1)).drop f).map (·.nd)=u.flat f:=by rw [←hcut,List.map_drop,List.map_take]
  have hzl:((xs.take (n+1)).drop f).length≤400:=by simp;omega
  have H:=A.cells.is;have V:=A.len;simp -implicitDefEqProofs [r0,r1,hw1,c0,his,hfn,hnc,hnt,hncN,hfnN,H,V];have hsl:qk (qY lv 6 f (n+1) (qv lv))=n+1 - f:=qbf _ _ _ _ his;have hzl2:((xs.take (n+1)).drop f).length=n+1 - f:=by simp;omega
  rw [←hzl2] at hsl;generalize (xs.take (n+1)).drop f=zs at A V hzk hzn hzl hsl hzl2;generalize hzv:qY lv 6 f (n+1) (qv lv)=zv at A H V hsl;have hln:((n+1 - f:Nat):Int)=(zs.length:Int):=by omega
  obtain ⟨I,hI⟩:∃I:Nat→qa→World→Prop,∀j o w',I j o w'↔(o 7= .pointer (some ⟨F,0,none⟩)∧o 27=zv∧o 28= .int .i64 (zs.length:Int)∧qb w w'∧Blk w' F #[.int .i64 (f:Int)] 3∧∃ys,OwnN w.heap.size w' (o 8) ys∧ys.length=j∧ys.map (·.nd)=(zs.take j).map (fun x=>zC (· - (f:Int)) x.nd)):=⟨_,fun _ _ _=>Iff.rfl⟩;refine jj 29 zs.length I (by simp) ((hI _ _ _).2 ⟨by simp,by simp,by simp;try omega,hE05,C,[],by simpa using OwnN.nil _ _,rfl,by simp⟩) ?_;clear r0 r1 hb5 C c0;rintro j o w' hj rj hIw;obtain ⟨r7,r27,r28,hE,hbF,ys,U,hyl,hym⟩:=(hI _ _ _).1 hIw;have hwj:IntKind.i64.wrap ((j:Int)+1)=(j:Int)+1:=qp (by omega);generalize Z:o 8=ov at U;by_cases p:j<zs.length
  ·have O:(j:Int)<(zs.length:Int):=by omega
   have hRz':=A.ext hE;have hrow:=hRz'.row p;have hk:=hRz'.kids zs[j] (List.getElem_mem _);have J:=vl hk.is;have hko:=vU hk.is;have hkb:=hzk _ (List.getElem_mem p);have htk:zs.take (j+1)=zs.take j++[zs[j]]:=List.take_succ_eq_append_getElem p;generalize zs[j]=x at hrow hk J hko hkb htk;simp -implicitDefEqProofs [qhw,rj,r28,O,p,qoL,r27,H,V,hrow];refine qR ww fun X w3 hX hE3 hb3 _=> ?_;simp -implicitDefEqProofs;refine jl (B:=X) (by simp) hb3 (by simp [Value.cells,qi,J]) (by simp [Value.cells,qi,J,hko]) (by simpa [Value.cells,qi,J] using wE) fun w4 hO4 hb4=> ?_;have c:qb w' w4:=hO4.ext hE3 hX;have hb4':Blk w4 X (qi x).toArray 44:=by simpa [Value.cells,qi,J] using hb4
   have hrow4:Eng.jq w4 ⟨X,0,none⟩ 0 6=some (qi x):=by
    have:=kT hb4';simpa [qi] using this
   simp -implicitDefEqProofs [hrow4,Z,r7];refine (qys (x:=x) (F:=105) (caps:= #[.pointer (some ⟨F,0,none⟩)]) (g:=(· - (f:Int))) (hk.ext c) hkb.1 (by kernel_rfl) fun W5 hE5 k hk5=> ?_).mono ?_
   ·exact qy2 (hbF.ext (c.trans' hE5)) (hkb.2 k hk5) (by omega)
   rintro _ w5 ⟨y,rfl,hyn,S,hE5⟩;have hyc:(ju y).cells=(qi y).toArray:=kf S.isl;simp -implicitDefEqProofs;refine jN qv3 (by decide) (by decide) (by simp [hyc,qi]) fun Y w6 hY hE6 hb6 _=> ?_;simp [hyc] at hb6;have E:=(c.trans' hE5).trans' hE6;have a:=U.ext E;simp -implicitDefEqProofs [Z];refine kF qxy (W0:=w) (hE.trans' E) (sv:=ov) (xv:= .slice (some ⟨Y,0,none⟩) 1 1) (by simp [Z]) (by simp) a.own (Blk.cells (cs:=qi y) hb6 (by simp [qi])) (qmn S.isl) (by rw [wJ];simp [qi];omega) (by rw [wJ];simp [qi];omega) fun v' w7 hE7 ho7 hg7 _=> ?_;have hkk:Own w4.heap.size 3 1 w7 y.kv (y.nd.kids.map encI):=Own.kept (S.ext hE6) hg7 (qat (S.ext hE6) a.own (by decide));have hny:=ql4 (U.ext c) hkk (hE.trans' c).size hE7 ho7 fun z hz=>Own.kept (a.kid z hz) hg7 (qat (a.kid z hz) a.own (by decide));simp -implicitDefEqProofs [qoM,rj,hwj,p];refine (hI _ _ _).2 ⟨by simp [r7],by simp [r27],by simp [r28],hE7,qGn (hbF.ext E) a.own (by decide) hg7,ys++[y],by simpa using hny,by simp [hyl], ?_⟩;rw [List.map_append,hym,htk,List.map_append];simp [zC,hyn]
  ·have O:¬(j:Int)<(zs.length:Int):=by omega
   rw [List.take_of_length_le (by omega)] at hym;simp -implicitDefEqProofs [qhw,rj,r28,O,p,qoK,Z];rw [←hRR];refine ⟨ov,ys,by rw [hb],U,hE,fun h=>absurd hb h,fun _ v hv=> ?_⟩;rw [Int.toNat_natCast] at hv;rw [hym,jK.uniq u.size (Nat.le_refl _) hu hv|>.symm];have e:zs.map (fun x=>zC (· - (f:Int)) x.nd)=(zs.map (·.nd)).map (zC (· - (f:Int))):=by rw [List.map_map];rfl
   rw [e,hzn,qsY]
 ·simp -implicitDefEqProofs [hb];rw [←hRR];exact ⟨_,[],rfl,OwnN.nil _ _,hE,fun _=>rfl,fun h=>absurd h hb⟩
end
end Go.L02
namespace Go.L02
open Go Go.Eng Go.RowKit
open Go.Proofs hiding encI
open Go.L01 (Bs Tok qM qe qh)
set_option maxRecDepth 100000
set_option maxHeartbeats 4000000
instance:Inhabited T:=⟨.mk {kind:=0} []⟩
section
variable {w:World} {lv bv:Value} {xs bs:List NV}
end
@[simp] theorem qJf:qf Tryz.prog 238=true:=by kernel_rfl
@[simp] theorem qJn:qf Tryz.prog 152=true:=by kernel_rfl
@[simp] theorem qI9:qf Tryz.prog 287=true:=by kernel_rfl
@[simp] theorem qJg:qf Tryz.prog 237=true:=by kernel_rfl
@[simp] theorem qJd:qf Tryz.prog 240=true:=by kernel_rfl
@[simp] theorem qJe:qf Tryz.prog 239=true:=by kernel_rfl
@[simp] theorem qJc:qf Tryz.prog 241=true:=by kernel_rfl
@[simp] theorem qJp:qf Tryz.prog 150=true:=by kernel_rfl
@[simp] theorem qJo:qf Tryz.prog 151=true:=by kernel_rfl
section
variable {w:World}
theorem qxW (k:Nat):Calls Tryz.prog 152 #[.int .u8 (k:Int)] w fun e w'=>e= .returned (.bool (qj k))∧qb w w':=by
 refine qDF fun ρ r0=> ?_;have c:qj k=(decide (1≤k)&&decide (k≤10)):=rfl;have j:(1:Int)≤(k:Int)↔1≤k:=by omega
 have g:(k:Int)≤10↔k≤10:=by omega
 by_cases h:1≤k
 ·have a:(1:Int)≤(k:Int):=by omega
  simp -implicitDefEqProofs [qip,r0,h,a,c,g];exact qz _
 ·have a:¬(1:Int)≤(k:Int):=by omega
  simp -implicitDefEqProofs [qip,r0,h,a,c];exact qz _
theorem qxV (k:Nat):Calls Tryz.prog 287 #[.int .u8 (k:Int)] w fun e w'=>e= .returned (.bool (decide (21≤k)&&decide (k≤37)&&decide (k≠33)&&decide (k≠36)))∧qb w w':=by
 refine qBC fun ρ r0=> ?_;have j:(k:Int)≤37↔k≤37:=by omega
 have a:(k:Int)=33↔k=33:=by omega
 have g:(k:Int)=36↔k=36:=by omega
 have l:(21:Int)≤(k:Int)↔21≤k:=by omega
 by_cases g1:21≤k<;>by_cases c:k≤37<;>by_cases m:k=33<;>by_cases h:k=36<;>(simp -implicitDefEqProofs [qpj,r0,l,j,a,g,g1,c,m,h];try exact qz _)
theorem xX (a b:UInt8):((a.toNat:Int)=(b.toNat:Int))↔a=b:=by
 constructor
 ·intro h;apply UInt8.toNat_inj.1;omega
 ·rintro rfl;rfl
theorem Qt (a:UInt8) (n:Nat) (c:n<256):((a.toNat:Int)=(n:Int))↔a=UInt8.ofNat n:=by
 have:=xX a (UInt8.ofNat n);rw [←this];simp;omega
theorem qxR {x:NV} (hx:qo x.kv=true) (fs:Bs) (hfs:fs.length≤1000000):Calls Tryz.prog 238 #[ju x, .string (qc fs)] w fun e w'=>e= .returned (.bool (qI x.nd.d (fs.contains 110) (fs.contains 118) (fs.contains 116) (fs.contains 78)))∧qb w w':=by
 have hkc:=vl hx;have e0:(⟨#[]⟩:ByteArray)=qc []:=rfl;generalize A:(fun (e:Ending) (w':World)=>e= .returned (.bool (qI x.nd.d (fs.contains 110) (fs.contains 118) (fs.contains 116) (fs.contains 78)))∧qb w w')=R;refine qCh fun ρ r0 r1=> ?_;simp -implicitDefEqProofs [qp2];refine vv fun X w1 hX hE1 Z _=> ?_;rw [show qd ρ (.tmp 0)=ju x by simp [r0],kf hx] at Z;simp -implicitDefEqProofs;refine qK (B:=X) (i:=0) (by simp) Z (by simp [qi]) (by simp [Value.cells]) (by simp) (by kernel_rfl) fun w2 m k=> ?_;simp -implicitDefEqProofs;refine qK (B:=X) (i:=5) (by simp) k (by simp [qi]) (by simp [Value.cells]) (by simp) (by kernel_rfl) fun w3 hO3 hb3=> ?_;simp -implicitDefEqProofs [qi,r1] at hb3⊢;have hE3:qb w w3:=(m.trans hO3).ext hE1 hX;obtain ⟨I,hI⟩:∃I:Nat→qa→World→Prop,∀j U w',I j U w'↔(U 1= .string (qc fs)∧U 2= .pointer (some ⟨X,0,none⟩)∧qb w w'∧Blk w' X #[.int .u8 0, .string (qc (if (fs.take j).contains 110 then [] else x.nd.d.name)), .string (qc (if (fs.take j).contains 118 then [] else x.nd.d.vr)), .string (qc (if (fs.take j).contains 116 then [] else x.nd.d.typ)), .int .i64 (if (fs.take j).contains 78 then 0 else x.nd.d.n), .slice none 0 0] 44):=⟨_,fun _ _ _=>Iff.rfl⟩;refine jj 5 fs.length I (by simp) ((hI _ _ _).2 ⟨by simp [r1],by simp,hE3,by simpa using hb3⟩) ?_;clear r0 r1 hb3 k Z;rintro j U w' hj F hIw;obtain ⟨r1,r2,hE,hb⟩:=(hI _ _ _).1 hIw;have J:IntKind.i64.wrap ((j:Int)+1)=(j:Int)+1:=qp (by omega);by_cases a:j<fs.length
 ·have g:(j:Int)<(fs.length:Int):=by omega
  have hg:((qc fs)[j]'(by simpa using a))=fs[j]:=rfl;have hsz:j<(qc fs).size:=by simpa using a
  have htk:fs.take (j+1)=fs.take j++[fs[j]]:=List.take_succ_eq_append_getElem a;generalize fs[j]=c at hg htk;have H:∀b:UInt8,b∈fs.take (j+1)↔(b∈fs.take j∨b=c):=fun b=>by
   rw [htk];simp
  have E:=Qt c 110 (by decide);have C:=Qt c 118 (by decide);have O:=Qt c 116 (by decide);have aa:=Qt c 78 (by decide);simp at E C O aa;have V:w.heap.size≤X:=by have:=hE1.size;omega
  by_cases y:c=110
  ·have l:(c.toNat:Int)=110:=E.2 y;simp -implicitDefEqProofs [Q5,F,r1,g,a,qaD,hg,l,r2];refine qK (B:=X) (i:=1) (by simp) hb (by simp) (by simp [Value.cells]) (by simp) (by kernel_rfl) fun w2 m k=> ?_;simp -implicitDefEqProofs [qaE,F,J,a];refine (hI _ _ _).2 ⟨by simp [r1],by simp [r2],m.ext hE V,xn k ?_⟩;simp [H,y,e0]
  ·have l:¬(c.toNat:Int)=110:=fun h=>y (E.1 h);by_cases u:c=118
   ·have o:(c.toNat:Int)=118:=C.2 u;simp -implicitDefEqProofs [Q5,F,r1,g,a,qaD,hg,l,o,r2];refine qK (B:=X) (i:=2) (by simp) hb (by simp) (by simp [Value.cells]) (by simp) (by kernel_rfl) fun w2 m k=> ?_;simp -implicitDefEqProofs [qaE,F,J,a];refine (hI _ _ _).2 ⟨by simp [r1],by simp [r2],m.ext hE V,xn k ?_⟩;simp [H,u,e0]
   ·have o:¬(c.toNat:Int)=118:=fun h=>u (C.1 h);by_cases z:c=116
    ·have p:(c.toNat:Int)=116:=O.2 z;simp -implicitDefEqProofs [Q5,F,r1,g,a,qaD,hg,l,o,p,r2];refine qK (B:=X) (i:=3) (by simp) hb (by simp) (by simp [Value.cells]) (by simp) (by kernel_rfl) fun w2 m k=> ?_;simp -implicitDefEqProofs [qaE,F,J,a];refine (hI _ _ _).2 ⟨by simp [r1],by simp [r2],m.ext hE V,xn k ?_⟩;simp [H,z,e0]
    ·have p:¬(c.toNat:Int)=116:=fun h=>z (O.1 h);by_cases S:c=78
     ·have Y:(c.toNat:Int)=78:=aa.2 S;simp -implicitDefEqProofs [Q5,F,r1,g,a,qaD,hg,l,o,p,Y,r2];refine qK (B:=X) (i:=4) (by simp) hb (by simp) (by simp [Value.cells]) (by simp) (by kernel_rfl) fun w2 m k=> ?_;simp -implicitDefEqProofs [qaE,F,J,a];refine (hI _ _ _).2 ⟨by simp [r1],by simp [r2],m.ext hE V,xn k ?_⟩;simp [H,S,e0]
     ·have Y:¬(c.toNat:Int)=78:=fun h=>S (aa.1 h);simp -implicitDefEqProofs [Q5,F,r1,g,a,qaD,hg,l,o,p,Y,r2];simp -implicitDefEqProofs [qaE,F,J,a];refine (hI _ _ _).2 ⟨by simp [r1],by simp [r2],hE,xn hb ?_⟩;simp [H,Ne.symm y,Ne.symm u,Ne.symm z,Ne.symm S]
 ·have g:¬(j:Int)<(fs.length:Int):=by omega
  rw [List.take_of_length_le (by omega)] at hb;have cX:∀q,w'.cell? ⟨X,q,none⟩=[Value.int .u8 0, .string (qc (if fs.contains 110 then [] else x.nd.d.name)), .string (qc (if fs.contains 118 then [] else x.nd.d.vr)), .string (qc (if fs.contains 116 then [] else x.nd.d.typ)), .int .i64 (if fs.contains 78 then 0 else x.nd.d.n), .slice none 0 0][q]? :=fun q=>by rw [hb.cell];simp
  unfold qI at A;generalize fs.contains 110=b1 at cX A;generalize fs.contains 118=b2 at cX A;generalize fs.contains 116=b3 at cX A;generalize fs.contains 78=b4 at cX A;simp -implicitDefEqProofs [Q5,F,r1,g,a,qp1,r2,cX,e0,qJ];rw [←A];refine ⟨?_,hE⟩;have e4:((if b4=true then (0:Int) else x.nd.d.n)==0)=(b4||decide (x.nd.d.n=0)):=by
   cases b4 with
   |true=>rfl
   |false=>exact Bool.eq_iff_iff.2 (by simp)
  rw [e4]
theorem qxX (a p:Bs) (ha:a.length≤1000000):Calls Tryz.prog 240 #[.string (qc a), .string (qc p)] w fun e w'=>e= .returned (.bool (jt a p))∧qb w w':=by
 have m:∀(a p:Bs),jt a p=true→a.length=p.length:=by
  intro a
  induction a with
  |nil=>intro p h;cases p<;>simp [jt] at h⊢
  |cons x a ih=>intro p h;cases p with
   |nil=>simp [jt] at h
   |cons y p=>simp only [jt,Bool.and_eq_true] at h;simp [ih p h.2]
 generalize k:jt a p=b;generalize C:(fun (e:Ending) (w':World)=>e= .returned (.bool b)∧qb w w')=R;refine qCc fun ρ r0 r1=> ?_;by_cases O:a.length=p.length
 ·simp -implicitDefEqProofs [qhR,r0,r1,O,qpT];obtain ⟨I,hI⟩:∃I:Nat→qa→World→Prop,∀j l w',I j l w'↔(l 0= .string (qc a)∧l 1= .string (qc p)∧qb w w'∧jt (a.drop j) (p.drop j)=b):=⟨_,fun _ _ _=>Iff.rfl⟩;refine jj 5 p.length I (by simp) ((hI _ _ _).2 ⟨by simp [r0],by simp [r1],qz _,k⟩) ?_;clear r0 r1 k;rintro j l w' hj Y ab;obtain ⟨r0,r1,V,k⟩:=(hI _ _ _).1 ab;have aa:IntKind.i64.wrap ((j:Int)+1)=(j:Int)+1:=qp (by omega);by_cases o:j<p.length
  ·have n:(j:Int)<(p.length:Int):=by omega
   have A:j<a.length:=by omega
   have hla':(j:Int)<(a.length:Int):=by omega
   have S:((qc a)[j]'(by simpa using A))=a[j]:=rfl;have H:((qc p)[j]'(by simpa using o))=p[j]:=rfl;have hsa:j<(qc a).size:=by simpa using A
   have hsp:j<(qc p).size:=by simpa using o
   rw [List.drop_eq_getElem_cons A,List.drop_eq_getElem_cons o,jt] at k;generalize a[j]=x at S k;generalize p[j]=y at H k;have Z:=xX x y;have F:=Qt x 99 (by decide);have z:=Qt y 101 (by decide);simp at F z;have step:∀u,qb w u→qec.wp ⟨Tryz.prog,36,Q4,[]⟩ (qeb.wp ⟨Tryz.prog,36,Q4,[]⟩ (fun g E=>g 5= .int .i64 ((j:Int)+1)∧I (j+1) g E) ((qF [.tmp 4] R).blk 0 (qb8.wp ⟨Tryz.prog,36,Q4,[]⟩ (qw [.tmp 4] R) (qF [.tmp 4] R)))) (((qF [.tmp 4] R).blk 0 (qb8.wp ⟨Tryz.prog,36,Q4,[]⟩ (qw [.tmp 4] R) (qF [.tmp 4] R))).blk 1 (qeb.wp ⟨Tryz.prog,36,Q4,[]⟩ (fun g E=>g 5= .int .i64 ((j:Int)+1)∧I (j+1) g E) ((qF [.tmp 4] R).blk 0 (qb8.wp ⟨Tryz.prog,36,Q4,[]⟩ (qw [.tmp 4] R) (qF [.tmp 4] R))))) (qu (qu l 14 (.bool true)) 35 (.bool (!zR x y))) u:=by
    intro u c;cases hc:zR x y with
    |true=>
     rw [hc,Bool.true_and] at k;simp -implicitDefEqProofs [qec,qeb,Y,aa];exact (hI _ _ _).2 ⟨by simp [r0],by simp [r1],c,k⟩
    |false=>
     rw [hc,Bool.false_and] at k;simp -implicitDefEqProofs [qec];rw [←C,←k];exact ⟨rfl,c⟩
   simp -implicitDefEqProofs [qhQ,Y,r0,r1,O,n,o,qpU,S,H,Z,F,z];by_cases g1:x=y
   ·have U:zR x y=true:=by simp [zR,g1]
    rw [if_pos g1];rw [U] at step;exact fun u c=>step u (V.trans' c)
   ·rw [if_neg g1];by_cases J:x=99
    ·rw [if_pos J];have U:zR x y=decide (y=101):=by simp [zR,g1,J];exact fun e=>absurd (J.trans e) g1
     have hv:(!((y.toNat:Int) !=101))=decide (y=101):=by
      rw [Bool.eq_iff_iff];simp;omega
     rw [U,←hv,Bool.not_not] at step;exact fun u c=>step u (V.trans' c)
    ·have U:zR x y=false:=by simp [zR,g1,J]
     rw [if_neg J];rw [U] at step;exact fun u c=>step u (V.trans' c)
  ·have n:¬(j:Int)<(p.length:Int):=by omega
   rw [List.drop_eq_nil_of_le (by omega),List.drop_eq_nil_of_le (by omega)] at k;simp -implicitDefEqProofs [qhQ,Y,r0,O,n,o,qb8];rw [←C,←k];exact ⟨rfl,V⟩
 ·have ac:b=false:=by
   cases b with
   |false=>rfl
   |true=>exact absurd (m a p k) O
  simp -implicitDefEqProofs [qhR,r0,r1,O];rw [←C,ac];exact ⟨rfl,qz _⟩
theorem qx0 (a c:Bs) (ha:a.length≤1000000) (hso:c.length≤1000000):Calls Tryz.prog 239 #[.string (qc a), .string (qc c)] w fun e w'=>e= .returned (.bool (xC a c))∧qb w w':=by
 generalize O:(fun (e:Ending) (w':World)=>e= .returned (.bool (xC a c))∧qb w w')=R;refine qCf fun ρ r0 r1=> ?_;simp -implicitDefEqProofs [qp0];obtain ⟨I,hI⟩:∃I:Nat→qa→World→Prop,∀j g w',I j g w'↔(g 0= .string (qc a)∧g 1= .string (qc c)∧qb w w'∧(a.take j).all c.contains=true):=⟨_,fun _ _ _=>Iff.rfl⟩;refine jj 5 a.length I (by simp) ((hI _ _ _).2 ⟨by simp [r0],by simp [r1],qz _,by simp⟩) ?_;clear r0 r1;rintro j g w' hj rj hIw;obtain ⟨r0,r1,z,n⟩:=(hI _ _ _).1 hIw;have hwj:IntKind.i64.wrap ((j:Int)+1)=(j:Int)+1:=qp (by omega);by_cases m:j<a.length
 ·have l:(j:Int)<(a.length:Int):=by omega
  have U:((qc a)[j]'(by simpa using m))=a[j]:=rfl;have hsa:j<(qc a).size:=by simpa using m
  have S:a.take (j+1)=a.take j++[a[j]]:=List.take_succ_eq_append_getElem m;have u:a[j]∈a:=List.getElem_mem _;generalize a[j]=x at U S u;simp -implicitDefEqProofs [qhS,rj,r0,l,m,qpY];obtain ⟨J,hJ⟩:∃J:Nat→qa→World→Prop,∀q g w',J q g w'↔(g 0= .string (qc a)∧g 1= .string (qc c)∧g 5= .int .i64 (j:Int)∧g 6= .bool ((c.take q).contains x)∧qb w w'):=⟨_,fun _ _ _=>Iff.rfl⟩;refine jj 7 c.length J (by simp) ((hJ _ _ _).2 ⟨by simp [r0],by simp [r1],by simp [rj],by simp,z⟩) ?_;clear r0 r1 rj z;rintro q ρ2 w2 hq F hJw;obtain ⟨s0,A,Z,p,z⟩:=(hJ _ _ _).1 hJw;have H:IntKind.i64.wrap ((q:Int)+1)=(q:Int)+1:=qp (by omega);by_cases h:q<c.length
  ·have k:(q:Int)<(c.length:Int):=by omega
   have V:((qc c)[q]'(by simpa using h))=c[q]:=rfl;have hss:q<(qc c).size:=by simpa using h
   have Y:c.take (q+1)=c.take q++[c[q]]:=List.take_succ_eq_append_getElem h;generalize c[q]=y at V Y;have hxy:=xX x y;have o:(c.take (q+1)).contains x=((c.take q).contains x||decide (x=y)):=by
    rw [Y,Bool.eq_iff_iff];simp
   cases C:(c.take q).contains x with
   |true=>
    rw [C] at p o;simp -implicitDefEqProofs [qb9,F,A,k,h,qhU,p];intro w3 E;simp -implicitDefEqProofs [qhV,F,H,h];exact (hJ _ _ _).2 ⟨by simp [s0],by simp [A],by simp [Z],by rw [o];simp,z.trans' E⟩
   |false=>
    rw [C] at p o;simp -implicitDefEqProofs [qb9,F,s0,A,Z,k,h,l,m,qhU,p,U,V];intro w3 E;simp -implicitDefEqProofs [qhV,F,H,h];refine (hJ _ _ _).2 ⟨by simp [s0],by simp [A],by simp [Z], ?_,z.trans' E⟩;rw [o,Bool.false_or];simp;rw [Bool.eq_iff_iff];simp;exact UInt8.toNat_inj
  ·have k:¬(q:Int)<(c.length:Int):=by omega
   rw [List.take_of_length_le (by omega)] at p;cases C:c.contains x with
   |true=>
    rw [C] at p;simp -implicitDefEqProofs [qb9,F,A,k,h,qhT,p,qpZ,Z,hwj];refine (hI _ _ _).2 ⟨by simp [s0],by simp [A],z, ?_⟩;rw [S,List.all_append,n];simpa using C
   |false=>
    rw [C] at p;simp -implicitDefEqProofs [qb9,F,A,k,h,qhT,p];rw [←O];refine ⟨?_,z⟩;congr 2
    symm
    unfold xC;rw [List.all_eq_false];exact ⟨x,u,by simpa using C⟩
 ·have l:¬(j:Int)<(a.length:Int):=by omega
  rw [List.take_of_length_le (by omega)] at n;simp -implicitDefEqProofs [qhS,rj,r0,l,m,qpX];rw [←O];exact ⟨by unfold xC;rw [n],z⟩
theorem qxP:Calls Tryz.prog 150 #[] w fun e w'=>∃v,e= .returned v∧Own w.heap.size 9 1 w' v (QC.map qe)∧qb w w':=by
 refine qDJ fun ρ=> ?_;simp -implicitDefEqProofs [qrJ];refine jN kP (by decide) (by decide) (by simp [Value.cells]) fun X h j g a _=> ?_;simp [Value.cells] at a;have c:Blk h X (QC.map qe).toArray 9:=xn a rfl;simp -implicitDefEqProofs;exact ⟨Own.lit (n:=7) (sz:=1) c (by decide) j (by decide),g⟩
theorem qxM:Calls Tryz.prog 151 #[] w fun e w'=>∃v,e= .returned v∧Own w.heap.size 9 1 w' v (Qs.map qe)∧qb w w':=by
 refine qDH fun ρ=> ?_;simp -implicitDefEqProofs [qrI];refine jN kP (by decide) (by decide) (by simp [Value.cells]) fun X h j g a _=> ?_;simp [Value.cells] at a;have c:Blk h X (Qs.map qe).toArray 9:=xn a rfl;simp -implicitDefEqProofs;exact ⟨Own.lit (n:=3) (sz:=1) c (by decide) j (by decide),g⟩
theorem qzi (s:Bs):(QC++Qs).contains s=wi.contains s:=by
 rw [Bool.eq_iff_iff];simp [QC,Qs,wi];constructor<;>intro h<;>(rcases h with h|h|h|h|h|h|h|h|h|h<;>simp [h])
theorem qxS (s:Bs):Calls Tryz.prog 241 #[.string (qc s)] w fun e w'=>e= .returned (.bool (wi.contains s))∧qb w w':=by
 rw [←qzi s];generalize g:(fun (e:Ending) (w':World)=>e= .returned (.bool ((QC++Qs).contains s))∧qb w w')=R;refine qCa fun ρ r0=> ?_;simp -implicitDefEqProofs [qpS];refine qxP.mono ?_;rintro _ w1 ⟨v1,rfl,V,F⟩;simp -implicitDefEqProofs;refine qxM.mono ?_;rintro _ w2 ⟨v2,rfl,S,o⟩;simp -implicitDefEqProofs;refine kF qao (W0:=w) (F.trans' o) (sv:=v1) (xv:=v2) (by simp) (by simp) (V.ext o) (L01.jM S) (by simp [qe,Value.oneCell']) (by decide) (by decide) fun v Y z A _ _=> ?_;rw [←List.map_append] at A;have l:=A.isl;have n:qk v=10:=by have:=(L01.jM A).len;simpa [QC,Qs] using this.symm
 simp -implicitDefEqProofs;generalize hL:QC++Qs=W at g A;have Z:W.length=10:=by rw [←hL];rfl
 obtain ⟨I,U⟩:∃I:Nat→qa→World→Prop,∀j c w',I j c w'↔(c 0= .string (qc s)∧c 3=v∧qb Y w'∧∀x∈W.take j,x≠s):=⟨_,fun _ _ _=>Iff.rfl⟩;refine jj 4 10 I (by simp) ((U _ _ _).2 ⟨by simp [r0],by simp,qz _,by simp⟩) ?_;clear r0;rintro j c w' hj H O;obtain ⟨r0,r3,E,k⟩:=(U _ _ _).1 O;have J:IntKind.i64.wrap ((j:Int)+1)=(j:Int)+1:=qp (by omega);by_cases m:j<10
 ·have a:(j:Int)<10:=by omega
  have u:j<W.length:=by omega
  have y:=(L01.jM (A.ext E)).cell j (by simpa using u);simp only [List.getElem_map,qe] at y;by_cases C:W[j]=s
  ·simp -implicitDefEqProofs [qea,H,r3,l,n,a,m,qhP,y,r0,qJ,C];rw [←g];refine ⟨?_,z.trans' E⟩;have:W.contains s=true:=List.contains_iff_mem.2 (by rw [←C];exact List.getElem_mem _);rw [this]
  ·simp -implicitDefEqProofs [qea,H,r3,l,n,a,m,qhP,y,r0,qJ,C,qpR,J];refine (U _ _ _).2 ⟨by simp [r0],by simp [r3],E,fun x p=> ?_⟩;rw [List.take_succ_eq_append_getElem u] at p;rcases List.mem_append.1 p with h|h
   ·exact k x h
   ·rw [List.mem_singleton.1 h];exact C
 ·have a:¬(j:Int)<10:=by omega
  rw [List.take_of_length_le (by omega)] at k;simp -implicitDefEqProofs [qea,H,r3,l,n,a,m,qpQ];rw [←g];refine ⟨?_,z.trans' E⟩;have:W.contains s=false:=by
   cases y:W.contains s with
   |false=>rfl
   |true=>exact absurd rfl (k s (List.contains_iff_mem.1 y))
  rw [this]
end
section
variable {w:World} {lv:Value} {xs:List NV}
def oK:xU
 |152,[.int .u8 k]=>if 0≤k then some (.bool (qj k.toNat)) else none
 |287,[.int .u8 k]=>if 0≤k then some (.bool (decide (21≤k.toNat)&&decide (k.toNat≤37)&&decide (k.toNat≠33)&&decide (k.toNat≠36))) else none
 |_,_=>none
theorem qzr (w0:World):Qq Tryz.prog oK w0:=by
 intro f l v h;unfold oK at h;split at h
 ·rename_i k;split at h
  ·rename_i a;obtain ⟨n,rfl⟩:=Int.eq_ofNat_of_zero_le a;cases h;exact ⟨by simp,fun W _=>by simpa using qxW (w:=W) n⟩
  ·cases h
 ·rename_i k;split at h
  ·rename_i a;obtain ⟨n,rfl⟩:=Int.eq_ofNat_of_zero_le a;cases h;exact ⟨by simp,fun W _=>by simpa using qxV (w:=W) n⟩
  ·cases h
 ·cases h
theorem qFy (s:Bs) (n:Nat):(qc s).extract 0 n=qc (s.take n):=by
 apply ByteArray.ext;apply Array.ext';show ((qc s).extract 0 n).data.toList=_;simp [qc]
theorem qtx (s:Bs) (k:Nat):(qc s).extract k s.length=qc (s.drop k):=L01.qcm s k
theorem qxU (hR:Rd w lv xs) {x:NV} (hx:Cells w x.kv 1 (x.nd.kids.map encI)) (hin:∀k∈x.nd.kids,0≤k∧k<xs.length) (hlen:x.nd.kids.length≤1000000) (hxl:xs.length≤1000000):
  Calls Tryz.prog 237 #[lv,ju x] w fun e w'=>e= .returned (.string (qc (jQ (xs.map (·.nd)) x.nd)))∧qb w w':=by
 generalize hRR:(fun (e:Ending) (w':World)=>e= .returned (.string (qc (jQ (xs.map (·.nd)) x.nd)))∧qb w w')=R;refine qCj fun ρ r0 r1=> ?_;simp only [qp5,qfm,qjJ,qfl,gd,if_true];refine vv fun X V hX E H _=> ?_;rw [show qd ρ (.tmp 1)=ju x by simp [r1],kf hx.is] at H;have cX:∀q,V.cell? ⟨X,q,none⟩=(qi x)[q]? :=fun q=>by rw [H.cell];simp
 have C:=hR.ext E;have z:=hx.ext E;have O:qk x.kv=x.nd.kids.length:=by have:=hx.len;simpa using this.symm
 refine qlG (cx:=⟨Tryz.prog,57,qp4,[]⟩) (a:= .seq (.block 0 (.loop qed)) qee) (qzr _) (qz V) (fun ρ=>ρ 4= .string (qc (jQ (xs.map (·.nd)) x.nd))) (fun h w' hE hT=> ?_) ?_
 ·rw [qlo,←hRR,hT];exact ⟨rfl,E.trans' hE⟩
 simp -implicitDefEqProofs;obtain ⟨I,hI⟩:∃I:Nat→qa→Prop,∀j h,I j h↔(h 0=lv∧h 3= .pointer (some ⟨X,0,none⟩)∧h 5= .string (qc ((x.nd.kids.take j).map fun k=>jv (jw (xs.map (·.nd)) k)))):=⟨_,fun _ _=>Iff.rfl⟩;refine qmr 6 x.nd.kids.length I (by simp) ((hI _ _).2 ⟨by simp [r0],by simp,by simp;rfl⟩) ?_;clear r0 r1;rintro j h hj p hIw;obtain ⟨r0,r3,r5⟩:=(hI _ _).1 hIw;have hwj:IntKind.i64.wrap ((j:Int)+1)=(j:Int)+1:=qp (by omega);simp only [qi] at cX;by_cases g:j<x.nd.kids.length
 ·have o:(j:Int)<(x.nd.kids.length:Int):=by omega
  have hc:=z.cell j (by simpa using g);simp only [List.getElem_map,encI] at hc;have S:x.nd.kids.take (j+1)=x.nd.kids.take j++[x.nd.kids[j]]:=List.take_succ_eq_append_getElem g;have m:=hin _ (List.getElem_mem g);generalize x.nd.kids[j]=k at hc S m;obtain ⟨n,rfl⟩:=Int.eq_ofNat_of_zero_le m.1;have hn:n<xs.length:=by omega
  have A:=C.cell (k:=n) (j:=0) hn (by omega);have hK:=qmJ m;simp only [Int.toNat_natCast] at hK;have Y:((x.nd.kids.take j).map fun k=>jv (jw (xs.map (·.nd)) k)).length≤1000000:=by simp;omega
  generalize Z:((x.nd.kids.take j).map fun k=>jv (jw (xs.map (·.nd)) k))=pr at r5 Y;have u:((x.nd.kids.take (j+1)).map fun k=>jv (jw (xs.map (·.nd)) k))=pr++[jv (xs[n].nd.d.kind)]:=by
   rw [S,List.map_append,Z];simp [hK]
  simp [qi] at A;generalize xs[n].nd.d.kind=c at A u;have fin:∀l:qa,l 0=lv→l 3= .pointer (some ⟨X,0,none⟩)→l 6= .int .i64 j→l 5= .string (qc (pr++[jv c]))→qhW.mi oK V (fun y=>y 6= .int .i64 ((j:Int)+1)∧I (j+1) y) (Kp.blk ⟨fun _ _=>False,fun ρ=>ρ 4= .string (qc (jQ (xs.map (·.nd)) x.nd))⟩ 0 (qee.mi oK V (fun ρ=>ρ 4= .string (qc (jQ (xs.map (·.nd)) x.nd))) ⟨fun _ _=>False,fun ρ=>ρ 4= .string (qc (jQ (xs.map (·.nd)) x.nd))⟩)) l:=by
   intro l h0 h3 h6 h5;simp -implicitDefEqProofs [qhW,h6,hwj,g];exact (hI _ _).2 ⟨by simp [h0],by simp [h3],by simp [h5,u]⟩
  simp -implicitDefEqProofs (maxSteps:=2000000) (disch:=(simp only [List.length_append,List.length_cons,List.length_nil];omega)) [-kw,qak,vS,qed,p,r3,r5,r0,cX,z.is,O,o,g,qp3,hc,C.cells.is,C.len,hn,A,oK,qzO];unfold jv at fin;have q20:(c:Int)=20↔c=20:=by omega
  have q5:(c:Int)=5↔c=5:=by omega
  have q33:(c:Int)=33↔c=33:=by omega
  have q36:(c:Int)=36↔c=36:=by omega
  have q37:(c:Int)≤37↔c≤37:=by omega
  simp only [q20,q5,q33,q36,q37];by_cases g1:c=20
  ·simp only [if_pos g1] at fin⊢;exact fin _ (by simp [r0]) (by simp [r3]) (by simp [p]) (by simp)
  by_cases F:c=5
  ·simp only [if_neg g1,if_pos F] at fin⊢;exact fin _ (by simp [r0]) (by simp [r3]) (by simp [p]) (by simp)
  by_cases J:qj c=true
  ·simp only [if_neg g1,if_neg F,if_pos J] at fin⊢;exact fin _ (by simp [r0]) (by simp [r3]) (by simp [p]) (by simp)
  by_cases U:c=33
  ·simp only [if_neg g1,if_neg F,if_neg J,if_pos U] at fin⊢;exact fin _ (by simp [r0]) (by simp [r3]) (by simp [p]) (by simp)
  by_cases g5:c=36
  ·simp only [if_neg g1,if_neg F,if_neg J,if_neg U,if_pos g5] at fin⊢;exact fin _ (by simp [r0]) (by simp [r3]) (by simp [p]) (by simp)
  have q6:(decide (21≤c)&&decide (c≤37)&&decide (c≠33)&&decide (c≠36))=true↔(((21≤c∧c≤37)∧¬c=33)∧¬c=36):=by simp
  by_cases g6:(((21≤c∧c≤37)∧¬c=33)∧¬c=36)
  ·simp only [if_neg g1,if_neg F,if_neg J,if_neg U,if_neg g5,q6,if_pos g6] at fin⊢;exact fin _ (by simp [r0]) (by simp [r3]) (by simp [p]) (by simp)
  ·simp only [if_neg g1,if_neg F,if_neg J,if_neg U,if_neg g5,q6,if_neg g6] at fin⊢;exact fin _ (by simp [r0]) (by simp [r3]) (by simp [p]) (by simp)
 ·have o:¬(j:Int)<(x.nd.kids.length:Int):=by omega
  rw [List.take_of_length_le (by omega)] at r5;simp -implicitDefEqProofs [qed,p,r3,r5,cX,z.is,O,o,g,qee];rfl
open Classical in
noncomputable def oR (xs:List NV) (lv:Value) (x:NV):xU
 |237,[a,b]=>if a=lv∧b=ju x then some (.string (qc (jQ (xs.map (·.nd)) x.nd))) else none
 |79,[.string s]=>some (.bool (qh s.data.toList))
 |238,[a, .string s]=>if a=ju x∧s.data.toList.length≤1000000 then some (.bool (qI x.nd.d (s.data.toList.contains 110) (s.data.toList.contains 118) (s.data.toList.contains 116) (s.data.toList.contains 78))) else none
 |239,[.string a, .string b]=>if a.data.toList.length≤1000000∧b.data.toList.length≤1000000 then some (.bool (xC a.data.toList b.data.toList)) else none
 |240,[.string a, .string b]=>if a.data.toList.length≤1000000 then some (.bool (jt a.data.toList b.data.toList)) else none
 |241,[.string s]=>some (.bool (wi.contains s.data.toList))
 |25,[.string s]=>if s.data.toList.length<4611686018427387904 then some (.bool (zP s.data.toList)) else none
 |23,[.string s]=>if s.data.toList.length<4611686018427387904 then some (.bool (jh s.data.toList)) else none
 |_,_=>none
theorem qzq (n:Rd w lv xs) {x:NV} (m:Cells w x.kv 1 (x.nd.kids.map encI)) (hin:∀k∈x.nd.kids,0≤k∧k<xs.length) (g:x.nd.kids.length≤1000000) (j:xs.length≤1000000):Qq Tryz.prog (oR xs lv x) w:=by
 intro f l v h;unfold oR at h;split at h
 ·split at h
  ·rename_i c;obtain ⟨rfl,rfl⟩:=c;cases h;exact ⟨by simp,fun W e=>qxU (n.ext e) (m.ext e) hin g j⟩
  ·cases h
 ·rename_i s;cases h;exact ⟨by simp,fun W e=>L01.qdd s.data.toList⟩
 ·rename_i a s;split at h
  ·rename_i c;obtain ⟨rfl,c⟩:=c;cases h;exact ⟨by simp,fun W e=>qxR m.is s.data.toList c⟩
  ·cases h
 ·rename_i a b;split at h
  ·rename_i c;cases h;exact ⟨by simp,fun W e=>qx0 a.data.toList b.data.toList c.1 c.2⟩
  ·cases h
 ·rename_i a b;split at h
  ·rename_i c;cases h;exact ⟨by simp,fun W e=>qxX a.data.toList b.data.toList c⟩
  ·cases h
 ·rename_i s;cases h;exact ⟨by simp,fun W e=>qxS s.data.toList⟩
 ·rename_i s;split at h
  ·rename_i c;cases h;exact ⟨by simp,fun W e=>qx7 s.data.toList c⟩
  ·cases h
 ·rename_i s;split at h
  ·rename_i c;cases h;exact ⟨by simp,fun W e=>qx6 s.data.toList c⟩
  ·cases h
 ·cases h
theorem qxQ (hR:Rd w lv xs) {x:NV} (hx:Cells w x.kv 1 (x.nd.kids.map encI)) (hd:DOk x.nd.d) (hin:∀k∈x.nd.kids,0≤k∧k<xs.length) (am:x.nd.kids.length≤1000000) (hxl:xs.length≤1000000):
  Calls Tryz.prog 170 #[lv,ju x] w fun e w'=>e= .returned (.bool (qx (xs.map (·.nd)) x.nd))∧qb w w':=by
 generalize c:qx (xs.map (·.nd)) x.nd=res;generalize hRR:(fun (e:Ending) (w':World)=>e= .returned (.bool res)∧qb w w')=R;refine qDb fun ρ r0 r1=> ?_;simp only [qrh,qfm,qjJ,qfl,gd,if_true];refine vv fun X w1 hX ah al _=> ?_;rw [show qd ρ (.tmp 1)=ju x by simp [r1],kf hx.is] at al;have cX:∀q,w1.cell? ⟨X,q,none⟩=(qi x)[q]? :=fun q=>by rw [al.cell];simp
 have g:Eng.jq w1 ⟨X,0,none⟩ 0 6=some (qi x):=yM (l:=qi x) fun j hj=>by rw [Nat.zero_add,show (⟨X,0,none⟩:Addr).add j=⟨X,j,none⟩ by simp,cX,List.getElem?_eq_getElem hj]
 have H:=hR.ext ah;have z:=hx.ext ah;have hkl:qk x.kv=x.nd.kids.length:=by have:=hx.len;simpa using this.symm
 have c0:=cX 0;have c1:=cX 1;have c2:=cX 2;have c3:=cX 3;have c4:=cX 4;have c5:=cX 5;simp [qi] at c0 c1 c2 c3 c4 c5;have hkk:=qdJ (xs.map (·.nd)) x.nd;refine qlG (cx:=⟨Tryz.prog,366,qrg,[]⟩) (a:= .seq (.block 0 _) xQ) (qzq H z hin am hxl) (qz w1) (fun ρ=>ρ 4= .bool res) (fun F w' hE hT=> ?_) ?_
 ·rw [qlo,←hRR,hT];exact ⟨rfl,ah.trans' hE⟩
 have C:Value.agg (qi x).toArray=ju x:=rfl;have g1:x.nd.d.name.length<4611686018427387904:=by have:=hd.name;omega
 have O:x.nd.d.vr.length<4611686018427387904:=by have:=hd.vr;omega
 have J:x.nd.d.typ.length<4611686018427387904:=by have:=hd.typ;omega
 have m:(jQ (xs.map (·.nd)) x.nd).length≤1000000:=by omega
 simp -implicitDefEqProofs [r0,g,C,oR,c0,c1];unfold qx at c;generalize jQ (xs.map (·.nd)) x.nd=y at*;by_cases hr:[1,2,3,34,4,31,6,7,8,9,10,30,37,20,21,22,23,24,25,26,27,28,29,33,36].contains x.nd.d.kind=true
 ·simp only [List.contains_cons,List.contains_nil,Bool.or_false,Bool.or_eq_true,beq_iff_eq] at hr;rcases hr with h|h|h|h|h|h|h|h|h|h|h|h|h|h|h|h|h|h|h|h|h|h|h|h|h
  all_goals
   simp [h] at c0 c;subst c;simp -implicitDefEqProofs [h,c0,c1,c2,c3,c4,c5,g,C,oR,vS,qJ,g1,O,J,m,r0,xQ,xO,xP,ki,Qb,Qc]
   repeat' (first|refine qgZ (fun u=> ?_) (fun u=> ?_)|refine qgY (fun u=> ?_) (fun u=> ?_))<;>(try simp only [Bool.not_eq_true',Bool.not_eq_false',decide_eq_true_eq,decide_eq_false_iff_not] at u)<;>(try simp -implicitDefEqProofs [undef,u,h,c0,c1,c2,c3,c4,c5,g,C,oR,vS,qJ,g1,O,J,m,r0,xQ,xO,xP,ki,Qb,Qc])
 simp only [List.contains_cons,List.contains_nil,Bool.or_false,Bool.or_eq_true,beq_iff_eq,not_or] at hr;obtain ⟨q1,q2,q3,q34,q4,q31,q6,q7,q8,q9,q10,q30,q37,q20,q21,q22,q23,q24,q25,q26,q27,q28,q29,q33,q36⟩:=hr;by_cases h:x.nd.d.kind=5
 ·simp [h] at c0 c;subst c;by_cases h6:y.length≤6
  ·have Y:¬(6:Int)<(y.length:Int):=by omega
   simp -implicitDefEqProofs [h6,Y,h,c0,c1,c2,c3,c4,c5,g,C,oR,vS,qJ,g1,O,J,m,r0,xQ,xO,xP,ki,Qb,Qc]
   repeat' (first|refine qgZ (fun u=> ?_) (fun u=> ?_)|refine qgY (fun u=> ?_) (fun u=> ?_))<;>(try simp only [Bool.not_eq_true',Bool.not_eq_false',decide_eq_true_eq,decide_eq_false_iff_not] at u)<;>(try simp -implicitDefEqProofs [undef,u,h6,Y,h,c0,c1,c2,c3,c4,c5,g,C,oR,vS,qJ,g1,O,J,m,r0,xQ,xO,xP,ki,Qb,Qc])
  ·have Y:(6:Int)<(y.length:Int):=by omega
   simp -implicitDefEqProofs [undef,h6,Y,h,c0,oR,xO,xP]
 by_cases h:x.nd.d.kind=35
 ·simp [h, -List.drop_one] at c0 c;by_cases h1:1<y.length
  ·have V:(1:Int)<(y.length:Int):=by omega
   have h1l:(1:Int)≤(y.length:Int):=by omega
   have hx0:(qc y).extract 0 1=qc (y.take 1):=by simp [qFy]
   have z:(qc y).extract 1 y.length=qc (y.drop 1):=by simp [qtx]
   have ht1:(y.take 1).length≤1000000:=by rw [List.length_take];omega
   have ht2:(y.drop 1).length≤1000000:=by rw [List.length_drop];omega
   simp [h1, -List.drop_one] at c;subst c;generalize y.take 1=ka at*;generalize y.drop 1=kb at*;simp -implicitDefEqProofs [V,h1l,hx0,z,ht1,ht2,h,c0,c1,c2,c3,c4,c5,g,C,oR,vS,qJ,g1,O,J,m,r0,xQ,xO,xP,ki,Qb,Qc]
   repeat' (first|refine qgZ (fun u=> ?_) (fun u=> ?_)|refine qgY (fun u=> ?_) (fun u=> ?_))<;>(try simp only [Bool.not_eq_true',Bool.not_eq_false',decide_eq_true_eq,decide_eq_false_iff_not] at u)<;>(try simp -implicitDefEqProofs [undef,u,V,h1l,hx0,z,ht1,ht2,h,c0,c1,c2,c3,c4,c5,g,C,oR,vS,qJ,g1,O,J,m,r0,xQ,xO,xP,ki,Qb,Qc])
  ·have V:¬(1:Int)<(y.length:Int):=by omega
   simp [h1] at c;subst c;simp -implicitDefEqProofs [V,h,c0,c1,c2,c3,c4,c5,g,C,oR,vS,qJ,g1,O,J,m,r0,xQ,xO,xP,ki,Qb,Qc]
 by_cases h:x.nd.d.kind=32
 ·simp [h] at c0 c;rcases y with _|⟨a,_|⟨b,p⟩⟩
  ·simp at c;subst c;simp -implicitDefEqProofs [h,c0,c1,c2,c3,c4,c5,g,C,oR,vS,qJ,g1,O,J,m,r0,xQ,xO,xP,ki]
  ·simp at c;subst c;simp -implicitDefEqProofs [h,c0,c1,c2,c3,c4,c5,g,C,oR,vS,qJ,g1,O,J,m,r0,xQ,xO,xP,ki]
  simp only [List.length_cons] at hkk m;have ak:¬((p.length:Int)+1+1<2):=by omega
  have ad:(qc (a::b::p)).extract 1 (p.length+1+1)=qc (b::p):=by have:=qtx (a::b::p) 1;simpa using this
  have ag:(1:Int)≤(p.length:Int)+1+1:=by omega
  have ae:p.length+1≤1000000:=by omega
  have ai:∀h,(qc (a::b::p))[0]'h=a:=fun _=>rfl;have U:=Qt a 113 (by decide);simp at U;by_cases ha:a=113
  ·have ab:=U.2 ha;cases A:xC (b::p) [119] with
   |false=>
    simp [A] at c;subst c;simp -implicitDefEqProofs [ak,ad,ag,ae,ai,ab,A,h,c0,c1,c2,c3,c4,c5,g,C,oR,vS,qJ,g1,O,J,m,r0,xQ,xO,xP,ki]
   |true=>
    simp [A,ha] at c;have aj:IntKind.i64.wrap ((p.length:Int)+1+1 - 1)=(p.length:Int)+1:=by rw [qp (by omega)];omega
    have af:IntKind.i64.wrap ((p.length:Int)+1)=(p.length:Int)+1:=qp (by omega);simp -implicitDefEqProofs [ak,ad,ag,ae,ai,ab,A,h,c0,c1,c2,c3,c4,c5,g,C,oR,vS,qJ,g1,O,J,m,r0,xQ,xO,xP,ki,qrd];obtain ⟨I,hI⟩:∃I:Nat→qa→Prop,∀i F,I i F↔(F 0=lv∧F 3= .pointer (some ⟨X,0,none⟩)∧F 5= .string (qc (a::b::p))∧∀j,1≤j→j<i→∀hj:j<x.nd.kids.length,xN (xs.map (·.nd)) x.nd.kids[j]≠[]):=⟨_,fun _ _=>Iff.rfl⟩;refine qzJ 7 1 (p.length+1) I (by simp) (by omega) ((hI _ _).2 ⟨by simp [r0],by simp,by simp,fun j h1 h2=>by omega⟩) ?_;clear r0 r1;rintro i F V hin' ri hIw;obtain ⟨s0,s3,s5,hno⟩:=(hI _ _).1 hIw;by_cases hlt:i<p.length+1
    ·have E:(i:Int)<(p.length:Int)+1:=by omega
     have aa:i<x.nd.kids.length:=by omega
     have hc:=z.cell i (by simpa using aa);simp only [List.getElem_map,encI] at hc;have S:=hin _ (List.getElem_mem aa);have hK:=qmI S;generalize hk:x.nd.kids[i]=k at hc S hK;obtain ⟨n,rfl⟩:=Int.eq_ofNat_of_zero_le S.1;have hn:n<xs.length:=by omega
     have Z:=H.cell (k:=n) (j:=1) hn (by omega);simp only [Int.toNat_natCast] at hK;simp [qi] at Z;by_cases o:xs[n].nd.d.name=[]
     ·have ac:res=false:=by
       cases res with
       |false=>rfl
       |true=>
        exfalso;simp only [Bool.and_eq_true] at c;have:=(qeI _ _).1 c.1 (i - 1) (by rw [List.length_drop];omega) (by omega);have e1:(x.nd.kids.drop 1)[i - 1]'(by rw [List.length_drop];omega)=x.nd.kids[i]:=by rw [List.getElem_drop];congr 1;omega
        rw [e1,hk,hK] at this;exact this o
      rw [o] at Z;simp -implicitDefEqProofs [qen,ri,s0,s3,s5,aj,af,E,c5,z.is,hkl,aa,hc,H.cells.is,H.len,hn,Z,vS,qJ,qii,ac]
     ·simp -implicitDefEqProofs [qen,ri,s0,s3,s5,aj,af,E,c5,z.is,hkl,aa,hc,H.cells.is,H.len,hn,Z,vS,qJ,qii,o,qrf,hlt];have hwj:IntKind.i64.wrap ((i:Int)+1)=(i:Int)+1:=qp (by omega);refine ⟨hwj,(hI _ _).2 ⟨by simp [s0],by simp [s3],by simp [s5],fun j h1 h2 hj=> ?_⟩⟩;by_cases hji:j<i
      ·exact hno j h1 hji hj
      ·have:j=i:=by omega
       subst this;rw [hk,hK];exact o
    ·have E:¬(i:Int)<(p.length:Int)+1:=by omega
     have he:qck (xs.map (·.nd)) x.nd=true:=(qeI _ _).2 fun j hj hj2=>by
      have:=hno (j+1) (by omega) (by omega) (by omega);have e1:(x.nd.kids.drop 1)[j]=x.nd.kids[j+1]'(by omega):=by rw [List.getElem_drop];congr 1;omega
      rw [e1];exact this
     rw [he] at c;simp -implicitDefEqProofs [qen,ri,s0,s3,s5,aj,af,E,qre,g,C,oR,vS];simpa using c
  ·have ab:((a.toNat:Int) !=113)=true:=bne_iff_ne.2 fun e=>ha (U.1 e);simp [ha] at c;subst c;simp -implicitDefEqProofs [ak,ad,ag,ae,ai,ab,h,c0,c1,c2,c3,c4,c5,g,C,oR,vS,qJ,g1,O,J,m,r0,xQ,xO,xP,ki]
 have m1:((x.nd.d.kind:Int)==1)=false:=beq_false_of_ne (by omega);have m2:((x.nd.d.kind:Int)==2)=false:=beq_false_of_ne (by omega);have m3:((x.nd.d.kind:Int)==3)=false:=beq_false_of_ne (by omega);have m34:((x.nd.d.kind:Int)==34)=false:=beq_false_of_ne (by omega);have m4:((x.nd.d.kind:Int)==4)=false:=beq_false_of_ne (by omega);have m31:((x.nd.d.kind:Int)==31)=false:=beq_false_of_ne (by omega);have m5:((x.nd.d.kind:Int)==5)=false:=beq_false_of_ne (by omega);have q5:¬x.nd.d.kind=5:=by omega
 have m6:((x.nd.d.kind:Int)==6)=false:=beq_false_of_ne (by omega);have m7:((x.nd.d.kind:Int)==7)=false:=beq_false_of_ne (by omega);have m8:((x.nd.d.kind:Int)==8)=false:=beq_false_of_ne (by omega);have m9:((x.nd.d.kind:Int)==9)=false:=beq_false_of_ne (by omega);have m10:((x.nd.d.kind:Int)==10)=false:=beq_false_of_ne (by omega);have m30:((x.nd.d.kind:Int)==30)=false:=beq_false_of_ne (by omega);have m37:((x.nd.d.kind:Int)==37)=false:=beq_false_of_ne (by omega);have m20:((x.nd.d.kind:Int)==20)=false:=beq_false_of_ne (by omega);have m21:((x.nd.d.kind:Int)==21)=false:=beq_false_of_ne (by omega);have m22:((x.nd.d.kind:Int)==22)=false:=beq_false_of_ne (by omega);have m23:((x.nd.d.kind:Int)==23)=false:=beq_false_of_ne (by omega);have m24:((x.nd.d.kind:Int)==24)=false:=beq_false_of_ne (by omega);have m25:((x.nd.d.kind:Int)==25)=false:=beq_false_of_ne (by omega);have m26:((x.nd.d.kind:Int)==26)=false:=beq_false_of_ne (by omega);have m27:((x.nd.d.kind:Int)==27)=false:=beq_false_of_ne (by omega);have m28:((x.nd.d.kind:Int)==28)=false:=beq_false_of_ne (by omega);have m29:((x.nd.d.kind:Int)==29)=false:=beq_false_of_ne (by omega);have m33:((x.nd.d.kind:Int)==33)=false:=beq_false_of_ne (by omega);have m35:((x.nd.d.kind:Int)==35)=false:=beq_false_of_ne (by omega);have q35:¬x.nd.d.kind=35:=by omega
 have m36:((x.nd.d.kind:Int)==36)=false:=beq_false_of_ne (by omega);have m32:((x.nd.d.kind:Int)==32)=false:=beq_false_of_ne (by omega);have q32:¬x.nd.d.kind=32:=by omega
 simp [q1,q2,q3,q34,q4,q31,q5,q6,q7,q8,q9,q10,q30,q37,q20,q21,q22,q23,q24,q25,q26,q27,q28,q29,q33,q35,q36,q32] at c;subst c;simp -implicitDefEqProofs [m1,m2,m3,m34,m4,m31,m5,m6,m7,m8,m9,m10,m30,m37,m20,m21,m22,m23,m24,m25,m26,m27,m28,m29,m33,m35,m36,m32,c0,xQ,xO,xP,ki]
end
@[simp] theorem qJj:qf Tryz.prog 170=true:=by kernel_rfl
@[simp] theorem qI5:qf Tryz.prog 81=true:=by kernel_rfl
section
variable {w:World} {lv:Value} {xs:List NV}
theorem qkv {l:List Nd} {i:Nat} {o:List Int} {x:Nd} {r:List Nd} (h:l.drop i=x::r) (a:vm (l.drop i) i o=vm l 0 []) (c:¬(x.kids.length≤o.length∧o.drop (o.length - x.kids.length)=x.kids)):vA l=false:=by
 unfold vA;rw [←a,h,qcT,if_neg c]
theorem qx5 (hR:Rd w lv xs) (hds:∀y∈xs,DOk y.nd.d) (hkl:∀x∈xs,x.nd.kids.length<4611686018427387904) (hlen:xs.length<4611686018427387904):
  Calls Tryz.prog 81 #[lv] w fun e w'=>e= .returned (.bool (yT (xs.map (·.nd))))∧qb w w':=by
 have hl:=hR.len;have z:=hR.cells.is;generalize c:yT (xs.map (·.nd))=res;generalize hRR:(fun (e:Ending) (w':World)=>e= .returned (.bool res)∧qb w w')=R;have fin:∀W,qb w W→R (.returned (.bool res)) W:=fun W hE=>by rw [←hRR];exact ⟨rfl,hE⟩
 refine qAw fun ρ r0=> ?_;unfold yT at c;simp only [List.length_map] at c;generalize hLL:xs.map (·.nd)=L at c;by_cases h0:xs.length=0
 ·simp [h0] at c;subst c;simp -implicitDefEqProofs [qdV,r0,z,hl,h0];exact fin _ (qz _)
 by_cases h4:400<xs.length
 ·have h4i:(400:Int)<(xs.length:Int):=by omega
  have h4n:¬xs.length≤400:=by omega
  simp [h4n] at c;subst c;simp -implicitDefEqProofs [qdV,r0,z,hl,h0,h4i,h4];exact fin _ (qz _)
 have h4i:¬(400:Int)<(xs.length:Int):=by omega
 have h1:1≤xs.length:=by omega
 have h4n:xs.length≤400:=by omega
 simp [h1,h4n] at c;simp -implicitDefEqProofs [qdV,r0,z,hl,h0,h4,h4i,qnB];have hLl:L.length=xs.length:=by rw [←hLL,List.length_map]
 obtain ⟨I,hI⟩:∃I:Nat→qa→World→Prop,∀i V w',I i V w'↔∃(ov sv:Value) (o ss:List Int),V 0=lv∧V 3=ov∧V 4=sv∧qb w w'∧Cells w' ov 1 (o.map encI)∧Cells w' sv 1 (ss.map encI)∧ss.length=o.length∧o.length≤i∧(∀k∈o,0≤k∧k<(i:Int))∧vm (L.drop i) i o=vm L 0 []∧(L.take i).all (qx L)=true:=⟨_,fun _ _ _=>Iff.rfl⟩;have hnil:∀W:World,Cells W (.slice none 0 0) 1 (([]:List Int).map encI):=fun W=>⟨rfl,rfl,fun j hj=>absurd hj (by simp)⟩;refine jj 5 xs.length I (by simp) ((hI _ _ _).2 ⟨_,_,[],[],by simp [r0],by simp,by simp,qz _,hnil _,hnil _,rfl,by simp,by simp,by simp,by simp⟩) ?_;clear r0;rintro i V w' hi ri hIw;obtain ⟨ov,sv,o,ss,r0,r3,r4,hE,ho,hs,hso,hoi,hor,ab,O⟩:=(hI _ _ _).1 hIw;have H:qk ov=o.length:=by have:=ho.len;simpa using this.symm
 have hsl:qk sv=ss.length:=by have:=hs.len;simpa using this.symm
 have hR':=hR.ext hE;by_cases u:i<xs.length
 ·have p:(i:Int)<(xs.length:Int):=by omega
  have F:=hR'.cell (k:=i) (j:=5) u (by omega);simp [qi] at F;have S:=List.getElem_mem u;have hx:=hR'.kids _ S;have hd:=hds _ S;have hkx:=hkl _ S;have hrow:=hR'.row u;have hLi:i<L.length:=by omega
  have hgL:L[i]=xs[i].nd:=by subst hLL;simp
  have hdr:L.drop i=xs[i].nd::L.drop (i+1):=by rw [List.drop_eq_getElem_cons hLi,hgL]
  have htk:L.take (i+1)=L.take i++[xs[i].nd]:=by rw [List.take_succ_eq_append_getElem hLi,hgL]
  generalize xs[i]=x at F hx hd hkx hrow hdr htk hgL;have hxl:qk x.kv=x.nd.kids.length:=by have:=hx.len;simpa using this.symm
  by_cases hk:x.nd.kids.length≤o.length
  ·have hki:¬(o.length:Int)<(x.nd.kids.length:Int):=by omega
   have hw1:IntKind.i64.wrap ((o.length:Int) - (x.nd.kids.length:Int))=((o.length - x.nd.kids.length:Nat):Int):=by rw [qp (by omega)];omega
   simp -implicitDefEqProofs [qdU,ri,r0,r3,z,hl,p,u,qhd,F,hx.is,hxl,ho.is,H,hki,qnx];obtain ⟨J,hJ⟩:∃J:Nat→qa→Prop,∀m g,J m g↔(g 0=lv∧g 3=ov∧g 4=sv∧g 5= .int .i64 i∧g 6= .int .i64 (x.nd.kids.length:Int)∧(∃n,g 7= .int .i64 n)∧∀q,q<m→(o.drop (o.length - x.nd.kids.length))[q]? =x.nd.kids[q]?):=⟨_,fun _ _=>Iff.rfl⟩;refine yY (C:=ql6) (w0:=w') (qzh _ _) (.loop qb1) (K:=fun _=>False) (Q:=⟨fun j g=>j=2∧J x.nd.kids.length g,fun g=>g 2= .bool false∧¬o.drop (o.length - x.nd.kids.length)=x.nd.kids⟩) (qz _) (fun _ _ _ h=>h.elim) ?_ ?_ ?_
   ·intro j g w2 A hh;obtain ⟨rfl,hJw⟩:=hh;obtain ⟨s0,s3,s4,s5,s6,⟨n,s7⟩,hq⟩:=(hJ _ _).1 hJw;have hkd:o.drop (o.length - x.nd.kids.length)=x.nd.kids:=by
     apply List.ext_getElem?;intro q;by_cases hq':q<x.nd.kids.length
     ·exact hq q hq'
     ·rw [List.getElem?_eq_none (by rw [List.length_drop];omega),List.getElem?_eq_none (by omega)]
    have hin:∀k∈x.nd.kids,0≤k∧k<(xs.length:Int):=fun k hk2=>by
     rw [←hkd] at hk2;have:=hor k (List.mem_of_mem_drop hk2);omega
    have hE02:=hE.trans' A;have hrow2:=qc8 A _ _ _ _ hrow;simp -implicitDefEqProofs [qny,s0,s5,z,hl,p,u,hrow2];refine (qxQ (x:=x) (hR'.ext A) (hx.ext A) hd hin (by omega) (by omega)).mono ?_;rintro _ w3 ⟨rfl,hE3⟩;have hE03:=hE02.trans' hE3;rw [hLL];cases hr:qx L x.nd with
    |false=>
     have ha:L.all (qx L)=false:=by
      rw [List.all_eq_false];exact ⟨L[i],List.getElem_mem _,by rw [hgL,hr];simp⟩
     rw [ha,Bool.and_false] at c;subst c;simp -implicitDefEqProofs;exact fin _ hE03
    |true=>
     have hE2':=A.trans' hE3;have ho3:=ho.ext hE2';have hs3:=hs.ext hE2';have hcapo:=y9 ho.is;have hcaps:=y9 hs.is;have ho5:=ho3.sub (l:=0) (r:=o.length - x.nd.kids.length) (m:=qv ov) (Nat.zero_le _) (by simp) (by omega) (Nat.le_refl _);have hs5:=hs3.sub (l:=0) (r:=o.length - x.nd.kids.length) (m:=qv sv) (Nat.zero_le _) (by simp;omega) (by omega) (Nat.le_refl _);simp only [Nat.mul_one,Nat.zero_mul,List.drop_zero,←List.map_take] at ho5 hs5;have hlo:(o.take (o.length - x.nd.kids.length)).length≤400:=by rw [List.length_take];omega
     have hls:(ss.take (o.length - x.nd.kids.length)).length≤400:=by rw [List.length_take];omega
     have Y:(ss.take (o.length - x.nd.kids.length)).length=(o.take (o.length - x.nd.kids.length)).length:=by rw [List.length_take,List.length_take];omega
     have hst2:vm (L.drop (i+1)) (i+1) (o.take (o.length - x.nd.kids.length)++[(i:Int)])=vm L 0 []:=by
      rw [←ab,hdr,qcT,if_pos ⟨hk,hkd⟩]
     have hor2:∀k∈o.take (o.length - x.nd.kids.length)++[(i:Int)],0≤k∧k<((i+1:Nat):Int):=fun k hk2=>by
      rcases List.mem_append.1 hk2 with h|h
      ·have:=hor k (List.mem_of_mem_take h);omega
      ·rw [List.mem_singleton.1 h];omega
     have hoi2:(o.take (o.length - x.nd.kids.length)++[(i:Int)]).length≤i+1:=by rw [List.length_append,List.length_take];simp;omega
     generalize o.take (o.length - x.nd.kids.length)=o2 at ho5 hlo Y hst2 hor2 hoi2;generalize ss.take (o.length - x.nd.kids.length)=s2 at hs5 hls Y;have hc1:((o.length - x.nd.kids.length:Nat):Int)≤(qv ov:Int):=by omega
     have hc2:((o.length - x.nd.kids.length:Nat):Int)≤(qv sv:Int):=by omega
     have hc3:o.length≤qv ov+x.nd.kids.length:=by omega
     have hc4:o.length≤qv sv+x.nd.kids.length:=by omega
     simp -implicitDefEqProofs [qnz];refine jN QB (by decide) (by decide) (by simp) fun B4 W4 hB4 hE4 hb4 _=> ?_;simp at hb4;simp -implicitDefEqProofs [s3,s6,ho.is,H,hw1,hc1,hc3];refine kF QH hE4 (by rfl) (by rfl) (Own.lit (n:=0) (sz:=1) hb4 (by simp) hB4 (by decide)) (ho5.ext hE4) (by simp [encI,Value.oneCell']) (by simp;omega) (by simp;omega) fun u5 W5 hE5 ho6 _ _=> ?_;simp -implicitDefEqProofs [s5];refine jN QB (by decide) (by decide) (by simp [Value.cells]) fun B6 W6 hB6 hE6 hb6 _=> ?_;simp [Value.cells] at hb6;simp -implicitDefEqProofs;refine kF QH (hE5.trans' hE6) (by rfl) (by rfl) (ho6.ext hE6) (L01.jM (Own.lit (n:=1) (sz:=1) (cs:=[.int .i64 i]) hb6 (by simp) hB6 (by decide))) (by simp [Value.oneCell']) (by simp;omega) (by simp;omega) fun u7 W7 hE7 ho7 _ _=> ?_;simp -implicitDefEqProofs;refine jN QB (by decide) (by decide) (by simp) fun B8 W8 hB8 hE8 hb8 _=> ?_;simp at hb8;simp -implicitDefEqProofs [s3,s4,s6,hs.is,hsl,hso,hw1,hc2,hc4];refine kF QH hE8 (by rfl) (by rfl) (Own.lit (n:=0) (sz:=1) hb8 (by simp) hB8 (by decide)) (hs5.ext (hE7.trans' hE8)) (by simp [encI,Value.oneCell']) (by simp;omega) (by simp;omega) fun u9 W9 hE9 ho9 _ _=> ?_;simp -implicitDefEqProofs [s7];refine jN QB (by decide) (by decide) (by simp [Value.cells]) fun B10 W10 hB10 hE10 hb10 _=> ?_;simp [Value.cells] at hb10;simp -implicitDefEqProofs;refine kF QH (hE9.trans' hE10) (by rfl) (by rfl) (ho9.ext hE10) (L01.jM (Own.lit (n:=1) (sz:=1) (cs:=[.int .i64 n]) hb10 (by simp) hB10 (by decide))) (by simp [Value.oneCell']) (by simp;omega) (by simp;omega) fun u11 W11 hE11 ho11 _ _=> ?_;have hwj:IntKind.i64.wrap ((i:Int)+1)=(i:Int)+1:=qp (by omega);simp -implicitDefEqProofs [qnw,s5,hwj,u];refine (hI _ _ _).2 ⟨u7,u11,o2++[(i:Int)],s2++[n],by simp [s0],by simp,by simp,(hE03.trans' hE7).trans' hE11, ?_, ?_,by simp [Y],hoi2,hor2,hst2, ?_⟩
     ·have:=L01.jM (ho7.ext hE11);simpa [encI] using this
     ·have:=L01.jM ho11;simpa [encI] using this
     ·rw [htk,List.all_append,O];simp [hr]
   ·intro g w2 A hh;have hp:=qkv hdr ab fun h=>hh.2 h.2;rw [hp] at c;simp at c;subst c;simp -implicitDefEqProofs [hh.1];exact fin _ (hE.trans' A)
   ·refine qmr 8 x.nd.kids.length J (by simp) ((hJ _ _).2 ⟨by simp [r0],by simp [r3],by simp [r4],by simp [ri],by simp,⟨1,by simp⟩,fun q hq=>by omega⟩) ?_;rintro m g hm rm hJw;obtain ⟨s0,s3,s4,s5,s6,⟨n,s7⟩,hq⟩:=(hJ _ _).1 hJw;by_cases U:m<x.nd.kids.length
    ·have Z:(m:Int)<(x.nd.kids.length:Int):=by omega
     have aa:=hx.cell m (by simpa using U);obtain ⟨a,ha⟩:∃a,a=o.length - x.nd.kids.length+m:=⟨_,rfl⟩;have E:a<o.length:=by omega
     have hatm:a<ss.length:=by omega
     have hoc:=ho.cell a (by simpa using E);have hsc:=hs.cell a (by simpa using hatm);simp only [List.getElem_map,encI] at aa hoc hsc;have hat:(a:Int)<(o.length:Int):=by omega
     have hats:(a:Int)<(ss.length:Int):=by omega
     have hw2:IntKind.i64.wrap (((o.length - x.nd.kids.length:Nat):Int)+(m:Int))=(a:Int):=by rw [qp (by omega)];omega
     have hwm:IntKind.i64.wrap ((m:Int)+1)=(m:Int)+1:=qp (by omega);have hdg:(o.drop (o.length - x.nd.kids.length))[m]? =some o[a]:=by
      rw [List.getElem?_drop,←ha,List.getElem?_eq_getElem E]
     by_cases heq:x.nd.kids[m]=o[a]
     ·have hbn:(x.nd.kids[m] !=o[a])=false:=by rw [heq];simp
      simp -implicitDefEqProofs [qb1,rm,s6,Z,U,qhe,s0,s3,s4,s5,z,hl,p,u,F,hx.is,hxl,ho.is,H,hs.is,hsl,hw1,hw2,hat,hats,E,hatm,aa,hoc,hsc,hbn,qhf,qnD,s7,qnA,hwm];refine (hJ _ _).2 ⟨by simp [s0],by simp [s3],by simp [s4],by simp [s5],by simp [s6],⟨_,by simp;rfl⟩,fun q hq2=> ?_⟩;by_cases hqm:q<m
      ·exact hq q hqm
      ·obtain rfl:q=m:=by omega
       rw [hdg,List.getElem?_eq_getElem U,heq]
     ·have hbn:(x.nd.kids[m] !=o[a])=true:=bne_iff_ne.2 heq;simp -implicitDefEqProofs [qb1,rm,s6,Z,U,qhe,s0,s3,s5,z,hl,p,u,F,hx.is,hxl,ho.is,H,hw1,hw2,hat,E,aa,hoc,hbn,qhf];intro he;rw [he,List.getElem?_eq_getElem U] at hdg;exact heq (Option.some.inj hdg)
    ·have Z:¬(m:Int)<(x.nd.kids.length:Int):=by omega
     obtain rfl:m=x.nd.kids.length:=by omega
     simp -implicitDefEqProofs [qb1,rm,s6];exact (hJ _ _).2 ⟨by simp [s0],by simp [s3],by simp [s4],by simp [s5],by simp [s6],⟨n,by simp [s7]⟩,hq⟩
  ·have hki:(o.length:Int)<(x.nd.kids.length:Int):=by omega
   have hp:=qkv hdr ab fun h=>hk h.1;simp [hp] at c;subst c;simp -implicitDefEqProofs [qdU,ri,r0,r3,z,hl,p,u,qhd,F,hx.is,hxl,ho.is,H,hki];exact fin _ hE
 ·have p:¬(i:Int)<(xs.length:Int):=by omega
  rw [List.drop_eq_nil_of_le (by omega)] at ab;rw [List.take_of_length_le (by omega)] at O;have hp:vA L=decide (o.length=1):=by unfold vA;rw [←ab];rfl
  rw [hp,O,Bool.and_true] at c;have hb1:((o.length:Int)==1)=decide (o.length=1):=by rw [Bool.eq_iff_iff];simp;omega
  simp -implicitDefEqProofs [qdU,ri,r0,z,hl,p,qnC,r3,ho.is,H,hb1];subst c;exact fin _ hE
theorem qw4 {L:List Nd} (c:0<xs.length) (a:xs.map (·.nd)=L):kD L=(xs[xs.length - 1]'(by omega)).nd.d.kind:=by
 subst a;unfold kD;rw [List.getLast?_eq_getElem?,List.length_map,List.getElem?_map,List.getElem?_eq_getElem (by omega)];rfl
theorem qgp (n:Rd w lv xs) (z:∀y∈xs,DOk y.nd.d) (p:∀x∈xs,x.nd.kids.length<4611686018427387904) (h:xs.length<4611686018427387904):
  Calls Tryz.prog 27 #[lv] w fun e w'=>e= .returned (.int .i64 (if jI (xs.map (·.nd)) then 0 else 21))∧qb w w':=by
 have E:=n.len;have c:=n.cells.is;have H:jI (xs.map (·.nd))=(yT (xs.map (·.nd))&&qt 20 (kD (xs.map (·.nd)))):=quK _ _ rfl;rw [H];refine qBI fun ρ r0=> ?_;simp -implicitDefEqProofs [qpn,r0];refine (qx5 n z p h).mono ?_;rintro _ O ⟨rfl,o⟩;cases A:yT (xs.map (·.nd)) with
 |false=>
  simp -implicitDefEqProofs;exact o
 |true=>
  have J:0<xs.length:=by
   unfold yT at A;simp only [Bool.and_eq_true,decide_eq_true_eq,List.length_map] at A;omega
  rw [qw4 J rfl];have m:xs.length - 1<xs.length:=by omega
  have a:=(n.ext o).cell (k:=xs.length - 1) (j:=0) m (by omega);simp [qi] at a;have g:IntKind.i64.wrap ((xs.length:Int) - 1)=((xs.length - 1:Nat):Int):=by rw [qp (by omega)];omega
  have F:((xs.length - 1:Nat):Int)<(xs.length:Int):=by omega
  generalize (xs[xs.length - 1]'m).nd.d.kind=u at a;have l:((u:Int)==20)=qt 20 u:=by unfold qt;rw [Bool.eq_iff_iff];simp;omega
  cases C:qt 20 u with
  |true=>
   rw [C] at l;simp -implicitDefEqProofs [r0,c,E,g,F,m,a,l,qhB,bne];exact o
  |false=>
   rw [C] at l;simp -implicitDefEqProofs [r0,c,E,g,F,m,a,l,qhB,bne];exact o
end
@[simp] theorem qJa:qf Tryz.prog 27=true:=by kernel_rfl
@[simp] theorem qJx:qf Tryz.prog 103=true:=by kernel_rfl
@[simp] theorem qJw:qf Tryz.prog 107=true:=by kernel_rfl
@[simp] theorem qJv:qf Tryz.prog 108=true:=by kernel_rfl
section
variable {w:World} {lv:Value} {xs:List NV}
theorem z8.q (h:z8 (xs.map (·.nd))):(∀y∈xs,DOk y.nd.d)∧∀x∈xs,x.nd.kids.length<4611686018427387904:=
 ⟨fun y a=>h.1 _ (List.mem_map_of_mem a),fun y a=>Nat.lt_of_le_of_lt (h.2 _ (List.mem_map_of_mem a)) (by decide)⟩
theorem qlx (k:Rd w lv xs) (c:z8 (xs.map (·.nd))) (h:xs.length<4611686018427387904) (i:Int):Calls Tryz.prog 103 #[lv, .int .i64 i] w fun e w'=>e= .returned (.int .i64 (jm (xs.map (·.nd)) i))∧qb w w':=by
 have n:=k.len;have g:=k.cells.is;unfold jm;rw [List.length_map];refine qEx fun ρ r0 r1=> ?_;simp -implicitDefEqProofs [qsK,r0];refine (qgp k c.q.1 c.q.2 h).mono ?_;rintro _ p ⟨rfl,j⟩;cases o:jI (xs.map (·.nd)) with
 |false=>
  simp -implicitDefEqProofs;exact j
 |true=>
  by_cases l:i<0
  ·have a:¬(0≤i∧i<(xs.length:Int)):=by omega
   simp -implicitDefEqProofs [qeA,r1,l,a];exact ⟨by omega,j⟩
  ·by_cases m:(xs.length:Int)≤i
   ·have a:¬(0≤i∧i<(xs.length:Int)):=by omega
    simp -implicitDefEqProofs [qeA,r0,r1,l,m,g,n];exact ⟨by omega,j⟩
   ·have a:(0≤i∧i<(xs.length:Int)):=by omega
    simp -implicitDefEqProofs [qeA,r0,r1,l,m,g,n,qsJ];exact ⟨by omega,j⟩
theorem qgn (z:Rd w lv xs) (E:xs.length≤1000000):∀(n:Nat) (u:T) (i:Nat) (W:World),qb w W→u.size≤n→jK (xs.map (·.nd)) i u→Calls Tryz.prog 107 #[lv, .int .i64 (i:Int)] W fun e w'=>e= .returned (.int .i64 (u.size:Int))∧qb W w'
 |0,u,_,_,_,hn,_=>by have:=u.size_pos;omega
 |n+1,u,i,W,y,hn,l=>by
  have m:i<xs.length:=by have:=l.lt;rwa [List.length_map] at this
  have hl:=z.len;have F:=z.ext y;have p:=l.node;rw [List.getElem?_map,List.getElem?_eq_getElem m] at p;simp only [Option.map_some,Option.some.injEq] at p;have a:=F.kids xs[i] (List.getElem_mem _);have J:xs[i].nd.kids=qL (i+1 - u.size) u.kids:=by rw [p]
  rw [J] at a;have x:qk xs[i].kv=u.kids.length:=by have:=a.len;simpa [xb] using this.symm
  have c5:W.cell? (qD lv (i*6+5))=some xs[i].kv:=by rw [F.cell m (by omega)];rfl
  have hle:=l.le;generalize xs[i].kv=kv at a x c5;have hsz:=u.size_eq;refine qEt fun ρ r0 r1=> ?_;have o:(i:Int)<(xs.length:Int):=by omega
  simp -implicitDefEqProofs [qsH];have hul:u.kids.length≤sizes u.kids:=by have:=roots_sizes u.kids 0;rwa [xb] at this
  obtain ⟨I,U⟩:∃I:Nat→qa→World→Prop,∀j g w',I j g w'↔(g 0=lv∧g 1= .int .i64 (i:Int)∧g 5= .int .i64 ((1+sizes (u.kids.take j):Nat):Int)∧qb W w'):=⟨_,fun _ _ _=>Iff.rfl⟩;refine jj 6 u.kids.length I (by simp) ((U _ _ _).2 ⟨by simp [r0],by simp [r1],by simp [sizes],qz _⟩) ?_;clear r0 r1;rintro j g w' hj H S;obtain ⟨r0,r1,r5,C⟩:=(U _ _ _).1 S;have O:IntKind.i64.wrap ((j:Int)+1)=(j:Int)+1:=qp (by omega);have A:=C.cell c5;by_cases c:j<u.kids.length
  ·have k:(j:Int)<(u.kids.length:Int):=by omega
   have h:=(a.ext C).cell j (by simpa [xb] using c);have Z:=l.kid c;have hg:=qbu u.kids (i+1 - u.size) j c;have R:j<(qL (i+1 - u.size) u.kids).length:=by simpa [xb] using c
   rw [List.getElem?_eq_getElem R,Option.some.injEq] at hg;have e1:sizes (u.kids.take (j+1))=sizes (u.kids.take j)+u.kids[j].size:=by rw [List.take_succ_eq_append_getElem c,x9];simp [sizes]
   have hpos:=u.kids[j].size_pos;have e2:(((i+1 - u.size+sizes (u.kids.take (j+1)):Nat):Int) - 1)=((i+sizes (u.kids.take (j+1)) - u.size:Nat):Int):=by omega
   rw [List.getElem_map,hg,e2] at h;have hs1:sizes (u.kids.take (j+1))≤sizes u.kids:=by have:=congrArg sizes (List.take_append_drop (j+1) u.kids);rw [x9] at this;omega
   simp -implicitDefEqProofs [qiI,H,r0,r1,z.cells.is,hl,o,m,A,k,c,qsF,a.is,x,h,encI,r5];refine (qgn z E n u.kids[j] _ w' (y.trans' C) (by omega) Z).mono ?_;rintro _ w3 ⟨rfl,V⟩;have Y:IntKind.i64.wrap (1+(sizes (u.kids.take j):Int)+(u.kids[j].size:Int))=((1+sizes (u.kids.take (j+1)):Nat):Int):=by rw [qp (by omega)];omega
   simp -implicitDefEqProofs [qsG,H,O,c,Y];exact (U _ _ _).2 ⟨by simp [r0],by simp [r1],by simp,C.trans' V⟩
  ·have k:¬(j:Int)<(u.kids.length:Int):=by omega
   have e:u.kids.take j=u.kids:=List.take_of_length_le (by omega);rw [e] at r5;simp -implicitDefEqProofs [qiI,H,r0,r1,z.cells.is,hl,o,m,A,a.is,x,k,c,qsE,r5];exact ⟨by omega,C⟩
theorem qx3 (A:Rd w lv xs) (l:z8 (xs.map (·.nd))) (k:xs.length<4611686018427387904) (i:Int):Calls Tryz.prog 45 #[lv, .int .i64 i] w fun e w'=>
  (∃n:Nat,e= .returned (.tuple #[.int .i64 (n:Int), .int .i64 (jm (xs.map (·.nd)) i)])∧(jm (xs.map (·.nd)) i≠0→n=0)∧(jm (xs.map (·.nd)) i=0→∀u,jK (xs.map (·.nd)) i.toNat u→n=u.size))∧qb w w':=by
 generalize j:(fun (e:Ending) (w':World)=>(∃n:Nat,e= .returned (.tuple #[.int .i64 (n:Int), .int .i64 (jm (xs.map (·.nd)) i)])∧(jm (xs.map (·.nd)) i≠0→n=0)∧(jm (xs.map (·.nd)) i=0→∀u,jK (xs.map (·.nd)) i.toNat u→n=u.size))∧qb w w')=R;refine qBc fun ρ r0 r1=> ?_;simp -implicitDefEqProofs [qoI,r0,r1];refine (qlx A l k i).mono ?_;rintro _ E ⟨rfl,y⟩;by_cases a:jm (xs.map (·.nd)) i=0
 ·obtain ⟨S,F,g,x,t,u,O,C,p,z⟩:=qcr a;rw [List.length_map] at g p;have c:=qgn A (by omega) u.size u i.toNat E y (Nat.le_refl _) z;rw [x] at c;simp -implicitDefEqProofs [a,qoH,r0,r1];refine c.mono ?_;rintro _ J ⟨rfl,o⟩;simp -implicitDefEqProofs;rw [←j];refine ⟨⟨u.size,by rw [a],fun h=>absurd a h,fun _ v H=> ?_⟩,y.trans' o⟩;rw [jK.uniq u.size (Nat.le_refl _) z H]
 ·have m:(jm (xs.map (·.nd)) i !=0)=true:=bne_iff_ne.2 a;simp -implicitDefEqProofs [m];rw [←j];exact ⟨⟨0,rfl,fun _=>rfl,fun h=>absurd h a⟩,y⟩
theorem qv1:xG Tryz.prog 99=some (44,6):=by kernel_rfl
theorem qxx:ke Tryz.prog 99=some (44,6,88):=by kernel_rfl
theorem qxZ (hR:Rd w lv xs) (al:xs.length≤1000000) (hok:z8 (xs.map (·.nd))) (ad:∀x∈xs.map (·.nd),∀k∈x.kids,0≤k∧k≤1000000) {u:T} {i:Nat} (hu:jK (xs.map (·.nd)) i u):
  Calls Tryz.prog 108 #[lv, .int .i64 (i:Int)] w fun e w'=>∃v ys,e= .returned v∧OwnN w.heap.size w' v ys∧qb w w'∧ys.map (·.nd)=u.flat 0:=by
 have hl:=hR.len;have his:=hR.cells.is;generalize hRR:(fun (e:Ending) (w':World)=>∃v ys,e= .returned v∧OwnN w.heap.size w' v ys∧qb w w'∧ys.map (·.nd)=u.flat 0)=R;have hilt:i<xs.length:=by have:=hu.lt;rwa [List.length_map] at this
 have hule:=hu.le;have hus:=u.size_pos;obtain ⟨f,hf⟩:∃f:Nat,f=i+1 - u.size:=⟨_,rfl⟩;have hw1:IntKind.i64.wrap ((i:Int)+1)=(i:Int)+1:=qp (by omega);have hwf:IntKind.i64.wrap ((i:Int)+1 - (u.size:Int))=(f:Int):=by rw [qp (by omega)];omega
 have Z:=hu.cut;rw [←hf,←List.map_take,←List.map_drop] at Z;refine qEr fun ρ r0 r1=> ?_;simp -implicitDefEqProofs [qsD,r0,r1,hw1];refine (qgn hR al u.size u i w (qz _) (Nat.le_refl _) hu).mono ?_;rintro _ w1 ⟨rfl,hE1⟩;simp -implicitDefEqProofs [hwf];obtain ⟨I,hI⟩:∃I:Nat→qa→World→Prop,∀k j w',I k j w'↔(j 0=lv∧j 1= .int .i64 (i:Int)∧j 5= .int .i64 (f:Int)∧qb w w'∧∃ys,OwnN w.heap.size w' (j 6) ys∧ys.length=k - f∧ys.map (·.nd)=((xs.take k).drop f).map fun x=>zC (· - (f:Int)) x.nd):=⟨_,fun _ _ _=>Iff.rfl⟩;refine qzQ 7 f (i+1) I (by simp) (by omega) ((hI _ _ _).2 ⟨by simp [r0],by simp [r1],by simp,hE1,[],by simpa using OwnN.nil _ _,by simp,by rw [List.drop_eq_nil_of_le (by rw [List.length_take];omega)];rfl⟩) ?_;clear r0 r1;rintro k j w' hfk hk rk hIw;obtain ⟨r0,r1,r5,hE,ys,H,hyl,hym⟩:=(hI _ _ _).1 hIw;have hwk:IntKind.i64.wrap ((k:Int)+1)=(k:Int)+1:=qp (by omega);generalize ah:j 6=ov at H;by_cases hlt:k≤i
 ·have C:(k:Int)≤(i:Int):=by omega
  have A:k<xs.length:=by omega
  have hkx':(k:Int)<(xs.length:Int):=by omega
  have hR':=hR.ext hE;have ac:=hR'.row A;have h:=hR'.kids xs[k] (List.getElem_mem _);have am:=ad _ (List.mem_map_of_mem (List.getElem_mem A));have hkn:=hok.2 _ (List.mem_map_of_mem (List.getElem_mem A));have htk:xs.take (k+1)=xs.take k++[xs[k]]:=List.take_succ_eq_append_getElem A;generalize xs[k]=x at ac h am hkn htk;have O:=vl h.is;have hko:=vU h.is;have hkl:qk x.kv=x.nd.kids.length:=by simpa using h.len.symm
  simp -implicitDefEqProofs [qiG,rk,r1,C,qsy,r0,his,hl,hkx',A,ac];refine qR ww fun X w3 hX hE3 hb3 _=> ?_;simp -implicitDefEqProofs;refine jl (B:=X) (by simp) hb3 (by simp [Value.cells,qi,O]) (by simp [Value.cells,qi,O,hko]) (by simpa [Value.cells,qi,O] using wE) fun S hO4 hb4=> ?_;have ae:qb w' S:=hO4.ext hE3 hX;have U:Blk S X (qi x).toArray 44:=by simpa [Value.cells,qi,O] using hb4
  have hX4:X<S.heap.size:=U.lt;simp -implicitDefEqProofs;obtain ⟨J,hJ⟩:∃J:Nat→qa→World→Prop,∀m a w7,J m a w7↔(a 0=lv∧a 1= .int .i64 (i:Int)∧a 5= .int .i64 (f:Int)∧a 6=ov∧a 7= .int .i64 (k:Int)∧a 8= .pointer (some ⟨X,0,none⟩)∧qb S w7∧Own S.heap.size 3 1 w7 (a 9) ((x.nd.kids.take m).map fun q=> .int .i64 (q - (f:Int)))):=⟨_,fun _ _ _=>Iff.rfl⟩;refine jj 10 x.nd.kids.length J (by simp) ((hJ _ _ _).2 ⟨by simp [r0],by simp [r1],by simp [r5],by simp [ah],by simp [rk],by simp,qz _,by simpa using Own.nil _ _ _ _⟩) ?_;clear r0 r1 r5 rk ah;rintro m a w7 hm rm hJw;obtain ⟨r0,r1,r5,r6,r7,r8,F,n⟩:=(hJ _ _ _).1 hJw;have hwm:IntKind.i64.wrap ((m:Int)+1)=(m:Int)+1:=qp (by omega);have hb7:=U.ext F;have c5:w7.cell? ⟨X,5,none⟩=some x.kv:=by rw [hb7.cell];rfl
  generalize o:a 9=kv at n;by_cases l:m<x.nd.kids.length
  ·have p:(m:Int)<(x.nd.kids.length:Int):=by omega
   have g:=(h.ext (ae.trans' F)).cell m (by simpa using l);simp only [List.getElem_map,encI] at g;have htq:x.nd.kids.take (m+1)=x.nd.kids.take m++[x.nd.kids[m]]:=List.take_succ_eq_append_getElem l;have hq:=am _ (List.getElem_mem l);generalize x.nd.kids[m]=q at g htq hq;have hwq:IntKind.i64.wrap (q - (f:Int))=q - (f:Int):=qp (by omega);simp -implicitDefEqProofs [qiH,rm,r8,c5,h.is,hkl,p,l,qsB,o,g,r5,hwq];refine jN QB (by decide) (by decide) (by simp [Value.cells]) fun B5 W5 hB5 hE5 aj _=> ?_;simp [Value.cells] at aj;simp -implicitDefEqProofs;refine kF QH (W0:=S) (F.trans' hE5) (sv:=kv) (xv:= .slice (some ⟨B5,0,none⟩) 1 1) (by simp [o]) (by simp) (n.ext hE5) (Blk.cells (cs:=[.int .i64 (q - (f:Int))]) aj (by simp)) (by simp [Value.oneCell']) (by simp;omega) (by simp;omega) fun v' W6 hE6 ho6 _ _=> ?_;simp -implicitDefEqProofs [qsC,rm,hwm,l];refine (hJ _ _ _).2 ⟨by simp [r0],by simp [r1],by simp [r5],by simp [r6],by simp [r7],by simp [r8],hE6, ?_⟩;rw [htq,List.map_append];simpa using ho6
  ·have p:¬(m:Int)<(x.nd.kids.length:Int):=by omega
   rw [List.take_of_length_le (by omega)] at n;simp -implicitDefEqProofs [qiH,rm,r8,c5,h.is,hkl,p,l,qsA,o];have hkvc:=vl n.isl;refine qK (B:=X) (i:=5) (by simp) hb7 (by simp [qi]) (by simp [hkvc]) (by simp [vU n.isl]) qvy fun w8 hO8 hb8=> ?_;obtain ⟨y,hy⟩:∃y:NV,y=⟨zC (· - (f:Int)) x.nd,kv⟩:=⟨_,rfl⟩;have ai:Blk w8 X (qi y).toArray 44:=xn hb8 (by subst hy;simp [qi,zC]);have ag:Eng.jq w8 ⟨X,0,none⟩ 0 6=some (qi y):=by have:=kT ai;simpa [qi] using this
   have hE8:qb w' w8:=hO8.ext (ae.trans' F) hX;have E:Own S.heap.size 3 1 w8 y.kv (y.nd.kids.map encI):=by
    have:=n.only hO8 hX4;subst hy;simpa [zC,encI,Function.comp_def] using this
   have hyc:(ju y).cells=(qi y).toArray:=kf E.isl;have eA:Value.agg (qi y).toArray=ju y:=rfl;simp -implicitDefEqProofs [r6,r8,ag,eA];refine jN qv1 (by decide) (by decide) (by simp [hyc,qi]) fun Y w9 hY af hb9 _=> ?_;simp [hyc] at hb9;have aa:=hE8.trans' af;have c:=H.ext aa;simp -implicitDefEqProofs [r6];refine kF qxx (W0:=w) (hE.trans' aa) (sv:=ov) (xv:= .slice (some ⟨Y,0,none⟩) 1 1) (by simp [r6]) (by simp) c.own (Blk.cells (cs:=qi y) hb9 (by simp [qi])) (qmn E.isl) (by rw [wJ];simp [qi];omega) (by rw [wJ];simp [qi];omega) fun v' w10 V ak ab _=> ?_;have hkk:Own S.heap.size 3 1 w10 y.kv (y.nd.kids.map encI):=Own.kept (E.ext af) ab (qat (E.ext af) c.own (by decide));have hny:=ql4 H (Own.le hkk ae.size) hE.size V ak fun z hz=>Own.kept (c.kid z hz) ab (qat (c.kid z hz) c.own (by decide));simp -implicitDefEqProofs [qsz,r7,hwk];refine ⟨by omega,(hI _ _ _).2 ⟨by simp [r0],by simp [r1],by simp [r5],V,ys++[y],by simpa using hny,by simp [hyl];omega, ?_⟩⟩;rw [List.map_append,hym,htk,List.drop_append_of_le_length (by rw [List.length_take];omega),List.map_append,hy];simp
 ·have C:¬(k:Int)≤(i:Int):=by omega
  have hki:k=i+1:=by omega
  simp -implicitDefEqProofs [qiG,rk,r1,C,qsx,ah];subst hki;rw [←hRR];refine ⟨ov,ys,rfl,H,hE, ?_⟩;have e:((xs.take (i+1)).drop f).map (fun x=>zC (· - (f:Int)) x.nd)=(((xs.take (i+1)).drop f).map (·.nd)).map (zC (· - (f:Int))):=by rw [List.map_map];rfl
  rw [hym,e,Z,qsY]
theorem qx2 (O:Rd w lv xs) (j:z8 (xs.map (·.nd))) (n:xs.length<4611686018427387904) (i:Int):Calls Tryz.prog 47 #[lv, .int .i64 i] w fun e w'=>
  ∃v ys,e= .returned (.tuple #[v, .int .i64 (jm (xs.map (·.nd)) i)])∧OwnN w.heap.size w' v ys∧qb w w'∧(jm (xs.map (·.nd)) i≠0→ys=[])∧(jm (xs.map (·.nd)) i=0→∀u,jK (xs.map (·.nd)) i.toNat u→ys.map (·.nd)=u.flat 0):=by
 generalize m:(fun (e:Ending) (w':World)=>∃v ys,e= .returned (.tuple #[v, .int .i64 (jm (xs.map (·.nd)) i)])∧OwnN w.heap.size w' v ys∧qb w w'∧(jm (xs.map (·.nd)) i≠0→ys=[])∧(jm (xs.map (·.nd)) i=0→∀u,jK (xs.map (·.nd)) i.toNat u→ys.map (·.nd)=u.flat 0))=R;refine qA8 fun ρ r0 r1=> ?_;simp -implicitDefEqProofs [qow,r0,r1];refine (qlx O j n i).mono ?_;rintro _ w2 ⟨rfl,o⟩;by_cases c:jm (xs.map (·.nd)) i=0
 ·obtain ⟨hc,Z,l,F,t,u,V,S,E,J⟩:=qcr c;rw [List.length_map] at l E;have y:vA (xs.map (·.nd))=true:=by rw [V];exact qdl t
  have a:=qbJ y;have g:=qxZ (O.ext o) (by omega) j (fun x Y k U=>by have:=a x Y k U;rw [List.length_map] at this;omega) J;rw [F] at g;simp -implicitDefEqProofs [c,qov,r0,r1];refine g.mono ?_;rintro _ w3 ⟨v,ys,rfl,p,A,H⟩;simp -implicitDefEqProofs;rw [←m];refine ⟨v,ys,by rw [c],p.le o.size,o.trans' A,fun h=>absurd c h,fun _ u2 C=> ?_⟩;rw [H,jK.uniq u.size (Nat.le_refl _) J C]
 ·have z:(jm (xs.map (·.nd)) i !=0)=true:=bne_iff_ne.2 c;simp -implicitDefEqProofs [z];rw [←m];exact ⟨_,[],rfl,OwnN.nil _ _,o,fun _=>rfl,fun h=>absurd h c⟩
end
theorem qym (t:T) {o1 o2:List Int} (j:o1.length=t.size) (A:o2.length=t.size) (u:o1[t.size - 1]? =o2[t.size - 1]?):xd 0 (t.flat 0) o1=xd 0 (t.flat 0) o2:=by
 have C:=t.size_pos;have h:∀x∈t.flat 0,∀k∈x.kids,0≤k∧k<(t.size:Int) - 1:=fun x c k h=>by
  have j:0<(vT (t.flat 0)).count k:=List.count_pos_iff.2 (List.mem_flatMap.2 ⟨x,c,h⟩);rw [qeU] at j;unfold vq at j;split at j<;>omega
 have g:∀k,(vT (t.flat 0)).count k≤1:=fun k=>by rw [qeU];unfold vq;split<;>omega
 apply List.ext_getElem?;intro i;by_cases y:i+1<t.size
 ·obtain ⟨p,x,c,e⟩:=qyl y;have n:=qgz (t.flat 0) 0 o1 (fun x c k a=>by rw [j];have:=h x c k a;omega) g p x c _ e;have l:=qgz (t.flat 0) 0 o2 (fun x c k a=>by rw [A];have:=h x c k a;omega) g p x c _ e;rw [Int.toNat_natCast] at n l;rw [n,l]
 ·by_cases o:i=t.size - 1
  ·have z:(((t.size - 1:Nat):Int)).toNat=t.size - 1:=by omega
   have m:∀x∈t.flat 0,¬(((t.size - 1:Nat):Int))∈x.kids:=fun x c e=>by have:=h x c _ e;omega
   have n:=qdn (t.flat 0) 0 o1 (((t.size - 1:Nat):Int)) m (fun x c k a=>(h x c k a).1) (by omega);have l:=qdn (t.flat 0) 0 o2 (((t.size - 1:Nat):Int)) m (fun x c k a=>(h x c k a).1) (by omega);rw [z] at n l;rw [o,n,l,u]
  ·rw [List.getElem?_eq_none (by rw [qdo];omega),List.getElem?_eq_none (by rw [qdo];omega)]
section
variable {w:World} {lv:Value} {xs:List NV}
theorem qx4 (hR:Rd w lv xs) (hok:z8 (xs.map (·.nd))) (hlen0:xs.length<4611686018427387904):Calls Tryz.prog 46 #[lv] w fun e w'=>∃v,e= .returned (.tuple #[v, .int .i64 (wQ (jI (xs.map (·.nd))))])∧Cells w' v 1 ((if jI (xs.map (·.nd)) then wG (xs.map (·.nd)) else []).map encI)∧qb w w':=by
 have hl:=hR.len;have y:=hR.cells.is;generalize ac:(fun (e:Ending) (w':World)=>∃v,e= .returned (.tuple #[v, .int .i64 (wQ (jI (xs.map (·.nd))))])∧Cells w' v 1 ((if jI (xs.map (·.nd)) then wG (xs.map (·.nd)) else []).map encI)∧qb w w')=R;refine qBa fun ρ r0=> ?_;simp -implicitDefEqProofs [qoG,r0];refine (qgp hR hok.q.1 hok.q.2 hlen0).mono ?_;rintro _ w2 ⟨rfl,hE⟩;cases hc:jI (xs.map (·.nd)) with
 |false=>
  simp -implicitDefEqProofs;rw [←ac,hc];exact ⟨.slice none 0 0,rfl,⟨rfl,rfl,fun j hj=>by simp at hj⟩,hE⟩
 |true=>
  obtain ⟨t,ht,h400⟩:=Ji hc;have ad:xs.length=t.size:=by rw [←T.flat_len t 0,←ht,List.length_map]
  have hpos:=t.size_pos;have hpk:vA (xs.map (·.nd))=true:=by rw [ht];exact qdl t
  have hout:wG (xs.map (·.nd))=xd 0 (xs.map (·.nd)) (List.replicate xs.length (-1)):=by
   unfold wG;rw [ht];rw [T.flat_len];exact qym t (by simp) (by simp [ad]) (by rw [ad,List.getElem?_set_self (by simp;omega),List.getElem?_replicate,if_pos (by omega)])
  rw [hout] at ac;generalize hout2:xd 0 (xs.map (·.nd)) (List.replicate xs.length (-1))=ab at ac;simp -implicitDefEqProofs [qoC,r0,y,hl];refine qiU (n:=xs.length) qmq (by simp;rfl) (by simp;rfl) (by omega) (by omega) (fun i z hi hz=> ?_) fun B w3 hB hE3 hb3=> ?_
  ·have h1:(match (Tryz.prog.info? 3).bind fun i=>i.zero with|some z=>z.cells.size==1|none=>false)=true:=by kernel_rfl
   rw [hi] at h1;simp only [Option.bind_some,hz] at h1;simpa using h1
  have A:qo (.slice (some ⟨B,0,none⟩) xs.length xs.length)=true:=by simp [qo]
  have E:qk (.slice (some ⟨B,0,none⟩) xs.length xs.length)=xs.length:=rfl;have C:∀k,qD (.slice (some ⟨B,0,none⟩) xs.length xs.length) k=⟨B,k,none⟩:=fun k=>by simp [qD]
  generalize hov:(Value.slice (some ⟨B,0,none⟩) xs.length xs.length)=ov at A E C;have ae:Blk w3 B ((List.replicate xs.length (0:Int)).map encI).toArray 3:=by rw [List.map_replicate];exact xn hb3 (by simp [encI])
  simp -implicitDefEqProofs [hov];obtain ⟨I,hI⟩:∃I:Nat→qa→World→Prop,∀j c w',I j c w'↔(c 0=lv∧c 5=ov∧qb w2 w'∧∃os:List Int,os.length=xs.length∧os.take j=List.replicate j (-1)∧Blk w' B (os.map encI).toArray 3):=⟨_,fun _ _ _=>Iff.rfl⟩;refine jj 6 xs.length I (by simp) ((hI _ _ _).2 ⟨by simp [r0],by simp,hE3,_,by simp,by simp,ae⟩) ?_;clear ae hb3 r0;rintro j c w' hj rj hIw;obtain ⟨r0,r5,p,os,m,Z,h⟩:=(hI _ _ _).1 hIw;have hwj:IntKind.i64.wrap ((j:Int)+1)=(j:Int)+1:=qp (by omega);by_cases hlt:j<xs.length
  ·have Y:(j:Int)<(xs.length:Int):=by omega
   simp -implicitDefEqProofs [qhv,rj,r0,y,hl,Y,hlt,qoE,r5,A,E,C];refine qK (B:=B) (i:=j) (by simp) h (by simp;omega) (by simp [Value.cells]) (by simp) qaj fun w8 hO8 hb8=> ?_;have H:Blk w8 B ((os.set j (-1)).map encI).toArray 3:=by
    rw [List.map_set];simpa [encI] using hb8
   simp -implicitDefEqProofs [qoF,rj,hwj,hlt];refine (hI _ _ _).2 ⟨by simp [r0],by simp [r5],hO8.ext p hB,_,by simpa using m, ?_,H⟩;rw [List.take_succ_eq_append_getElem (by simp;omega),List.take_set,List.set_eq_of_length_le (by rw [List.length_take];omega),Z];simp [List.replicate_succ']
  ·have Y:¬(j:Int)<(xs.length:Int):=by omega
   have hos:os=List.replicate xs.length (-1):=by
    rw [List.take_of_length_le (by omega)] at Z;rw [Z];congr 1;omega
   subst hos;simp -implicitDefEqProofs [qhv,rj,r0,y,hl,Y,hlt,qoD];obtain ⟨J,hJ⟩:∃J:Nat→qa→World→Prop,∀j c w',J j c w'↔(c 0=lv∧c 5=ov∧qb w2 w'∧∃os:List Int,os.length=xs.length∧Blk w' B (os.map encI).toArray 3∧xd j ((xs.drop j).map (·.nd)) os=ab):=⟨_,fun _ _ _=>Iff.rfl⟩;refine jj 7 xs.length J (by simp) ((hJ _ _ _).2 ⟨by simp [r0],by simp [r5],p,_,by simp,h,by simpa using hout2⟩) ?_;clear h p r0 r5 rj Z m;rintro i ρ2 w4 hi ri hJw;obtain ⟨r0,r5,p,os,m,h,a⟩:=(hJ _ _ _).1 hJw;have hwi:IntKind.i64.wrap ((i:Int)+1)=(i:Int)+1:=qp (by omega);have hRW:=(hR.ext hE).ext p;by_cases F:i<xs.length
   ·have u:(i:Int)<(xs.length:Int):=by omega
    have hck:=(hR.ext hE).cell (k:=i) (j:=5) F (by omega);simp [qi] at hck;have g:=(hR.ext hE).kids xs[i] (List.getElem_mem _);have V:=qbJ hpk xs[i].nd (List.mem_map.2 ⟨xs[i],List.getElem_mem _,rfl⟩);rw [List.length_map] at V;have hkle:=hok.2 xs[i].nd (List.mem_map.2 ⟨xs[i],List.getElem_mem _,rfl⟩);rw [List.drop_eq_getElem_cons F,List.map_cons] at a;generalize xs[i]=x at hck g V hkle a;have l:xd (i+1) ((xs.drop (i+1)).map (·.nd)) (x.nd.kids.foldl (fun o k=>o.set k.toNat (i:Int)) os)=ab:=a;have hkl:qk x.kv=x.nd.kids.length:=by simpa using g.len.symm
    simp -implicitDefEqProofs [qht,ri,r0,y,hl,u,F,qoy];obtain ⟨J2,hJ2⟩:∃J2:Nat→qa→World→Prop,∀q c w',J2 q c w'↔(c 0=lv∧c 5=ov∧c 7= .int .i64 (i:Int)∧qb w2 w'∧∃os:List Int,os.length=xs.length∧Blk w' B (os.map encI).toArray 3∧xd (i+1) ((xs.drop (i+1)).map (·.nd)) ((x.nd.kids.drop q).foldl (fun o k=>o.set k.toNat (i:Int)) os)=ab):=⟨_,fun _ _ _=>Iff.rfl⟩;refine jj 8 x.nd.kids.length J2 (by simp) ((hJ2 _ _ _).2 ⟨by simp [r0],by simp [r5],by simp [ri],p,os,m,h,l⟩) ?_;clear a l h r0 r5 ri m hRW p;rintro q ρ3 w7 hq rq hJw;obtain ⟨r0,r5,r7,aa,os,m,h,a⟩:=(hJ2 _ _ _).1 hJw;have hwq:IntKind.i64.wrap ((q:Int)+1)=(q:Int)+1:=qp (by omega);have af:=aa.cell hck;by_cases U:q<x.nd.kids.length
    ·have O:(q:Int)<(x.nd.kids.length:Int):=by omega
     have S:w7.cell? (qD x.kv q)=some (.int .i64 x.nd.kids[q]):=by
      rw [(g.ext aa).cell q (by simpa using U)];simp [encI]
     have hrk:=V x.nd.kids[q] (List.getElem_mem _);rw [List.drop_eq_getElem_cons U,List.foldl_cons] at a;generalize x.nd.kids[q]=k at S hrk a;have hkn:k.toNat<xs.length:=by omega
     simp -implicitDefEqProofs [qhu,rq,r0,r7,y,hl,u,F,af,g.is,hkl,O,U,qoA,S,r5,A,E,hrk.1,hrk.2,C];refine qK (B:=B) (i:=k.toNat) (by simp) h (by simp;omega) (by simp [Value.cells]) (by simp) qaj fun w8 hO8 hb8=> ?_;have H:Blk w8 B ((os.set k.toNat (i:Int)).map encI).toArray 3:=by
      rw [List.map_set];simpa [encI] using hb8
     simp -implicitDefEqProofs [qoB,rq,hwq,U];exact (hJ2 _ _ _).2 ⟨by simp [r0],by simp [r5],by simp [r7],hO8.ext aa hB,_,by simpa using m,H,a⟩
    ·have O:¬(q:Int)<(x.nd.kids.length:Int):=by omega
     have hd0:x.nd.kids.drop q=[]:=List.drop_eq_nil_iff.2 (by omega);rw [hd0] at a;simp -implicitDefEqProofs [qhu,rq,r0,r7,y,hl,u,F,af,g.is,hkl,O,U,qoz,hwi];exact (hJ _ _ _).2 ⟨by simp [r0],by simp [r5],aa,os,m,h,a⟩
   ·have u:¬(i:Int)<(xs.length:Int):=by omega
    have hd0:xs.drop i=[]:=List.drop_eq_nil_iff.2 (by omega);rw [hd0] at a;have l:os=ab:=a;subst l;simp -implicitDefEqProofs [qht,ri,r0,y,hl,u,F,qox,r5];rw [←ac,hc];refine ⟨ov,rfl, ?_,hE.trans' p⟩;simp only [if_true];refine ⟨A,by simp [E,m],fun q hq=> ?_⟩;rw [C,h.cell];simp at hq;simp [hq]
end
end Go.L02
