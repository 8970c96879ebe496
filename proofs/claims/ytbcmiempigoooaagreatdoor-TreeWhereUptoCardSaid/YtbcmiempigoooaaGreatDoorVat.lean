/- Lemmas for a claim about layer 2 (tree). No conditions but those they state. -/
import Derived.Test.YtbcmiempigoooaaGreatDoorVas
import Derived.Shelf.Strings.OnBuilder
import Derived.Test.YtbcmiempigoooaaGreatDoorProg
import Derived.KernelRfl
set_option linter.all false
noncomputable section
namespace Go.Proofs
open Go.Shelf
def Tryz.lays156_ren:Go.Shelf.Ren:=⟨fun|156=>34|165=>88|166=>89|169=>90|240=>177|241=>178|276=>247|277=>248|n=>n,fun|31=>51|9=>9|3=>3|4=>4|0=>0|20=>20|72=>114|76=>127|70=>111|37=>112|75=>126|127=>196|164=>254|5=>5|80=>129|n=>n,fun|n=>n⟩
def Tryz.lays156:Go.Proofs.Lays.n156 Tryz.prog Tryz.lays156_ren:={
 mixed:=by kernel_rfl
 f156:=fT Tryz.func34 (by kernel_rfl)
 f165:=fT Tryz.func88 (by kernel_rfl)
 f166:=fT Tryz.func89 (by kernel_rfl)
 f169:=fT Tryz.func90 (by kernel_rfl)
 f240:=fT Tryz.func177 (by kernel_rfl)
 f241:=fT Tryz.func178 (by kernel_rfl)
 f276:=fT Tryz.func247 (by kernel_rfl)
 f277:=fT Tryz.func248 (by kernel_rfl)
 t0:=Tryz.underlying0
 a0:=Tryz.isAgg0
 z0:=Tryz.sizeOf0
 v0:=Tryz.zeroValue0
 t3:=Tryz.underlying3
 a3:=Tryz.isAgg3
 z3:=Tryz.sizeOf3
 v3:=Tryz.zeroValue3
 t4:=Tryz.underlying4
 a4:=Tryz.isAgg4
 z4:=Tryz.sizeOf4
 v4:=Tryz.zeroValue4
 t9:=Tryz.underlying9
 a9:=Tryz.isAgg9
 z9:=Tryz.sizeOf9
 v9:=Tryz.zeroValue9
 t20:=Tryz.underlying20
 a20:=Tryz.isAgg20
 z20:=Tryz.sizeOf20
 v20:=Tryz.zeroValue20
 t31:=Tryz.underlying51
 a31:=Tryz.isAgg51
 z31:=Tryz.sizeOf51
 v31:=Tryz.zeroValue51
 t37:=Tryz.underlying112
 a37:=Tryz.isAgg112
 z37:=Tryz.sizeOf112
 v37:=Tryz.zeroValue112
 t70:=Tryz.underlying111
 a70:=Tryz.isAgg111
 z70:=Tryz.sizeOf111
 v70:=Tryz.zeroValue111
 t72:=Tryz.underlying114
 a72:=Tryz.isAgg114
 z72:=Tryz.sizeOf114
 v72:=Tryz.zeroValue114
 t75:=Tryz.underlying126
 a75:=Tryz.isAgg126
 z75:=Tryz.sizeOf126
 v75:=Tryz.zeroValue126
 t76:=Tryz.underlying127
 a76:=Tryz.isAgg127
 z76:=Tryz.sizeOf127
 v76:=Tryz.zeroValue127
 t127:=Tryz.underlying196
 a127:=Tryz.isAgg196
 z127:=Tryz.sizeOf196
 v127:=Tryz.zeroValue196
 t164:=Tryz.underlying254
 a164:=Tryz.isAgg254
 z164:=Tryz.sizeOf254
 v164:=Tryz.zeroValue254}
theorem Tryz.extra156:Builder.Extra Tryz.prog Tryz.lays156_ren where
 sizeBuilder:=by kernel_rfl
 liesBuilder:=by kernel_rfl
 t5:=Tryz.underlying5
 a5:=Tryz.isAgg5
 z5:=Tryz.sizeOf5
 v5:=Tryz.zeroValue5
 infoByte:=by kernel_rfl
 cellsByte:=by kernel_rfl
 sizeByte:=by kernel_rfl
 neB5:=by decide
open Go.RowKit in
def Tryz.join (bk o c:Nat) (xs:List ByteArray) (sep:ByteArray) (w:AA)
  (a:∀(j:Nat) x,xs[j]? =some x->w.cell? ⟨bk,o+j,none⟩=some (.string x))
  (k:bk<w.heap.size) (l:xs.length<=140737488355328) (g:xs.length<=c)
  (i:(Lib.join (xs.map (·.data.toList)) sep.data.toList).length<=140737488355328):
  Calls Tryz.prog 34 #[.slice (some ⟨bk,o,none⟩) xs.length c,.string sep] w fun e w'=>e=.returned (.string ⟨(Lib.join (xs.map (·.data.toList)) sep.data.toList).toArray⟩)/\Below w.heap.size w w':=Any.strings_Join Tryz.lays156 Tryz.extra156 bk o c xs sep w a k l g i
def Tryz.join0 (a:Option Addr) (c:Nat) (sep:ByteArray) (w:AA):
  Calls Tryz.prog 34 #[.slice a 0 c,.string sep] w fun e w'=>e=.returned (.string ⟨#[]⟩)/\w'=w:=Any.strings_Join_none Tryz.lays156 Tryz.extra156 a c sep w
end Go.Proofs
namespace Go.L02
open Go Go.Eng Go.RowKit
open Go.Proofs hiding encI
open Go.L01 (Bs Own.same Tok qJ qW qY qi)
set_option maxRecDepth 100000
set_option maxHeartbeats 2000000
@[simp] theorem qL8:qk Tryz.prog 34=true:=by kernel_rfl
@[simp] theorem qL7:qk Tryz.prog 88=true:=by kernel_rfl
@[simp] theorem qL9:qk Tryz.prog 177=true:=by kernel_rfl
def qiC (sep:Bs):∀ss:List Bs,Lib.join ss sep=kA sep ss
 |[]=>by simp [kA,Lib.join_nil]
 |[x]=>by simp [kA,Lib.join_one]
 |x::y::ys=>by
  have h:=qiC sep (y::ys);rw [Lib.join_cons] at h;rw [Lib.join_cons,kA,<-h];simp [Lib.joinTail]
def qoN {w:AA} {v:AB} {ss:List Bs} (sep:Bs) (h:Cells w v 1 (ss.map qi)) (hn:ss.length<=100000000000000) (E:(kA sep ss).length<=100000000000000):
  Calls Tryz.prog 34 #[v,.string (qb sep)] w fun e w'=>e=.returned (.string (qb (kA sep ss)))/\qc w w':=by
 have q:qm v=ss.length:=by simpa using h.len.symm
 have i:∀(a:Option Addr) (c:Nat),v=.slice a 0 c->Calls Tryz.prog 34 #[v,.string (qb sep)] w fun e w'=>e=.returned (.string (qb (kA sep ss)))/\qc w w':=by
  rintro a c rfl;have u:ss=[]:=by simpa [qm] using q.symm
  subst u;refine (Tryz.join0 a c (qb sep) w).mono ?_;rintro _ _ ⟨rfl,rfl⟩;exact ⟨by simp [kA,qb],jd _⟩
 rcases xF h.is with ⟨b,o,n,c,k,B⟩|k|⟨b,o,sp,k⟩
 ·by_cases u:ss=[]
  ·have:n=0:=by rw [k] at q;simpa [qm,u] using q
   subst this;exact i _ _ k
  ·have H:0<ss.length:=Jf.2 u;have A:n=ss.length:=by rw [k] at q;simpa [qm] using q
   have g:∀(j:Nat) x,(ss.map qb)[j]? =some x->w.cell? ⟨b,o+j,none⟩=some (.string x):=fun j x y=>by
    obtain ⟨l,y⟩:=u4.1 y;have:=h.cell j (by simpa using l);rw [k] at this;simp [qN,qi] at this y;rw [this,y]
   have z:b<w.heap.size:=by
    have:=g 0 (qb ss[0]) (by simp [H]);refine Nat.lt_of_not_le fun B=>?_;unfold World.cell? at this;simp only [JY B] at this;cases this
   have C:(ss.map qb).map (·.data.toList)=ss:=by simp [Function.comp_def,qb]
   have l:=Tryz.join b o c (ss.map qb) (qb sep) w g z (by simp;omega) (by simp;omega) (by rw [C];simp only [qb];rw [qiC];omega);rw [C] at l;simp only [qb,uq] at l;rw [qiC,<-A,<-k] at l;refine l.mono ?_;rintro _ w' ⟨rfl,F⟩;exact ⟨rfl,F⟩
 ·exact i _ _ k
 ·exact i _ _ k
end Go.L02
namespace Go.L02
open Go.Eng
open Go.L01 (Bs Res Tok first jA jO jX qC qF qJ qV qX qbZ qeF qei right vH vI wV wY wq yZ yw)
def qHH (k:Nat) (s:Bs) (c:UInt8):Bool:=if k=4 then jA (s++[c]) else if k=3 then qV c else L01.part c
structure At where
 k:Nat
 s:Bs
def At.ok (a:At):Prop:=if a.k=0 then a.s≠[]/\∀c∈a.s,L01.ww c=true else right a.k a.s=true
def At.then (a:At) (r:Bs):Prop:=a.k=0\/∀c x,r=c::x->qHH a.k a.s c=false
def At.ok.ne {a:At} (h:a.ok):a.s≠[]:=by
 unfold At.ok at h;split at h
 ·exact h.1
 ·exact (wq h).1
def sg (s:Bs):Nat×List At:=(2,[⟨4,s⟩])
def bk (s:Bs):Nat×List At:=(0,[⟨0,s⟩])
def wd (k:Nat) (s:Bs):Nat×List At:=(1,[⟨k,s⟩])
end Go.L02
namespace Go.L02
open Go Go.Eng Go.RowKit
open Go.Proofs hiding encI
open Go.L01 (Bs Own.same Tok qJ qW qY qi)
set_option maxRecDepth 100000
set_option maxHeartbeats 2000000
def qpm (i:Nat) (u:T) (j:Nat):Nat:=i+sizes (u.kids.take (j+1)) - u.size
structure NdR (w:AA) (l:List Nd) (nv:AB) (N i:Nat) (u:T) (kv:AB):Prop where
 is:qA nv=true
 len:qm nv=N
 lt:i<N
 cell:∀j,j<6->w.cell? (qN nv (i*6+j))=[Value.int .u8 (u.d.kind:Int),.string (qb u.d.name),.string (qb u.d.vr),.string (qb u.d.typ),.int .i64 u.d.n,kv][j]?
 kis:qA kv=true
 klen:qm kv=u.kids.length
 kids:Cells w kv 1 ((qg (i+1 - u.size) u.kids).map encI)
 kcell:∀j (h:j<u.kids.length),w.cell? (qN kv j)=some (.int .i64 (qpm i u j:Int))/\wz l (qpm i u j) u.kids[j]/\u.kids[j].size<u.size
def NdR.ext {w w':AA} {l:List Nd} {nv:AB} {N i:Nat} {u:T} {kv:AB} (h:NdR w l nv N i u kv) (a:qc w w'):NdR w' l nv N i u kv where
 is:=h.is
 len:=h.len
 lt:=h.lt
 cell j hj:=by
  have:=h.cell j hj;have c:j<[Value.int .u8 (u.d.kind:Int),.string (qb u.d.name),.string (qb u.d.vr),.string (qb u.d.typ),.int .i64 u.d.n,kv].length:=by simpa using hj
  rw [uj c] at this⊢;exact a.cell this
 kis:=h.kis
 klen:=h.klen
 kids:=h.kids.ext a
 kcell j hj:=⟨a.cell (h.kcell j hj).1,(h.kcell j hj).2⟩
def NdR.row {w:AA} {l:List Nd} {nv:AB} {N i:Nat} {u:T} {kv:AB} (h:NdR w l nv N i u kv):Eng.q4 w (qN nv (i*6)) 0 6=some [Value.int .u8 (u.d.kind:Int),.string (qb u.d.name),.string (qb u.d.vr),.string (qb u.d.typ),.int .i64 u.d.n,kv]:=by
 have:=wE (w:=w) (a:=qN nv (i*6)) (l:=[Value.int .u8 (u.d.kind:Int),.string (qb u.d.name),.string (qb u.d.vr),.string (qb u.d.typ),.int .i64 u.d.n,kv]) (i:=0) fun j g=>by
  have c:j<6:=by simpa using g
  rw [qba,ur,h.cell j c,uj g]
 exact this
section
variable {w:AA} {b:Nat} {nv:AB} {xs:List NV}
end
noncomputable def qpQ:Code:=((Tryz.f90.body).getD .skip)
def qpP:IR:=.ret
def qpS:IR:=zq [za 2 (.const (zs #[]))] <| .seq (.raw (qv qpQ 1)) (qpP)
def qpR:List Nat:=zV 14 [1]
def qDo:C1 90 14 qpR qpS [.tmp 2]:=c1 [1] Tryz.func90
def qpO:OT:=zy 3 (zv 0)<|zy 4 (zN (zv 3))<|zy 5 (zf 1 (zv 4))<|zy 6 (zl (zv 5))<|zy 8 (zv 0)<|zy 9 (zN (zv 8))<|zy 10 (zf 1 (zv 9))<|zy 11 (zl (zv 10))<|zy 12 (zL (zv 11))<| .step (zE 7 (.call {callee:=.builtin .unsafeSliceData,args:=#[zt 6],argTypes:=#[112]}) 196) true<| .step (zE 13 (.call {callee:=.builtin .unsafeString,args:=#[zt 7,zt 12],argTypes:=#[196,3]}) 9) false<| .step (zm 2 13) false<| .done
theorem qDn:jx Tryz.prog 14 qpR 10 (qv qpQ 1)=some qpO:=by kernel_rfl
def Pr (B b:Nat) (nv:AB) (op:Bool) (bs:Bs) (w:AA):Prop:=B<=b/\∃p v,Blk w b #[p,v,nv,.bool op] 116/\(p=.pointer none\/p=.pointer (some ⟨b,0,none⟩))/\w.ownsRow B 5 1 v bs.length (bs.map jE)/\v.ownBlock≠some b
def prP:Nat->TypeId->Prop:=fun _ T=>T≠116/\T≠5
def qy9 {w:AA} {b:Nat} {p v nv o:AB} (h:Blk w b #[p,v,nv,o] 116):w.shape? b=some (116,4):=by simp [World.shape?,h.heap]
theorem qCW:liesAt Tryz.prog Tryz.prog.depth 116 (4 / Tryz.prog.cellsOf 116) 0 114 1=true:=by kernel_rfl
def qAU (b:Nat) (w:AA) (a:w.cell? ⟨b,0,none⟩=some (.pointer (some ⟨b,0,none⟩))):
  Calls Tryz.prog 177 #[.pointer (some ⟨b,0,none⟩)] w fun e w'=>e=.returned (.tuple #[])/\w'=w:=L01.qk3 b w a
def qAV (b:Nat) (w:AA) {v nv o:AB} (h:Blk w b #[.pointer none,v,nv,o] 116):
  Calls Tryz.prog 177 #[.pointer (some ⟨b,0,none⟩)] w fun e w'=>e=.returned (.tuple #[])/\w'=w.setCell ⟨b,0,none⟩ (.pointer (some ⟨b,0,none⟩)):=by
 obtain ⟨j,g,c⟩:=L01.qke;have k:w.cell? ⟨b,0,none⟩=some (.pointer none):=by rw [h.cell];rfl
 have a:=qy9 h;have i:w.frozen? ⟨b,0,none⟩=false:=by simp [World.frozen?,h.heap]
 go_enter Tryz.func177,Tryz.ntmps177
 go_wp2
 rw [Lib.run_to_unsafe w ⟨b,0,none⟩ Tryz.underlying111 Tryz.underlying254 g (by rw [c];decide) a (Nat.zero_lt_succ 3)];simp only [Result.andThen];rw [Oper.upon_value]
 go_wp2
 rw [run_callFunc_extern Tryz.func247 (by kernel_rfl) (by kernel_rfl) (by kernel_rfl) (e:=Extern.AbiNoEscape.same) (by kernel_rfl),Lib.run_noEscape];simp only [Result.andThen];rw [Oper.upon_value]
 go_wp2
 rw [Lib.run_from_unsafe w ⟨b,0,none⟩ Tryz.underlying254 Tryz.underlying111 g a qCW];simp only [Result.andThen];rw [Oper.upon_value]
 go_wp2
 go_end0
 exact ⟨rfl,rfl⟩
def qAW {w:AA} {b:Nat} {p v nv o:AB} (h:Blk w b #[p,v,nv,o] 116) (hp:p=.pointer none\/p=.pointer (some ⟨b,0,none⟩)):
  Calls Tryz.prog 177 #[.pointer (some ⟨b,0,none⟩)] w fun e w'=>e=.returned (.tuple #[])/\Blk w' b #[.pointer (some ⟨b,0,none⟩),v,nv,o] 116/\Only b w w':=by
 rcases hp with rfl|rfl
 ·refine (qAV b w h).mono ?_;rintro _ _ ⟨rfl,rfl⟩;exact ⟨rfl,by simpa using qgt h 0 (.pointer (some ⟨b,0,none⟩)),qe4 _ _ _ _⟩
 ·refine (qAU b w (by rw [h.cell];rfl)).mono ?_;rintro _ _ ⟨rfl,rfl⟩;exact ⟨rfl,h,Only.refl _ _⟩
def qdy {w w':AA} {B:Nat} {v:AB} {n:Nat} {xs:List AB} (h:w.ownsRow B 5 1 v n xs) (j:∀k,v.ownBlock=some k->w'.heap[k]? =w.heap[k]?):w'.ownsRow B 5 1 v n xs:=by
 refine ⟨h.1, ?_⟩;rcases h.2 with a|⟨g,cap,cur,rfl,i,c,r⟩
 ·exact .inl a
 ·exact .inr ⟨g,cap,cur,rfl,i,(j g rfl).trans c,r⟩
def qnp {w:AA} {B:Nat} {v:AB} {n:Nat} {xs:List AB} (h:w.ownsRow B 5 1 v n xs) {k:Nat} (a:v.ownBlock=some k):∃cur,w.heap[k]? =some (.cells cur 5 (0,0)):=by
 rcases h.2 with ⟨rfl,_⟩|⟨g,cap,cur,rfl,i,c,r⟩
 ·simp at a
 ·simp at a;subst a;exact ⟨cur,c⟩
def Pr.ext {w w':AA} {B b:Nat} {nv:AB} {op:Bool} {bs:Bs} (h:Pr B b nv op bs w) (g:qc w w'):Pr B b nv op bs w':=by
 obtain ⟨j,p,v,i,hp,c,a⟩:=h;exact ⟨j,p,v,i.ext g,hp,qdy c (fun k o=>by obtain ⟨cur,l⟩:=qnp c o;exact g.block k (ul.1 l).1),a⟩
def Pr.at' {p:Nat->TypeId->Prop} {w w':AA} {B b:Nat} {nv:AB} {op:Bool} {bs:Bs} (h:Pr B b nv op bs w) (hs:qj p w w') (u:∀k,p k 116) (l:∀k,p k 5):Pr B b nv op bs w':=by
 obtain ⟨i,q,v,g,hp,c,a⟩:=h;exact ⟨i,q,v,g.at' hs (u _),hp,qdy c (fun k o=>by obtain ⟨cur,j⟩:=qnp c o;exact hs k _ _ _ j (l _)),a⟩
def Pr.nodes {w:AA} {B b:Nat} {nv:AB} {op:Bool} {bs:Bs} (h:Pr B b nv op bs w):w.cell? ⟨b,2,none⟩=some nv:=by
 obtain ⟨i,q,v,a,hp,g,c⟩:=h;rw [a.cell];rfl
structure Chg (w0 w w':AA):Prop where
 ext:qc w0 w'
 same:qj prP w w'
 size:w.heap.size<=w'.heap.size
def Chg.trans {w0 a b c:AA} (h:Chg w0 a b) (k:Chg w0 b c):Chg w0 a c:=⟨k.ext,h.same.trans k.same,Nat.le_trans h.size k.size⟩
def qvM {P:Program} {Q:Ks} {d:Option Nat} {b:Builtin} {args:Array Operand} {a:Array TypeId} {ty:TypeId} {K:qa->AA->Prop} {ρ:qa} {w:AA} (h:vD P Q d (.call {callee:=.builtin b,args:=args,argTypes:=a}) ty K ρ w):qB P Q d (.call {callee:=.builtin b,args:=args,argTypes:=a}) ty K ρ w:=h
def qpE:∀ss:List Bs,kA [] ss=ss.flatten
 |[]=>rfl
 |[x]=>by simp [kA]
 |x::y::ys=>by simp [kA,qpE (y::ys)]
def ndC (t:T) (kv:AB):List AB:=[Value.int .u8 (t.d.kind:Int),.string (qb t.d.name),.string (qb t.d.vr),.string (qb t.d.typ),.int .i64 t.d.n,kv]
structure StC (w0 W:AA) (b:Nat) (nv:AB) (bs ind:Bs) (t:T) (kv:AB) (P I X:Nat):Prop where
 ext:qc w0 W
 pr:Pr w0.heap.size b nv true bs W
 bP:Blk W P #[.pointer (some ⟨b,0,none⟩)] 110
 bI:Blk W I #[.string (qb ind)] 9
 bX:Blk W X (ndC t kv).toArray 44
section
variable {w0 W:AA} {b:Nat} {nv:AB} {bs ind:Bs} {t:T} {kv:AB} {P I X:Nat}
theorem StC.cs (h:StC w0 W b nv bs ind t kv P I X):W.cell? ⟨P,0,none⟩=some (.pointer (some ⟨b,0,none⟩))/\W.cell? ⟨I,0,none⟩=some (.string (qb ind))/\W.cell? ⟨X,0,none⟩=some (.int .u8 (t.d.kind:Int))/\W.cell? ⟨X,1,none⟩=some (.string (qb t.d.name))/\W.cell? ⟨X,3,none⟩=some (.string (qb t.d.typ))/\W.cell? ⟨X,5,none⟩=some kv:=
 ⟨by rw [h.bP.cell];rfl,by rw [h.bI.cell];rfl,by rw [h.bX.cell];rfl,by rw [h.bX.cell];rfl,by rw [h.bX.cell];rfl,by rw [h.bX.cell];rfl⟩
end
end Go.L02
namespace Go.L02
open Go.Eng
open Go.L01 (Bs Tok)
def vU {α:Type} (J:Nat) (P:α->Prop) (m:M α):Prop:=∀i f a j f',m i f=.ok a j f'->j<=J->P a
section
variable {L:List Tok} {α β:Type} {P:α->Prop} {Q:β->Prop} {J:Nat}
theorem qaY {m:M α} (h:Al P m):vU J P m:=fun i f a j c e _=>h i f a j c e
theorem kG {a:α} (h:P a):vU J P (ret a):=qaY (jt h)
theorem qwB:vU J P (oof:M α):=qaY qaa
theorem zW {m:M α} {k:α->M β} (hm:vU J P m) (o:∀a,Up (k a)) (q:∀a,P a->vU J Q (k a)):vU J Q (bnd m k):=by
 intro i f b j x h u;cases c:m i f with
 |oof=>rw [vc c] at h;cases h
 |no g=>rw [jT c] at h;cases h
 |ok a l g=>
  rw [jS c] at h;have:=((o a).ok h).1;exact q a (hm _ _ _ _ _ c (by omega)) _ _ _ _ _ h u
theorem zU {m:M α} {k:α->M β} (q:∀a,vU J Q (k a)):vU J Q (bnd m k):=by
 intro i f b j u h o;cases c:m i f with
 |oof=>rw [vc c] at h;cases h
 |no g=>rw [jT c] at h;cases h
 |ok a l g=>
  rw [jS c] at h;exact q a _ _ _ _ _ h o
theorem qd9 {s:Bs} {x y:M β} (c:vU J Q x) (a:vU J Q y):vU J Q (qt L s x y):=by
 intro i f b j g h;unfold qt at h;split at h
 ·exact c _ _ _ _ _ h
 ·exact a _ _ _ _ _ h
def kb (P:α->Prop) (l:List α):Prop:=∀x∈l,P x
theorem qkl {x:α} {l:List α} (h:P x) (c:kb P l):kb P (x::l):=by
 intro u a;rcases ug.1 a with rfl|a
 ·exact h
 ·exact c u a
theorem qwC {one:M α} (c:Up one) (a:vU J P one):∀n,vU J (kb P) (more L one n)
 |0=>qwB
 |n+1=>qd9 (zW a (fun _=>qh (qbN c n) fun _=>qr _) fun _ h=>zW (qwC c a n) (fun _=>qr _) fun _ g=>kG (qkl h g)) (kG (by simp [kb]))
theorem qk6 {one:M α} (a:Up one) (c:vU J P one) (n:Nat):vU J (fun l=>kb P l/\l.length<=J+1) (listed L n one):=by
 intro i f l j o h g;refine ⟨?_,by have:=qff a h;omega⟩;exact zW (Q:=kb P) c (fun _=>qh (qbN a n) fun _=>qr _) (fun _ h=>zW (qwC a c n) (fun _=>qr _) fun _ k=>kG (qkl h k)) _ _ _ _ _ h g
theorem qwE {one:M α} (a:Up one) (c:vU J P one) (n:Nat):vU J (fun l=>kb P l/\l.length<=J) (vh L n one):=by
 intro i f l j k h g;refine ⟨?_,by have:=qk0 a h;omega⟩;exact zU (Q:=kb P) (fun _=>qd9 (kG (by simp [kb])) (zW (qk6 a c n) (fun _=>qh (qq _) fun _=>qr _) fun _ h=>zU fun _=>kG h.1)) _ _ _ _ _ h g
end
section
variable {L:List Tok} (hL:jJ L) (hn:L.length<=20000)
include hL hn
theorem qwG (n:Nat) (it:Bool):vU L.length (fun b=>Sh b.1/\b.2.length<=L.length+1) (xG L n it):=by
 intro i f b j c h a;refine ⟨?_,by have:=qwp h;omega⟩;cases it with
 |true=>exact zU (Q:=fun b:Bs×List Bs=>Sh b.1) (fun _=>zW (qaY (qaZ hL hn n)) (fun _=>qh (qah n) fun _=>qr _) fun _ h=>zU fun _=>kG h) _ _ _ _ _ h a
 |false=>exact qd9 (Q:=fun b:Bs×List Bs=>Sh b.1) (zW (qaY (qaZ hL hn n)) (fun _=>qh (qah n) fun _=>qr _) fun _ h=>zU fun _=>kG h) (zU fun _=>kG wm) _ _ _ _ _ h a
theorem qwD (n:Nat) (it:Bool):vU L.length (fun h=>SgOk h.1/\h.2.length<=L.length) (head L n it):=
 zW (qwE (kg n) (qaY (qla hL hn n)) n) (fun _=>qh (qa6 n it) fun _=>qr _) fun l a=>zW (qwG hL hn n it) (fun _=>qr _) fun b c=>kG ⟨⟨by have:=c.1;unfold Sh at this;show b.1.length<_;omega,fun t g=>by
  obtain ⟨p,hp,rfl⟩:=uw.1 g;have:=(a.1 p hp).2;unfold Sh at this;omega,by have:=a.2;simp;omega,by have:=c.2;show b.2.length<=_;omega⟩,by have:=a.2;simpa using this⟩
theorem qwF (n:Nat):vU L.length NOk (wI L n):=by
 intro i f l j g h c;have k:bnd (needs L [[105,115]]) (fun _=>bnd (block L n) fun t=>bnd (needs L [[101,110,100]]) fun _=>ret (t.flat 0)) i f=.ok l j g:=h;refine zU (J:=L.length) (Q:=NOk) (fun _=>zW (P:=fun t:T=>TOk t/\t.size<=1000000) ?_ (fun _=>qh (qq _) fun _=>qr _) fun t a=>zU fun _=>kG (qCz a.1 a.2)) _ _ _ _ _ k c;intro i f t j g h c;have:=qms n _ _ _ _ _ h;exact ⟨qKg hL hn n _ _ _ _ _ h,by omega⟩
theorem qJ6 (n:Nat):vU L.length (fun x=>SgOk x.sig) (zC L n):=zU fun _=>zU fun _=>zU fun it=>zW (qwE (vi n) (qaY (qaZ hL hn n)) n) (fun _=>qh (qa6 n _) fun _=>qr _) fun l c=>
 zW (qwG hL hn n _) (fun _=>qr _) fun b a=>kG ⟨by have:=a.1;unfold Sh at this;show b.1.length<_;omega,fun t g=>by have:=c.1 t g;unfold Sh at this;omega,by have:=c.2;show l.length<=_;omega,by have:=a.2;show b.2.length<=_;omega⟩
theorem qwz (n:Nat):vU L.length (fun l=>kb (fun x:Need=>SgOk x.sig) l/\l.length<=L.length+1) (yk L n):=qd9 (zU fun _=>zU fun _=>qk6 (qcU n) (qJ6 hL hn n) n) (kG ⟨by simp [kb],by simp⟩)
def qec (r:Rout):Prop:=SgOk r.sig/\r.params.length<=1000000/\NOk r.nodes
theorem qJ4 (n:Nat):vU L.length qec (y4 L n):=zU fun it=>zU fun nm=>zW (qwD hL hn n it) (fun _=>qh (yT n) fun _=>qr _) fun h a=>zW (qwF hL hn n) (fun _=>qr _) fun l c=>kG ⟨a.1,by have:=a.2;show h.2.length<=_;omega,c⟩
theorem qwA (n:Nat):∀k,vU L.length (kb qec) (routs L n k)
 |0=>qwB
 |k+1=>by
  have o:∀r:Rout,Up (fun i f=>if qo L i [[112,114,111,99],[105,116,101,114]] then (bnd (routs L n k) fun rs=>ret (r::rs)) i f else .ok [r] i f):=fun r i f=>by
   by_cases hp:qo L i [[112,114,111,99],[105,116,101,114]]=true
   ·simp only [hp,wh];exact qh (qai n k) (fun _=>qr _) i f
   ·simp only [hp,uk,ud];exact ⟨kh _,kh _⟩
  refine zW (qJ4 hL hn n) o fun r a=>?_;intro i f l j u h q;by_cases hp:qo L i [[112,114,111,99],[105,116,101,114]]=true
  ·simp only [hp,wh] at h;exact zW (Q:=kb qec) (qwA n k) (fun _=>qr _) (fun _ g=>kG (qkl a g)) _ _ _ _ _ h q
  ·simp only [hp,uk,ud,Rs.ok.injEq] at h;obtain ⟨rfl,_,_⟩:=h;intro x c;rw [uu.1 c];exact a
omit hL hn in
theorem qnt (n:Nat):∀k i f l j g,routs L n k i f=.ok l j g->i+l.length<=j
 |0,_,_,_,_,_,h=>by cases h
 |k+1,i,f,l,j,g,h=>by
  have a:bnd (y4 L n) (fun r=>fun i f=>if qo L i [[112,114,111,99],[105,116,101,114]] then (bnd (routs L n k) fun rs=>ret (r::rs)) i f else .ok [r] i f) i f=.ok l j g:=h;cases o:y4 L n i f with
  |oof=>rw [vc o] at a;cases a
  |no g=>rw [jT o] at a;cases a
  |ok r q g1=>
   rw [jS o] at a;have x:=(qvZ n _ _ _ _ _ o).1;by_cases hp:qo L q [[112,114,111,99],[105,116,101,114]]=true
   ·simp only [hp,wh] at a;cases c:routs L n k q g1 with
    |oof=>rw [vc c] at a;cases a
    |no g=>rw [jT c] at a;cases a
    |ok xs u y=>
     rw [jS c] at a;simp only [ret,Rs.ok.injEq] at a;obtain ⟨rfl,rfl,_⟩:=a;have:=qnt n k _ _ _ _ _ c;simp;omega
   ·simp only [hp,uk,ud,Rs.ok.injEq] at a;obtain ⟨rfl,rfl,_⟩:=a;simp;omega
omit hL hn in
theorem sg0:SgOk ({}:Sig):=⟨by simp,by simp,by simp,by simp⟩
theorem qCm {a:List Bs} {rs:List Rout} (h:kb qec rs):kb (fun o:Opn=>SgOk o.sig) (ko a rs):=by
 intro o c;unfold ko at c;obtain ⟨i,j,rfl⟩:=List.mem_mapIdx.1 c;show SgOk (match rs[i]? with|some r=>r.sig|none=>{});cases g:rs[i]? with
 |none=>exact sg0
 |some r=>exact (h r (Jl g)).1
theorem qJ7 (n:Nat):vU L.length MdOk (Qq L n):=zU fun nm=>zU fun x=>zU fun _=>zW (P:=fun l:List Bs=>kb (fun _=>True) l/\l.length<=L.length+1) (qk6 jm (qaY qwT) n)
 (fun _=>qh (QB n) fun _=>qh (qq _) fun _=>qh (vi n) fun _=>qh (qai n n) fun _=>qh (qq _) fun _=>qr _) fun c k=>zW (qwz hL hn n)
 (fun _=>qh (qq _) fun _=>qh (vi n) fun _=>qh (qai n n) fun _=>qh (qq _) fun _=>qr _) fun q o=>zU fun _=>zW (qaY (qaZ hL hn n))
 (fun _=>qh (qai n n) fun _=>qh (qq _) fun _=>qr _) fun rep g=>zW (P:=fun rs=>kb qec rs/\rs.length<=L.length) (fun i f l j y h u=>⟨qwA hL hn n n _ _ _ _ _ h u,by have:=qnt n n _ _ _ _ _ h;omega⟩)
 (fun _=>qh (qq _) fun _=>qr _) fun rs a=>zU fun _=>kG ⟨by show 3<256;decide,by unfold Sh at g;show rep.length<_;omega,o.1,by have:=o.2;show q.length<=_;omega,qCm hL hn a.1,by
  show (ko c rs).length<=_;unfold ko;rw [List.length_mapIdx];have:=k.2;omega,a.1,by have:=a.2;show rs.length<=_;omega⟩
theorem qJ5 (n:Nat):vU L.length MdOk (xC L n):=qd9 (qJ7 hL hn n) (zU fun it=>zU fun nm=>zU fun q=>zW (qwD hL hn n it) (fun _=>qh (QB n) fun _=>qh (yT n) fun _=>qr _) fun h a=>
 zW (qwz hL hn n) (fun _=>qh (yT n) fun _=>qr _) fun j c=>zW (qwF hL hn n) (fun _=>qr _) fun l k=>kG ⟨by show (if it then 2 else 1)<256;split<;>decide,by simp,c.1,by have:=c.2;show j.length<=_;omega,
  by intro o g;rw [uu.1 g];exact a.1,by simp,by intro r i;rw [uu.1 i];exact ⟨a.1,by have:=a.2;show h.2.length<=_;omega,k⟩,by simp⟩)
end
end Go.L02
namespace Go.L02
open Go Go.Eng Go.RowKit
open Go.Proofs hiding encI
open Go.L01 (Bd Bs Own.same SlK Tok fV jM jQ jR jW jZ jp qC qH qJ qW qY qcH qdW qhj qhm qi qnJ qv5 qwu qy6 vw)
set_option maxRecDepth 100000
set_option maxHeartbeats 2000000
def qbj (ms:List (Int×Mod)):List Mod×Int×Int:=if 20<ms.length then ([],2,0) else match ms.find? (fun x=> !Q7 x.2) with|some x=>([],21,x.1)|none=>(ms.map (·.2),0,0)
def zr (s:Bs):List Mod×Int×Int:=
 match qC s with
 | .bad e l=>([],e,l)
 | .ok ts _=>match jL ts (ts.length+3) (ts.length+3) 0 0 with
  | .ok ms _ _=>qbj ms
  | .no g=>([],20,vO ts g)
  | .oof=>([],0,0)
def ka.rd {q:Nat->Prop} {w:AA} {v:AB} {l:List Nd} (h:ka q w v l):RdN w v l:=by
 obtain ⟨xs,e,c,a⟩:=h;exact ⟨xs,e,qAi c fun x g=>(a x g).1⟩
def xH.rd {α:Type} {b T sz:Nat} {C C':List AB->α->Prop} {w:AA} {v:AB} {l:List α} (h:xH b T sz C w v l) (j:∀c a,C c a->C' c a):xU sz C' w v l:=by
 obtain ⟨css,i,g⟩:=h;exact ⟨css,L01.jw i,g.imp j⟩
def yj.rd {w:AA} {cs:List AB} {s:Sig} (h:yj w cs s):x9 w cs s:=by
 obtain ⟨a,sv,e,g,c⟩:=h;exact ⟨a,sv,e,L01.jw g,L01.jw c⟩
def kI.rd {q:Nat->Prop} {w:AA} {cs:List AB} {m:Mod} (h:kI (ka q w) w cs m):qa1 w cs m:=by
 obtain ⟨a,b,c,e,k,i,g⟩:=h;refine ⟨a,b,c,e,k.rd ?_,i.rd ?_,g.rd ?_⟩
 ·rintro _ _ ⟨c,e,h⟩;exact ⟨c,e,h.rd⟩
 ·rintro _ _ ⟨c,e,h⟩;exact ⟨c,e,h.rd⟩
 ·rintro _ _ ⟨c,pv,j,e,k,i,g⟩;exact ⟨c,pv,j,e,k.rd,L01.jw i,g.rd⟩
theorem z48:jU Tryz.prog 48=some #[.slice none 0 0]:=by kernel_rfl
theorem z23:jU Tryz.prog 23=some #[.slice none 0 0]:=by kernel_rfl
theorem z40:jU Tryz.prog 40=some #[.slice none 0 0]:=by kernel_rfl
theorem qyA:jh Tryz.prog 48 1=true:=by kernel_rfl
def RdM (w:AA) (v:AB) (l:List Mod):Prop:=xU 7 (qa1 w) w v l
def RdM.ext {w w':AA} {v:AB} {l:List Mod} (h:RdM w v l) (a:qc w w'):RdM w' v l:=xU.ext h a fun _ _ h=>h.ext a
def qH0 {α:Type} {p:α->Bool} {l:List α} {j:Nat} (h:∀x∈l.take j,p x=false):l.find? p=(l.drop j).find? p:=by
 conv=>lhs;rw [<-u5 j l]
 rw [List.find?_append,List.find?_eq_none.2 (by simpa using h)];rfl
def qoM {w:AA} (hG:L01.G w) (hM:xI w) (s:Bs) (hs:s.length<4611686018427387904):Calls Tryz.prog 15 #[.string (qb s)] w fun e w'=>∃v,e=.returned (.tuple #[v,qf4 (zr s).2.1 (zr s).2.2])/\RdM w' v (zr s).1/\(∀m∈(zr s).1,MdOk m)/\qc w w':=by
 generalize hRR:(fun (e:Ending) (w':AA)=>∃v,e=.returned (.tuple #[v,qf4 (zr s).2.1 (zr s).2.2])/\RdM w' v (zr s).1/\(∀m∈(zr s).1,MdOk m)/\qc w w')=R;have an:∀W,RdM W (.slice none 0 0) []:=fun W=>⟨[],⟨rfl,rfl,fun j hj=>by simp at hj⟩,trivial⟩;refine qGE fun ρ r0=>?_;simp -implicitDefEqProofs [qtY];refine qQ z26 fun Fr w0 hFr hE0 hb0 _=>?_;simp -implicitDefEqProofs [r0];refine (L01.qhe (hG.ext hE0) s hs).mono ?_;rintro _ w1 ⟨v,rfl,hv,hE1⟩;have his:=hv.isl;have hic:=qn his;simp -implicitDefEqProofs [fV];refine qQ z48 fun Lv w2 hLv hE2 hb2 _=>?_;simp -implicitDefEqProofs;refine qQ z26 fun F w3 hF hE3 hb3 _=>?_;simp -implicitDefEqProofs;have hLF:Lv≠F:=by have:=hb2.lt;omega
 refine qD (B:=Lv) (i:=0) (by simp) (hb2.ext hE3) (by simp) (by simpa using hic) (by simpa using jf his) qyA fun w4 hO4 hb4=>?_;simp at hb4;simp -implicitDefEqProofs;refine jg (B:=F) (by simp) (hO4.blk hb3 (ub hLF)) (by simp [Value.cells]) (by simp [Value.cells]) (by simpa [Value.cells] using QH) fun w5 hO5 hb5=>?_;simp [Value.cells] at hb5;have aq:qc w1 w5:=hO5.ext (hO4.ext (hE2.trans' hE3) hLv) (by have:=hE2.size;omega);have hE5:qc w w5:=(hE0.trans' hE1).trans' aq;have hFr5:=(hb0.ext hE1).ext aq;have az:Blk w5 Lv #[v] 48:=hO5.blk hb4 hLF;have hc0:w5.cell? ⟨F,0,none⟩=some (.int .i64 (qC s).err):=by rw [hb5.cell];rfl
 have fin:∀(aN:qa) (W W':AA) (e l:Int) (v:AB),qc w W->aN 2=v->aN 3=.pointer (some ⟨Fr,0,none⟩)->Only Fr W W'->Blk W' Fr #[.int .i64 e,.int .i64 l] 26->(zr s).2=(e,l)->RdM W' v (zr s).1->(∀m∈(zr s).1,MdOk m)->qz [.tmp 2,.cellN 3 2] R aN W':=by
  intro aN W W' e l v hE e2 e3 hO hb h1 h2 h3;refine L01.jR e2 e3 hb (by simp) ?_;rw [<-hRR];refine ⟨v, ?_,h2,h3,hO.ext hE hFr⟩;rw [h1];rfl
 simp -implicitDefEqProofs [hc0];cases ah:qC s with
 |bad e l=>
  have he:=qm7 ah;have C:zr s=([],e,l):=by unfold zr;rw [ah]
  simp -implicitDefEqProofs [L01.Res.err,he];refine js qGC (fun W=>Blk W F #[.int .i64 e,.int .i64 l] 26) fun w6 aG _=>?_;rw [ah] at hb5;have hF6:Blk w6 F #[.int .i64 e,.int .i64 l] 26:=hb5.ext aG;refine ⟨hF6, ?_⟩;have cF:∀W,Blk W F #[.int .i64 e,.int .i64 l] 26->Eng.q4 W ⟨F,0,none⟩ 0 2=some [.int .i64 e,.int .i64 l]:=fun W h=>by
   have:=xc h;simpa using this
  simp+contextual -implicitDefEqProofs [qtE,cF,hF6];refine jg (B:=Fr) (by simp) (hFr5.ext aG) (by simp [Value.cells]) (by simp [Value.cells]) (by simpa [Value.cells] using QH) fun w7 hO7 aJ=>?_;simp [Value.cells] at aJ;simp -implicitDefEqProofs [qtN];exact fin _ w6 w7 e l (.slice none 0 0) (hE5.trans' aG) (by simp) (by simp) hO7 aJ (by rw [C]) (by rw [C];exact an _) (by rw [C];simp)
 |ok ts cs=>
  rw [ah] at hv;have hv':Own w0.heap.size 53 3 w1 v (qH ts):=hv;have av:=qve ah;have hL:=qmY av;have hNum:=qCy av;have htl:ts.length<=20000:=by have:=(L01.qhy s).1;rw [ah] at this;exact this
  have C:zr s=(match jL ts (ts.length+3) (ts.length+3) 0 0 with| .ok o _ _=>qbj o| .no g=>([],20,vO ts g)| .oof=>([],0,0)):=by unfold zr;rw [ah]
  have cL5:w5.cell? ⟨Lv,0,none⟩=some v:=by rw [az.cell];rfl
  simp -implicitDefEqProofs [L01.Res.err,qtG,cL5,qwe his];refine vC fun B w6 hB aG aF _=>?_;simp -implicitDefEqProofs [Value.cells,hic] at aF⊢;refine qQ z83 fun P w7 hP hE7 aJ _=>?_;simp -implicitDefEqProofs;refine jg (B:=P) (by simp) aJ (by simp [Value.cells]) (by simp [Value.cells]) (by simpa [Value.cells] using qmu) fun w8 hO8 hb8=>?_;simp -implicitDefEqProofs [Value.cells] at hb8;simp -implicitDefEqProofs;refine qQ z23 fun Ou w9 hOu hE9 hb9 _=>?_;simp -implicitDefEqProofs;refine qQ z40 fun Ln w10 hLn hE10 hb10 _=>?_;have aj:qc w6 w8:=hO8.ext hE7 hP;have ag:=hE9.trans' hE10;have ac:qc w5 w10:=(aG.trans' aj).trans' ag;have ay:=hb8.ext ag;have cP:w10.cell? ⟨P,0,none⟩=some (.pointer (some ⟨B,0,none⟩)):=by rw [ay.cell];rfl
  have hv10:=(hv'.ext aq).ext ac;have hB10:=(aF.ext aj).ext ag;have hLv10:=az.ext ac;have hOu10:=hb9.ext hE10;have hBP:B<P:=by have:=aF.lt;omega
  have hBO:B<=Ou:=by have:=aF.lt;have:=aj.size;omega
  have hBN:B<=Ln:=by have:=aF.lt;have:=aj.size;have:=hE9.size;omega
  have hS:PSt B B w10 v (.slice none 0 0) ts 0 0 []:=⟨hB10,Own.down hv10 (uf _),Own.nil _ _ _ _,by simp,kh _,Jo hB10.lt,htl,uf _,uf _⟩;simp -implicitDefEqProofs [cP];have hkn:jL ts (ts.length+3) (ts.length+3) 0 0≠ .oof:=qJ3 (kh _) 0;have hB5:w5.heap.size<=B:=hB;generalize hn:ts.length+3=n at hkn C;refine (qom hS (ok:=Qa ts n) (g:=yI ts n) (Ok:=fun w2=>qli ts n B v Ln Ou w2/\Blk w2 P #[.pointer (some ⟨B,0,none⟩)] 83/\(Qa ts n=false->yI ts n<=ts.length)) (by kernel_rfl) fun W hE=>
   (qBZ hL hNum n hkn (hS.ext hE) (ay.ext hE) (hLv10.ext hE) (hb10.ext hE) (hOu10.ext hE) hBN hBO).mono fun e w2 h=>qa2.more (fun w2 ⟨⟨i,f,nv,ys,h⟩,_⟩=>⟨i,f,nv,ys,h⟩) (ay.ext hE) h).mono ?_
  rintro _ V ⟨rfl,hBl,w12,⟨⟨_,hpar⟩,hP12,hfl⟩,U,hfar⟩;have O:qc w5 V:=qvw ac hBl hB5;have ai:qc w V:=hE5.trans' O;have u:=hFr5.ext O;have hLv11:=az.ext O;cases q:jL ts n n 0 0 with
  |oof=>exact absurd q hkn
  |no g=>
   have Z:Qa ts n=false:=by unfold Qa;rw [q]
   have hfa:yI ts n=g:=by unfold yI;rw [q]
   rw [q] at C;have y:zr s=([],20,vO ts g):=C;obtain ⟨a8,b8,hB11⟩:=hfar Z;rw [Z] at U;have hP11:=hP12.at' U ⟨by decide,.inr (by decide)⟩;simp -implicitDefEqProofs [Z];refine js qGB (fun W=>Blk W Lv #[v] 48/\Blk W P #[.pointer (some ⟨B,0,none⟩)] 83/\Blk W B #[v,a8,.int .i64 (yI ts n),b8] 85) fun w13 A _=>?_;have ar:Blk w13 Lv #[v] 48/\Blk w13 P #[.pointer (some ⟨B,0,none⟩)] 83/\Blk w13 B #[v,a8,.int .i64 (yI ts n),b8] 85:=⟨hLv11.ext A,hP11.ext A,hB11.ext A⟩;refine ⟨ar, ?_⟩;have cc:∀W,(Blk W Lv #[v] 48/\Blk W P #[.pointer (some ⟨B,0,none⟩)] 83/\Blk W B #[v,a8,.int .i64 (yI ts n),b8] 85)->W.cell? ⟨Lv,0,none⟩=some v/\W.cell? ⟨P,0,none⟩=some (.pointer (some ⟨B,0,none⟩))/\W.cell? ⟨B,2,none⟩=some (.int .i64 (yI ts n)):=fun W h=>⟨by rw [h.1.cell];rfl,by rw [h.2.1.cell];rfl,by rw [h.2.2.cell];rfl⟩;simp+contextual -implicitDefEqProofs [qtD,cc,ar];have hv13:Own w0.heap.size 53 3 w13 v (qH ts):=((hv'.ext aq).ext O).ext A;refine (qBt hv13 htl (hfl Z)).mono ?_;rintro _ w14 ⟨rfl,hw14⟩;obtain rfl:=hw14;simp -implicitDefEqProofs [ar,qwj];refine jg (B:=Fr) (by simp) (u.ext A) (by simp [Value.cells]) (by simp [Value.cells]) (by simpa [Value.cells] using QH) fun w15 au aa=>?_;simp [Value.cells] at aa;simp -implicitDefEqProofs [qtM];exact fin _ _ w15 20 (vO ts g) (.slice none 0 0) (ai.trans' A) (by simp) (by simp) au (by rw [<-hfa];exact aa) (by rw [y]) (by rw [y];exact an _) (by rw [y];simp)
  |ok o j g=>
   have Z:Qa ts n=true:=by unfold Qa;rw [q]
   rw [q] at C;have y:zr s=qbj o:=C;obtain ⟨lv,rv,css,hbN,hbO,hol,hoo,hmods,hsrc⟩:=hpar o j g q;rw [Z] at U;have hp:∀{T:TypeId},T≠4->(T≠4/\((true:Bool)=true\/T≠85)):=fun h=>⟨h,.inl rfl⟩;have hbO11:=hbO.at' U (hp (by decide));have hbN11:=hbN.at' U (hp (by decide));have ae:=hol.at' U fun k _=>hp (by decide);have ax:=hoo.at' U fun k _=>hp (by decide);have ao:jl (kI (ka (fun _=>True) V) V) css (o.map (·.2)):=hmods.imp fun _ _ h=>h.at' U (fun _=>hp (by decide)) (fun _=>hp (by decide)) (fun _=>hp (by decide)) (fun _=>hp (by decide)) fun v l hv=>hv.at' U (fun _=>hp (by decide)) fun _ _=>hp (by decide);have aE:RdM V rv (o.map (·.2)):=⟨css,L01.jw ax,ao.imp fun _ _ h=>h.rd⟩;have hmok:∀m∈o.map (·.2),MdOk m:=fun m hm=>by
    obtain ⟨i',f',j',g',h1,h2⟩:=hsrc m hm;exact qJ5 hL htl n i' f' m j' g' h1 h2
   have hrl:qm rv=o.length:=by have:=aE.len (fun _ _ h=>h.row.1) (by decide);simpa using this
   have hri:=aE.is;have cO:V.cell? ⟨Ou,0,none⟩=some rv:=by rw [hbO11.cell];rfl
   by_cases aK:20<o.length
   ·have aI:(20:Int)<(o.length:Int):=by omega
    have a:zr s=([],2,0):=by rw [y];unfold qbj;rw [j0 aK]
    simp -implicitDefEqProofs [Z,qjP,cO,hri,hrl,aI,aK,qJF];refine jg (B:=Fr) (by simp) u (by simp [Value.cells]) (by simp [Value.cells]) (by simpa [Value.cells] using QH) fun w15 au aa=>?_;simp [Value.cells] at aa;simp -implicitDefEqProofs;exact fin _ V w15 2 0 (.slice none 0 0) ai (by simp) (by simp) au aa (by rw [a]) (by rw [a];exact an _) (by rw [a];simp)
   ·have aI:¬(20:Int)<(o.length:Int):=by omega
    have hpk:qbj o=(match o.find? (fun x=> !Q7 x.2) with|some x=>([],21,x.1)|none=>(o.map (·.2),0,0)):=by unfold qbj;rw [q3 aK]
    simp -implicitDefEqProofs [Z,qjP,cO,hri,hrl,aI,aK,qtH];obtain ⟨I,hI⟩:∃I:Nat->qa->AA->Prop,∀j ad w',I j ad w'↔(ad 3=.pointer (some ⟨Fr,0,none⟩)/\ad 7=.pointer (some ⟨Ou,0,none⟩)/\ad 8=.pointer (some ⟨Ln,0,none⟩)/\ad 38=rv/\ad 39=.int .i64 (o.length:Int)/\qc V w'/\∀x∈o.take j,Q7 x.2=true):=⟨_,fun _ _ _=>Iff.rfl⟩;refine zH 40 o.length I (by simp) ((hI _ _ _).2 ⟨by simp,by simp,by simp,by simp,by simp,jd _,by simp⟩) ?_;rintro k ad w' hk rk hIw;obtain ⟨r3,r7,r8,r38,r39,E,hfo⟩:=(hI _ _ _).1 hIw;have hwk:IntKind.i64.wrap ((k:Int)+1)=(k:Int)+1:=q7 (by omega);have hEw:=ai.trans' E;by_cases H:k<o.length
    ·have am:(k:Int)<(o.length:Int):=by omega
     obtain ⟨c,hc,hcl,hcr,hcc⟩:=(aE.ext E).at (fun _ _ h=>h.row.1) (k:=k) (by simpa using H);have hget:(o.map (·.2))[k]'(by simpa using H)=o[k].2:=by simp
     rw [hget] at hc;have aw:=hc.row;have aH:=qab fun c hc=>(aw.2 c hc).1;simp -implicitDefEqProofs [qjO,rk,r39,am,H,qtJ,r38,hri,hrl,hcr];refine qQ z66 fun Y w16 hY hE16 hb16 _=>?_;simp -implicitDefEqProofs;refine jg (B:=Y) (by simp) hb16 (by simp [aH,hcl,je]) ?_ (by kernel_rfl) fun w17 hO17 hb17=>?_
     ·simpa [aH] using fun c hc=>(aw.2 c hc).2
     have hb17':Blk w17 Y c.toArray 66:=by simpa [aH] using hb17
     have ap:qc w' w17:=hO17.ext hE16 hY;have row17:Eng.q4 w17 ⟨Y,0,none⟩ 0 7=some c:=by
      have:=xc hb17';simpa [hcl] using this
     simp -implicitDefEqProofs [row17];refine (qBB (hG.ext (hEw.trans' ap)) (hM.ext (hEw.trans' ap)) (hc.ext ap) (hmok _ (uw.2 ⟨o[k],uo _,rfl⟩))).mono ?_;rintro _ w18 ⟨rfl,hE18⟩;have z:=(E.trans' ap).trans' hE18;cases hfm:Q7 o[k].2 with
     |true=>
      simp -implicitDefEqProofs [qtK,rk,hwk,H];refine (hI _ _ _).2 ⟨by simp [r3],by simp [r7],by simp [r8],by simp [r38],by simp [r39],z, ?_⟩;rw [uO H];intro x hx;rcases uv.1 hx with hx|hx
      ·exact hfo x hx
      ·rw [uu.1 hx];exact hfm
     |false=>
      have af:o.find? (fun x=> !Q7 x.2)=some o[k]:=by
       rw [qH0 (j:=k) (fun x hx=>by simp [hfo x hx]),uM H,List.find?_cons];simp [hfm]
      have a:zr s=([],21,o[k].1):=by rw [y,hpk,af]
      simp -implicitDefEqProofs;have hbN18:=hbN11.ext z;obtain ⟨S,hSd⟩:∃S:AA->Prop,∀W,S W↔(Blk W Ln #[lv] 40/\Own 0 3 1 W lv ((o.map (·.1)).map encI)):=⟨_,fun _=>Iff.rfl⟩;refine js qGD S fun w19 al _=>?_;have ar:S w19:=(hSd _).2 ⟨hbN18.ext al,(ae.ext z).ext al⟩;refine ⟨ar, ?_⟩;have hli:=ae.isl;have hll:qm lv=o.length:=by have:=(L01.jw ae).len;simpa using this.symm
      have cc:∀W,S W->W.cell? ⟨Ln,0,none⟩=some lv/\W.cell? (qN lv k)=some (.int .i64 o[k].1):=fun W h=>⟨by rw [((hSd _).1 h).1.cell];rfl,by
       rw [(L01.jw ((hSd _).1 h).2).cell k (by simpa using H)];simp [encI]⟩
      simp+contextual -implicitDefEqProofs [qtF,cc,ar,r8,hli,hll,am,H,qwj];refine jg (B:=Fr) (by simp [r3]) ((u.ext z).ext al) (by simp [Value.cells]) (by simp [Value.cells]) (by simpa [Value.cells] using QH) fun aA ak ab=>?_;simp [Value.cells] at ab;simp -implicitDefEqProofs [qtL];exact fin _ w19 aA 21 o[k].1 (.slice none 0 0) (ai.trans' (z.trans' al)) (by simp) (by simp [r3]) ak ab (by rw [a]) (by rw [a];exact an _) (by rw [a];simp)
    ·have am:¬(k:Int)<(o.length:Int):=by omega
     have af:o.find? (fun x=> !Q7 x.2)=none:=by
      rw [List.find?_eq_none];intro x hx;have:=hfo x (by rw [uz (by omega)];exact hx);simp [this]
     have a:zr s=(o.map (·.2),0,0):=by rw [y,hpk,af]
     have cOw:=E.cell cO;simp -implicitDefEqProofs [qjO,rk,r39,am,H,qtI,r7,cOw,qwk];refine jg (B:=Fr) (by simp [r3]) (u.ext E) (by simp [Value.cells]) (by simp [Value.cells]) (by simpa [Value.cells] using QH) fun aA ak ab=>?_;simp [Value.cells] at ab;simp -implicitDefEqProofs;refine fin _ w' aA 0 0 rv hEw (by simp) (by simp [r3]) ak ab (by rw [a]) ?_ (by rw [a];exact hmok);rw [a];have aC:=qj.only ak (u.ext E);have hall20:jl (kI (ka (fun _=>True) aA) aA) css (o.map (·.2)):=(ao.imp fun _ _ h=>h.at' (qj.ext (p:=fun _ _=>True) E) (fun _=>trivial) (fun _=>trivial) (fun _=>trivial) (fun _=>trivial) fun v l hv=>hv.at' (qj.ext (p:=fun _ _=>True) E) (fun _=>trivial) fun _ _=>trivial).imp fun _ _ h=>h.at' aC (fun _=> .inr (by decide)) (fun _=> .inr (by decide)) (fun _=> .inr (by decide)) (fun _=> .inr (by decide)) fun v l hv=>hv.at' aC (fun _=> .inr (by decide)) fun _ _=> .inr (by decide);exact ⟨css,L01.jw ((ax.ext E).at' aC fun _ _=> .inr (by decide)),hall20.imp fun _ _ h=>h.rd⟩
def qJZ {w W:AA} {base:Nat} {v o:AB} {n:Nat} {xs:List AB} (s:ByteArray) (a:w.ownsRow base 5 1 v n xs) (A:n+s.size<=140737488355328) (q:(Builtin.append_ #[112,9] 112 #[v,.string s]).run Tryz.prog w=.ok o W) (k:o=.slice none 0 0↔v=.slice none 0 0/\s.size=0):o.ownBlock=v.ownBlock\/o.ownBlock=some w.heap.size:=by
 obtain ⟨i,z,C,hs,l⟩:=qdW;have x:xs.length=n:=by simpa using a.1
 rcases a.2 with ⟨rfl,rfl⟩|⟨g,cap,cur,rfl,O,F,H,E,y,u⟩
 ·by_cases hm:s.size=0
  ·left;rw [k.2 ⟨rfl,hm⟩]
  ·have c:=run_append_nil_string (P:=Tryz.prog) w 112 9 112 5 i (.int .u8 0) Tryz.underlying112 Tryz.underlying9 z C s (by omega) (by omega) (by rw [l];omega);rw [q] at c;cases c;right;rfl
 ·have B:cur.size=cap:=by simpa using y
  by_cases j:n+s.size<=cap
  ·have c:=Lib.run_append_room_string (P:=Tryz.prog) w 112 9 112 5 i Tryz.underlying112 Tryz.underlying9 z hs g n cap cur F s j (by omega);rw [q] at c;cases c;left;rfl
  ·have c:=Lib.run_append_grow_string (P:=Tryz.prog) w 112 9 112 5 i (.int .u8 0) Tryz.underlying112 Tryz.underlying9 z C ⟨g,0,none⟩ n cap xs (by rw [hs];simpa using x) (a.cells (g:=g) rfl) s (by omega) (by omega) (by rw [l];exact growslice_fits (by omega) (by omega));rw [q] at c;cases c;right;rfl
def Qx (B O:Nat) (v:AB) (bs:Bs) (w:AA):Prop:=B<=O/\(∃p,(p=.pointer none\/p=.pointer (some ⟨O,0,none⟩))/\Blk w O #[p,v] 114)/\w.ownsRow B 5 1 v bs.length (bs.map jE)/\v.ownBlock≠some O
def Qx.bd {B O:Nat} {v:AB} {bs:Bs} {w:AA} (h:Qx B O v bs w):Bd B O bs w:=by
 obtain ⟨i,⟨p,hp,c⟩,g,a⟩:=h;rcases hp with rfl|rfl
 ·exact .inl ⟨i,v,c.heap,by simpa using g,a⟩
 ·exact .inr ⟨i,v,c.heap,by simpa using g,a⟩
def Qx.keep {B O:Nat} {v:AB} {bs:Bs} {w w':AA} (h:Qx B O v bs w) (l:w'.heap[O]? =w.heap[O]?) (j:∀k,v.ownBlock=some k->w'.heap[k]? =w.heap[k]?):Qx B O v bs w':=by
 obtain ⟨g,⟨p,hp,c⟩,i,a⟩:=h;exact ⟨g,⟨p,hp,⟨l.trans c.heap⟩⟩,qdy i j,a⟩
def Qx.lt {B O:Nat} {v:AB} {bs:Bs} {w:AA} (h:Qx B O v bs w):O<w.heap.size/\∀k,v.ownBlock=some k->k<w.heap.size:=by
 obtain ⟨j,⟨p,hp,a⟩,c,g⟩:=h;exact ⟨a.lt,fun k i=>(c.lt k i).2⟩
def Qx.ext {B O:Nat} {v:AB} {bs:Bs} {w w':AA} (h:Qx B O v bs w) (a:qc w w'):Qx B O v bs w':=h.keep (a.block O h.lt.1) fun k c=>a.block k (h.lt.2 k c)
end Go.L02
namespace Go.L02
open Go Go.Eng
open Go.L01 (Bs Tok)
set_option maxRecDepth 100000
set_option maxHeartbeats 2000000
def exB:Bs:=[112,114,111,99,32,112,40,41,32,105,115,32,120,32,58,61,32,97,91,105,110,116,93,59,32,112,117,116,32,49,32,101,110,100]
def exC:Bs:=[112,114,111,99,32,112,40,41,32,115,105,103,110,97,108,115,40,98,44,32,97,41,32,105,115,32,101,110,100]
def ty1:vY [114,101,99,111,114,100,91,98,58,105,110,116,44,97,58,115,101,116,91,63,116,93,93]=true:=by decide+kernel
def op1:yc [103,101,116,95,102]=true:=by decide+kernel
def op2:yc [103,101,116,95]=false:=by decide+kernel
end Go.L02
namespace Go.L02
open Go Go.Eng Go.Proofs
set_option maxRecDepth 100000
set_option maxHeartbeats 2000000
def qj2:IR:=zq [zc 70 14 #[] #[] 4,za 2 (.ite (zv 70) (zI .eql (zo 1 (zv 10)) (zv 11)) (zQ false))] <| .ret
def qj1:IR:=zq [za 11 (zK 1),za 62 (zI .gtr (zL (zv 7)) (zK 0))] <| .seq (.cond (zv 62) (.reg [za 11 (zo 2 (zx 3 (zv 7) (zI .sub (zL (zv 7)) (zK 1))))]) .skip) (qj2)
def qut:IR:=zq [zm 52 6,zc 53 15 #[zt 52] #[9] 27,zm 51 53,za 54 (ze 0 (zv 51)),za 55 (ze 1 (zv 51)),zA 10 26,zm 9 54,zw 26 (zt 10) (zt 55),za 58 (zI .neq (zo 0 (zv 10)) (zK 20))] <| .seq (.cond (zv 58) (zq [zc 59 14 #[] #[] 4,zm 2 59] <| .ret) .skip) (qj1)
def qus:IR:=zq [za 41 (.op3 (.slLoHi 1) (zv 5) (zK 0) (zI .sub (zo 1 (zv 4)) (zK 1))),zc 42 34 #[zt 41,zY #[]] #[51,9] 9,zm 6 42,zm 44 6,zc 45 33 #[zt 44] #[9] 49,zm 43 45,za 46 (ze 0 (zv 43)),za 47 (ze 1 (zv 43)),zA 8 26,zm 7 46,zw 26 (zt 8) (zt 47),za 48 (zM 2 (zv 8)),zE 49 (.build 26 #[]) 26,zE 50 (.binOp .neq 26 (zt 48) (zt 49) 26) 4] <| .seq (.cond (zv 50) (zq [za 2 (zQ false)] <| .ret) .skip) (qut)
def qur:IR:=zq [zm 25 0,zc 26 52 #[zt 25,zY #[10]] #[9,9] 51,zm 5 26,za 36 (.ite (zI .lss (zo 1 (zv 4)) (zK 1)) (zQ true) (zI .gtr (zo 1 (zv 4)) (zL (zv 5))))] <| .seq (.cond (zv 36) (zq [za 2 (zQ false)] <| .ret) .skip) (qus)
def quq:IR:=zq [zm 17 0,zc 18 15 #[zt 17] #[9] 27,zm 16 18,za 19 (ze 0 (zv 16)),za 20 (ze 1 (zv 16)),zA 4 26,zm 3 19,zw 26 (zt 4) (zt 20),za 23 (zI .neq (zo 0 (zv 4)) (zK 20))] <| .seq (.cond (zv 23) (zq [zc 24 14 #[] #[] 4,zm 2 24] <| .ret) .skip) (qur)
def qj4:IR:=zq [za 2 (zQ false),za 14 (zI .gtr (zT (zv 0)) (zK 1500))] <| .seq (.cond (zv 14) (zq [zc 15 14 #[] #[] 4,zm 2 15] <| .ret) .skip) (quq)
def quu:List Nat:=zV 71 [1,12,13,21,22,27,28,29,30,31,32,33,34,35,37,38,39,40,56,57,60,61,63,64,65,66,67,68,69]
def qG4:C1 13 77 quu qj4 [.tmp 2]:=c1 [] Tryz.func13
end Go.L02
namespace Go.L02
open Go Go.Eng Go.RowKit
open Go.Proofs hiding encI
open Go.L01 (Bs Tok fV jZ qC qH qJ qdW qi vA)
set_option maxRecDepth 100000
set_option maxHeartbeats 2000000
theorem g26:Tryz.prog.eqGuardType Tryz.prog.depth 26=false:=by kernel_rfl
theorem qHU : ((Tryz.prog.fieldsOf 26).toList.map fun f => (f.name == "_", f.type, f.offset)) = [(false, 24, 0), (false, 3, 1)] := by kernel_rfl
theorem qyM:Tryz.prog.underlying 26=some (.struct (Tryz.prog.fieldsOf 26)):=by kernel_rfl
theorem qHB:Tryz.prog.stoodInHeld 26=false:=by kernel_rfl
def qvA (a b c d:Int) (w:AA):(Op.equalIn 10000 26 (.agg #[.int .i64 a,.int .i64 b]) (.agg #[.int .i64 c,.int .i64 d])).run Tryz.prog w=.ok (decide (a=c)&&decide (b=d)) w:=by
 have g:=qHU;obtain ⟨k,o,i⟩:∃k o,(Tryz.prog.fieldsOf 26).toList=[k,o]:=by
  match h:(Tryz.prog.fieldsOf 26).toList with
  |[k,o]=>exact ⟨k,o,rfl⟩
  |[] |[_] |_::_::_::_=>rw [h] at g;simp at g
 rw [i] at g;simp at g;obtain ⟨⟨E,O,o1⟩,n2,R,o2⟩:=g;have e:=run_equalIn_agg (P:=Tryz.prog) w 9999 26 #[.int .i64 a,.int .i64 b] #[.int .i64 c,.int .i64 d] qyM qHB;have l:∀(cs:Array AB) (v:AB) (off t:Nat),kB Tryz.prog t=some false->cs[off]? =some v->(Go.part t cs off).run Tryz.prog w=.ok v w:=fun cs v off t S H=>qhH S H;have j:kB Tryz.prog 24=some false:=by kernel_rfl
 have i3:kB Tryz.prog 3=some false:=by kernel_rfl
 have q:=run_equalIn_int (P:=Tryz.prog) w 9998 24 .i64 .i64 a c (by kernel_rfl);have u:=run_equalIn_int (P:=Tryz.prog) w 9998 3 .i64 .i64 b d (by kernel_rfl);refine e.trans ?_;rw [i];have B:=l #[.int .i64 a,.int .i64 b] (.int .i64 a) 0 24 j rfl;have C:=l #[.int .i64 a,.int .i64 b] (.int .i64 b) 1 3 i3 rfl;have F:=l #[.int .i64 c,.int .i64 d] (.int .i64 c) 0 24 j rfl;have b2:=l #[.int .i64 c,.int .i64 d] (.int .i64 d) 1 3 i3 rfl;have A:(a==c)=decide (a=c):=by rw [uR];simp
 have y:(b==d)=decide (b=d):=by rw [uR];simp
 rw [A] at q;rw [y] at u;generalize decide (a=c)=x at q;generalize decide (b=d)=z at u;simp only [Nat.reduceAdd] at q u;cases x<;>cases z<;>simp [Op.eqFields,E,n2,O,R,o1,o2,B,C,F,b2,q,u]
@[simp] theorem qL6:qk Tryz.prog 14=true:=by kernel_rfl
def goV (b:Bool) (o:Option AB) (d:Nat) (K:qa->AA->Prop) (ρ:qa) (w:AA):Prop:=if b then xD o (fun v=>K (qx ρ d v) w) else K (qx ρ d undef) w
def goE (P:Program) (Q:Ks) (b:Bool) (d:Option Nat) (op:Op) (ty:TypeId) (K:qa->AA->Prop) (ρ:qa) (w:AA):Prop:=if b then qB P Q d op ty K ρ w else K (qp ρ d undef) w
section
variable {P:Program} {Q:Ks} {K:qa->AA->Prop} {ρ:qa} {w:AA} {r:List St}
@[simp] theorem qHD {d:Nat} {v:AB}:goV true (some v) d K ρ w=K (qx ρ d v) w:=rfl
@[simp] theorem qHE {o:Option AB} {d:Nat}:goV false o d K ρ w=K (qx ρ d undef) w:=rfl
@[simp] theorem qHF {d:Option Nat} {op:Op} {ty:TypeId}:goE P Q true d op ty K ρ w=qB P Q d op ty K ρ w:=rfl
@[simp] theorem qHG {d:Option Nat} {op:Op} {ty:TypeId}:goE P Q false d op ty K ρ w=K (qp ρ d undef) w:=rfl
end
def okR (w:AA):Ending->AA->Prop:=fun e w'=>e=.returned (.bool true)/\qc w w'
noncomputable section
def qdH (b:ByteArray):qb b.data.toList=b:=by cases b;simp [qb]
section
variable {σ:Sg} {w0 w W:AA} {s s':Sx}
theorem qCj (z:Iv σ w0 s w) (Y:qc w W) {Z:AB} {t sz n i:Nat} {cs cs':List AB} (V:qw σ cs cs') (ho:Own w.heap.size t sz W Z cs') (C:cs.length=n*sz) (h1:1<=cs.length) (A:sz≠0) {k:Option Nat} (h:xP s k ⟨cs,t,sz,false,false⟩=some (i,s')):
  ∃q,σ.le q/\Iv q w0 s' W/\VR q (.slice (some ⟨i,0,none⟩) n n) Z:=by
 have B:=V.len;rcases ho with ⟨_,y⟩|⟨g,off,n',cap,cur,rfl,S,E,R,hnc,aa,H,l⟩
 ·rw [y,List.length_nil] at B;omega
 ·have hn:n'=n:=Nat.eq_of_mul_eq_mul_right (Nat.pos_of_ne_zero A) (by rw [<-C,B,<-R]);subst hn;obtain ⟨q,a,U,O⟩:=qfa z h (b:=g) (f:=off) (x:=cap - n') (z.mr.ext Y) (z.ext.trans' Y) (Nat.le_trans z.ext.size S) (fun j oj pj hj hp he=>by
   obtain ⟨p,u,ab⟩:=z.mr.at' hj;rw [hp] at u;cases u;omega) fun q a U=>⟨fun hz=>absurd hz A,fun _=>⟨cur,U,E,by
    dsimp only;rw [C,l];exact V.mono a,by
    dsimp only;rw [C];have:n'*sz+(cap - n')*sz=cap*sz:=by rw [<-uK];congr 1;omega
    omega,(fun F=>by cases F),fun _=>⟨n',C,by omega⟩,(fun F=>by cases F)⟩⟩
  refine ⟨q,a,O, ?_⟩;have:=VR.slc (σ:=q) (o:=0) (n:=n') (c:=n') U (kh _)
  rwa [show n'+(cap - n')=cap by omega] at this
theorem qlI {a b c g:AB} (k:VR σ a c) (j:VR σ b g):VR σ (.tuple #[a,b]) (.tuple #[c,g]):=by
 obtain ⟨i,l⟩:=qw.arr (cs:=#[a,b]) (ds:=#[c,g]) ⟨k,j,trivial⟩;exact .tup i l
theorem qb6 {P:Program} {f:FuncId} {args:Array AB} {v:AB} (g:Iv σ w0 s w) (c:qcz v=true) (h:Calls P f args w fun e w'=>e=.returned v/\qc w w'):Calls P f args w (z8 σ w0 (.ret v s)):=
 h.mono fun _ w' a=>⟨σ,v,Sg.le_refl σ,g.toExt a.2,Qo c,a.1⟩
theorem qc7 {b:ByteArray} {args':List AB} (h:qw σ [.string b] args'):args'=[.string (qb b.data.toList)]:=by
 rw [qdH]
 match args',h with
 |[x],h=>rw [h.1.uniq (.pln (v:=.string b) rfl)]
def qey:List AB->Option (List Bs)
 |[]=>some []
 | .string b::l=>match qey l with|some r=>some (b.data.toList::r)|none=>none
 |_=>none
theorem qmD:∀{l l':List AB} {ss:List Bs},qw σ l l'->qey l=some ss->l'=ss.map qi
 |[],[],ss,_,h=>by cases h;rfl
 |a::l,b::m,ss,c,h=>by
  unfold qey at h;split at h
  ·rename_i he;cases he
  ·rename_i g l1 he;cases he;split at h
   ·rename_i r i;cases h;rw [qmD c.2 i,c.1.uniq (.pln (v:=.string g) rfl)];simp [qi,qdH]
   ·cases h
  ·cases h
def qf1:List AB->Option (List Int)
 |[]=>some []
 | .int .i64 n::l=>match qf1 l with|some r=>some (n::r)|none=>none
 |_=>none
theorem qu6:∀{l l':List AB} {c:List Int},qw σ l l'->qf1 l=some c->l'=c.map encI
 |[],[],c,_,h=>by cases h;rfl
 |a::l,b::m,c,g,h=>by
  unfold qf1 at h;split at h
  ·rename_i he;cases he
  ·rename_i i l1 he;cases he;split at h
   ·rename_i r j;cases h;rw [qu6 g.2 j,g.1.uniq (.pln (v:=.int .i64 i) rfl)];rfl
   ·cases h
  ·cases h
def qo4 (H:vM) (k:Int) (a b c:ByteArray) (n:Int) (kv:AB):Option Nd:=
 match qat H 1 kv with
 |some ks=>match qf1 ks with
  |some is=>bif decide (0<=k) then some ⟨⟨k.toNat,a.data.toList,b.data.toList,c.data.toList,n⟩,is⟩ else none
  |none=>none
 |none=>none
def qe9 (H:vM):List AB->Option (List Nd)
 |[]=>some []
 | .int .u8 k:: .string a:: .string b:: .string c:: .int .i64 n::kv::l=>match qo4 H k a b c n kv,qe9 H l with
  |some x,some r=>some (x::r)
  |_,_=>none
 |_=>none
theorem qo1 (S:Iv σ w0 s w):∀(n:Nat) {l l':List AB} {q:List Nd},l.length<=n->qw σ l l'->qe9 s.H l=some q->∃xs:List NV,jY xs=l'/\xs.map (·.nd)=q/\∀x∈xs,Cells w x.kv 1 (x.nd.kids.map encI)
 |0,l,l',q,hn,i,h=>by
  obtain rfl:=uJ.1 (Nat.le_zero.1 hn);cases h;cases l' with
  |nil=>exact ⟨[],rfl,rfl,fun x g=>by simp at g⟩
  |cons _ _=>exact i.elim
 |n'+1,l,l',q,hn,i,h=>by
  unfold qe9 at h;split at h
  ·cases h;cases l' with
   |nil=>exact ⟨[],rfl,rfl,fun x g=>by simp at g⟩
   |cons _ _=>exact i.elim
  ·rename_i k a b c n kv l1;have E:l1.length<=n':=by simp at hn;omega
   obtain ⟨B,A,o,u,z,j,m,rfl⟩:∃B A o u z j m,l'=B::A::o::u::z::j::m:=by
    have:=i.len
    match l',this with
    |B::A::o::u::z::j::m,_=>exact ⟨B,A,o,u,z,j,m,rfl⟩
    |[],e|[_],e|[_,_],e|[_,_,_],e|[_,_,_,_],e|[_,_,_,_,_],e=>simp at e
   obtain ⟨Z,h2,V,h4,h5,h6,i⟩:=i;split at h
   ·rename_i x r g U;cases h;obtain ⟨xs,e1,e2,Y⟩:=qo1 S n' E i U;unfold qo4 at g;split at g
    ·rename_i ks C;split at g
     ·rename_i is O;obtain ⟨R,g⟩:=jB g;have R:0<=k:=by simpa using R
      cases g;obtain ⟨ks',g1,g2⟩:=qda S h6 C;refine ⟨⟨⟨⟨k.toNat,a.data.toList,b.data.toList,c.data.toList,n⟩,is⟩,j⟩::xs, ?_,by simp [e2],fun y F=>?_⟩
      ·show qe _++jY xs=_;rw [e1];have ek:((k.toNat:Nat):Int)=k:=u7 R;rw [Z.uniq (.pln (v:=.int .u8 k) rfl),h2.uniq (.pln (v:=.string a) rfl),V.uniq (.pln (v:=.string b) rfl),h4.uniq (.pln (v:=.string c) rfl),h5.uniq (.pln (v:=.int .i64 n) rfl)];simp [qe,qdH,ek]
      ·rcases ug.1 F with rfl|F
       ·rw [<-qu6 g2 O];exact g1
       ·exact Y y F
     ·cases g
    ·cases g
   ·cases h
  ·cases h
end
def p53 (s:Sx):List AB->Option (AB×Sx)
 |[.string b]=>bif Nat.blt b.size 4611686018427387904&&Nat.ble 1 (qH (qC b.data.toList).toks).length&&(qH (qC b.data.toList).toks).all xw then
   (match xP s none ⟨qH (qC b.data.toList).toks,53,3,false,false⟩ with
   |some (i,s')=>some (.tuple #[.slice (some ⟨i,0,none⟩) (qC b.data.toList).toks.length (qC b.data.toList).toks.length,fV b.data.toList],s')
   |none=>none) else none
 |_=>none
def p77 (s:Sx):List AB->Option (AB×Sx)
 |[.string b]=>some (.bool (qJ b.data.toList),s)
 |_=>none
def p22 (s:Sx):List AB->Option (AB×Sx)
 |[.string b]=>bif Nat.blt b.size 4611686018427387904 then some (.bool (vY b.data.toList),s) else none
 |_=>none
def p24 (s:Sx):List AB->Option (AB×Sx)
 |[.string b]=>bif Nat.blt b.size 4294967281 then some (.bool (yc b.data.toList),s) else none
 |_=>none
def p34 (s:Sx):List AB->Option (AB×Sx)
 |[v,.string b]=>match qat s.H 1 v with
  |some l=>match qey l with
   |some ss=>bif Nat.ble ss.length 100000000000000&&Nat.ble (kA b.data.toList ss).length 100000000000000 then some (.string (qb (kA b.data.toList ss)),s) else none
   |none=>none
  |none=>none
 |_=>none
def qnv (g:FuncId):Option (Nat->Bool):=bif Nat.beq g 65 then some vJ else bif Nat.beq g 80 then some (vQ 20) else none
def qgf (x:Nd):Bool:=decide (x.d.kind<256)&&decide (x.d.name.length<4294967281)&&decide (x.d.vr.length<4294967281)&&decide (x.d.typ.length<4294967281)&&decide (x.kids.length<=1000000)
def p64 (s:Sx):List AB->Option (AB×Sx)
 |[v,.func (.func g) fs cs]=>match qat s.H 6 v with
  |some l=>match qe9 s.H l,qnv g with
   |some ns,some root=>bif fs.isEmpty&&cs.isEmpty&&ns.all qgf then some (.bool (whole ns root),s) else none
   |_,_=>none
  |none=>none
 |_=>none
def qwv (b:Bs):Option Int:=match Lib.atoiAll b with| .ok n=>some n|_=>none
def qil (s:Sx):List AB->Option (AB×Sx)
 |[.string b]=>bif Nat.ble b.size 20 then (match qwv b.data.toList with|some n=>some (.tuple #[.int .i64 n,.nilIface],s)|none=>none) else none
 |_=>none
def GM (w:AA):Prop:=L01.G w/\xI w
section
variable {σ:Sg} {w0 w:AA} {s s':Sx} {args args':List AB} {v:AB}
theorem gm (c:GM w0) (a:Iv σ w0 s w):L01.G w/\xI w:=⟨c.1.ext a.ext,c.2.ext a.ext⟩
theorem qCa (j:GM w0) (g:Iv σ w0 s w) (l:qw σ args args') (h:p53 s args=some (v,s')):Calls Tryz.prog 53 args'.toArray w (z8 σ w0 (.ret v s')):=by
 unfold p53 at h;split at h
 ·rename_i b;obtain ⟨a,h⟩:=jB h;simp only [km,uP,uV] at a;rw [qc7 l];split at h
  ·rename_i i z hn;cases h;refine (L01.qhe (gm j g).1 b.data.toList a.1.1).mono ?_;rintro _ W ⟨u,rfl,q,o⟩;obtain ⟨y,k,c,x⟩:=qCj (n:=(qC b.data.toList).toks.length) g o (qbi a.2) q (L01.jp _) a.1.2 (by decide) hn;exact ⟨y,_,k,c,qlI x (Qo rfl),rfl⟩
  ·cases h
 ·cases h
theorem qB8 (g:GM w0) (a:Iv σ w0 s w) (c:qw σ args args') (h:p77 s args=some (v,s')):Calls Tryz.prog 77 args'.toArray w (z8 σ w0 (.ret v s')):=by
 unfold p77 at h;split at h
 ·rename_i b;cases h;rw [qc7 c];exact qb6 a rfl (L01.yp (gm g a).1 b.data.toList)
 ·cases h
theorem qCe (g:GM w0) (a:Iv σ w0 s w) (c:qw σ args args') (h:p22 s args=some (v,s')):Calls Tryz.prog 22 args'.toArray w (z8 σ w0 (.ret v s')):=by
 unfold p22 at h;split at h
 ·rename_i b;obtain ⟨i,h⟩:=jB h;cases h;rw [qc7 c];exact qb6 a rfl (qaF (gm g a).1 b.data.toList (by simpa [uV] using i))
 ·cases h
theorem qCd (c:GM w0) (a:Iv σ w0 s w) (g:qw σ args args') (h:p24 s args=some (v,s')):Calls Tryz.prog 24 args'.toArray w (z8 σ w0 (.ret v s')):=by
 unfold p24 at h;split at h
 ·rename_i b;obtain ⟨i,h⟩:=jB h;cases h;rw [qc7 g];exact qb6 a rfl (qoO (gm c a).1 (gm c a).2 b.data.toList (by simpa [uV] using i))
 ·cases h
theorem qCb (i:Iv σ w0 s w) (a:qw σ args args') (h:p34 s args=some (v,s')):Calls Tryz.prog 34 args'.toArray w (z8 σ w0 (.ret v s')):=by
 unfold p34 at h;split at h
 ·rename_i u b;split at h
  ·rename_i l q;split at h
   ·rename_i ss g;obtain ⟨c,h⟩:=jB h;cases h;simp only [km,uP] at c
    match args',a with
    |[x,y],a=>
     obtain ⟨l',j,k⟩:=qda i a.1 q;rw [qmD k g] at j;have o:y=.string (qb b.data.toList):=by rw [qdH];exact a.2.1.uniq (.pln (v:=.string b) rfl)
     subst o;exact qb6 i rfl (qoN b.data.toList j c.1 c.2)
   ·cases h
  ·cases h
 ·cases h
theorem qB9 (A:GM w0) (k:Iv σ w0 s w) (o:qw σ args args') (h:p64 s args=some (v,s')):Calls Tryz.prog 64 args'.toArray w (z8 σ w0 (.ret v s')):=by
 unfold p64 at h;split at h
 ·rename_i u g fs cs;split at h
  ·rename_i l F;split at h
   ·rename_i Y root q a;obtain ⟨B,h⟩:=jB h;cases h;simp only [km,JE] at B;obtain ⟨⟨rfl,rfl⟩,E⟩:=B
    match args',o with
    |[x,y],o=>
     obtain ⟨l',V,R⟩:=qda k o.1 F;obtain ⟨xs,S,C,H⟩:=qo1 k l.length (kh _) R q;have O:y=qS g #[]:=o.2.1.uniq (Qo (v:=.func (.func g) #[] #[]) rfl);subst O;have U:zF w (qS g #[]) root:=by
      unfold qnv at a;cases i:Nat.beq g 65 with
      |true=>
       rw [i] at a;cases a;rw [um i];exact qpo
      |false=>
       rw [i] at a;obtain ⟨z,a⟩:=jB (b:=Nat.beq g 80) a;cases a;rw [um z];exact qiy
     have c:∀x∈xs,qgf x.nd=true:=fun x j=>ut.1 E x.nd (by rw [<-C];exact uw.2 ⟨x,j,rfl⟩);have:=qok (gm A k).1 (gm A k).2 (xs:=xs) ⟨by rw [S];exact V,H⟩ (fun x j=>by
      have:=c x j;simp only [qgf,km,ue] at this;exact ⟨this.1.1.1.1,this.1.1.1.2,this.1.1.2,this.1.2⟩) (fun x j=>by
      have:=c x j;simp only [qgf,km,ue] at this;exact this.2) U
     rw [C] at this;exact qb6 k rfl this
   ·cases h
  ·cases h
 ·cases h
theorem qCc (g:Iv σ w0 s w) (c:qw σ args args') (h:qil s args=some (v,s')):Calls Tryz.prog 273 args'.toArray w (z8 σ w0 (.ret v s')):=by
 unfold qil at h;split at h
 ·rename_i b;obtain ⟨i,h⟩:=jB h;split at h
  ·rename_i n hn;cases h;rw [qc7 c];unfold qwv at hn;split at hn
   ·rename_i m hm;cases hn;refine qb6 g rfl ((qoJ (by simpa [uP] using i) hm).mono ?_);rintro _ W ⟨a,rfl⟩;exact ⟨rfl,a⟩
   ·cases hn
  ·cases h
 ·cases h
end
end
def qdB {s:Sx} {i:Nat} {o:Ob} (h:qbr s i o=true):s.H.get i=some o:=by
 unfold qbr at h;split at h
 ·rename_i p hp;rw [hp,qdA h]
 ·cases h
def q54:TrP:=⟨54,83,4,3,85,153⟩
def qIM {c:List PanicEntry} (h:chainB q54 c=true):c=yr:=by
 unfold chainB at h;split at h
 ·rename_i p;obtain ⟨v,i,g⟩:=p;simp only [km,ux] at h;obtain ⟨⟨a,rfl⟩,rfl⟩:=h;split at a
  ·rename_i t cs;simp only [km,uL,JE] at a;obtain ⟨rfl,rfl⟩:=a;rfl
  ·cases a
 ·cases h
def qe6 {σ:Sg} {w0 w:AA} {s:Sx} (k:Iv σ w0 s w) {i b:Nat} {v:AB} {t:TypeId} (h:s.H.get i=some ⟨[v],t,1,true,false⟩) (hp:xw v=true) (g:σ i=some (b,0,0)):Blk w b #[v] t:=by
 obtain ⟨l,cs',j,c,a⟩:=qd6 k h rfl (show (1:Nat)≠0 by decide);rw [g] at j;cases j
 match cs',c,a with
 |[x],c,a=>
  rw [c.1.uniq (.pln hp)] at a;exact a
def qxJ {r:Sx->Tk->Option Ou} (hr:Sound Tryz.prog GM r) {s:Sx} {o:Ou} {σ:Sg} {w0 w:AA} (hg:GM w0) (hI:Iv σ w0 s w) {b B g i f n:Nat} {cs:List AB} {ds:Array AB} {tv' V:AB} (hσB:σ b=some (B,0,0)) (hB:Blk w B #[tv',.int .i64 (i:Int),.int .i64 (f:Int),V] 85)
  (hsl:qA V=true) (hln:qm V=n) (hcs:qw σ cs ds.toList) (hcb:qk Tryz.prog g=true) (h:qgX r s q54 b g cs (i:Int) n=some o):
  Calls Tryz.prog 54 #[.pointer (some ⟨B,0,none⟩),.func (.func g) #[] ds] w (z8 σ w0 o):=by
 unfold qgX at h;split at h
 ·cases h
 rename_i iA s1 n1;split at h
 ·cases h
 rename_i iY s2 n2;split at h
 ·cases h
 rename_i iN s3 n3;split at h
 ·cases h
 rename_i iM s4 n4;generalize hR:z8 σ w0 o=R;refine qiU fun ρ r0 r1 rg=>?_;simp [qdQ,r0];refine vC fun A W1 hA hE1 hbA hA1=>?_;simp [Value.cells,r0] at hbA;simp;refine qQ z4 fun Y W2 hY hE2 hbY hY1=>?_;simp;have hB2:=hB.ext (hE1.trans' hE2);have hA2:=hbA.ext hE2;refine js (hpn:=qgY (by decide)) qiT (fun W=>Blk W A #[.pointer (some ⟨B,0,none⟩)] 83/\Blk W B #[tv',.int .i64 (i:Int),.int .i64 (f:Int),V] 85) fun W3 ac _=>?_;have E:=hB2.ext ac;have y:=hA2.ext ac;have hY3:=hbY.ext ac;have hJ:Blk W3 A #[.pointer (some ⟨B,0,none⟩)] 83/\Blk W3 B #[tv',.int .i64 (i:Int),.int .i64 (f:Int),V] 85:=⟨y,E⟩;refine ⟨hJ, ?_⟩;have cA:∀W,(Blk W A #[.pointer (some ⟨B,0,none⟩)] 83/\Blk W B #[tv',.int .i64 (i:Int),.int .i64 (f:Int),V] 85)->W.cell? ⟨A,0,none⟩=some (.pointer (some ⟨B,0,none⟩))/\W.cell? ⟨B,1,none⟩=some (.int .i64 (i:Int))/\W.cell? ⟨B,3,none⟩=some V:=fun W h=>⟨by rw [h.1.cell];rfl,by rw [h.2.cell];rfl,by rw [h.2.cell];rfl⟩;simp+contextual -implicitDefEqProofs [qfx,cA,hJ,hsl];have rest:∀(C:qa) (W4:AA) (X5 X6:Nat),qc W3 W4->W3.heap.size<=X5->W3.heap.size<=X6->X5≠X6->Blk W4 X5 #[.int .i64 (i:Int)] 3->Blk W4 X6 #[.int .i64 (n:Int)] 3->C 1=ρ 1->C 2=.pointer (some ⟨A,0,none⟩)->C 4=.pointer (some ⟨Y,0,none⟩)->C 5=.pointer (some ⟨X5,0,none⟩)->C 6=.pointer (some ⟨X6,0,none⟩)->C gS=.tuple #[]->
   qbs.wp ⟨Tryz.prog,19,qbt,yL⟩ (vl Tryz.prog [.cell1 4] R .returning) (zJ Tryz.prog [.cell1 4] R) C W4:=by
  intro C W4 X5 X6 k q5 q6 q56 hb5 z e1 e2 e4 e5 e6 eg;have hA4:=y.ext k;have hY4:=hY3.ext k;have hE04:qc w W4:=((hE1.trans' hE2).trans' ac).trans' k;have z1:=hE1.size;have z2:=hE2.size;have z3:=ac.size;have hI4:=hI.toExt hE04;have wle:=hI.ext.size;have low:∀j o p,s.H.get j=some o->σ j=some p->p.1<w.heap.size:=fun j o p hj hp=>by
   obtain ⟨q,hq,hlt⟩:=hI.mr.at' hj;rw [hp] at hq;cases hq;exact hlt
  obtain ⟨τ1,l1,i1,I1,d1⟩:=qeS (cs':=[.pointer (some ⟨B,0,none⟩)]) hI4 n1 (b:=A) (by omega) (fun j oj pj hj hp=>by have:=low j oj pj hj hp;omega) hA4 ⟨qaC hσB,trivial⟩;obtain ⟨τ2,l2,i2,I2,d2⟩:=qeS (cs':=[.bool false]) I1 n2 (b:=Y) (by omega) (fun j oj pj hj hp=>by
   rcases d1 j oj pj hj hp with e|⟨a1,a2⟩
   ·omega
   ·have:=low j oj pj a1 a2;omega) hY4 ⟨.pln rfl,trivial⟩
  have d2':∀j o p,s2.H.get j=some o->τ2 j=some p->p.1<W2.heap.size:=fun j o p hj hp=>by
   rcases d2 j o p hj hp with e|⟨a1,a2⟩
   ·omega
   ·rcases d1 j o p a1 a2 with e|⟨b1,b2⟩
    ·omega
    ·have:=low j o p b1 b2;omega
  obtain ⟨τ3,l3,i3,I3,d3⟩:=qeS (cs':=[.int .i64 (i:Int)]) I2 n3 (b:=X5) (by omega) (fun j oj pj hj hp=>by have:=d2' j oj pj hj hp;omega) hb5 ⟨.pln rfl,trivial⟩;obtain ⟨τ4,l4,i4,I4,d4⟩:=qeS (cs':=[.int .i64 (n:Int)]) I3 n4 (b:=X6) (by omega) (fun j oj pj hj hp=>by
   rcases d3 j oj pj hj hp with e|⟨a1,a2⟩
   ·omega
   ·have:=d2' j oj pj a1 a2;omega) z ⟨.pln rfl,trivial⟩
  have l04:σ.le τ4:=Sg.le_trans l1 (Sg.le_trans l2 (Sg.le_trans l3 l4));simp [qbs];refine qgc (f:=116) (caps:=#[.pointer (some ⟨X5,0,none⟩),.pointer (some ⟨A,0,none⟩),.pointer (some ⟨X6,0,none⟩),.pointer (some ⟨Y,0,none⟩)]) (by simp [e2,e4,e5,e6]) trivial ?_;have eg':C 1000000000=.tuple #[]:=eg;simp [gS,e1,r1,eg'];refine xh (f:=g) hcb (fs:=#[]) (caps:=ds) (by simp) ?_;simp;cases ho:r s4 (.call g cs) with
  |none=>rw [ho] at h;cases h
  |some o1=>
   rw [ho] at h;have hcall:=hr.call _ _ _ _ ho τ4 w0 W4 ds.toList hg I4 (hcs.mono l04);rw [Array.toArray_toList] at hcall;refine hcall.mono ?_;cases o1 with
   |ret v s'=>
    rintro e w5 ⟨τ,v',hl,F,hv',rfl⟩;obtain ⟨hc,h⟩:=jB h;simp only [km] at hc;obtain ⟨⟨c1,c2⟩,c3⟩:=hc;cases h;have ab:=qdB c1;have aa:=hl _ _ (l4 _ _ (l3 _ _ i2));have hY5:=qe6 F ab rfl aa;simp;refine qD (B:=Y) (i:=0) (by simp [e4]) hY5 (by simp) (by simp [Value.cells]) (by simp) sz4 fun W6 u z=>?_;simp at z;simp [zJ,vl,gS,e4];refine jZ (by simp) qcB (qkN.mono ?_);rintro e u' w' ⟨⟨v,rfl⟩,rfl,rfl⟩;refine qaJ ?_;have cY:w'.cell? ⟨Y,0,none⟩=some (.bool true):=by rw [z.cell];rfl
    simp [qz,vX,RV.val,e4,cY,wQ,<-hR];exact ⟨τ,.bool true,Sg.le_trans l04 hl,qvR F ab (wJ c2) aa u,.pln rfl,rfl⟩
   |pn c s'=>
    rintro e w5 ⟨τ,hl,F,rfl⟩;obtain ⟨hc,h9⟩:=jB h;simp only [km,ux] at hc;obtain ⟨⟨⟨⟨⟨c1,c2⟩,c3⟩,c4⟩,c5⟩,c6⟩:=hc;obtain rfl:=qIM c1;have ab:=qdB c3;have aa:=hl _ _ (l4 _ _ (l3 _ _ i2));have hY5:=qe6 F ab rfl aa;have h55:=qe6 F (qdB c4) rfl (hl _ _ (l4 _ _ i3));have h56:=qe6 F (qdB c5) rfl (hl _ _ i4);have O:τ b=some (B,0,0):=hl _ _ (l04 _ _ hσB);have hA5:Blk w5 A #[.pointer (some ⟨B,0,none⟩)] 83:=by
     obtain ⟨b',cs',g1,g2,g3⟩:=qd6 F (qdB c2) rfl (show (1:Nat)≠0 by decide);rw [hl _ _ (l4 _ _ (l3 _ _ (l2 _ _ i1)))] at g1;cases g1
     match cs',g2,g3 with
     |[x],g2,g3=>
      rw [g2.1.uniq (qaC O)] at g3;exact g3
    unfold qwr at h9;split at h9
    ·rename_i ob hob;split at h9
     ·rename_i tv i' far a m c hcl;split at h9
      ·rename_i nv2 hsub;obtain ⟨hc,h8⟩:=jB h9;cases h8;simp only [km,ue,uP] at hc;obtain ⟨⟨⟨⟨⟨g1,g2⟩,g3⟩,g4⟩,g5⟩,g6⟩:=hc;have hobe:=qdA g6;subst hobe;obtain ⟨b',cs',k1,k2,k3⟩:=qd6 F hob rfl (show (1:Nat)≠0 by decide);rw [O] at k1;cases k1
       match cs',k2,k3 with
       |[tx,x1,x2,nx],k2,k3=>
        obtain ⟨v1,v2,v3,v4,_⟩:=k2;obtain ⟨j,rfl⟩:=JH g1;obtain ⟨f2,rfl⟩:=JH g2;have u2:=v2.uniq (.pln (v:=.int .i64 (j:Int)) rfl);have u3:=v3.uniq (.pln (v:=.int .i64 (f2:Int)) rfl);subst u2;subst u3;obtain ⟨hsx,hlx⟩:=qeA v4;obtain ⟨m1,m2,m3,m4,nv2',m5,m6⟩:=qhl v4 hsub;simp [zJ,vl,gS,e4];refine jZ (by simp) qcB ((qkM (n:=n) h55 hA5 h56 (.inr hY5) k3 hsx (by rw [hlx];exact g3)).mono ?_);rintro e u' w' ⟨⟨v,rfl⟩,hu,W6,W7,hE6,U,S,hO8,hb8⟩;show vo _ _ _ _ [] (settle u') w';rw [hu];refine qaJ ?_;have cY:w'.cell? ⟨Y,0,none⟩=some (.bool false):=by rw [hb8.cell];rfl
        simp [qz,vX,RV.val,e4,cY,wQ,<-hR];have hI6:=F.toExt hE6;have hm5:q8 nx 6 0 n (qI nx)=nv2':=by simpa using m5
        rw [hm5] at S;have hI7:Iv τ w0 ⟨s'.H.set b ⟨[tv,.int .i64 (i:Int),.int .i64 (f2:Int),nv2],q54.tt,1,true,false⟩,s'.nx,s'.rs⟩ W7:=by
         refine qkT hI6 hob (wJ g4) O U ⟨(fun hz=>by cases hz),fun _=>⟨_,O,S.heap, ?_,by simp,fun _=>⟨rfl,rfl,by simp⟩,(fun hw=>by cases hw),(fun hx=>by cases hx)⟩⟩;exact ⟨v1,.pln rfl,.pln rfl,m6,trivial⟩
        have hYo2:(s'.H.set b ⟨[tv,.int .i64 (i:Int),.int .i64 (f2:Int),nv2],q54.tt,1,true,false⟩).get iY=some ⟨[.bool false],q54.tb,1,true,false⟩:=by
         rw [Tr.get_set _ _ (wJ g4),q3 (fun e=>by rw [e] at c6;simp at c6)];exact ab
        exact ⟨τ,.bool false,Sg.le_trans l04 hl,qvR hI7 hYo2 (wJ g5) aa hO8,.pln rfl,rfl⟩
      ·cases h9
     ·cases h9
    ·cases h9
   |go e s'=>exact fun e w h=>h.elim
   |ex j e s'=>exact fun e w h=>h.elim
   |rt e s'=>exact fun e w h=>h.elim
 refine ⟨?_, ?_⟩
 ·refine qQ z3 fun X5 W4 hX5 k hb4 hs4=>⟨⟨y.ext k,E.ext k⟩, ?_⟩;refine qQ z3 fun X6 W5 hX6 l hb5 hs5=>⟨⟨(y.ext k).ext l,(E.ext k).ext l⟩, ?_⟩;have l5:W3.heap.size<=X5:=hX5;have Z:X5≠X6:=by omega
  have z4:=k.size;refine qD (B:=X5) (i:=0) (by simp) (hb4.ext l) (by simp) (by simp [Value.cells]) (by simp) vp fun W6 u z=>?_;simp at z;have hA6:=u.blk ((y.ext k).ext l) (by have:=y.lt;omega);have hB6:=u.blk ((E.ext k).ext l) (by have:=E.lt;omega);refine ⟨⟨hA6,hB6⟩, ?_⟩;refine qD (B:=X6) (i:=0) (by simp) (u.blk hb5 (ub Z)) (by simp) (by simp [Value.cells]) (by simp) vp fun W7 U S=>?_;simp [hln] at S;exact rest _ W7 X5 X6 (U.ext (u.ext (k.trans' l) l5) (by omega)) l5 (by omega) Z (U.blk z Z) S (by simp) (by simp) (by simp) (by simp) (by simp) (by simp [gS] at rg⊢;exact rg)
 ·refine qQ z3 fun X6 W4 hX6 k hb4 hs4=>⟨⟨y.ext k,E.ext k⟩, ?_⟩;refine qQ z3 fun X5 W5 hX5 l hb5 hs5=>⟨⟨(y.ext k).ext l,(E.ext k).ext l⟩, ?_⟩;have z4:=k.size;have l5:W3.heap.size<=X5:=by omega
  have Z:X6≠X5:=by omega
  refine qD (B:=X5) (i:=0) (by simp) hb5 (by simp) (by simp [Value.cells]) (by simp) vp fun W6 u z=>?_;simp at z;have hA6:=u.blk ((y.ext k).ext l) (by have:=y.lt;omega);have hB6:=u.blk ((E.ext k).ext l) (by have:=E.lt;omega);refine ⟨⟨hA6,hB6⟩, ?_⟩;refine qD (B:=X6) (i:=0) (by simp) (u.blk (hb4.ext l) Z) (by simp) (by simp [Value.cells]) (by simp) vp fun W7 U S=>?_;simp [hln] at S;exact rest _ W7 X5 X6 (U.ext (u.ext (k.trans' l) l5) hX6) l5 hX6 (ub Z) (U.blk z (ub Z)) S (by simp) (by simp) (by simp) (by simp) (by simp) (by simp [gS] at rg⊢;exact rg)
def t54:qld Tryz.prog GM (some q54):=by
 intro q hq r hr s args o h σ w0 w args' hg V E;cases hq;unfold qgW at h;split at h
 ·rename_i b g fs cs;split at h
  ·rename_i ob F;unfold qlK at h;split at h
   ·rename_i tv at0 far a n c A;obtain ⟨Y,h9⟩:=jB h;simp only [km,JE,ue] at Y;obtain ⟨⟨⟨⟨rfl,h0⟩,h1⟩,O⟩,l⟩:=Y;have l:=qdA l;subst l;obtain ⟨B,R,u,z,k⟩:=qd6 V F rfl (show (1:Nat)≠0 by decide)
    match R,z,k with
    |[tv',x1,x2,nv'],z,k=>
     obtain ⟨ht,e1,e2,e3,_⟩:=z;obtain ⟨i,rfl⟩:=JH h0;obtain ⟨f,rfl⟩:=JH h1;have u1:=e1.uniq (.pln (v:=.int .i64 (i:Int)) rfl);have u2:=e2.uniq (.pln (v:=.int .i64 (f:Int)) rfl);subst u1;subst u2;obtain ⟨S,H⟩:=qeA e3
     match args',E with
     |[y1,y2],E=>
      obtain ⟨U,C,_⟩:=E;have Z:=U.uniq (qaC u);subst Z;cases C with
      |pln h'=>cases h'
      |fnc k1 k2 k3 k4=>
       rename_i gs ds;have:gs=#[]:=Array.eq_empty_of_size_eq_zero (by simpa using k1.symm);subst this;exact qxJ (cs:=cs.toList) hr hg V u k S H (qw.of (by simpa using k3) fun j x y hx hy=>k4 j x y (by simpa using hx) (by simpa using hy)) O h9
   ·cases h
  ·cases h
 ·cases h
def qIL {w:AA} {b:Nat} {p v:AB} (hp:p=.pointer none\/p=.pointer (some ⟨b,0,none⟩)) (a:Blk w b #[p,v] 114):
  Calls Tryz.prog 177 #[.pointer (some ⟨b,0,none⟩)] w fun e w'=>e=.returned (.tuple #[])/\Blk w' b #[.pointer (some ⟨b,0,none⟩),v] 114/\Only b w w':=by
 rcases hp with rfl|rfl
 ·refine (L01.qwt b w (by rw [a.cell];rfl) (by simp [World.shape?,a.heap]) (by simp [World.frozen?,a.heap])).mono ?_;rintro _ _ ⟨rfl,rfl⟩;exact ⟨rfl,by simpa using qgt a 0 (.pointer (some ⟨b,0,none⟩)),qe4 _ _ _ _⟩
 ·refine (L01.qk3 b w (by rw [a.cell];rfl)).mono ?_;rintro _ _ ⟨rfl,rfl⟩;exact ⟨rfl,a,Only.refl _ _⟩
def qxe {w:AA} {B b:Nat} {v:AB} {bs:Bs} {rest:List AB} {T:TypeId} (s:Bs) (hB:B<=b) (hblt:b<w.heap.size) (u:w.ownsRow B 5 1 v bs.length (bs.map jE)) (C:v.ownBlock≠some b)
  (E:Calls Tryz.prog 177 #[.pointer (some ⟨b,0,none⟩)] w fun e w'=>e=.returned (.tuple #[])/\Blk w' b (.pointer (some ⟨b,0,none⟩)::v::rest).toArray T/\Only b w w') (hlen:bs.length+s.length<=100000000000000) (hBw:B<=w.heap.size):
  Calls Tryz.prog 89 #[.pointer (some ⟨b,0,none⟩),.string (qb s)] w fun e w'=>e=.returned (.tuple #[.int .i64 s.length,.nilIface])/\∃c,Blk w' b (.pointer (some ⟨b,0,none⟩)::c::rest).toArray T/\w'.ownsRow B 5 1 c (bs++s).length ((bs++s).map jE)/\c.ownBlock≠some b/\Below B w w'/\
   (∀k,k<w.heap.size->k≠b->v.ownBlock≠some k->w'.heap[k]? =w.heap[k]?)/\(c.ownBlock=v.ownBlock\/c.ownBlock=some w.heap.size):=by
 refine L01.qpT fun ρ h0 h1=>?_;simp [L01.qiG,h0];refine E.mono ?_;rintro _ w1 ⟨rfl,V,l⟩;have Y:w1.cell? ⟨b,1,none⟩=some v:=by rw [V.cell];rfl
 simp [h0,h1,Y];obtain ⟨i,hi,hz,hs,ac⟩:=qdW;have ab:=l.size;have U:=V.lt;have x:(qb s).size=s.length:=rfl;have j:w1.ownsRow B 5 1 v bs.length (bs.map jE):=qdy u fun k R=>l.block k fun e=>C (by rw [R,e]);obtain ⟨c,W3,hr,y,q,F⟩:=Lib.run_append_own_string (P:=Tryz.prog) w1 B 112 9 112 5 i Tryz.underlying112 Tryz.underlying9 hi hz hs ac v bs.length (bs.map jE) (by simpa using j) (qb s) (by rw [x];simp only [maxLen];omega) (by rw [x];omega) (by omega);have z:=qJZ (qb s) j (by rw [x];omega) hr F;rw [ab] at z;have a:W3.ownsRow B 5 1 c (bs++s).length ((bs++s).map jE):=by simpa [L01.qhm] using y
 have Z:Blk W3 b (.pointer (some ⟨b,0,none⟩)::v::rest).toArray T:=⟨(q.block b U (fun e=>C e.symm)).trans V.heap⟩;refine jN (v:=c) (w':=W3) (by simp [execOp,qR,resolve,invoke,builtin,hr]) ?_;have S:c.cells=#[c]/\c.oneCell=true:=by
  rcases a.2 with ⟨rfl,_⟩|⟨g,cap,cur,rfl,_⟩<;>exact ⟨rfl,rfl⟩
 simp;refine qD (B:=b) (i:=1) (by simp) Z (by simp) (by simp;exact S.1) (by simp;exact S.2) L01.qhj fun W4 A H=>?_;simp [h1] at H⊢;have o:c.ownBlock≠some b:=by
  rcases z with h|h
  ·rw [h];exact C
  ·rw [h];simp;omega
 have h3:Below B w W3:=(kq l hB).grown q (by omega) fun k R=>(j.lt k R).1;refine ⟨c,H,by simpa using qdy a (fun k R=>A.block k fun e=>o (by rw [R,e])),o,Below.trans h3 (kq A hB),fun k hk1 O aa=>?_,z⟩;exact (A.block k O).trans ((q.block k (by omega) (fun e=>aa e.symm)).trans (l.block k O))
def qyO {b g cap:Nat} {cur:Array AB} {bs:Bs} {w:AA} (a:w.cell? ⟨b,1,none⟩=some (.slice (some ⟨g,0,none⟩) bs.length cap)) (z:w.heap[g]? =some (.cells cur 5 (0,0))) (H:bs≠[]) (E:bs.length<=cap) (u:cap<=maxLen) (U:cur.size=cap*1) (l:cur.toList.take (bs.length*1)=bs.map jE):
  Calls Tryz.prog 90 #[.pointer (some ⟨b,0,none⟩)] w fun e w'=>e=.returned (.string (qb bs))/\Below g w w'/\∀k,k≠g->w'.heap[k]? =w.heap[k]? :=by
 have R:0<bs.length:=Jf.2 H;refine qDo fun ρ r0=>?_;simp -implicitDefEqProofs [qpS];refine js qDn (fun W=>W.heap=w.heap) fun w1 i c=>⟨c, ?_⟩;have O:∀W:AA,W.heap=w.heap->W.cell? ⟨b,1,none⟩=some (.slice (some ⟨g,0,none⟩) bs.length cap):=fun W e=>by
  rw [<-a];simp only [World.cell?,e]
 have F:qA (.slice (some ⟨g,0,none⟩) bs.length cap)=true:=by simp [qA,E]
 have B:qm (.slice (some ⟨g,0,none⟩) bs.length cap)=bs.length:=rfl;simp+contextual -implicitDefEqProofs [qpO,r0,O,O w1 c,F,B];have y:(Builtin.unsafeSliceData_ #[112] 196 #[.slice (some ⟨g,0,none⟩) bs.length cap]).run Tryz.prog w1=.ok (.pointer (some ⟨g,0,none⟩)) w1:=
  Lib.run_unsafeSliceData_row _ _ _ _ _ _ (by omega)
 refine qvM ?_;refine jN (v:=.pointer (some ⟨g,0,none⟩)) (w':=w1) (by simp [execOp,qR,resolve,invoke,builtin,y]) ?_;refine ⟨c, ?_⟩;have o:w1.heap[g]? =some (.cells cur 5 (0,0)):=by rw [c];exact z
 have A:(Builtin.unsafeString_ #[196,3] 9 #[.pointer (some ⟨g,0,none⟩),.int .i64 bs.length]).run Tryz.prog w1=.ok (.string ⟨bs.toArray⟩) (w1.freeze ⟨g,0,none⟩ bs.length):=by
  refine Lib.run_unsafeString_row w1 196 3 9 5 Tryz.underlying196 (by kernel_rfl) g cur.size (by simp [World.shape?,o]) bs H (by omega) (by unfold maxLen at u;omega) ?_;intro j x S;have a:cur.toList[j]? =some (jE x):=by
   have q:(bs.map jE)[j]? =some (jE x):=by simp [S]
   rw [<-l,Jv] at q;split at q
   ·exact q
   ·cases q
  simp only [World.cell?,zD,ur,o];simpa [jE] using a
 refine qvM ?_;refine jN (v:=.string ⟨bs.toArray⟩) (w':=w1.freeze ⟨g,0,none⟩ bs.length) (by simp [execOp,qR,resolve,invoke,builtin,A]) ?_;simp -implicitDefEqProofs [qpP];refine ⟨rfl,Lib.below_freeze (⟨i.os,i.tape,i.output,i.size,fun k _=>by rw [c]⟩:Below g w w1) (p:=⟨g,0,none⟩) (kh _) _,fun k C=>?_⟩;rw [<-c];unfold World.freeze;split
 ·rfl
 ·simp only [JD];rw [q3 (by simpa using fun e=>C e.symm)]
section
variable {σ:Sg} {w0 w:AA} {s s':Sx} {args args':List AB} {v:AB}
def qkY:AB->Option UInt8
 | .int .u8 k=>bif decide (0<=k)&&decide (k<256) then some (UInt8.ofNat k.toNat) else none
 |_=>none
def qgo:List AB->Option Bs
 |[]=>some []
 |a::l=>match qkY a,qgo l with|some c,some r=>some (c::r)|_,_=>none
theorem qIZ {a:AB} {c:UInt8} (h:qkY a=some c):a=jE c:=by
 unfold qkY at h;split at h
 ·rename_i k;obtain ⟨g,h⟩:=jB h;simp only [km,ue] at g;cases h;have:k.toNat<256:=by omega
  simp only [jE,Value.int.injEq,true_and];rw [UInt8.toNat_ofNat',Nat.mod_eq_of_lt (by simpa using this),u7 g.1]
 ·cases h
theorem qwb:∀{l l':List AB} {bs:Bs},qw σ l l'->qgo l=some bs->l'=bs.map jE
 |[],[],bs,_,h=>by cases h;rfl
 |a::l,b::m,bs,g,h=>by
  unfold qgo at h;split at h
  ·rename_i c r j k;cases h;have i:=qIZ j;subst i;rw [qwb g.2 k,g.1.uniq (.pln (v:=jE c) rfl)];rfl
  ·cases h
noncomputable def qd5 (s:Sx):AB->Option (Bs×vM)
 | .slice none 0 0=>some ([],s.H)
 | .slice (some ⟨j,0,none⟩) n c=>match s.H.get j with
  |some ob=>bif ob.ex&&Nat.beq ob.ty 5&&Nat.beq ob.sz 1&& !ob.whole&&Nat.beq n ob.cells.length&&Nat.beq c n&&Nat.blt j vP then
    (match qgo ob.cells with|some bs=>some (bs,s.H.del j)|none=>none) else none
  |none=>none
 |_=>none
theorem qwd (E:Iv σ w0 s w) {u C:AB} (hv:VR σ u C) {bs:Bs} {H:vM} (h:qd5 s u=some (bs,H)):
  w.ownsRow w0.heap.size 5 1 C bs.length (bs.map jE)/\(∀j o,H.get j=some o->s.H.get j=some o)/\(∀j o p,H.get j=some o->σ j=some p->some p.1≠C.ownBlock)/\(∀b i o,s.H.get i=some o->σ i=some (b,0,0)->o.ty≠5->C.ownBlock≠some b/\(∃Z,H.get i=some Z/\Z=o)):=by
 unfold qd5 at h;split at h
 ·cases h;cases hv with
  |pln _=>exact ⟨⟨by simp,.inl ⟨rfl,rfl⟩⟩,fun _ _ h=>h,fun _ _ _ _ _=>by simp [Value.ownBlock],fun b i o g hs ht=>⟨by simp [Value.ownBlock],o,g,rfl⟩⟩
 ·rename_i j n c;split at h
  ·rename_i ob a;obtain ⟨hc,R⟩:=jB h;simp only [km,ux] at hc;obtain ⟨⟨⟨⟨⟨⟨c1,c2⟩,c3⟩,c4⟩,c5⟩,c6⟩,k⟩:=hc;have c2:=um c2;have c3:=um c3;have c5:=um c5;have c6:=um c6;have k:=wJ k;subst c6;split at R
   ·rename_i bs1 F;cases R;cases hv with
    |pln h'=>cases h'
    |slc hs hn=>
     rename_i b f x;obtain ⟨b1,f1,x1,cur,y⟩:=(E.mr j ob a).2 (by rw [c3];decide);have z:=y.at';rw [hs] at z;cases z;obtain ⟨V,U⟩:=y.exact c1;subst V;rw [c3,uW] at U;obtain ⟨n0,S,hm0⟩:=y.most c4;rw [c3,uW] at S;have B:=y.cs;simp only [List.drop_zero] at B;have l:=qwb B F;have q:bs.length=ob.cells.length:=by
      have:=congrArg List.length l;rw [uF,Array.length_toList,uq] at this;omega
     refine ⟨⟨by simp,.inr ⟨b,c+x,cur,by rw [c5,q],E.own j ob _ a hs,by rw [<-c2];exact y.heap,by omega,by omega,by omega, ?_⟩⟩,fun i o g=>(get_del k g).2,fun i o p g hp he=>?_,fun b' i o g hp ht=>?_⟩
     ·rw [uW,q];exact l
     ·obtain ⟨Y,O⟩:=get_del k g;refine Y (E.ap i j o ob p _ O a hp hs ?_);simpa [Value.ownBlock] using he
     ·have A:i≠j:=fun e=>by subst e;rw [a] at g;cases g;exact ht c2
      refine ⟨fun e=>A (E.ap i j o ob _ _ g a hp hs ?_),o, ?_,rfl⟩
      ·simp [Value.ownBlock] at e;exact e.symm
      ·rw [Tr.get_del _ k,q3 A];exact g
   ·cases R
  ·cases h
 ·cases h
theorem qAh (u:Iv σ w0 s w) {i:Nat} (A:i<vP) {b f x:Nat} (k:σ i=some (b,f,x)) (z:∀j o p,s.H.get j=some o->σ j=some p->j≠i->p.1≠b) (O:w0.heap.size<=b) {ob:Ob} (S:ob.sz≠0) {cur:Array AB} (R:RO σ w i ob b f x cur):
  Iv σ w0 ⟨s.H.set i ob,s.nx,s.rs⟩ w:=by
 have F:∀j,(s.H.set i ob).get j=if j=i then some ob else s.H.get j:=fun j=>Tr.get_set _ _ A j
 refine ⟨fun j y c=>?_,u.dom,u.res,fun j l y ol E pl c q a g he=>?_,u.ext,fun j y E c a=>?_⟩
 ·dsimp only at c;rw [F] at c;split at c
  ·rename_i e;cases c;subst e;exact ⟨fun h=>absurd h S,fun _=>⟨b,f,x,cur,R⟩⟩
  ·exact u.mr j y c
 ·dsimp only at c q;rw [F] at c q;split at c
  ·rename_i B;subst B;rw [k] at a;cases a;split at q
   ·rename_i C;exact C.symm
   ·rename_i C;exact absurd he.symm (z l ol pl q g C)
  ·rename_i B;split at q
   ·rename_i C;subst C;rw [k] at g;cases g;exact absurd he (z j y E c a B)
   ·exact u.ap j l y ol E pl c q a g he
 ·dsimp only at c;rw [F] at c;split at c
  ·rename_i B;subst B;rw [k] at a;cases a;exact O
  ·exact u.own j y E c a
def qk1 (t:TypeId) (n:Nat):Bool:=(Nat.beq t 114&&Nat.beq n 0)||(Nat.beq t 116&&Nat.beq n 2)
def qwV (i:Nat):AB->Bool
 | .pointer none=>true
 | .pointer (some ⟨j,0,none⟩)=>Nat.beq j i
 |_=>false
noncomputable def wrX (s:Sx) (i:Nat) (ob:Ob) (b:ByteArray) (rest:List AB) (bs:Bs) (H:vM):Option (AB×Sx):=
 bif Nat.ble (bs.length+b.size) 100000000000000&&Nat.ble 1 (bs.length+b.size) then
  match xP ⟨H.del i,s.nx,s.rs⟩ none ⟨(bs++b.data.toList).map jE,5,1,false,true⟩ with
  |some (k,s1)=>some (.tuple #[.int .i64 b.size,.nilIface],⟨s1.H.set i ⟨.pointer (some ⟨i,0,none⟩):: .slice (some ⟨k,0,none⟩) (bs.length+b.size) (bs.length+b.size)::rest,ob.ty,1,true,false⟩,s1.nx,s1.rs⟩)
  |none=>none
 else none
noncomputable def wrA (s:Sx) (i:Nat) (ob:Ob) (b:ByteArray):Option (AB×Sx):=
 match ob.cells with
 |p::bv::rest=>bif qwV i p&&qk1 ob.ty rest.length&&Nat.blt i vP&&qbo ob ⟨p::bv::rest,ob.ty,1,true,false⟩ then
   (match qd5 s bv with|some (bs,H)=>wrX s i ob b rest bs H|none=>none) else none
 |_=>none
noncomputable def p89 (s:Sx):List AB->Option (AB×Sx)
 |[.pointer (some ⟨i,0,none⟩),.string b]=>match s.H.get i with
  |some ob=>wrA s i ob b
  |none=>none
 |_=>none
theorem qB7 (A:Iv σ w0 s w) (hv:qw σ args args') (h:p89 s args=some (v,s')):Calls Tryz.prog 89 args'.toArray w (z8 σ w0 (.ret v s')):=by
 unfold p89 at h;split at h
 ·rename_i i b;split at h
  ·rename_i ob U;unfold wrA at h;split at h
   ·rename_i p bv rest hcells;obtain ⟨hc,h9⟩:=jB h;simp only [km] at hc;obtain ⟨⟨⟨c1,c2⟩,c3⟩,c4⟩:=hc;have hobe:=qdA c4;generalize hty:ob.ty=T at*;subst hobe;split at h9
    ·rename_i bs H hbuf;unfold wrX at h9;obtain ⟨hc,h8⟩:=jB h9;simp only [km,uP] at hc;split at h8
     ·rename_i k s1 hnew;cases h8;have F:=wJ c3;obtain ⟨B,bs',O,hvB,a⟩:=qd6 A U rfl (show (1:Nat)≠0 by decide)
      match bs',hvB,a with
      |p'::bv'::y,hvB,a=>
       obtain ⟨v1,v2,v3⟩:=hvB;have hT5:T≠5:=fun e=>by subst e;simp [qk1] at c2
       obtain ⟨b1,b2,b3,b4⟩:=qwd A v2 hbuf;obtain ⟨b5,_⟩:=b4 B i _ U O hT5;have hB0:w0.heap.size<=B:=A.own i _ _ U O;have hp':p'=.pointer none\/p'=.pointer (some ⟨B,0,none⟩):=by
        unfold qwV at c1;split at c1
        ·exact .inl (v1.uniq (.pln rfl))
        ·rename_i j;have:=um c1;subst this;exact .inr (v1.uniq (qaC O))
        ·cases c1
       have hchk:Calls Tryz.prog 177 #[.pointer (some ⟨B,0,none⟩)] w fun e w'=>e=.returned (.tuple #[])/\Blk w' B (.pointer (some ⟨B,0,none⟩)::bv'::y).toArray T/\Only B w w':=by
        simp only [qk1,uS,km] at c2;have hrl:=v3.len;rcases c2 with ⟨d1,V⟩|⟨d1,V⟩
        ·have d1:=um d1;have V:=um V;subst d1
         match y,hrl,a with
         |[],_,a=>exact qIL hp' a
         |_::_,e,_=>exact absurd (e.symm.trans V) (by simp)
        ·have d1:=um d1;have V:=um V;subst d1
         match y,hrl,a with
         |[nv,o],_,a=>exact qAW a hp'
         |[],e,_=>exact absurd (e.symm.trans V) (by simp)
         |[_],e,_=>exact absurd (e.symm.trans V) (by simp)
         |_::_::_::_,e,_=>exact absurd (e.symm.trans V) (by simp)
       have S:b.data.toList.length=b.size:=rfl
       match args',hv with
       |[y1,y2],hv=>
        obtain ⟨g1,g2,_⟩:=hv;have u1:=g1.uniq (qaC O);have u2:y2=.string (qb b.data.toList):=by rw [qdH];exact g2.uniq (.pln (v:=.string b) rfl)
        subst u1;subst u2;refine (qxe b.data.toList hB0 a.lt b1 b5 hchk (by rw [S];exact hc.1) A.ext.size).mono ?_;rintro _ W ⟨rfl,v',k1,k2,k3,k4,k5,k6⟩;have E:(bs++b.data.toList).length=bs.length+b.size:=by rw [ky,S]
        have Z:Iv σ w0 ⟨H.del i,s.nx,s.rs⟩ w:=by
         have sub:∀j o,(H.del i).get j=some o->j≠i/\s.H.get j=some o:=fun j o u=>⟨(get_del F u).1,b2 j o (get_del F u).2⟩;exact ⟨A.mr.keep (fun j o u=>(sub j o u).2) fun _ _ _ _ _=>rfl,A.dom,A.res,fun j l oj ol pj pl u hl=>A.ap j l oj ol pj pl (sub j oj u).2 (sub l ol hl).2,A.ext,fun j o p u=>A.own j o p (sub j o u).2⟩
        have hdi:∀j o q,(H.del i).get j=some o->σ j=some q->q.1<w.heap.size/\q.1≠B/\some q.1≠bv'.ownBlock:=fun j o q u R=>by
         obtain ⟨r,hr,hlt⟩:=Z.mr.at' u;rw [R] at hr;cases hr;obtain ⟨hne,hj2⟩:=get_del F u;exact ⟨hlt,fun e=>hne (A.ap j i o _ q _ (b2 j o hj2) U R O e),b3 j o q hj2 R⟩
        rcases k2.2 with ⟨_,hz⟩|⟨g,cap,cur,hv',hg0,hgh,hnc,hcm,hcs,C⟩
        ·rw [E] at hz;omega
        ·subst hv';rw [E] at hnc C;have hMW:MR σ (H.del i) W:=Z.mr.keep (fun _ _ h=>h) fun j o q u R=>by
          obtain ⟨e1,e2,e3⟩:=hdi j o q u R;exact k5 q.1 e1 e2 fun e=>e3 e.symm
         have hEW:qc w0 W:=⟨k4.os.trans A.ext.os,k4.tape.trans A.ext.tape,k4.output.trans A.ext.output,Nat.le_trans A.ext.size k4.size,fun q R=>(k4.block q R).trans (A.ext.block q R)⟩;have hgB:g≠B:=fun e=>k3 (by simp [Value.ownBlock,e]);obtain ⟨τ,Y,hi,hI',e4,e5,e6⟩:=qiv Z hnew (b:=g) (f:=0) (x:=cap - (bs.length+b.size)) (W:=W) hMW hEW hg0 (fun j oj pj u hp e=>by
          obtain ⟨e1,e2,e3⟩:=hdi j oj pj u hp;rcases k6 with k6|k6
          ·exact e3 (by rw [<-k6,e];rfl)
          ·simp [Value.ownBlock] at k6;omega) fun τ Y hi=>⟨(fun hz=>by cases hz),fun _=>⟨cur,hi,hgh,by
          dsimp only;rw [uq,E,List.drop_zero];rw [uW] at C;rw [C];exact qbi (by rw [ut];intro x hx;obtain ⟨c,_,rfl⟩:=uw.1 hx;rfl),by
          dsimp only;rw [uq,E];omega,(fun hw=>by cases hw),fun _=>⟨bs.length+b.size,by rw [uq,E,uW],by omega⟩,fun _=>⟨rfl,by
          dsimp only;rw [uq,E];omega⟩⟩⟩
         have z:τ i=some (B,0,0):=Y _ _ O;have hki:k≠i:=fun e=>by
          subst e;rw [hi] at z;exact hgB (congrArg Prod.fst (Jp z))
         have hsl:VR τ (.slice (some ⟨k,0,none⟩) (bs.length+b.size) (bs.length+b.size)) (.slice (some ⟨g,0,none⟩) (bs++b.data.toList).length cap):=by
          have:=VR.slc (σ:=τ) (o:=0) (n:=bs.length+b.size) (c:=bs.length+b.size) hi (kh _);rw [show bs.length+b.size+(cap - (bs.length+b.size))=cap by omega] at this;rw [E];exact this
         refine ⟨τ,_,Y,qAh hI' F z (fun j o q u R hne e=>?_) hB0 (show (1:Nat)≠0 by decide) (ob:=⟨.pointer (some ⟨i,0,none⟩):: .slice (some ⟨k,0,none⟩) (bs.length+b.size) (bs.length+b.size)::rest,T,1,true,false⟩) (cur:=(.pointer (some ⟨B,0,none⟩):: .slice (some ⟨g,0,none⟩) (bs++b.data.toList).length cap::y).toArray) ?_, ?_,rfl⟩
         ·rw [e4,Tr.get_set _ _ e5] at u;split at u
          ·rename_i e7;subst e7;rw [hi] at R;cases R;exact hgB e
          ·rename_i e7;exact (hdi j o q u (e6 j q R e7)).2.1 e
         ·have hr3:=v3.len;refine ⟨z,k1.heap, ?_,by simp [hr3],fun _=>⟨rfl,rfl,by simp [hr3]⟩,(fun hw=>by cases hw),(fun hx=>by cases hx)⟩;simp only [List.drop_zero];rw [uz (by simp [hr3])];exact ⟨qaC z,hsl,v3.mono Y⟩
         ·rw [S];exact Qo (v:=.tuple #[.int .i64 (b.size:Int),.nilIface]) rfl
     ·cases h8
    ·cases h9
   ·cases h
  ·cases h
 ·cases h
noncomputable def qmE (s:Sx) (j:Nat) (bs:Bs):Option (AB×Sx):=bif Nat.ble 1 bs.length&&Nat.blt j vP then some (.string (qb bs),⟨s.H.del j,s.nx,s.rs⟩) else none
def qnq:AB->Option Nat
 | .slice (some ⟨j,0,none⟩) _ _=>some j
 |_=>none
noncomputable def p90 (s:Sx):List AB->Option (AB×Sx)
 |[.pointer (some ⟨i,0,none⟩)]=>match s.H.get i with
  |some ob=>bif ob.whole&&Nat.beq ob.sz 1 then (match qgl s.H ⟨i,1,none⟩ with
   |some bv=>match qd5 s bv,qnq bv with
    |some (bs,_),some j=>qmE s j bs
    |_,_=>none
   |none=>none) else none
  |none=>none
 |_=>none
theorem qB6 (a:Iv σ w0 s w) (hv:qw σ args args') (h:p90 s args=some (v,s')):Calls Tryz.prog 90 args'.toArray w (z8 σ w0 (.ret v s')):=by
 unfold p90 at h;split at h
 ·rename_i i;split at h
  rotate_left
  ·cases h
  rename_i ob hob;obtain ⟨hw,h⟩:=jB h;simp only [km] at hw;have hz1:=um hw.2;split at h
  ·rename_i bv hbv;split at h
   ·rename_i bs H j y k;unfold qmE at h;obtain ⟨hc,h9⟩:=jB h;cases h9;simp only [km,uP] at hc;have F:=wJ hc.2
    match args',hv with
    |[y1],hv=>
     obtain ⟨g1,_⟩:=hv;cases g1 with
     |pln h'=>cases h'
     |ptr U=>
      rename_i B f x;obtain ⟨u,hu,Z⟩:=qv3 a.mr (.ptr (o:=1) U) hbv;have C:w.cell? ⟨B,f+1,none⟩=some u:=hu;obtain ⟨b1,b2,b3,b4⟩:=qwd a Z y;unfold qnq at k;split at k
      ·rename_i j' n c;cases k;rcases b1.2 with ⟨_,hz⟩|⟨g,cap,cur,hv',hg0,hgh,hnc,hcm,hcs,A⟩
       ·omega
       ·subst hv';have S:∃q,σ j=some q/\q.1=g:=by
         cases Z with
         |pln h'=>cases h'
         |slc hs hn=>exact ⟨_,hs,rfl⟩
        obtain ⟨q,hq,hqg⟩:=S;have hf:f=0:=by
         obtain ⟨b5,f5,x5,cur5,Y⟩:=(a.mr i ob hob).2 (by rw [hz1];decide);have V:=Y.at';rw [U] at V;cases V;exact (Y.whole hw.1).1
        subst hf;refine (qyO C hgh (by intro e;rw [e] at hc;simp at hc) hnc hcm hcs A).mono ?_;rintro _ W ⟨rfl,R,hk⟩;have hEW:qc w0 W:=⟨R.os.trans a.ext.os,R.tape.trans a.ext.tape,R.output.trans a.ext.output,Nat.le_trans a.ext.size R.size,fun r hr=>(R.block r (by omega)).trans (a.ext.block r hr)⟩;refine ⟨σ,_,Sg.le_refl σ,⟨?_,a.dom,a.res,fun O l E ol pj pl z h2=>a.ap O l E ol pj pl (get_del F z).2 (get_del F h2).2,hEW,fun O o p z=>a.own O o p (get_del F z).2⟩,.pln rfl,rfl⟩;obtain ⟨E,hoj⟩:∃E,s.H.get j=some E:=by
         cases hj2:s.H.get j with
         |some E=>exact ⟨E,rfl⟩
         |none=>unfold qd5 at y;simp only [hj2] at y;cases y
        exact a.mr.keep (fun O o z=>(get_del F z).2) fun O o p z hp=>hk p.1 fun e=>(get_del F z).1 (a.ap O j o E p q (get_del F z).2 hoj hp hq (by rw [e,hqg]))
      ·cases k
   ·cases h
  ·cases h
 ·cases h
end
noncomputable def qeU:qcK:=fun f args s=>
 bif Nat.beq f 89 then p89 s args else bif Nat.beq f 90 then p90 s args else bif Nat.beq f 53 then p53 s args else bif Nat.beq f 77 then p77 s args else bif Nat.beq f 22 then p22 s args else bif Nat.beq f 24 then p24 s args else
 bif Nat.beq f 34 then p34 s args else bif Nat.beq f 64 then p64 s args else bif Nat.beq f 273 then qil s args else none
def Qr {α:Type} {f n:Nat} {x y:Option α} {v:α} (h:(bif Nat.beq f n then x else y)=some v):(f=n/\x=some v)\/y=some v:=by
 cases a:Nat.beq f n with
 |true=>rw [a] at h;exact .inl ⟨um a,h⟩
 |false=>rw [a] at h;exact .inr h
def qnR:qgG Tryz.prog GM qeU:=by
 intro f args s v s' h σ w0 w args' g c a;unfold qeU at h;rcases Qr h with ⟨rfl,h⟩|h
 ·exact qB7 c a h
 rcases Qr h with ⟨rfl,h⟩|h
 ·exact qB6 c a h
 rcases Qr h with ⟨rfl,h⟩|h
 ·exact qCa g c a h
 rcases Qr h with ⟨rfl,h⟩|h
 ·exact qB8 g c a h
 rcases Qr h with ⟨rfl,h⟩|h
 ·exact qCe g c a h
 rcases Qr h with ⟨rfl,h⟩|h
 ·exact qCd g c a h
 rcases Qr h with ⟨rfl,h⟩|h
 ·exact qCb c a h
 rcases Qr h with ⟨rfl,h⟩|h
 ·exact qB9 g c a h
 rcases Qr h with ⟨rfl,h⟩|h
 ·exact qCc c a h
 ·cases h
def prZ (t:TypeId):Bool:=Nat.beq t 26
def qoc:qac Tryz.prog prZ:=fun t g=>by
 have:=um g;subst this;exact ⟨g26,fun a b c d w=>qvA a b c d w⟩
def skZ (f:FuncId) (i:Nat):List Nat:=bif Nat.beq f 122&&Nat.beq i 4 then [5] else []
noncomputable def qeJ (f:FuncId) (args:List AB):Option Ou:=wD Tryz.prog qeU (some q54) skZ prZ 3000 ⟨.lf,0,[]⟩ (.call f args)
def iv0 (w:AA):Iv (fun _=>none) w ⟨.lf,0,[]⟩ w:=⟨qdG,(fun i p h=>by cases h),(fun i h=>by cases h),(fun i j a c k g h=>by cases h),jd w,(fun i o p h=>by cases h)⟩
def qlL:Option Ou->Bool
 |some (.ret (.bool true) _)=>true
 |_=>false
def Ql (a b:Int):AB:=.tuple #[.slice none 0 0,.agg #[.int .i64 a,.int .i64 b]]
def qdj (v:AB):Option Ou->Bool
 |some (.ret u _)=>xl 4 u v
 |_=>false
def qvu {σ:Sg} (a b:Int):VR σ (Ql a b) (Ql a b):=qlI (.pln rfl) (Qo (v:=.agg #[.int .i64 a,.int .i64 b]) rfl)
theorem qzX:qdj (Ql 20 1) (qeJ 15 [.string (qb exB)])=true:=by kernel_rfl
theorem qzW:qdj (Ql 21 1) (qeJ 15 [.string (qb exC)])=true:=by kernel_rfl
def qH4 {b:ByteArray} {x y:Int} (h:qdj (Ql x y) (qeJ 15 [.string b])=true) {w:AA} (a:GM w):Calls Tryz.prog 15 #[.string b] w fun e w'=>e=.returned (Ql x y)/\qc w w':=by
 unfold qdj at h;split at h
 ·rename_i u s hs;have i:=yR 4 _ _ h;subst i;refine ((qna qoc qnR t54 3000).call 15 [.string b] _ _ hs (fun _=>none) w w [.string b] a (iv0 w) ⟨.pln rfl,trivial⟩).mono ?_;rintro e w' ⟨l,k,j,g,c,rfl⟩;exact ⟨by rw [c.uniq (qvu x y)],g.ext⟩
 ·cases h
noncomputable def p15 (s:Sx):List AB->Option (AB×Sx)
 |[.string b]=>bif wB b (qb exB) then some (Ql 20 1,s) else bif wB b (qb exC) then some (Ql 21 1,s) else none
 |_=>none
noncomputable def qh3:qcK:=fun f args s=>bif Nat.beq f 15 then p15 s args else qeU f args s
def qAB:qgG Tryz.prog GM qh3:=by
 intro f args s v s' h σ w0 w args' k j i;unfold qh3 at h;rcases Qr h with ⟨rfl,a⟩|a
 ·clear h;unfold p15 at a;split at a
  ·rename_i b;have key:∀{c:Bs} {x y:Int},qdj (Ql x y) (qeJ 15 [.string (qb c)])=true->b=qb c->Calls Tryz.prog 15 args'.toArray w (z8 σ w0 (.ret (Ql x y) s)):=by
    intro c x y l g;subst g;have u:args'=[.string (qb c)]:=by
     match args',i with
     |[z],i=>rw [i.1.uniq (.pln (v:=.string (qb c)) rfl)]
    rw [u];refine (qH4 l (gm k j)).mono ?_;rintro e W ⟨rfl,q⟩;exact ⟨σ,_,Sg.le_refl σ,j.toExt q,qvu x y,rfl⟩
   cases g:wB b (qb exB) with
   |true=>
    rw [g] at a;cases a;exact key qzX (qa9.1 g)
   |false=>
    rw [g] at a;obtain ⟨o,A⟩:=jB (b:=wB b (qb exC)) a;cases A;exact key qzW (qa9.1 o)
  ·cases a
 ·exact qnR f args s v s' a σ w0 w args' k j i
noncomputable def qzU (f:FuncId) (args:List AB):Option Ou:=wD Tryz.prog qh3 (some q54) skZ prZ 3000 ⟨.lf,0,[]⟩ (.call f args)
theorem qzY:qlL (qzU 14 [])=true:=by kernel_rfl
def qxb {w:AA} (i:L01.G w) (g:xI w):Calls Tryz.prog 14 #[] w (okR w):=by
 have h:=qzY;unfold qlL at h;split at h
 ·rename_i s hs;refine ((qna qoc qAB t54 3000).call 14 [] _ _ hs (fun _=>none) w w [] ⟨i,g⟩ (iv0 w) trivial).mono ?_;rintro e w' ⟨j,k,l,c,a,rfl⟩;exact ⟨by rw [a.uniq (.pln (v:=.bool true) rfl)],c.ext⟩
 ·cases h
end Go.L02
namespace Go.L02
open Go.Eng
open Go.L01 (Bs Tok)
def vT (ts:List Tok) {α:Type} (i f:Nat):Rs α->Rs α->Prop
 | .ok a j g,r=>i<=j/\f<=g/\(j+1<ts.length->g+1<ts.length->r=.ok a j g)
 | .no g,r=>i<=g/\f<=g/\(g+1<ts.length->r=.no g)
 | .oof,_=>True
def qG (ts:List Tok) {α:Type} (m m':M α):Prop:=∀i f,vT ts i f (m i f) (m' i f)
section
variable {ts L:List Tok}
theorem vT.le {α:Type} {i f c o:Nat} {r r':Rs α} (h:vT ts c o r r') (k:i<=c) (l:f<=o):vT ts i f r r':=by
 cases r with
 |ok a j g=>exact ⟨Nat.le_trans k h.1,Nat.le_trans l h.2.1,h.2.2⟩
 |no g=>exact ⟨Nat.le_trans k h.1,Nat.le_trans l h.2.1,h.2.2⟩
 |oof=>trivial
theorem vT.far {α:Type} {i f:Nat} {r r' s:Rs α} (h:vT ts i f r r') (k:¬i+1<ts.length):vT ts i f r s:=by
 cases r with
 |ok a j g=>exact ⟨h.1,h.2.1,fun c=>absurd c (by have:=h.1;omega)⟩
 |no g=>exact ⟨h.1,h.2.1,fun c=>absurd c (by have:=h.1;omega)⟩
 |oof=>trivial
theorem Qt {α:Type} {i f:Nat} {c k:Prop} [Decidable c] [Decidable k] {x x' y l:Rs α} (h:i+1<ts.length->(c↔k)) (q:vT ts i f x x') (o:vT ts i f y l):vT ts i f (if c then x else y) (if k then x' else l):=by
 by_cases j:i+1<ts.length
 ·by_cases a:c
  ·rw [j0 a,j0 ((h j).1 a)];exact q
  ·rw [q3 a,q3 fun g=>a ((h j).2 g)];exact o
 ·by_cases a:c
  ·rw [j0 a];exact q.far j
  ·rw [q3 a];exact o.far j
theorem Qs {α:Type} {i f j g:Nat} (a:α) (k:i<=j) (c:f<=g):vT ts i f (.ok a j g) (.ok a j g):=⟨k,c,fun _ _=>rfl⟩
theorem qgu {α:Type} {i f:Nat}:vT ts i f (.no (max f i):Rs α) (.no (max f i)):=⟨Nat.le_max_right _ _,Nat.le_max_left _ _,fun _=>rfl⟩
theorem qL {α:Type} (a:α):qG ts (ret a) (ret a):=fun i f=>Qs a (kh i) (kh f)
theorem qAO {α:Type}:qG ts (yJ:M α) yJ:=fun _ _=>qgu
theorem yD {α:Type} {m:M α}:qG ts oof m:=fun _ _=>trivial
theorem qJW {α β:Type} {i f:Nat} {r r':Rs α} {k x:α->M β} (h:vT ts i f r r') (z:∀a,qG ts (k a) (x a)):vT ts i f (r.andThen k) (r'.andThen x):=by
 cases r with
 |oof=>trivial
 |no g=>exact ⟨h.1,h.2.1,fun l=>by rw [h.2.2 l];rfl⟩
 |ok a j g=>
  have c:=z a j g;show vT ts i f (k a j g) _;cases u:k a j g with
  |oof=>trivial
  |no y=>
   rw [u] at c;refine ⟨Nat.le_trans h.1 c.1,Nat.le_trans h.2.1 c.2.1,fun l=>?_⟩;have A:=c.1;have o:=c.2.1;rw [h.2.2 (by omega) (by omega)];exact c.2.2 l
  |ok b B y=>
   rw [u] at c;refine ⟨Nat.le_trans h.1 c.1,Nat.le_trans h.2.1 c.2.1,fun q l=>?_⟩;have A:=c.1;have o:=c.2.1;rw [h.2.2 (by omega) (by omega)];exact c.2.2 q l
theorem qu {α β:Type} {m m':M α} {k c:α->M β} (h:qG ts m m') (g:∀a,qG ts (k a) (c a)):qG ts (bnd m k) (bnd m' c):=fun i f=>qJW (h i f) g
theorem qZ {α β:Type} {m m':M α} {k a:M β} (h:qG ts m m') (c:qG ts k a):qG ts (sq m k) (sq m' a):=qu h fun _=>c
theorem qds {α:Type} {b:Bool} {m m':M α} (h:qG ts m m'):qG ts (xJ b m) (xJ b m'):=qu h fun _=>qL _
theorem qG.up {α:Type} {m m':M α} (h:qG ts m m') (n:Nat) {i f:Nat}:vT ts i f (m (i+n) f) (m' (i+n) f):=(h (i+n) f).le (JS _ _) (kh _)
variable (hP:ts<+:L)
include hP
theorem wS {i:Nat} (h:i<ts.length):tk ts i=tk L i:=by
 obtain ⟨r,rfl⟩:=hP;simp [tk,uH,JK h]
theorem Qd {i:Nat} (ss:List Bs) (h:i+1<ts.length):qo ts i ss=qo L i ss:=by unfold qo;rw [wS hP (by omega)]
theorem qwq {i:Nat} (h:i+1<ts.length):kV ts i=kV L i:=by unfold kV;rw [wS hP (by omega),Qd hP _ h]
theorem qyT {i:Nat} (h:i+1<ts.length):yu ts i=yu L i:=by unfold yu;rw [qwq hP h,Qd hP _ h,Qd hP _ h]
theorem qgv {α:Type} {i f:Nat} {ss:List Bs} {x x' y a:Rs α} (g:vT ts i f x x') (c:vT ts i f y a):vT ts i f (if qo ts i ss then x else y) (if qo L i ss then x' else a):=Qt (fun h=>by rw [Qd hP ss h]) g c
theorem Jd {α:Type} {i f:Nat} {p:Tok->Tok->Prop} [DecidableRel p] {x x' y a:Rs α} (g:vT ts i f x x') (c:vT ts i f y a):vT ts i f (if p (tk ts i) (tk ts (i+1)) then x else y) (if p (tk L i) (tk L (i+1)) then x' else a):=Qt (fun h=>by rw [wS hP h,wS hP (by omega)]) g c
theorem jI {α:Type} {s:Bs} {x y x' a:M α} (g:qG ts x x') (c:qG ts y a):qG ts (qt ts s x y) (qt L s x' a):=fun i f=>qgv hP (g.up 1) (c i f)
theorem jK:∀ss,qG ts (needs ts ss) (needs L ss)
 |[]=>qL ()
 |_::ss=>jI hP (jK ss) qAO
theorem qk4 {i f:Nat} {α:Type} (a c:α) (h:i+1<ts.length->a=c):vT ts i f (Rs.ok a (i+1) f) (Rs.ok c (i+1) f):=⟨JS _ _,kh _,fun g _=>by rw [h (by omega)]⟩
theorem xZ:qG ts (name ts) (name L):=fun i f=>Jd hP (p:=fun t _=>t.kind=1) (qk4 hP _ _ fun h=>by rw [wS hP (by omega)]) qgu
theorem qh7:qG ts (param ts) (param L):=fun i f=>Jd hP (p:=fun t _=>t.kind=1/\t.text=[116]) (Qs _ (JS _ _) (kh _)) qgu
section
variable {α:Type} {m m':M α} (hm:qG ts m m')
include hm
theorem qn2:∀n n',n<=n'->qG ts (more ts m n) (more L m' n')
 |0,_,_=>yD
 |n+1,0,h=>by omega
 |n+1,n'+1,h=>jI hP (qu hm fun _=>qu (qn2 n n' (by omega)) fun _=>qL _) (qL _)
theorem qdt {n n':Nat} (h:n<=n'):qG ts (listed ts n m) (listed L n' m'):=qu hm fun _=>qu (qn2 hP hm n n' h) fun _=>qL _
theorem qdu {n n':Nat} (h:n<=n'):qG ts (vh ts n m) (vh L n' m'):=qZ (jK hP _) (jI hP (qL _) (qu (qdt hP hm h) fun _=>qZ (jK hP _) (qL _)))
end
theorem qAI {k a:M Unit} (h:qG ts k a):qG ts (wn ts k) (wn L a):=qZ (xZ hP) (qZ (jK hP _) (qZ h (qL _)))
theorem qn4:∀n n',n<=n'->qG ts (kind ts n) (kind L n')
 |0,_,_=>yD
 |n+1,0,h=>by omega
 |n+1,n'+1,h=>by
  have a:=qn4 n n' (by omega);have nd:=jK hP;have l:=qdt hP (qAI hP a) (show n<=n' by omega);exact jI hP (qL _) (jI hP (qL _) (jI hP (qL _) (jI hP (qZ (nd _) (qZ a (nd _))) (jI hP (qZ (nd _) (qZ l (nd _)))
   (jI hP (qZ (nd _) (qZ l (nd _))) (jI hP (qh7 hP) (qZ (xZ hP) (jI hP (qZ a (nd _)) (qL _)))))))))
section
variable {n n':Nat} (h:n<=n')
include h
theorem qaD:qG ts (vN ts n) (vN L n'):=fun i f=>by
 have a:=qn4 hP n n' h i f;unfold vN;cases k:kind ts n i f with
 |oof=>trivial
 |no g=>rw [k] at a;exact ⟨a.1,a.2.1,fun c=>by rw [a.2.2 c];rfl⟩
 |ok u j g=>
  rw [k] at a;refine ⟨a.1,a.2.1,fun l c=>?_⟩;rw [a.2.2 l c];obtain ⟨r,rfl⟩:=hP;show Rs.ok _ _ _=Rs.ok _ _ _;simp only [wt];rw [JR (by omega)]
theorem qnZ:qG ts (ve ts n) (ve L n'):=qu (qaD hP h) fun _=>qZ (jK hP _) (qL _)
theorem qh9:qG ts (x7 ts n) (x7 L n'):=qu (xZ hP) fun _=>qZ (jK hP _) (qu (qaD hP h) fun _=>qL _)
end
theorem qAK:qG ts (op ts) (op L):=fun i f=>Jd hP (p:=fun t _=>t.kind=2/\kY.contains t.text=true) (qk4 hP _ _ fun h=>by rw [wS hP (by omega)])
 (qu (xZ hP) (fun _=>jI hP (qu (xZ hP) fun _=>qL _) (qL _)) i f)
section
variable {n n':Nat} (h:n<=n') {e e':M T} (he:qG ts e e')
include he
theorem qAE:qG ts (qa4 ts e) (qa4 L e'):=fun i f=>by
 by_cases a:i+1<ts.length
 ·have:qG ts (sq (needs ts [[40]]) (bnd e fun t=>sq (needs ts [[41]]) (ret (T.mk {kind:=if qo ts i [[100,111,119,110]] then 10 else 9} [t])))) (sq (needs L [[40]]) (bnd e' fun t=>sq (needs L [[41]]) (ret (T.mk {kind:=if qo L i [[100,111,119,110]] then 10 else 9} [t])))):=by
   rw [Qd hP _ a];exact qZ (jK hP _) (qu he fun _=>qZ (jK hP _) (qL _))
  exact this.up 1
 ·have:qG ts (sq (needs ts [[40]]) (bnd e fun t=>sq (needs ts [[41]]) (ret (T.mk {kind:=if qo ts i [[100,111,119,110]] then 10 else 9} [t])))) (sq (needs L [[40]]) (bnd e' fun t=>sq (needs L [[41]]) (ret (T.mk {kind:=if qo ts i [[100,111,119,110]] then 10 else 9} [t])))):=
   qZ (jK hP _) (qu he fun _=>qZ (jK hP _) (qL _))
  exact (this.up 1).far a
theorem qAJ:qG ts (qeX ts e) (qeX L e'):=qu he fun _=>qZ (jK hP _) (qL _)
include h
theorem qn3:qG ts (Qb ts n e) (Qb L n' e'):=qu (xZ hP) fun _=>jI hP (qu (qaD hP h) fun _=>qZ (jK hP _) (qu (qdu hP he h) fun _=>qL _)) (qu (qdu hP he h) fun _=>qL _)
theorem qn0 (o:Bs):qG ts (zX ts n e o) (zX L n' e' o):=qu (qAK hP) fun _=>qu (qdu hP he h) fun _=>qL _
theorem qnY:qG ts (bnd (ve ts n) (zX ts n e)) (bnd (ve L n') (zX L n' e')):=qu (qnZ hP h) fun o=>qn0 hP h he o
theorem qAR:qG ts (yg ts n e) (yg L n' e'):=fun i f=>Jd hP (p:=fun t u=>t.kind=1/\(u.text=[40]\/u.text=[123])) (qn3 hP h he i f) (qnY hP h he i f)
theorem qAM:qG ts (yb ts n e) (yb L n' e'):=fun i f=>by
 have q:∀g,f<=g->vT ts i f (Rs.ok (T.mk {kind:=4,name:=(tk ts i).text} [],false) (i+1) g) (Rs.ok (T.mk {kind:=4,name:=(tk L i).text} [],false) (i+1) g):=fun g k=>⟨JS _ _,k,fun l _=>by rw [wS hP (by omega)]⟩;refine Jd hP (p:=fun t u=>t.kind=1/\(u.text=[40]\/u.text=[123])) (qds (qn3 hP h he) i f) (Jd hP (p:=fun t u=>t.kind=1/\u.text=[91]) ?_ (Jd hP (p:=fun t u=>t.kind=1/\u.text≠[36]) (q f (kh _)) (qds (qnY hP h he) i f)));have c:=qnZ hP h i f;cases o:ve ts n i f with
 |oof=>trivial
 |no g=>
  rw [o] at c;have a:=q g c.2.1;refine ⟨a.1,a.2.1,fun l k=>?_⟩;rw [c.2.2 k];exact a.2.2 l k
 |ok s j g=>
  rw [o] at c;have a:=qds (b:=true) (qn0 hP h he s) j g;show vT ts i f (xJ true (zX ts n e s) j g) _;cases x:xJ true (zX ts n e s) j g with
  |oof=>trivial
  |no y=>
   rw [x] at a;refine ⟨Nat.le_trans c.1 a.1,Nat.le_trans c.2.1 a.2.1,fun k=>?_⟩;have z:=a.1;have A:=a.2.1;rw [c.2.2 (by omega) (by omega)];exact a.2.2 k
  |ok b B y=>
   rw [x] at a;refine ⟨Nat.le_trans c.1 a.1,Nat.le_trans c.2.1 a.2.1,fun l k=>?_⟩;have z:=a.1;have A:=a.2.1;rw [c.2.2 (by omega) (by omega)];exact a.2.2 l k
theorem qAG:qG ts (ki ts n e) (ki L n' e'):=fun i f=>
 Jd hP (p:=fun t _=>t.kind=3) (qk4 hP _ _ fun h=>by rw [wS hP (by omega)])
  (jI hP (qL _) (jI hP (qL _) (jI hP (qL _) fun i f=>qgv hP (qds (qAE hP he) i f) (jI hP (qds (qAJ hP he)) (qAM hP h he) i f))) i f)
omit h in
theorem qh4:∀n n',n<=n'->∀t a,qG ts (wf ts e n t a) (wf L e' n' t a)
 |0,_,_,_,_=>yD
 |n+1,0,h,_,_=>by omega
 |n+1,n'+1,h,t,a=>jI hP (qu he fun _=>qZ (jK hP _) (qh4 n n' (by omega) _ _)) (jI hP (qu (xZ hP) fun _=>qh4 n n' (by omega) _ _) (qL _))
theorem qnW:qG ts (yC ts n e) (yC L n' e'):=qu (qAG hP h he) fun _=>qh4 hP he n n' h _ _
end
theorem qAP {p p':M (T×Nat)} (hp:qG ts p p'):qG ts (Jc ts p) (Jc L p'):=
 jI hP (qu hp fun _=>qL _) (qu hp fun x=>fun i f=>qgv hP (by
  by_cases a:i+1<ts.length
  ·rw [wS hP (by omega:i<ts.length)];exact (qu hp fun y=>qL _).up 1
  ·exact ((qu hp fun y=>qL (T.mk {kind:=6,name:=(tk ts i).text} [x.1,y.1])).up 1).far a) (Qs _ (kh _) (kh _)))
theorem qh8:∀n n',n<=n'->qG ts (Qm ts n) (Qm L n')
 |0,_,_=>yD
 |n+1,0,h=>by omega
 |n+1,n'+1,h=>qAP hP (qnW hP (by omega) (qh8 n n' (by omega)))
section
variable {s s':M T} (hs:qG ts s s')
include hs
theorem qnT:∀n n',n<=n'->qG ts (xL ts s n) (xL L s' n')
 |0,_,_=>yD
 |n+1,0,h=>by omega
 |n+1,n'+1,h=>jI hP (qu hs fun _=>qu (qnT n n' (by omega)) fun _=>qL _) (qL _)
theorem qn9 {n n':Nat} (h:n<=n'):qG ts (wv ts n s) (wv L n' s'):=fun i f=>Qt (fun h=>by rw [qyT hP h]) (qu hs (fun _=>qu (qnT hP hs n n' h) fun _=>qL _) i f) (Qs _ (kh _) (kh _))
theorem qn6:∀n n',n<=n'->∀b,qG ts (yd ts s n b) (yd L s' n' b)
 |0,_,_,_=>yD
 |n+1,0,h,_=>by omega
 |n+1,n'+1,h,b=>fun i f=>Qt (fun h=>by rw [Qd hP _ h]) (qZ (jK hP _) (jI hP (qZ (jK hP _) (qu hs fun _=>qL _))
   (qu (xZ hP) fun _=>qZ (jK hP _) (qu hs fun _=>qu (qn6 n n' (by omega) false) fun _=>qL _))) i f) (Qs _ (kh _) (kh _))
theorem qAN {n n':Nat} (h:n<=n'):qG ts (Q5 ts n s) (Q5 L n' s'):=qu hs fun _=>qZ (jK hP _) (qu (qn6 hP hs n n' h true) fun _=>qZ (jK hP _) (qL _))
theorem qob {k a:Nat} (c:k<=a):∀n n',n<=n'->∀b,qG ts (yP ts k s n b) (yP L a s' n' b)
 |0,_,_,_=>yD
 |n+1,0,h,_=>by omega
 |n+1,n'+1,h,b=>fun i f=>Qt (fun h=>by rw [Qd hP _ h]) (qZ (jK hP _) (qu (xZ hP) fun _=>qZ (jK hP _) (qu (xZ hP) fun _=>qZ (jK hP _)
   (qu (qaD hP c) fun _=>qZ (jK hP _) (qu hs fun _=>qu (qob c n n' (by omega) false) fun _=>qL _)))) i f) (Qs _ (kh _) (kh _))
variable {e e':M T} (he:qG ts e e')
include he
theorem qn7:∀n n',n<=n'->qG ts (Qp ts e s n) (Qp L e' s' n')
 |0,_,_=>yD
 |n+1,0,h=>by omega
 |n+1,n'+1,h=>qu he fun _=>qZ (jK hP _) (qu hs fun _=>jI hP (qu (qn7 n n' (by omega)) fun _=>qL _)
   (jI hP (qu hs fun _=>qZ (jK hP _) (qL _)) (qZ (jK hP _) (qL _))))
theorem qAT {n n':Nat} (h:n<=n'):qG ts (Je ts n e s) (Je L n' e' s'):=qu he fun _=>qu (qob hP hs h n n' h true) fun _=>qZ (jK hP _) (qL _)
variable {p p':M (T×Nat)} (hp:qG ts p p') {n n':Nat} (h:n<=n')
include hp h
omit hs in
theorem qAD:qG ts (kX ts n e p) (kX L n' e' p'):=fun i f=>by
 refine Jd hP (p:=fun t u=>t.kind=1/\u.text=[58,61]) ?_ ?_
 ·by_cases a:i+1<ts.length
  ·rw [wS hP (by omega:i<ts.length)];exact (qu he fun _=>qL _).up 2
  ·exact ((qu he fun x=>qL (T.mk {kind:=22,name:=(tk ts i).text} [x])).up 2).far a
 ·refine qu hp (fun x i f=>?_) i f;exact Qt (fun h=>by rw [Qd hP _ h]) (Qs _ (kh _) (kh _)) (Qt (fun h=>by rw [Qd hP _ h]) ((qu he fun _=>qL _).up 1) (Qt (fun h=>by rw [Qd hP _ h]) ((qu he fun _=>qL _).up 1) qgu))
theorem qAF:qG ts (QJ ts n e p s) (QJ L n' e' p' s'):=by
 have nd:=jK hP;exact jI hP (qu (qh9 hP h) fun _=>qZ (nd _) (qu he fun _=>qL _))
  (jI hP (qu he fun _=>qL _)
  (jI hP (qn7 hP hs he n n' h)
  (jI hP (qu he fun _=>qZ (nd _) (qu hs fun _=>qZ (nd _) (qL _)))
  (jI hP (qu (qh9 hP h) fun _=>qZ (nd _) (qu (qAR hP h he) fun _=>qZ (nd _) (qu hs fun _=>qZ (nd _) (qL _))))
  (jI hP (fun i f=>Qt (fun h=>by rw [qwq hP h]) (qu he (fun _=>qL _) i f) (Qs _ (kh _) (kh _)))
  (jI hP (qu he fun _=>qL _)
  (jI hP (qu (xZ hP) fun _=>qL _)
  (jI hP (qL _)
  (jI hP (qAN hP hs h)
  (jI hP (qAT hP hs he h) (qAD hP he hp h)))))))))))
end
theorem qnU:∀n n',n<=n'->qG ts (QK ts n) (QK L n')
 |0,_,_=>yD
 |n+1,0,h=>by omega
 |n+1,n'+1,h=>by
  have hn:n<=n':=by omega
  exact qAF hP (qn9 hP (qnU n n' hn) hn) (qh8 hP n n' hn) (qnW hP hn (qh8 hP n n' hn)) hn
section
variable {n n':Nat} (h:n<=n')
include h
theorem qAS:qG ts (block ts n) (block L n'):=qn9 hP (qnU hP n n' h) h
theorem qh6:qG ts (signals ts n) (signals L n'):=jI hP (qZ (jK hP _) (qu (qdt hP (xZ hP) h) fun _=>qZ (jK hP _) (qL _))) (qL _)
theorem qoa (it:Bool):qG ts (xG ts n it) (xG L n' it):=by
 unfold xG;cases it
 ·exact jI hP (qu (qaD hP h) fun _=>qu (qh6 hP h) fun _=>qL _) (qu (qh6 hP h) fun _=>qL _)
 ·exact qZ (jK hP _) (qu (qaD hP h) fun _=>qu (qh6 hP h) fun _=>qL _)
omit h in
theorem qh5:qG ts (wl ts) (wl L):=jI hP (qL _) (qZ (jK hP _) (qL _))
theorem qn5 (it:Bool):qG ts (head ts n it) (head L n' it):=qu (qdu hP (qh9 hP h) h) fun _=>qu (qoa hP h it) fun _=>qL _
theorem qn8:qG ts (wI ts n) (wI L n'):=qZ (jK hP _) (qu (qAS hP h) fun _=>qZ (jK hP _) (qL _))
theorem qAL:qG ts (zC ts n) (zC L n'):=qu (xZ hP) fun _=>qZ (jK hP _) (qu (qh5 hP) fun _=>qu (qdu hP (qaD hP h) h) fun _=>qu (qoa hP h _) fun _=>qL _)
theorem qnS:qG ts (yk ts n) (yk L n'):=jI hP (qZ (qh7 hP) (qZ (jK hP _) (qdt hP (qAL hP h) h))) (qL _)
omit h in
theorem qnX:qG ts (params ts) (params L):=jI hP (qZ (qh7 hP) (qZ (jK hP _) (qL _))) (qL _)
theorem qAH:qG ts (y4 ts n) (y4 L n'):=qu (qh5 hP) fun _=>qu (xZ hP) fun _=>qu (qn5 hP h _) fun _=>qu (qn8 hP h) fun _=>qL _
theorem qnV:∀k a,k<=a->qG ts (routs ts n k) (routs L n' a)
 |0,_,_=>yD
 |k+1,0,h=>by omega
 |k+1,a+1,c=>qu (qAH hP h) fun _=>fun i f=>qgv hP (qu (qnV k a (by omega)) (fun _=>qL _) i f) (Qs _ (kh _) (kh _))
theorem qAQ:qG ts (Qq ts n) (Qq L n'):=qu (xZ hP) fun _=>qu (qnX hP) fun _=>qZ (jK hP _) (qu (qdt hP (xZ hP) h) fun _=>qu (qnS hP h) fun _=>
 qZ (jK hP _) (qu (qaD hP h) fun _=>qu (qnV hP h n n' h) fun _=>qZ (jK hP _) (qL _)))
theorem qn1:qG ts (xC ts n) (xC L n'):=jI hP (qAQ hP h) (qu (qh5 hP) fun _=>qu (xZ hP) fun _=>qu (qnX hP) fun _=>qu (qn5 hP h _) fun _=>
 qu (qnS hP h) fun _=>qu (qn8 hP h) fun _=>qL _)
theorem qia:∀k a,k<=a->qG ts (jL ts n k) (jL L n' a)
 |0,_,_=>yD
 |k+1,0,h=>by omega
 |k+1,a+1,j=>fun i f=>by
  unfold jL;refine Qt (fun c=>⟨fun _=>uT (by omega:i<ts.length) hP.length_le,fun _=>by omega⟩) ?_ (Qs _ (kh _) (kh _));by_cases c:i+1<ts.length
  ·rw [wS hP (by omega:i<ts.length)];exact qu (qn1 hP h) (fun _=>qu (qia k a (by omega)) fun _=>qL _) i f
  ·exact vT.far (r':=bnd (xC L n') (fun m=>bnd (jL L n' a) fun g=>ret (((tk ts i).line,m)::g)) i f) (qu (qn1 hP h) (fun _=>qu (qia k a (by omega)) fun _=>qL _) i f) c
end
theorem qAC {N n g G:Nat} (h:n<=N) (i:jL ts n n 0 0=.no g) (a:jL L N N 0 0=.no G) (j:ts.length<=G):ts.length<=g+1:=by
 have:=qia hP h n N h 0 0;rw [i] at this;by_cases c:g+1<ts.length
 ·have e:=this.2.2 c;rw [a] at e;cases e;omega
 ·omega
end
end Go.L02
