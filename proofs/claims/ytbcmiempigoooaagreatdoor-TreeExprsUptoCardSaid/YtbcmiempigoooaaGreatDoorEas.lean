/- Lemmas for a claim about layer 2 (tree). No conditions but those they state. -/
import Derived.Test.YtbcmiempigoooaaGreatDoorEar
import Derived.Shelf.Strings.OnBuilder
import Derived.Test.YtbcmiempigoooaaGreatDoorProg
import Derived.KernelRfl
set_option linter.all false
namespace Go.Proofs
open Go.Shelf
def Tryz.lays156_ren:Go.Shelf.Ren:=⟨fun|156=>34|165=>88|166=>89|169=>90|240=>177|241=>178|276=>247|277=>248|n=>n,fun|31=>51|9=>9|3=>3|4=>4|0=>0|20=>20|72=>114|76=>127|70=>111|37=>112|75=>126|127=>196|164=>254|5=>5|80=>129|n=>n,fun|n=>n⟩
def Tryz.lays156:Go.Proofs.Lays.n156 Tryz.prog Tryz.lays156_ren:={
 mixed:=by kernel_rfl
 f156:=Tryz.func34.trans (congrArg some (by kernel_rfl))
 f165:=Tryz.func88.trans (congrArg some (by kernel_rfl))
 f166:=Tryz.func89.trans (congrArg some (by kernel_rfl))
 f169:=Tryz.func90.trans (congrArg some (by kernel_rfl))
 f240:=Tryz.func177.trans (congrArg some (by kernel_rfl))
 f241:=Tryz.func178.trans (congrArg some (by kernel_rfl))
 f276:=Tryz.func247.trans (congrArg some (by kernel_rfl))
 f277:=Tryz.func248.trans (congrArg some (by kernel_rfl))
 t0:=Tryz.underlying0
 a0:=Tryz.isAgg0
 z0:=Tryz.sizeOf0
 v0:=Tryz.zeroValue0
 t3:=Tryz.underlying3
 a3:=Tryz.isAgg3
 z3:=Tryz.sizeOf3
 v3:=Tryz.zeroValue3
 t4:=Tryz.underlying4
 a4:=Tryz.isAgg4
 z4:=Tryz.sizeOf4
 v4:=Tryz.zeroValue4
 t9:=Tryz.underlying9
 a9:=Tryz.isAgg9
 z9:=Tryz.sizeOf9
 v9:=Tryz.zeroValue9
 t20:=Tryz.underlying20
 a20:=Tryz.isAgg20
 z20:=Tryz.sizeOf20
 v20:=Tryz.zeroValue20
 t31:=Tryz.underlying51
 a31:=Tryz.isAgg51
 z31:=Tryz.sizeOf51
 v31:=Tryz.zeroValue51
 t37:=Tryz.underlying112
 a37:=Tryz.isAgg112
 z37:=Tryz.sizeOf112
 v37:=Tryz.zeroValue112
 t70:=Tryz.underlying111
 a70:=Tryz.isAgg111
 z70:=Tryz.sizeOf111
 v70:=Tryz.zeroValue111
 t72:=Tryz.underlying114
 a72:=Tryz.isAgg114
 z72:=Tryz.sizeOf114
 v72:=Tryz.zeroValue114
 t75:=Tryz.underlying126
 a75:=Tryz.isAgg126
 z75:=Tryz.sizeOf126
 v75:=Tryz.zeroValue126
 t76:=Tryz.underlying127
 a76:=Tryz.isAgg127
 z76:=Tryz.sizeOf127
 v76:=Tryz.zeroValue127
 t127:=Tryz.underlying196
 a127:=Tryz.isAgg196
 z127:=Tryz.sizeOf196
 v127:=Tryz.zeroValue196
 t164:=Tryz.underlying254
 a164:=Tryz.isAgg254
 z164:=Tryz.sizeOf254
 v164:=Tryz.zeroValue254}
theorem Tryz.extra156:Builder.Extra Tryz.prog Tryz.lays156_ren where
 sizeBuilder:=by kernel_rfl
 liesBuilder:=by kernel_rfl
 t5:=Tryz.underlying5
 a5:=Tryz.isAgg5
 z5:=Tryz.sizeOf5
 v5:=Tryz.zeroValue5
 infoByte:=by kernel_rfl
 cellsByte:=by kernel_rfl
 sizeByte:=by kernel_rfl
 neB5:=by decide
open Go.RowKit in
def Tryz.join (bk o c:Nat) (xs:List ByteArray) (sep:ByteArray) (w:World)
  (a:∀(j:Nat) x,xs[j]? =some x->w.cell? ⟨bk,o+j,none⟩=some (.string x))
  (k:bk<w.heap.size) (l:xs.length<=140737488355328) (h:xs.length<=c)
  (g:(Lib.join (xs.map (·.data.toList)) sep.data.toList).length<=140737488355328):
  Calls Tryz.prog 34 #[.slice (some ⟨bk,o,none⟩) xs.length c,.string sep] w fun e w'=>e=.returned (.string ⟨(Lib.join (xs.map (·.data.toList)) sep.data.toList).toArray⟩)/\Below w.heap.size w w':=Any.strings_Join Tryz.lays156 Tryz.extra156 bk o c xs sep w a k l h g
def Tryz.join0 (a:Option Addr) (c:Nat) (sep:ByteArray) (w:World):
  Calls Tryz.prog 34 #[.slice a 0 c,.string sep] w fun e w'=>e=.returned (.string ⟨#[]⟩)/\w'=w:=Any.strings_Join_none Tryz.lays156 Tryz.extra156 a c sep w
end Go.Proofs
namespace Go.L02
open Go Go.Eng Go.RowKit
open Go.Proofs hiding encI
open Go.L01 (Bs Own.same Tok jb jh qg qi)
set_option maxRecDepth 100000
set_option maxHeartbeats 2000000
@[simp] theorem qMZ:qh Tryz.prog 34=true:=by kernel_rfl
@[simp] theorem qMY:qh Tryz.prog 88=true:=by kernel_rfl
@[simp] theorem qM2:qh Tryz.prog 172=true:=by kernel_rfl
@[simp] theorem qwV:qh Tryz.prog 173=true:=by kernel_rfl
@[simp] theorem qM1:qh Tryz.prog 177=true:=by kernel_rfl
@[simp] theorem qM0:qh Tryz.prog 243=true:=by kernel_rfl
@[simp] theorem qJO:qh Tryz.prog 82=true:=by kernel_rfl
def qjw (sep:Bs):∀ss:List Bs,Lib.join ss sep=jl sep ss
 |[]=>by simp [jl,Lib.join_nil]
 |[x]=>by simp [jl,Lib.join_one]
 |x::y::ys=>by
  have h:=qjw sep (y::ys);rw [Lib.join_cons] at h;rw [Lib.join_cons,jl,<-h];simp [Lib.joinTail]
def qpe {w:World} {v:Value} {ss:List Bs} (sep:Bs) (h:Cells w v 1 (ss.map qi)) (O:ss.length<=100000000000000) (F:(jl sep ss).length<=100000000000000):
  Calls Tryz.prog 34 #[v,.string (qb sep)] w fun e w'=>e=.returned (.string (qb (jl sep ss)))/\qc w w':=by
 have p:ql v=ss.length:=by simpa using h.len.symm
 have k:∀(a:Option Addr) (c:Nat),v=.slice a 0 c->Calls Tryz.prog 34 #[v,.string (qb sep)] w fun e w'=>e=.returned (.string (qb (jl sep ss)))/\qc w w':=by
  rintro a c rfl;have y:ss=[]:=by simpa [ql] using p.symm
  subst y;refine (Tryz.join0 a c (qb sep) w).mono ?_;rintro _ _ ⟨rfl,rfl⟩;exact ⟨by simp [jl,qb],qO _⟩
 rcases xT h.is with ⟨b,o,n,c,l,C⟩|l|⟨b,o,sp,l⟩
 ·by_cases y:ss=[]
  ·have:n=0:=by rw [l] at p;simpa [ql,y] using p
   subst this;exact k _ _ l
  ·have J:0<ss.length:=Jn.2 y;have z:n=ss.length:=by rw [l] at p;simpa [ql] using p
   have g:∀(j:Nat) x,(ss.map qb)[j]? =some x->w.cell? ⟨b,o+j,none⟩=some (.string x):=fun j x u=>by
    obtain ⟨m,u⟩:=Jv.1 u;have:=h.cell j (by simpa using m);rw [l] at this;simp [qQ,qi] at this u;rw [this,u]
   have A:b<w.heap.size:=by
    have:=g 0 (qb ss[0]) (by simp [J]);refine Nat.lt_of_not_le fun C=>?_;unfold World.cell? at this;simp only [Vs C] at this;cases this
   have E:(ss.map qb).map (·.data.toList)=ss:=by simp [Function.comp_def,qb]
   have m:=Tryz.join b o c (ss.map qb) (qb sep) w g A (by simp;omega) (by simp;omega) (by rw [E];simp only [qb];rw [qjw];omega);rw [E] at m;simp only [qb,uh] at m;rw [qjw,<-z,<-l] at m;refine m.mono ?_;rintro _ w' ⟨rfl,H⟩;exact ⟨rfl,H⟩
 ·exact k _ _ l
 ·exact k _ _ l
def qDF {a:Type} (f:Nat->a) (n j:Nat) (h:j<n):((List.range n).map f).take (j+1)=((List.range n).map f).take j++[f j]:=by
 rw [uG (by simpa using h)];simp
theorem qCj {w0 w:World} {lv:Value} {F:FuncId} {fs caps:Array Value} {xs:List Int} (J:Nat->World->Prop) (f:Nat->Bs) (A:qc w0 w) (S:Cells w0 lv 1 (xs.map encI)) (hlen:xs.length<=1000000) (hcb:qh Tryz.prog F=true)
  (hJ0:J 0 w) (V:∀k W W',J k W->qc w0 W'->qz (fun _ T=>T≠9) W W'->J k W')
  (hf:∀(k:Nat) (hk:k<xs.length) (W:World),qc w0 W->J k W->Calls Tryz.prog F (fs++ #[.int .i64 xs[k]]++caps) W fun e w'=>e=.returned (.string (qb (f k)))/\J (k+1) w'/\qc w0 w'/\qz (fun _ T=>T=9) W w')
  (y:(jl [44,32] ((List.range xs.length).map f)).length<=100000000000000):
  Calls Tryz.prog 243 #[lv,.func (.func F) fs caps] w fun e w'=>e=.returned (.string (qb (jl [44,32] ((List.range xs.length).map f))))/\J xs.length w'/\qc w0 w':=by
 have hl:ql lv=xs.length:=by simpa using S.len.symm
 refine qGg fun ρ r0 r1=>?_;simp -implicitDefEqProofs [qs2,r0,S.is,hl];generalize hT:jl [44,32] ((List.range xs.length).map f)=qj at y;generalize H:(fun (e:Ending) (w':World)=>e=.returned (.string (qb qj))/\J xs.length w'/\qc w0 w')=R;generalize hfv:Value.func (.func F) fs caps=fv at r1;obtain ⟨I,Y⟩:∃I:Nat->qa->World->Prop,∀j c w',I j c w'↔(c 1=fv/\c 8=lv/\c 9=.int .i64 (xs.length:Int)/\qc w0 w'/\J j w'/\∃v,c 5=v/\Own w0.heap.size 9 1 w' v ((((List.range xs.length).map f).take j).map qi)):=⟨_,fun _ _ _=>Iff.rfl⟩;refine vD 10 xs.length I (by simp) ((Y _ _ _).2 ⟨by simp [r1],by simp,by simp,A,hJ0,.slice none 0 0,by simp,by simpa using Own.nil _ _ _ _⟩) ?_;clear r0 r1;rintro j c w' hj rj hIw;obtain ⟨r1,r8,r9,z,p,v,r5,E⟩:=(Y _ _ _).1 hIw;have C:IntKind.i64.wrap ((j:Int)+1)=(j:Int)+1:=qH (by omega);have n:=S.ext z;by_cases g:j<xs.length
 ·have m:(j:Int)<(xs.length:Int):=by omega
  have hc:w'.cell? (qQ lv j)=some (encI xs[j]):=by
   have:=n.cell j (by simpa using g);simpa using this
  simp -implicitDefEqProofs [qkb,rj,r8,r9,m,g,qs0,r1,r5,n.is,hl,hc,qi,encI];refine kL hcb (t:=15) (fs:=fs) (caps:=caps) (by simp [<-hfv]) ?_;simp -implicitDefEqProofs;refine (hf j g w' z p).mono ?_;rintro _ w2 ⟨rfl,hJ2,a,aa⟩;have ab:=E.at' aa fun _ _=>rfl;simp -implicitDefEqProofs;refine jV qh9 (by decide) (by decide) (by simp [Value.cells]) fun Z w3 hZ l u _=>?_;simp -implicitDefEqProofs [Value.cells] at u⊢;have o:=ab.ext l;have O:=V _ _ _ hJ2 (a.trans' l) (qz.ext l);refine qbz qiG (W0:=w0) (a.trans' l) (sv:=v) (xv:=.slice (some ⟨Z,0,none⟩) 1 1) (by simp) (by simp) o (Blk.cells (cs:=[qi (f j)]) (by simpa [qi] using u) rfl) (by simp [qi,Value.oneCell']) (by simp;omega) (by simp;omega) fun v' w4 x U ad _=>?_;have hs4:qz (fun _ T=>T≠9) w3 w4:=(qz.grown o ad).mono fun _ _ h=> .inr h;have ac:=V _ _ _ O x hs4;simp -implicitDefEqProofs [qs1,rj,C,g];refine (Y _ _ _).2 ⟨by simp [r1],by simp [r8],by simp [r9],x,ac,v',by simp, ?_⟩;rw [qDF f _ _ g,uP];exact U
 ·have m:¬(j:Int)<(xs.length:Int):=by omega
  have hj':j=xs.length:=by omega
  subst hj';rw [ul (by simp)] at E;simp -implicitDefEqProofs [qkb,rj,r8,r9,qsZ,r5];refine (qpe [44,32] (L01.jR E) (by simp;omega) (by rw [hT];exact y)).mono ?_;rintro _ w2 ⟨rfl,a⟩;simp -implicitDefEqProofs;rw [<-H,hT];exact ⟨rfl,V _ _ _ p (z.trans' a) (qz.ext a),z.trans' a⟩
end Go.L02
namespace Go.L02
open Go.Eng
open Go.L01 (Bs QX Qp Res Tok first jI jm jw jz qD qG qK qL qaH qam qb3 qb4 qdg qe1 qer qg qlc qp right zC)
def vm (r:Row):Nat->List T->Bool
 |_,[]=>true
 |i,k::ks=>(match r.first[i]? with|some f=>f k.d.kind|none=>(match r.more with|some f=>f k.d.kind|none=>false))&&vm r (i+1) ks
def qcU (n:Nat):Nat->List T->Bool
 |_,[]=>true
 |i,k::ks=>(qg k.d.name|| !(!decide (k.d.name=[])||decide (i+2<n)))&&qcU n (i+1) ks
def qa7 (d:D) (ks:List T):Bool:=
 if d.kind=5 then qaQ d
 else if d.kind=6 then decide (d.name=[110,111,116])==decide (ks.length=1)
 else if d.kind=32 then qcU ks.length 0 (ks.drop 1) else true
def qb5 (d:D) (ks:List T):Bool:=
 match z6 d.kind with
 |none=>false
 |some r=>qj d.name r.name&&qj d.vr r.vr&&qj d.typ r.typ&&(match r.n with|none=>decide (d.n=0)|some f=>f d.n)&&
   (decide (r.least<=ks.length)&&decide (ks.length<=r.most))&&vm r 0 ks&&qa7 d ks
mutual
def jE:T->Bool| .mk d ks=>qb5 d ks&&okTs ks
def okTs:List T->Bool|[]=>true|t::ts=>jE t&&okTs ts
end
def qp6 (t:T) (a post:List Nd):(a++(t.flat a.length++post))[(((a.length:Int)+t.size - 1)).toNat]? =some ⟨t.d,qt a.length t.kids⟩:=by
 have c:=t.size_pos;have e:((a.length:Int)+t.size - 1).toNat=a.length+(t.size - 1):=by omega
 rw [e,JS (by omega),Ve (by rw [T.flat_len];omega)];have:=qla t a.length;rw [Vf,T.flat_len] at this;rw [<-this];congr 1;omega
def qp3 (r:Row):∀(ks:List T) (i:Nat) (a post:List Nd),qV (a++(flats a.length ks++post)) r i (qt a.length ks)=vm r i ks
 |[],_,_,_=>rfl
 |t::ks,i,a,post=>by
  have e:=qp6 t a (flats (a.length+t.size) ks++post);have c:=qp3 r ks (i+1) (a++t.flat a.length) post;have j:a++(flats a.length (t::ks)++post)=a++(t.flat a.length++(flats (a.length+t.size) ks++post)):=by simp [flats]
  have k:(a++t.flat a.length)++(flats (a++t.flat a.length).length ks++post)=a++(t.flat a.length++(flats (a.length+t.size) ks++post)):=by
   simp [kh,T.flat_len]
  have g:(a++t.flat a.length).length=a.length+t.size:=by rw [kh,T.flat_len]
  rw [k,g] at c;have h:jJ (a++(t.flat a.length++(flats (a.length+t.size) ks++post))) ((a.length:Int)+t.size - 1)=t.d.kind:=by unfold jJ;rw [e]
  rw [j];simp only [qt,qV,vm,h,c];rfl
def qmz (n:Nat):∀(ks:List T) (i:Nat) (a post:List Nd),wY (a++(flats a.length ks++post)) n i (qt a.length ks)=qcU n i ks
 |[],_,_,_=>rfl
 |t::ks,i,a,post=>by
  have g:=qp6 t a (flats (a.length+t.size) ks++post);have c:=qmz n ks (i+1) (a++t.flat a.length) post;have j:a++(flats a.length (t::ks)++post)=a++(t.flat a.length++(flats (a.length+t.size) ks++post)):=by simp [flats]
  have k:(a++t.flat a.length)++(flats (a++t.flat a.length).length ks++post)=a++(t.flat a.length++(flats (a.length+t.size) ks++post)):=by
   simp [kh,T.flat_len]
  have e:(a++t.flat a.length).length=a.length+t.size:=by rw [kh,T.flat_len]
  rw [k,e] at c;have h:kK (a++(t.flat a.length++(flats (a.length+t.size) ks++post))) ((a.length:Int)+t.size - 1)=t.d.name:=by unfold kK;rw [g]
  rw [j];simp only [qt,wY,qcU,h,c]
theorem qAL (d:D) (ks:List T) (a post:List Nd):jg (a++(flats a.length ks++post)) ⟨d,qt a.length ks⟩=qb5 d ks:=by
 unfold jg qb5;dsimp only;cases z6 d.kind with
 |none=>rfl
 |some r=>
  have j:vH (a++(flats a.length ks++post)) ⟨d,qt a.length ks⟩=qa7 d ks:=by
   unfold vH qa7;dsimp only;rw [kp];by_cases g:d.kind=5
   ·simp [g]
   by_cases e:d.kind=6
   ·simp [e]
   by_cases c:d.kind=32
   ·simp only [c];cases ks with
    |nil=>rfl
    |cons t ks=>
     have:=qmz (ks.length+1) ks 0 (a++t.flat a.length) post;have h:(a++t.flat a.length).length=a.length+t.size:=by rw [kh,T.flat_len]
     have k:(a++t.flat a.length)++(flats (a++t.flat a.length).length ks++post)=a++(flats a.length (t::ks)++post):=by
      simp [flats,kh,T.flat_len]
     rw [k,h] at this;simp [qt,this]
   ·simp [g,e,c]
  dsimp only;rw [qp3 r ks 0 a post,j,kp];rfl
mutual
def qxI:∀(t:T) (a post:List Nd),(t.flat a.length).all (jg (a++(t.flat a.length++post)))=jE t
 | .mk d ks,a,post=>by
  have c:=all_rights ks a ([⟨d,qt a.length ks⟩]++post);have e:=qAL d ks a ([⟨d,qt a.length ks⟩]++post);simp only [T.flat,uB,JP,List.all_cons,List.all_nil,kA,jE];rw [c,e,ux]
def all_rights:∀(c:List T) (a post:List Nd),(flats a.length c).all (jg (a++(flats a.length c++post)))=okTs c
 |[],_,_=>rfl
 |t::c,a,post=>by
  have g:=qxI t a (flats (a.length+t.size) c++post);have e:=all_rights c (a++t.flat a.length) post;have h:(a++t.flat a.length).length=a.length+t.size:=by rw [kh,T.flat_len]
  rw [h] at e;simp only [flats,uB,JP,okTs] at g e⊢;rw [g,e]
end
def qes (l:List Nd) (root:Nat->Bool):whole l root=true↔∃t:T,l=t.flat 0/\t.size<=400/\root t.d.kind=true/\jE t=true:=by
 have key:∀t:T,(t.flat 0).all (jg (t.flat 0))=jE t:=fun t=>by
  have:=qxI t [] [];simpa using this
 constructor
 ·intro h;unfold whole at h;simp only [j0,kr] at h;obtain ⟨⟨⟨⟨j,a⟩,g⟩,e⟩,c⟩:=h;obtain ⟨t,rfl⟩:=qoW g;rw [T.flat_len] at a;rw [qiD] at e;rw [key] at c;exact ⟨t,rfl,a,e,c⟩
 ·rintro ⟨t,rfl,a,e,c⟩;unfold whole;have k:=t.size_pos;simp only [j0,kr,T.flat_len,qiD,key];exact ⟨⟨⟨⟨by omega,a⟩,qBU t⟩,e⟩,c⟩
def QB (k:Nat) (s:Bs) (c:UInt8):Bool:=if k=4 then qG (s++[c]) else if k=3 then qD c else L01.part c
def qIN {k:Nat} {s x:Bs} {c:UInt8} (h:right k s=true) (p:QB k s c=false):first (s++c::x)=(k,s.length,0):=by
 obtain ⟨O,j⟩:=zC h;obtain ⟨a,s',rfl⟩:∃a s',s=a::s':=by cases s with|nil=>exact absurd rfl O|cons a s'=>exact ⟨a,s',rfl⟩
 have g:((a::s')++c::x).getD 0 0=a:=by simp
 have J:(a::s').getD 0 0=a:=rfl;have S:k=1\/k=2\/k=3\/k=4:=by
  unfold right at h;by_cases k1:k=1
  ·exact .inl k1
  by_cases k2:k=2
  ·exact .inr (.inl k2)
  by_cases k3:k=3
  ·exact .inr (.inr (.inl k3))
  by_cases k4:k=4
  ·exact .inr (.inr (.inr k4))
  simp [k1,k2,k3,k4] at h
 unfold first at j⊢
 rw [g];rw [J] at j;by_cases F:jI a=true
 ·rw [if_pos F] at j⊢;have l:qL (a::s')=(a::s').length:=by
   split at j
   ·exact (ue (ue j).2).1
   ·split at j
    ·have:=(ue (ue j).2).2;cases this
    ·exact (ue (ue j).2).1
  have o:k=1\/k=2:=by
   split at j
   ·exact .inr (ue j).1.symm
   ·split at j
    ·have:=(ue (ue j).2).2;cases this
    ·exact .inl (ue j).1.symm
  have y:L01.part c=false:=by
   unfold QB at p;rcases o with rfl|rfl<;>simpa using p
  have m:qL ((a::s')++c::x)=(a::s').length:=qe1 (r:=[]) (by simpa [qL] using l) (.inr ⟨c,x,rfl,.inl y⟩);rw [m] at*;rw [l] at j;have e:((a::s')++c::x).take (a::s').length=(a::s').take (a::s').length:=by rw [List.take_left' rfl,Jx]
  rw [e];exact j
 ·rw [if_neg F] at j⊢;by_cases H:qD a=true
  ·rw [if_pos H] at j⊢;have l:jz (a::s')=(a::s').length:=by
    split at j
    ·exact (ue (ue j).2).1
    ·have:=(ue (ue j).2).2;cases this
   have u:k=3:=by
    split at j
    ·exact (ue j).1.symm
    ·have:=(ue (ue j).2).2;cases this
   have y:qD c=false:=by
    unfold QB at p;subst u;simpa using p
   have m:jz ((a::s')++c::x)=(a::s').length:=qe1 (r:=[]) (by simpa [jz] using l) (.inr ⟨c,x,rfl,.inl y⟩);rw [l] at j;rw [m];have e:((a::s')++c::x).take (a::s').length=(a::s').take (a::s').length:=by rw [List.take_left' rfl,Jx]
   rw [e];exact j
  ·rw [if_neg H] at j⊢;have A:k=4:=by
    split at j
    ·exact (ue j).1.symm
    ·split at j
     ·exact (ue j).1.symm
     ·have:=(ue (ue j).2).2;cases this
   subst A;have z:qG (a::s')=true:=by simpa [right] using h
   obtain ⟨n,_,_,_,_⟩:=QX (a::s') (by simpa [qG] using z);have E:qG ((a::s')++[c])=false:=by simpa [QB] using p
   rcases n with e|e
   ·have R:s'=[]:=uU.1 (by simpa using e);subst R;have C:qG [a,c]=false:=E;simp [C,z]
   ·obtain ⟨b,rfl⟩:∃b,s'=[b]:=by
     match s',e with
     |[b],_=>exact ⟨b,rfl⟩
    simp [z]
theorem qIB {k:Nat} {s x:Bs} {c:UInt8} (h:right k s=true) (e:first (s++c::x)=(k,s.length,0)):QB k s c=false:=by
 obtain ⟨V,h1⟩:=zC h;obtain ⟨a,s',rfl⟩:∃a s',s=a::s':=by cases s with|nil=>exact absurd rfl V|cons a s'=>exact ⟨a,s',rfl⟩
 have g:((a::s')++c::x).getD 0 0=a:=by simp
 have H:∀p:UInt8->Bool,(((a::s')++c::x).takeWhile p).length=(a::s').length->p c=false:=by
  intro p z;cases o:p c with
  |false=>rfl
  |true=>
   have n:∀y∈(a::s'),p y=true:=by
    have J:=JE p (l:=(a::s')++c::x);have O:(a::s')<+:(a::s')++c::x:=List.prefix_append _ _;have U:=Zm J O (by omega)|>.eq_of_length z
    intro y S;have Z:y∈((a::s')++c::x).takeWhile p:=by rw [U];exact S
    exact um.1 (Ju (p:=p) (l:=(a::s')++c::x)) y Z
   rw [JK n,List.takeWhile_cons,o] at z;simp at z
 unfold first at e
 rw [g] at e;unfold QB;by_cases C:jI a=true
 ·rw [if_pos C] at e;have j:qL ((a::s')++c::x)=(a::s').length/\(k=1\/k=2):=by
   split at e
   ·exact ⟨(ue (ue e).2).1,.inr (ue e).1.symm⟩
   ·split at e
    ·have:=(ue (ue e).2).2;cases this
    ·exact ⟨(ue (ue e).2).1,.inl (ue e).1.symm⟩
  have:=H L01.part j.1;rcases j.2 with rfl|rfl<;>simpa using this
 ·rw [if_neg C] at e;by_cases E:qD a=true
  ·rw [if_pos E] at e;have j:jz ((a::s')++c::x)=(a::s').length/\k=3:=by
    split at e
    ·exact ⟨(ue (ue e).2).1,(ue e).1.symm⟩
    ·have:=(ue (ue e).2).2;cases this
   have:=H qD j.1;obtain ⟨_,rfl⟩:=j;simpa using this
  ·rw [if_neg E] at e;have A:k=4:=by
    split at e
    ·exact (ue e).1.symm
    ·split at e
     ·exact (ue e).1.symm
     ·have:=(ue (ue e).2).2;cases this
   subst A;rw [if_pos rfl];have R:qG (a::s')=true:=by simpa [right] using h
   obtain ⟨F,_,_,_,_⟩:=QX (a::s') (by simpa [qG] using R);cases o:qG ((a::s')++[c]) with
   |false=>rfl
   |true=>
    obtain ⟨m,_,_,_,_⟩:=QX ((a::s')++[c]) (by simpa [qG] using o);have Y:s'=[]:=by
     simpa using m
    subst Y;have u:qG [a,c]=true:=o;simp [u] at e
structure At where
 k:Nat
 s:Bs
def qR (l:List At):Bs:=l.flatMap (·.s)
def qJ (l:List At):List (Nat×Bs):=(l.filter fun a=>decide (a.k≠0)).map fun a=>(a.k,a.s)
def qg4 (a b:List At):qR (a++b)=qR a++qR b:=by simp [qR]
def Qa (a b:List At):qJ (a++b)=qJ a++qJ b:=by simp [qJ]
def At.ok (a:At):Prop:=if a.k=0 then a.s≠[]/\∀c∈a.s,L01.ke c=true else right a.k a.s=true
def At.then (a:At) (r:Bs):Prop:=a.k=0\/∀c x,r=c::x->QB a.k a.s c=false
def okAw:List At->Prop
 |[]=>True
 |a::l=>a.ok/\(match l with|[]=>True|b::_=>a.then b.s)/\okAw l
def Qh (l:List At) (r:Bs):Prop:=match l.getLast? with|none=>True|some a=>a.then r
def At.ok.ne {a:At} (h:a.ok):a.s≠[]:=by
 unfold At.ok at h;split at h
 ·exact h.1
 ·exact (zC h).1
def At.then_head {a:At} {s r:Bs} (h:a.then s) (g:s≠[]):a.then (s++r):=by
 rcases h with h|h
 ·exact .inl h
 ·refine .inr fun c x e=>?_;cases s with
  |nil=>exact absurd rfl g
  |cons b s'=>
   simp only [List.cons_append,uM] at e;exact h c s' (by rw [<-e.1])
def qDe {a b:List At} (m:okAw a) (g:okAw b) (h:∀y l,b=y::l->Qh a y.s):okAw (a++b):=by
 induction a with
 |nil=>exact g
 |cons x a k=>
  obtain ⟨c,n,j⟩:=m;cases a with
  |nil=>
   cases b with
   |nil=>exact ⟨c,trivial,trivial⟩
   |cons y l=>exact ⟨c,by simpa [Qh] using h y l rfl,g⟩
  |cons z a=>
   refine ⟨c,n,k j fun y l e=>?_⟩;have:=h y l e;simpa [Qh,VG] using this
def qii:∀(s r:Bs) (l:Int),(∀c∈s,L01.ke c=true)->∃a,qK (s++r) l=qK r a
 |[],r,l,_=>⟨l,rfl⟩
 |c::s,r,l,h=>by
  have k:=h c (by simp);have j:∀d∈s,L01.ke d=true:=fun d m=>h d (by simp [m]);simp only [L01.ke,uk,kr] at k;by_cases g:c=10
  ·subst g;obtain ⟨a,e⟩:=qii s r (l+1) j;exact ⟨a,by rw [List.cons_append,qb4,e]⟩
  ·obtain ⟨a,e⟩:=qii s r l j;exact ⟨a,by rw [List.cons_append,qb3 _ _ (by rcases k with (h|h)|h<;>simp_all),e]⟩
def vv (t:Tok):Nat×Bs:=(t.kind,t.text)
def qik:∀(a:List At) (r:Bs) (l:Int),okAw a->Qh a r->∃n o,qK (qR a++r) l=(qK r o).add n []/\n.map vv=qJ a
 |[],r,l,_,_=>⟨[],l,by simp [qR],rfl⟩
 |a::g,r,l,h,E=>by
  obtain ⟨m,F,y⟩:=h;have u:Qh g r:=by
   cases g with
   |nil=>trivial
   |cons b g=>simpa [Qh,VG] using E
  have J:a.then (qR g++r):=by
   cases g with
   |nil=>simpa [Qh,qR] using E
   |cons b g=>
    have H:=(y.1).ne;have e:qR (b::g)++r=b.s++(qR g++r):=by simp [qR]
    rw [e];exact At.then_head F H
  have e:qR (a::g)++r=a.s++(qR g++r):=by simp [qR]
  rw [e];by_cases p:a.k=0
  ·have C:∀c∈a.s,L01.ke c=true:=by
    unfold At.ok at m;rw [if_pos p] at m;exact m.2
   obtain ⟨l1,S⟩:=qii a.s (qR g++r) l C;obtain ⟨n,o,A,z⟩:=qik g r l1 y u;exact ⟨n,o,by rw [S,A],by rw [z];simp [qJ,p]⟩
  ·have j:right a.k a.s=true:=by
    unfold At.ok at m;rw [if_neg p] at m;exact m
   have O:first (a.s++(qR g++r))=(a.k,a.s.length,0):=by
    cases R:qR g++r with
    |nil=>rw [uy];exact (zC j).2
    |cons c x=>
     refine qIN j ?_;rcases J with h|h
     ·exact absurd h p
     ·exact h c x R
   obtain ⟨n,o,A,z⟩:=qik g r l y u;refine ⟨⟨a.k,a.s,l⟩::n,o, ?_, ?_⟩
   ·rw [qdg (zC j).1 O (qam j),A,L01.Res.add_add];rfl
   ·rw [List.map_cons,z];simp [qJ,p,vv]
def qzN {a:List At} (h:okAw a) (l:Int):∃g,qK (qR a) l=.ok g []/\g.map vv=qJ a:=by
 obtain ⟨g,k,e,j⟩:=qik a [] l h (by
  unfold Qh;split
  ·trivial
  ·exact .inr fun c x e=>by cases e)
 rw [uy,L01.qdh] at e;exact ⟨g,by rw [e];simp [Res.add],j⟩
def zH:Nat×List At->Prop
 |(0,l)=>∃s,l=[⟨0,s⟩]/\s≠[]/\∀c∈s,L01.ke c=true
 |(1,l)=>okAw l/\∃a,l.head? =some a/\a.k≠0/\(a.k=4->a.s≠[61])
 |(2,l)=>∃s,l=[⟨4,s⟩]/\qG s=true/\s≠[61]
 |(3,l)=>l=[⟨4,[61]⟩]
 |_=>False
def wk:List Nat->Bool
 |a::b::l=> !(a==1&&b==1)&& !(b==3&&a !=0)&&wk (b::l)
 |_=>true
def qvY {s:Bs} (h:qG s=true):∃c x,s=c::x/\L01.part c=false/\qD c=false/\(s≠[61]->c≠61):=by
 have:∀s∈L01.jf,∃c x,s=c::x/\L01.part c=false/\qD c=false/\(s≠[61]->c≠61):=by
  intro s a;simp only [L01.jf,wh,uI,wm] at a;rcases a with rfl|rfl|rfl|rfl|rfl|rfl|rfl|rfl|rfl|rfl|rfl|rfl|rfl|rfl|rfl|rfl|rfl|rfl|rfl|rfl|rfl<;>exact ⟨_,_,rfl,by decide,by decide,by decide⟩
 exact this s (by simpa [qG] using h)
def qic {s:Bs} {c:UInt8} (h:qG (s++[c])=true) (k:s≠[]):c=61:=by
 have:∀t∈L01.jf,t.length=2->t.getD 1 0=61:=by decide
 obtain ⟨j,_⟩:=QX (s++[c]) (by simpa [qG] using h);have m:0<s.length:=Jn.2 k;have e:(s++[c]).length=2:=by rw [kh,List.length_singleton] at j⊢;omega
 have g:=this (s++[c]) (by simpa [qG] using h) e;have l:s.length=1:=by simpa using e
 match s,l with
 |[a],_=>simpa using g
def qIv {k:Nat} {s:Bs} (h:right k s=true) (g:k≠4):∃c x,s=c::x/\c≠61:=by
 obtain ⟨m,j⟩:=zC h;cases s with
 |nil=>exact absurd rfl m
 |cons a s=>
  refine ⟨a,s,rfl, ?_⟩;rintro rfl;unfold first at j
  have n:jI 61=false:=by decide
  have o:qD 61=false:=by decide
  have l:qG [61]=true:=by decide
  have e:((if 1<(61::s).length/\qG ((61::s).take 2)=true then (4,2,0) else (4,1,0):Nat×Nat×Int))=(k,(61::s).length,0):=by
   rw [<-j];simp [n,o,l]
  split at e
  ·exact g (ue e).1.symm
  ·exact g (ue e).1.symm
theorem At.then_sign {a:At} {s:Bs} (h:a.ok) (p:qG s=true) (g:s≠[61]):a.then s:=by
 by_cases m:a.k=0
 ·exact .inl m
 refine .inr fun c x e=>?_;obtain ⟨y,x',j,n,u,l⟩:=qvY p;rw [e] at j;cases j;unfold QB;split
 ·cases o:qG (a.s++[c]) with
  |false=>rfl
  |true=>exact absurd (qic o h.ne) (l g)
 ·split
  ·exact u
  ·exact n
theorem At.then_blank {a:At} {s:Bs} (h:a.ok) (m:∀c∈s,L01.ke c=true):a.then s:=by
 by_cases j:a.k=0
 ·exact .inl j
 refine .inr fun c x e=>?_;have g:=m c (by rw [e];simp);unfold QB;split
 ·cases l:qG (a.s++[c]) with
  |false=>rfl
  |true=>
   rw [qic l h.ne] at g;exact absurd g (by decide)
 ·split
  ·exact L01.qJr g
  ·exact L01.qBX g
theorem qnI {s:Bs} {b:At} (n:qG s=true) (h:b.ok) (y:b.k≠0) (u:b.k=4->b.s≠[61]):(⟨4,s⟩:At).then b.s:=by
 refine .inr fun c x e=>?_;have l:right b.k b.s=true:=by
  unfold At.ok at h;rw [if_neg y] at h;exact h
 have j:s≠[]:=(zC (k:=4) (by simpa [right] using n)).1;have o:c≠61:=by
  by_cases m:b.k=4
  ·rw [m] at l;obtain ⟨z,x',a,_,_,g⟩:=qvY (s:=b.s) (by simpa [right] using l);rw [e] at a;cases a;exact g (u m)
  ·obtain ⟨z,x',a,g⟩:=qIv l m;rw [e] at a;cases a;exact g
 unfold QB;rw [if_pos rfl];cases p:qG (s++[c]) with
 |false=>rfl
 |true=>exact absurd (qic p j) o
def qpr:∀{l:List At},okAw l->∀a,l.getLast? =some a->a.ok
 |[],_,a,h=>by cases h
 |[x],h,a,e=>by simp at e;subst e;exact h.1
 |x::y::l,h,a,e=>qpr (l:=y::l) h.2.2 a (by simpa [VG] using e)
def zH.okAw:∀{p:Nat×List At},zH p->okAw p.2/\p.2≠[]
 |(0,l),h=>by
  obtain ⟨s,rfl,c,e⟩:=h;exact ⟨⟨by unfold At.ok;rw [if_pos rfl];exact ⟨c,e⟩,trivial,trivial⟩,by simp⟩
 |(1,l),h=>by
  obtain ⟨c,a,e,_⟩:=h;exact ⟨c,by rintro rfl;cases e⟩
 |(2,l),h=>by
  obtain ⟨s,rfl,c,e⟩:=h;exact ⟨⟨by unfold At.ok;rw [if_neg (show¬(4:Nat)=0 by decide)];simpa [right] using c,trivial,trivial⟩,by simp⟩
 |(3,l),h=>by
  obtain rfl:l=[⟨4,[61]⟩]:=h;exact ⟨⟨by unfold At.ok;rw [if_neg (by decide)];decide,trivial,trivial⟩,by simp⟩
 |(n+4,l),h=>h.elim
def qzI {p q:Nat×List At} (k:zH p) (c:zH q) (O:¬(p.1=1/\q.1=1)) (F:¬(q.1=3/\p.1≠0)) (y:At) (l:List At) (e:q.2=y::l):Qh p.2 y.s:=by
 obtain ⟨H,E⟩:=k.okAw;obtain ⟨A,_⟩:=c.okAw;obtain ⟨a,o⟩:∃a,p.2.getLast? =some a:=⟨_,List.getLast?_eq_some_getLast E⟩;unfold Qh;rw [o];have g:=qpr H a o;have C:y.ok:=by rw [e] at A;exact A.1
 obtain ⟨m,R⟩:=q;obtain ⟨n,J⟩:=p;dsimp only at*
 match n,k with
 |0,k=>
  obtain ⟨s,rfl,_,_⟩:=k;simp at o;subst o;exact .inl rfl
 |1,k=>
  match m,c with
  |0,c=>
   obtain ⟨s,rfl,_,h⟩:=c;cases e;exact At.then_blank g h
  |1,_=>exact absurd ⟨rfl,rfl⟩ O
  |2,c=>
   obtain ⟨s,rfl,u,j⟩:=c;cases e;exact At.then_sign g u j
  |3,_=>exact absurd ⟨rfl,by decide⟩ F
  |m+4,c=>exact c.elim
 |2,k=>
  obtain ⟨s,rfl,u,j⟩:=k;simp at o;subst o
  match m,c with
  |0,c=>
   obtain ⟨s,rfl,_,h⟩:=c;cases e;exact At.then_blank g h
  |1,c=>
   obtain ⟨_,b,h,x,z⟩:=c;rw [e] at h;simp at h;subst h;exact qnI u C x z
  |2,c=>
   obtain ⟨s,rfl,u,j⟩:=c;cases e;exact At.then_sign g u j
  |3,_=>exact absurd ⟨rfl,by decide⟩ F
  |m+4,c=>exact c.elim
 |3,k=>
  obtain rfl:J=[⟨4,[61]⟩]:=k;simp at o;subst o
  match m,c with
  |0,c=>
   obtain ⟨s,rfl,_,h⟩:=c;cases e;exact At.then_blank g h
  |1,c=>
   obtain ⟨_,b,h,x,z⟩:=c;rw [e] at h;simp at h;subst h;exact qnI (by decide) C x z
  |2,c=>
   obtain ⟨s,rfl,u,j⟩:=c;cases e;exact At.then_sign g u j
  |3,_=>exact absurd ⟨rfl,by decide⟩ F
  |m+4,c=>exact c.elim
 |n+4,k=>exact k.elim
def qpp:∀(ls:List (Nat×List At)),(∀p∈ls,zH p)->wk (ls.map (·.1))=true->okAw (ls.flatMap (·.2))
 |[],_,_=>trivial
 |[p],h,_=>by simpa using (h p (by simp)).okAw.1
 |p::q::ls,h,a=>by
  have n:=h p (by simp);have m:=h q (by simp);simp only [List.map_cons,wk,j0,uE,Jr,J4,bne_eq_false_iff_eq] at a;have u:=qpp (q::ls) (fun p o=>h p (by simp [o])) a.2;rw [JB];refine qDe n.okAw.1 u fun y l e=>?_;obtain ⟨_,g⟩:=m.okAw;cases j:q.2 with
  |nil=>exact absurd j g
  |cons z zs=>
   have:y=z:=by
    rw [JB,j] at e;simp at e;exact e.1.symm
   subst this;refine qzI n m ?_ ?_ y zs j
   ·rintro ⟨k,c⟩;rcases a.1.1 with h|h
    ·exact h k
    ·exact h c
   ·rintro ⟨k,c⟩;rcases a.1.2 with h|h
    ·exact h k
    ·exact c h
def Qo {ls:List (Nat×List At)} (h:∀p∈ls,zH p) (m:wk (ls.map (·.1))=true) {p:Nat×List At} {qs:List (Nat×List At)} (e:ls=p::qs) (o:p.1=1\/p.1=2):zH (1,ls.flatMap (·.2)):=by
 refine ⟨qpp ls h m, ?_⟩;subst e;have c:=h p (by simp);obtain ⟨n,l⟩:=p;rcases o with rfl|rfl
 ·obtain ⟨_,a,k,g⟩:=c;refine ⟨a, ?_,g⟩;rw [JB,List.head?_append];dsimp only;rw [k];rfl
 ·obtain ⟨s,rfl,g,j⟩:=c;exact ⟨⟨4,s⟩,by simp,show (4:Nat)≠0 by decide,fun _=>j⟩
def sg (s:Bs):Nat×List At:=(2,[⟨4,s⟩])
def bk (s:Bs):Nat×List At:=(0,[⟨0,s⟩])
def wd (k:Nat) (s:Bs):Nat×List At:=(1,[⟨k,s⟩])
def zW {s:Bs} (h:qG s=true) (a:s≠[61]):zH (sg s):=⟨s,rfl,h,a⟩
def qeX:zH (bk [32]):=⟨_,rfl,by decide,by decide⟩
def wJ {k:Nat} {s:Bs} (h:right k s=true) (a:k≠0) (c:k≠4):zH (wd k s):=
 ⟨⟨by unfold At.ok;rw [if_neg a];exact h,trivial,trivial⟩,_,rfl,a,fun e=>absurd e c⟩
inductive Vw:D->List T->Prop
 |int (n:Int) (h0:0<=n) (h1:n<=1000000000):Vw {kind:=1,n:=n} []
 |bool (n:Int) (h:n=0\/n=1):Vw {kind:=2,n:=n} []
 |nil:Vw {kind:=3} []
 |var (s:Bs) (h:qg s=true):Vw {kind:=4,name:=s} []
 |mcall (s ty:Bs) (h:qg s=true) (ht:ty=[]\/qI ty=true) (ks:List T) (h6:ks.length<=6) (hk:∀k∈ks,qf k.d.kind=true):Vw {kind:=5,name:=s,typ:=ty} ks
 |ocall (s o:Bs) (h:vx s=true) (ho:qI o=true) (ks:List T) (h6:ks.length<=6) (hk:∀k∈ks,qf k.d.kind=true):Vw {kind:=5,name:=s,vr:=o} ks
 |neg (a:T) (ha:qf a.d.kind=true):Vw {kind:=6,name:=[110,111,116]} [a]
 |oper (s:Bs) (h:jU.contains s=true) (a b:T) (ha:qf a.d.kind=true) (hb:qf b.d.kind=true):Vw {kind:=6,name:=s} [a,b]
 |index (a b:T) (ha:qf a.d.kind=true) (hb:qf b.d.kind=true):Vw {kind:=7} [a,b]
 |field (s:Bs) (h:qg s=true) (a:T) (ha:qf a.d.kind=true):Vw {kind:=8,name:=s} [a]
 |up (a:T) (ha:qf a.d.kind=true):Vw {kind:=9} [a]
 |down (a:T) (ha:qf a.d.kind=true):Vw {kind:=10} [a]
 |seq (ks:List T) (h4:ks.length<=400) (hk:∀k∈ks,wR k.d.kind=true):Vw {kind:=20} ks
 |decl (s ty:Bs) (h:qg s=true) (ht:qI ty=true) (a:T) (ha:qf a.d.kind=true):Vw {kind:=21,name:=s,typ:=ty} [a]
 |set (s:Bs) (h:qg s=true) (a:T) (ha:qf a.d.kind=true):Vw {kind:=22,name:=s} [a]
 |store (a b c:T) (ha:qf a.d.kind=true) (hb:qf b.d.kind=true) (hc:qf c.d.kind=true):Vw {kind:=23} [a,b,c]
 |put (s:Bs) (h:qg s=true) (a b:T) (ha:qf a.d.kind=true) (hb:qf b.d.kind=true):Vw {kind:=24,name:=s} [a,b]
 |exec (a:T) (ha:a.d.kind=5):Vw {kind:=25} [a]
 |ifs (a b:T) (ha:qf a.d.kind=true) (hb:b.d.kind=20):Vw {kind:=26} [a,b]
 |ife (a b c:T) (ha:qf a.d.kind=true) (hb:b.d.kind=20) (hc:c.d.kind=20):Vw {kind:=26} [a,b,c]
 |loop (a b:T) (ha:qf a.d.kind=true) (hb:b.d.kind=20):Vw {kind:=27} [a,b]
 |for_ (s ty:Bs) (h:qg s=true) (ht:qI ty=true) (a b:T) (ha:a.d.kind=5) (hb:b.d.kind=20):Vw {kind:=28,name:=s,typ:=ty} [a,b]
 |ret0:Vw {kind:=29} []
 |ret1 (a:T) (ha:qf a.d.kind=true):Vw {kind:=29} [a]
 |yield_ (a:T) (ha:qf a.d.kind=true):Vw {kind:=30} [a]
 |signal (s:Bs) (h:qg s=true):Vw {kind:=31,name:=s} []
 |exc (b:T) (ws:List T) (hb:b.d.kind=20) (hn:ws≠[]) (hw:∀w∈ws,w.d.kind=33) (h4:ws.length<400) (hnm:qcU (ws.length+1) 0 ws=true):Vw {kind:=32} (b::ws)
 |when (s:Bs) (b:T) (hb:b.d.kind=20):Vw {kind:=33,name:=s} [b]
 |brk:Vw {kind:=34} []
 |case_ (a:T) (ws:List T) (ha:qf a.d.kind=true) (hn:ws≠[]) (hw:∀w∈ws,w.d.kind=36) (h4:ws.length<400):Vw {kind:=35} (a::ws)
 |arm (s v ty:Bs) (h:qg s=true) (hv:qg v=true) (ht:qI ty=true) (b:T) (hb:b.d.kind=20):Vw {kind:=36,name:=s,vr:=v,typ:=ty} [b]
 |puts (a:T) (ha:qf a.d.kind=true):Vw {kind:=37} [a]
def qdP {r:Row} {f:Nat->Bool} (e:r.more=some f):∀(ks:List T) (i:Nat),r.first.length<=i->vm r i ks=true->∀k∈ks,f k.d.kind=true
 |[],_,_,_,k,c=>by cases c
 |a::ks,i,g,h,k,c=>by
  simp only [vm,e,u4 g,j0] at h;rcases wh.1 c with rfl|c
  ·exact h.1
  ·exact qdP e ks (i+1) (by omega) h.2 k c
def qC2 {s:Bs}:yg.contains s=true↔s=[110,111,116]\/jU.contains s=true:=by
 simp only [yg,jU,List.contains_cons,List.contains_nil,uk,ur,uO]
def qfU:qI []=false:=by decide
def qDr:jU.contains [110,111,116]=false:=by decide
def xU {k j:Nat}:qv k j=true↔j=k:=by simp [qv]
def qcj {a:Type} {l:List a} (h:l.length<=0):l=[]:=uU.1 (by omega)
def yX {c:Type} {l:List c} (h:1<=l.length) (e:l.length<=1):∃a,l=[a]:=List.length_eq_one_iff.1 (by omega)
def qci {e:Type} {l:List e} (h:2<=l.length) (c:l.length<=2):∃a b,l=[a,b]:=by
 match l,h,c with
 |[a,b],_,_=>exact ⟨a,b,rfl⟩
 |_::_::_::_,_,c=>simp at c
def qpS {g:Type} {l:List g} (h:3<=l.length) (e:l.length<=3):∃a b c,l=[a,b,c]:=by
 match l,h,e with
 |[a,b,c],_,_=>exact ⟨a,b,c,rfl⟩
 |_::_::_::_::_,_,e=>simp at e
def QM {d:D} {ks:List T} (h:qb5 d ks=true):Vw d ks:=by
 obtain ⟨k,nm,vr,ty,n⟩:=d;have key:∀r,z6 k=some r->((((((qj nm r.name=true/\qj vr r.vr=true)/\qj ty r.typ=true)/\(match r.n with|none=>decide (n=0)|some f=>f n)=true)/\r.least<=ks.length/\ks.length<=r.most)/\vm r 0 ks=true)/\qa7 ⟨k,nm,vr,ty,n⟩ ks=true):=by
  intro r J;unfold qb5 at h;dsimp only at h;rw [J] at h;simp only [j0,kr] at h;exact h
 have j:z6 k=none->False:=by
  intro J;unfold qb5 at h;dsimp only at h;rw [J] at h;cases h
 clear h
 match k,key,j with
 |0,_,j=>exact (j rfl).elim
 |1,key,_=>
  obtain ⟨⟨⟨⟨⟨⟨m,u⟩,o⟩,p⟩,g,e⟩,l⟩,x⟩:=key _ rfl;obtain rfl:nm=[]:=by simpa [qj,qd] using m
  obtain rfl:vr=[]:=by simpa [qj,qd] using u
  obtain rfl:ty=[]:=by simpa [qj,qd] using o
  have E:0<=n/\n<=1000000000:=by simpa [qd,jD] using p
  obtain rfl:=qcj e;exact .int n E.1 E.2
 |2,key,_=>
  obtain ⟨⟨⟨⟨⟨⟨m,u⟩,o⟩,p⟩,g,e⟩,l⟩,x⟩:=key _ rfl;obtain rfl:nm=[]:=by simpa [qj,qd] using m
  obtain rfl:vr=[]:=by simpa [qj,qd] using u
  obtain rfl:ty=[]:=by simpa [qj,qd] using o
  have E:0<=n/\n<=1:=by simpa [qd,jD] using p
  obtain rfl:=qcj e;exact .bool n (by omega)
 |3,key,_=>
  obtain ⟨⟨⟨⟨⟨⟨m,u⟩,o⟩,p⟩,g,e⟩,l⟩,x⟩:=key _ rfl;obtain rfl:nm=[]:=by simpa [qj,qd] using m
  obtain rfl:vr=[]:=by simpa [qj,qd] using u
  obtain rfl:ty=[]:=by simpa [qj,qd] using o
  obtain rfl:n=0:=by simpa [qd] using p
  obtain rfl:=qcj e;exact .nil
 |4,key,_=>
  obtain ⟨⟨⟨⟨⟨⟨m,u⟩,o⟩,p⟩,g,e⟩,l⟩,x⟩:=key _ rfl;change qg nm=true at m;obtain rfl:vr=[]:=by simpa [qj,qd] using u
  obtain rfl:ty=[]:=by simpa [qj,qd] using o
  obtain rfl:n=0:=by simpa [qd] using p
  obtain rfl:=qcj e;exact .var nm m
 |5,key,_=>
  obtain ⟨⟨⟨⟨⟨⟨m,u⟩,o⟩,p⟩,g,e⟩,l⟩,x⟩:=key _ rfl;obtain rfl:n=0:=by simpa using p
  have F:=qdP (f:=qf) rfl ks 0 (uz _) l;have y:qaQ ⟨5,nm,vr,ty,0⟩=true:=by simpa [qa7] using x
  unfold qaQ at y;dsimp only at y;by_cases R:vr=[]
  ·subst R;rw [if_pos rfl,j0,uk,kr] at y;exact .mcall nm ty y.1 y.2 ks e F
  ·rw [if_neg R] at y;simp only [j0,kr] at y;obtain ⟨⟨A,z⟩,rfl⟩:=y;exact .ocall nm vr z A ks e F
 |6,key,_=>
  obtain ⟨⟨⟨⟨⟨⟨m,u⟩,o⟩,p⟩,g,e⟩,l⟩,x⟩:=key _ rfl;obtain rfl:vr=[]:=by simpa [qj] using u
  obtain rfl:ty=[]:=by simpa [qj] using o
  obtain rfl:n=0:=by simpa using p
  have O:yg.contains nm=true:=m;have y:decide (nm=[110,111,116])=decide (ks.length=1):=by simpa [qa7] using x
  by_cases A:ks.length=1
  ·obtain ⟨a,rfl⟩:=List.length_eq_one_iff.1 A;simp [vm] at l;have z:nm=[110,111,116]:=by simpa using y
   subst z;exact .neg a l
  ·obtain ⟨a,b,rfl⟩:=qci (by change 1<=_ at g;omega) e;simp [vm] at l;have z:nm≠[110,111,116]:=by simpa using y
   rcases qC2.1 O with h|h
   ·exact absurd h z
   ·exact .oper nm h a b l.1 l.2
 |7,key,_=>
  obtain ⟨⟨⟨⟨⟨⟨m,u⟩,o⟩,p⟩,g,e⟩,l⟩,x⟩:=key _ rfl;obtain rfl:nm=[]:=by simpa [qj,qd] using m
  obtain rfl:vr=[]:=by simpa [qj,qd] using u
  obtain rfl:ty=[]:=by simpa [qj,qd] using o
  obtain rfl:n=0:=by simpa [qd] using p
  obtain ⟨a,b,rfl⟩:=qci g e;simp [vm,qd,xU] at l;exact .index a b l.1 l.2
 |8,key,_=>
  obtain ⟨⟨⟨⟨⟨⟨m,u⟩,o⟩,p⟩,g,e⟩,l⟩,x⟩:=key _ rfl;change qg nm=true at m;obtain rfl:vr=[]:=by simpa [qj,qd] using u
  obtain rfl:ty=[]:=by simpa [qj,qd] using o
  obtain rfl:n=0:=by simpa [qd] using p
  obtain ⟨a,rfl⟩:=yX g e;simp [vm,qd,xU] at l;exact .field nm m a l
 |9,key,_=>
  obtain ⟨⟨⟨⟨⟨⟨m,u⟩,o⟩,p⟩,g,e⟩,l⟩,x⟩:=key _ rfl;obtain rfl:nm=[]:=by simpa [qj,qd] using m
  obtain rfl:vr=[]:=by simpa [qj,qd] using u
  obtain rfl:ty=[]:=by simpa [qj,qd] using o
  obtain rfl:n=0:=by simpa [qd] using p
  obtain ⟨a,rfl⟩:=yX g e;simp [vm,qd,xU] at l;exact .up a l
 |10,key,_=>
  obtain ⟨⟨⟨⟨⟨⟨m,u⟩,o⟩,p⟩,g,e⟩,l⟩,x⟩:=key _ rfl;obtain rfl:nm=[]:=by simpa [qj,qd] using m
  obtain rfl:vr=[]:=by simpa [qj,qd] using u
  obtain rfl:ty=[]:=by simpa [qj,qd] using o
  obtain rfl:n=0:=by simpa [qd] using p
  obtain ⟨a,rfl⟩:=yX g e;simp [vm,qd,xU] at l;exact .down a l
 |11,_,j=>exact (j rfl).elim
 |12,_,j=>exact (j rfl).elim
 |13,_,j=>exact (j rfl).elim
 |14,_,j=>exact (j rfl).elim
 |15,_,j=>exact (j rfl).elim
 |16,_,j=>exact (j rfl).elim
 |17,_,j=>exact (j rfl).elim
 |18,_,j=>exact (j rfl).elim
 |19,_,j=>exact (j rfl).elim
 |20,key,_=>
  obtain ⟨⟨⟨⟨⟨⟨m,u⟩,o⟩,p⟩,g,e⟩,l⟩,x⟩:=key _ rfl;obtain rfl:nm=[]:=by simpa [qj] using m
  obtain rfl:vr=[]:=by simpa [qj] using u
  obtain rfl:ty=[]:=by simpa [qj] using o
  obtain rfl:n=0:=by simpa using p
  exact .seq ks e (qdP (f:=wR) rfl ks 0 (uz _) l)
 |21,key,_=>
  obtain ⟨⟨⟨⟨⟨⟨m,u⟩,o⟩,p⟩,g,e⟩,l⟩,x⟩:=key _ rfl;change qg nm=true at m;obtain rfl:vr=[]:=by simpa [qj,qd] using u
  change qI ty=true at o;obtain rfl:n=0:=by simpa [qd] using p
  obtain ⟨a,rfl⟩:=yX g e;simp [vm,qd,xU] at l;exact .decl nm ty m o a l
 |22,key,_=>
  obtain ⟨⟨⟨⟨⟨⟨m,u⟩,o⟩,p⟩,g,e⟩,l⟩,x⟩:=key _ rfl;change qg nm=true at m;obtain rfl:vr=[]:=by simpa [qj,qd] using u
  obtain rfl:ty=[]:=by simpa [qj,qd] using o
  obtain rfl:n=0:=by simpa [qd] using p
  obtain ⟨a,rfl⟩:=yX g e;simp [vm,qd,xU] at l;exact .set nm m a l
 |23,key,_=>
  obtain ⟨⟨⟨⟨⟨⟨m,u⟩,o⟩,p⟩,g,e⟩,l⟩,x⟩:=key _ rfl;obtain rfl:nm=[]:=by simpa [qj,qd] using m
  obtain rfl:vr=[]:=by simpa [qj,qd] using u
  obtain rfl:ty=[]:=by simpa [qj,qd] using o
  obtain rfl:n=0:=by simpa [qd] using p
  obtain ⟨a,b,c,rfl⟩:=qpS g e;simp [vm,qd,xU] at l;exact .store a b c l.1 l.2.1 l.2.2
 |24,key,_=>
  obtain ⟨⟨⟨⟨⟨⟨m,u⟩,o⟩,p⟩,g,e⟩,l⟩,x⟩:=key _ rfl;change qg nm=true at m;obtain rfl:vr=[]:=by simpa [qj,qd] using u
  obtain rfl:ty=[]:=by simpa [qj,qd] using o
  obtain rfl:n=0:=by simpa [qd] using p
  obtain ⟨a,b,rfl⟩:=qci g e;simp [vm,qd,xU] at l;exact .put nm m a b l.1 l.2
 |25,key,_=>
  obtain ⟨⟨⟨⟨⟨⟨m,u⟩,o⟩,p⟩,g,e⟩,l⟩,x⟩:=key _ rfl;obtain rfl:nm=[]:=by simpa [qj,qd] using m
  obtain rfl:vr=[]:=by simpa [qj,qd] using u
  obtain rfl:ty=[]:=by simpa [qj,qd] using o
  obtain rfl:n=0:=by simpa [qd] using p
  obtain ⟨a,rfl⟩:=yX g e;simp [vm,qd,xU] at l;exact .exec a l
 |26,key,_=>
  obtain ⟨⟨⟨⟨⟨⟨m,u⟩,o⟩,p⟩,g,e⟩,l⟩,x⟩:=key _ rfl;obtain rfl:nm=[]:=by simpa [qj] using m
  obtain rfl:vr=[]:=by simpa [qj] using u
  obtain rfl:ty=[]:=by simpa [qj] using o
  obtain rfl:n=0:=by simpa using p
  change 2<=_ at g;change _<=3 at e;by_cases z:ks.length=2
  ·obtain ⟨a,b,rfl⟩:=qci (by omega) (Nat.le_of_eq z);simp [vm,xU] at l;exact .ifs a b l.1 l.2
  ·obtain ⟨a,b,c,rfl⟩:=qpS (by omega) e;simp [vm,xU] at l;exact .ife a b c l.1 l.2.1 l.2.2
 |27,key,_=>
  obtain ⟨⟨⟨⟨⟨⟨m,u⟩,o⟩,p⟩,g,e⟩,l⟩,x⟩:=key _ rfl;obtain rfl:nm=[]:=by simpa [qj,qd] using m
  obtain rfl:vr=[]:=by simpa [qj,qd] using u
  obtain rfl:ty=[]:=by simpa [qj,qd] using o
  obtain rfl:n=0:=by simpa [qd] using p
  obtain ⟨a,b,rfl⟩:=qci g e;simp [vm,qd,xU] at l;exact .loop a b l.1 l.2
 |28,key,_=>
  obtain ⟨⟨⟨⟨⟨⟨m,u⟩,o⟩,p⟩,g,e⟩,l⟩,x⟩:=key _ rfl;change qg nm=true at m;obtain rfl:vr=[]:=by simpa [qj,qd] using u
  change qI ty=true at o;obtain rfl:n=0:=by simpa [qd] using p
  obtain ⟨a,b,rfl⟩:=qci g e;simp [vm,qd,xU] at l;exact .for_ nm ty m o a b l.1 l.2
 |29,key,_=>
  obtain ⟨⟨⟨⟨⟨⟨m,u⟩,o⟩,p⟩,g,e⟩,l⟩,x⟩:=key _ rfl;obtain rfl:nm=[]:=by simpa [qj] using m
  obtain rfl:vr=[]:=by simpa [qj] using u
  obtain rfl:ty=[]:=by simpa [qj] using o
  obtain rfl:n=0:=by simpa using p
  change _<=1 at e;by_cases S:ks.length=0
  ·obtain rfl:=uU.1 S;exact .ret0
  ·obtain ⟨a,rfl⟩:=yX (by omega) e;simp [vm] at l;exact .ret1 a l
 |30,key,_=>
  obtain ⟨⟨⟨⟨⟨⟨m,u⟩,o⟩,p⟩,g,e⟩,l⟩,x⟩:=key _ rfl;obtain rfl:nm=[]:=by simpa [qj,qd] using m
  obtain rfl:vr=[]:=by simpa [qj,qd] using u
  obtain rfl:ty=[]:=by simpa [qj,qd] using o
  obtain rfl:n=0:=by simpa [qd] using p
  obtain ⟨a,rfl⟩:=yX g e;simp [vm,qd,xU] at l;exact .yield_ a l
 |31,key,_=>
  obtain ⟨⟨⟨⟨⟨⟨m,u⟩,o⟩,p⟩,g,e⟩,l⟩,x⟩:=key _ rfl;change qg nm=true at m;obtain rfl:vr=[]:=by simpa [qj,qd] using u
  obtain rfl:ty=[]:=by simpa [qj,qd] using o
  obtain rfl:n=0:=by simpa [qd] using p
  obtain rfl:=qcj e;exact .signal nm m
 |32,key,_=>
  obtain ⟨⟨⟨⟨⟨⟨m,u⟩,o⟩,p⟩,g,e⟩,l⟩,x⟩:=key _ rfl;obtain rfl:nm=[]:=by simpa [qj] using m
  obtain rfl:vr=[]:=by simpa [qj] using u
  obtain rfl:ty=[]:=by simpa [qj] using o
  obtain rfl:n=0:=by simpa using p
  change 2<=_ at g;change _<=400 at e
  match ks,g,e,l,x with
  |a::w::C,g,e,l,x=>
   have A:qv 20 a.d.kind=true/\vm {first:=[qv 20],more:=some (qv 33),least:=2,most:=400} 1 (w::C)=true:=by
    simp only [vm,j0] at l⊢;exact l
   have z:=qdP (f:=qv 33) rfl (w::C) 1 (j1 _) A.2;exact .exc a (w::C) (xU.1 A.1) (by simp) (fun w H=>xU.1 (z w H)) (by simp at e⊢;omega) (by simpa [qa7] using x)
 |33,key,_=>
  obtain ⟨⟨⟨⟨⟨⟨m,u⟩,o⟩,p⟩,g,e⟩,l⟩,x⟩:=key _ rfl;obtain rfl:vr=[]:=by simpa [qj,qd] using u
  obtain rfl:ty=[]:=by simpa [qj,qd] using o
  obtain rfl:n=0:=by simpa [qd] using p
  obtain ⟨a,rfl⟩:=yX g e;simp [vm,qd,xU] at l;exact .when nm a l
 |34,key,_=>
  obtain ⟨⟨⟨⟨⟨⟨m,u⟩,o⟩,p⟩,g,e⟩,l⟩,x⟩:=key _ rfl;obtain rfl:nm=[]:=by simpa [qj,qd] using m
  obtain rfl:vr=[]:=by simpa [qj,qd] using u
  obtain rfl:ty=[]:=by simpa [qj,qd] using o
  obtain rfl:n=0:=by simpa [qd] using p
  obtain rfl:=qcj e;exact .brk
 |35,key,_=>
  obtain ⟨⟨⟨⟨⟨⟨m,u⟩,o⟩,p⟩,g,e⟩,l⟩,x⟩:=key _ rfl;obtain rfl:nm=[]:=by simpa [qj] using m
  obtain rfl:vr=[]:=by simpa [qj] using u
  obtain rfl:ty=[]:=by simpa [qj] using o
  obtain rfl:n=0:=by simpa using p
  change 2<=_ at g;change _<=400 at e
  match ks,g,e,l,x with
  |a::w::C,g,e,l,x=>
   have A:qf a.d.kind=true/\vm {first:=[qf],more:=some (qv 36),least:=2,most:=400} 1 (w::C)=true:=by
    simp only [vm,j0] at l⊢;exact l
   have z:=qdP (f:=qv 36) rfl (w::C) 1 (j1 _) A.2;exact .case_ a (w::C) A.1 (by simp) (fun w H=>xU.1 (z w H)) (by simp at e⊢;omega)
 |36,key,_=>
  obtain ⟨⟨⟨⟨⟨⟨m,u⟩,o⟩,p⟩,g,e⟩,l⟩,x⟩:=key _ rfl;change qg nm=true at m;change qg vr=true at u;change qI ty=true at o;obtain rfl:n=0:=by simpa [qd] using p
  obtain ⟨a,rfl⟩:=yX g e;simp [vm,qd,xU] at l;exact .arm nm vr ty m u o a l
 |37,key,_=>
  obtain ⟨⟨⟨⟨⟨⟨m,u⟩,o⟩,p⟩,g,e⟩,l⟩,x⟩:=key _ rfl;obtain rfl:nm=[]:=by simpa [qj,qd] using m
  obtain rfl:vr=[]:=by simpa [qj,qd] using u
  obtain rfl:ty=[]:=by simpa [qj,qd] using o
  obtain rfl:n=0:=by simpa [qd] using p
  obtain ⟨a,rfl⟩:=yX g e;simp [vm,qd,xU] at l;exact .puts a l
 |k+38,_,j=>exact (j (by unfold z6;rw [u4 (by simp [QY])];rfl)).elim
def qpq:∀(A:List Tok) (l:Int),(∀t∈A,right t.kind t.text=true)->(∃k cs,qK (ja A) l=.ok k cs/\k.map vv=A.map vv)->okAw (A.map fun t=>⟨t.kind,t.text⟩)
 |[],_,_,_=>trivial
 |t::a,l,U,⟨k,cs,j,Y⟩=>by
  have o:=U t (by simp);have E:=qam o;have F:=(zC o).1;have hj:ja (t::a)=t.text++ja a:=by simp [ja]
  rw [hj] at j;obtain ⟨c,x,V⟩:∃c x,t.text=c::x:=by
   cases h:t.text with
   |nil=>exact absurd h F
   |cons c x=>exact ⟨c,x,rfl⟩
  have z:=E c (by rw [V];simp);have n:t.text++ja a=c::(x++ja a):=by rw [V];rfl
  have Z:=j;rw [n,Qp,if_neg z.1,if_neg (by rintro (h|h);exact z.2.2.1 h;exact z.2.2.2 h),if_neg z.2.1,<-n] at j;split at j
  ·cases j
  ·rename_i hf;have p:(first (t.text++ja a)).2.2=0:=by simpa using hf
   have aa:=qaH p (by rw [n];simp);cases y:qK ((t.text++ja a).drop (first (t.text++ja a)).2.1) l with
   |bad e m=>rw [y] at j;cases j
   |ok J cs'=>
    rw [y] at j;simp only [Res.add,List.cons_append,List.nil_append,Res.ok.injEq] at j;obtain ⟨rfl,_⟩:=j;simp only [List.map_cons,vv,uM,uQ] at Y;obtain ⟨⟨hk,C⟩,H⟩:=Y;have S:(first (t.text++ja a)).2.1=t.text.length:=by
     have h9:=congrArg List.length C;rw [uF] at h9;omega
    rw [S,JR] at y;have g:first (t.text++ja a)=(t.kind,t.text.length,0):=by
     rw [<-S,<-p,<-hk]
    have ih:=qpq a l (fun t h=>U t (by simp [h])) ⟨J,cs',y,H⟩;refine ⟨?_, ?_,ih⟩
    ·unfold At.ok;split
     ·rename_i h0;have R:t.kind=0:=h0;rw [R] at o;simp [right] at o
     ·exact o
    ·cases a with
     |nil=>trivial
     |cons u a=>
      refine .inr fun c x e=>?_;have e':u.text=c::x:=e;have O:ja (u::a)=c::(x++ja a):=by simp [ja,e']
      rw [O] at g;exact qIB o g
def vg (s:Bs):List At:=(qp s).toks.map fun t=>⟨t.kind,t.text⟩
def qD5 {L:List Tok} {i:Nat} (m:(tk L i).kind=4) (k:(tk L i).text=[61]):∀n f,∃r,kind L n i f=r/\∀a j g,r≠ .ok a j g
 |0,f=>⟨_,rfl,fun _ _ _ h=>by cases h⟩
 |n+1,f=>by
  refine ⟨_,rfl,fun a j g h=>?_⟩;have c:∀s:Bs,s≠[61]->qo L i [s]=false:=fun s l=>by
   unfold qo;simp only [k,List.contains_cons,List.contains_nil,uO,Jr];right;simpa using fun e=>l e.symm
  simp only [kind,qm,c _ (show ([105,110,116]:Bs)≠[61] by decide),c _ (show ([98,111,111,108]:Bs)≠[61] by decide),c _ (show ([110,117,108,108]:Bs)≠[61] by decide),c _ (show ([97,114,114,97,121]:Bs)≠[61] by decide),c _ (show ([114,101,99,111,114,100]:Bs)≠[61] by decide),c _ (show ([111,110,101,111,102]:Bs)≠[61] by decide),c _ (show ([63]:Bs)≠[61] by decide),uf,km,sq,bnd,name,m] at h;simp [Rs.andThen] at h
def qjs:∀n f a j g,kind [] n 0 f≠ .ok a j g
 |0,_,_,_,_=>by intro h;cases h
 |n+1,f,a,j,g=>by
  intro h;have c:∀s:Bs,qo [] 0 [s]=false:=fun s=>by simp [qo,tk]
  simp only [kind,qm,c,uf,km,sq,bnd,name] at h;simp [tk,Rs.andThen] at h
def qez {s:Bs} (h:qI s=true):∃c cs j f,qp s=.ok c cs/\s.length<=100/\kind c (c.length+3) 0 0=.ok () j f/\c.length<=j/\ja c=s:=by
 unfold qI at h;split at h
 ·rename_i c cs n;simp only [j0,kr] at h;obtain ⟨⟨m,e⟩,l⟩:=h;cases k:kind c (c.length+3) 0 0 with
  |oof=>rw [k] at e;cases e
  |no g=>rw [k] at e;cases e
  |ok a j f=>rw [k] at e;exact ⟨c,cs,j,f,n,m,k,by simpa using e,l⟩
 ·cases h
def qey {s:Bs} (h:qI s=true):zH (1,vg s)/\qR (vg s)=s:=by
 obtain ⟨a,cs,j,f,c,E,u,C,o⟩:=qez h;have y:=Q7 c;have p:∀t∈a,right t.kind t.text=true:=fun t h=>(y t h);have x:vg s=a.map fun t=>⟨t.kind,t.text⟩:=by unfold vg;rw [c];rfl
 have m:qK s 1=.ok a cs:=by
  rw [<-L01.Res.add_nil (qK s 1)] at*;unfold qp at c;rw [if_neg (by omega)] at c;rw [L01.Res.add_nil];exact c
 rw [x];refine ⟨⟨qpq a 1 p ⟨a,cs,by rw [o];exact m,rfl⟩, ?_⟩, ?_⟩
 ·cases a with
  |nil=>exact absurd u (qjs _ _ _ _ _)
  |cons t n=>
   refine ⟨⟨t.kind,t.text⟩,rfl, ?_,fun z g=>?_⟩
   ·intro A;have:=p t (by simp);have l:t.kind=0:=A;rw [l] at this;simp [right] at this
   ·obtain ⟨r,e,k⟩:=qD5 (L:=t::n) (i:=0) (by simpa [tk] using z) (by simpa [tk] using g) ((t::n).length+3) 0;exact k _ _ _ (e.symm.trans u)
 ·rw [<-o];simp [qR,ja,List.flatMap,JC,Function.comp_def]
def kI (s:Bs):List At:=if jL.contains s then [⟨2,s⟩] else match kC s with|none=>[⟨1,s⟩] |some k=>[⟨1,s.take k⟩,⟨4,[95]⟩,⟨1,s.drop (k+1)⟩]
def qyf {s:Bs} (h:jw s=true):right 2 s=true:=by simpa [right] using h
def qbn {s:Bs} (h:qg s=true):right 1 s=true:=by simpa [right] using h
def qyg:∀s,jL.contains s=true->jw s=true:=by
 intro s h;simp only [jL,List.contains_cons,List.contains_nil,uO,uk,ur] at h;rcases h with rfl|rfl|rfl|rfl<;>decide
def qwO {s:Bs} {k:Nat} (h:kC s=some k):s=s.take k++(95::s.drop (k+1)):=by
 unfold kC at h;obtain ⟨a,c,_⟩:=VE.1 h;have e:s[k]=95:=by simpa using c
 rw [<-e,<-u0 a,Jw]
def qpn {s:Bs} (h:vx s=true):zH (1,kI s)/\qR (kI s)=s:=by
 unfold vx at h;unfold kI;by_cases a:jL.contains s=true
 ·rw [if_pos a];exact ⟨wJ (qyf (qyg s a)) (by decide) (by decide),by simp [qR]⟩
 ·rw [if_neg a];have e:jL.contains s=false:=by simpa using a
  rw [e,uj] at h;cases c:kC s with
  |none=>
   rw [c] at h;exact ⟨wJ (qbn h) (by decide) (by decide),by simp [qR]⟩
  |some k=>
   rw [c] at h;simp only [j0] at h;refine ⟨?_, ?_⟩
   ·have:=Qo (ls:=[wd 1 (s.take k),sg [95],wd 1 (s.drop (k+1))]) (by
     intro p g;simp only [wh,uI,wm] at g;rcases g with rfl|rfl|rfl
     ·exact wJ (qbn h.1) (by decide) (by decide)
     ·exact zW (by decide) (by decide)
     ·exact wJ (qbn h.2) (by decide) (by decide)) rfl rfl (.inl rfl)
    simpa [wd,sg] using this
   ·conv=>rhs;rw [qwO c]
    simp [qR]
def ve:List (List At)->List (Nat×List At)
 |[]=>[]
 |[l]=>[(1,l)]
 |l::m::ls=>(1,l)::sg [44]::bk [32]::ve (m::ls)
def xc (d:D):List (Nat×List At):=if d.vr≠[] then [(1,vg d.vr),sg [36],(1,kI d.name)] else if d.typ≠[] then [wd 1 d.name,sg [123],(1,vg d.typ),sg [125]] else [wd 1 d.name]
def xR (k:Nat) (l:List At):List At:=if k=6 then ⟨4,[40]⟩::(l++[⟨4,[41]⟩]) else l
def Q3 (s:Bs):Nat×List At:=if jw s then wd 2 s else if s=[61] then (3,[⟨4,[61]⟩]) else sg s
def wN (ls:List (List At)) (i:Nat):List At:=ls.getD i []
def wA (d:D) (ks:List T) (ls:List (List At)):List (Nat×List At):=
 if d.kind=1 then [wd 3 (Lib.itoa d.n)]
 else if d.kind=2 then [wd 2 (if d.n=1 then [116,114,117,101] else [102,97,108,115,101])]
 else if d.kind=3 then [wd 2 [110,105,108]]
 else if d.kind=4 then [wd 1 d.name]
 else if d.kind=5 then xc d++(sg [40]::(ve ls++[sg [41]]))
 else if d.kind=6 then (if ks.length=1 then [wd 2 [110,111,116],bk [32],(1,xR (wO ks 0) (wN ls 0))] else [(1,xR (wO ks 0) (wN ls 0)),bk [32],Q3 d.name,bk [32],(1,xR (wO ks 1) (wN ls 1))])
 else if d.kind=7 then [(1,xR (wO ks 0) (wN ls 0)),sg [91],(1,wN ls 1),sg [93]]
 else if d.kind=8 then [(1,xR (wO ks 0) (wN ls 0)),sg [46],wd 1 d.name]
 else if d.kind=9 then [wd 2 [117,112],sg [40],(1,wN ls 0),sg [41]]
 else [wd 2 [100,111,119,110],sg [40],(1,wN ls 0),sg [41]]
def jK (ps:List (Nat×List At)):List At:=ps.flatMap (·.2)
mutual
def xa:T->List At| .mk d ks=>jK (wA d ks (xas ks))
def xas:List T->List (List At)|[]=>[] |t::ts=>xa t::xas ts
end
def qdF {k:Nat} {l:List At} {s:Bs} (h:zH (1,l)/\qR l=s):zH (1,xR k l)/\qR (xR k l)=x8 k s:=by
 unfold xR x8;split
 ·refine ⟨?_,by simp [qR,<-h.2]⟩;have:=Qo (ls:=[sg [40],(1,l),sg [41]]) (by
   intro p a;simp only [wh,uI,wm] at a;rcases a with rfl|rfl|rfl
   ·exact zW (by decide) (by decide)
   ·exact h.1
   ·exact zW (by decide) (by decide)) rfl rfl (.inr rfl)
  simpa [sg] using this
 ·exact h
def ql5 (a:Nat) (c:a≠1):∀ls:List (List At),wk ((ve ls).map (·.1)++[2])=true/\wk (a::((ve ls).map (·.1)++[2]))=true
 |[]=>by simp [ve,wk]
 |[l]=>by simp [ve,wk,c]
 |l::m::ls=>by
  have g:=(ql5 0 (by decide) (m::ls)).2;have e:(ve (l::m::ls)).map (·.1)++[2]=1::2::0::((ve (m::ls)).map (·.1)++[2]):=by simp [ve,sg,bk]
  rw [e];exact ⟨by simp [wk,g],by simp [wk,g,c]⟩
def ql6:∀(ls:List (List At)),(∀l∈ls,zH (1,l))->∀p∈ve ls,zH p
 |[],_,p,a=>by cases a
 |[l],h,p,a=>by
  simp only [ve,uH] at a;subst a;exact h l (by simp)
 |l::m::ls,h,p,a=>by
  simp only [ve,wh] at a;rcases a with rfl|rfl|rfl|a
  ·exact h l (by simp)
  ·exact zW (by decide) (by decide)
  ·exact qeX
  ·exact ql6 (m::ls) (fun x c=>h x (by simp [c])) p a
def ql4:∀(ls:List (List At)),qR (jK (ve ls))=jl [44,32] (ls.map qR)
 |[]=>rfl
 |[l]=>by simp [ve,jK,jl]
 |l::m::ls=>by
  have c:=ql4 (m::ls);have e:jK (ve (l::m::ls))=l++(⟨4,[44]⟩::⟨0,[32]⟩::jK (ve (m::ls))):=by simp [ve,jK,sg,bk]
  rw [e,qg4];have a:qR (⟨4,[44]⟩::⟨0,[32]⟩::jK (ve (m::ls)))=[44,32]++qR (jK (ve (m::ls))):=by simp [qR]
  rw [a,c];simp [jl]
def qw2 {d:D} (h:(vx d.name=true/\qI d.vr=true)\/(d.vr=[]/\qg d.name=true/\(d.typ=[]\/qI d.typ=true))):
  (∀p∈xc d,zH p)/\qR (jK (xc d))=zF d/\((xc d).map (·.1)=[1,2,1]\/(xc d).map (·.1)=[1,2,1,2]\/(xc d).map (·.1)=[1]):=by
 have u:qI []=false:=qfU;unfold xc zF;rcases h with ⟨j,c⟩|⟨j,c,n⟩
 ·have m:d.vr≠[]:=by rintro e;rw [e,u] at c;cases c
  rw [if_pos m,if_pos m];refine ⟨?_, ?_,.inl rfl⟩
  ·intro p a;simp only [wh,uI,wm] at a;rcases a with rfl|rfl|rfl
   ·exact (qey c).1
   ·exact zW (by decide) (by decide)
   ·exact (qpn j).1
  ·have l:=(qey c).2;have o:=(qpn j).2
   conv=>rhs;rw [<-l,<-o]
   simp [jK,sg,qR]
 ·simp only [j,ne_eq,VX,km];by_cases k:d.typ=[]
  ·simp only [k,VX,km];refine ⟨?_,by simp [jK,wd,qR],.inr (.inr rfl)⟩;intro p a;simp only [uH] at a;subst a;exact wJ (qbn c) (by decide) (by decide)
  ·have g:qI d.typ=true:=n.resolve_left k;simp only [k,not_false_eq_true,kk];refine ⟨?_, ?_,.inr (.inl rfl)⟩
   ·intro p a;simp only [wh,uI,wm] at a;rcases a with rfl|rfl|rfl|rfl
    ·exact wJ (qbn c) (by decide) (by decide)
    ·exact zW (by decide) (by decide)
    ·exact (qey g).1
    ·exact zW (by decide) (by decide)
   ·have l:=(qey g).2
    conv=>rhs;rw [<-l]
    simp [jK,sg,wd,qR]
def qCZ {s:Bs} (h:jU.contains s=true):zH (Q3 s)/\qR (Q3 s).2=s/\((Q3 s).1=1\/(Q3 s).1=2\/(Q3 s).1=3):=by
 simp only [jU,List.contains_cons,List.contains_nil,uO,uk,ur] at h;rcases h with rfl|rfl|rfl|rfl|rfl|rfl|rfl|rfl|rfl|rfl
 ·exact ⟨zW (by decide) (by decide),rfl,.inr (.inl rfl)⟩
 ·exact ⟨zW (by decide) (by decide),rfl,.inr (.inl rfl)⟩
 ·exact ⟨zW (by decide) (by decide),rfl,.inr (.inl rfl)⟩
 ·exact ⟨zW (by decide) (by decide),rfl,.inr (.inl rfl)⟩
 ·exact ⟨wJ (by decide) (by decide) (by decide),rfl,.inl rfl⟩
 ·exact ⟨zW (by decide) (by decide),rfl,.inr (.inl rfl)⟩
 ·exact ⟨zW (by decide) (by decide),rfl,.inr (.inl rfl)⟩
 ·exact ⟨rfl,rfl,.inr (.inr rfl)⟩
 ·exact ⟨wJ (by decide) (by decide) (by decide),rfl,.inl rfl⟩
 ·exact ⟨wJ (by decide) (by decide) (by decide),rfl,.inl rfl⟩
def qqr {n:Int} (o:0<=n) (m:n<=1000000000):jm (Lib.itoa n)=true:=by
 have e:Lib.itoa n=Lib.decDigits n.toNat:=by unfold Lib.itoa;rw [if_neg (by omega)]
 rw [e];generalize p:n.toNat=u;have a:u<=1000000000:=by omega
 by_cases c:u=0
 ·rw [c,show Lib.decDigits 0=[48] from L01.qlL 1 [48] rfl (by decide) (by decide) (.inl rfl)];decide
 ·obtain ⟨g1,h⟩:=L01.qwL u (by omega);obtain ⟨l,j⟩:=L01.qwJ a;have k:=L01.qgQ.2 (L01.qwM u);have x:0<(Lib.decDigits u).length:=Jn.2 g1;unfold jm;simp only [j0,uE,yt,Jr,uS,uk,kr];refine ⟨⟨⟨⟨by omega,by omega⟩,by simp [k]⟩,.inr h⟩, ?_⟩;rcases j with g|g
  ·exact .inl g
  ·right;rw [g];exact L01.qpF
def qcJ (a:At):qR [a]=a.s:=by simp [qR]
def qxB (a:At) (l:List At):qR (a::l)=a.s++qR l:=by simp [qR]
def qa6:∀ps:List (Nat×List At),qR (jK ps)=(ps.map fun p=>qR p.2).flatten
 |[]=>rfl
 |p::ps=>by
  have:=qa6 ps;simp only [jK,JB,List.map_cons,List.flatten_cons] at this⊢;rw [qg4,this]
def qmp {ks:List T} (h:∀k∈ks,zH (1,xa k)/\qR (xa k)=xt k):(xas ks).map qR=xts ks/\∀l∈xas ks,zH (1,l):=by
 induction ks with
 |nil=>exact ⟨rfl,fun l a=>by cases a⟩
 |cons k ks g=>
  obtain ⟨e,j⟩:=g fun x m=>h x (by simp [m]);have c:=h k (by simp);refine ⟨by simp only [xas,xts,List.map_cons,e,c.2],fun l a=>?_⟩;rcases wh.1 a with rfl|a
  ·exact c.1
  ·exact j l a
def yU:∀{ks:List T},okTs ks=true->∀k∈ks,jE k=true
 |[],_,k,c=>by cases c
 |a::ks,h,k,c=>by
  simp only [okTs,j0] at h;rcases wh.1 c with rfl|c
  ·exact h.1
  ·exact yU h.2 k c
def qmr:∀(t:T),jE t=true->qf t.d.kind=true->zH (1,xa t)/\qR (xa t)=xt t
 | .mk d ks,h,hk=>by
  simp only [jE,j0] at h;obtain ⟨Z,J⟩:=h;have y:∀k∈ks,qf k.d.kind=true->zH (1,xa k)/\qR (xa k)=xt k:=fun k z he=>
   have:=JY z
   qmr k (yU J k z) he
  simp only [xa,xt];have l:∀{k:Nat} {s:Bs},right k s=true->k≠0->k≠4->zH (1,jK [wd k s])/\qR (jK [wd k s])=s:=fun h U h4=>⟨by simpa [jK,wd] using wJ h U h4,by simp [jK,wd,qR]⟩;cases QM Z with
  |int n U j=>exact l (by simpa [right] using qqr U j) (by decide) (by decide)
  |bool n h=>
   rcases h with rfl|rfl
   ·exact l (s:=[102,97,108,115,101]) (by decide) (by decide) (by decide)
   ·exact l (s:=[116,114,117,101]) (by decide) (by decide) (by decide)
  |nil=>exact l (s:=[110,105,108]) (by decide) (by decide) (by decide)
  |var s h=>exact l (qbn h) (by decide) (by decide)
  |mcall s ty R Y _ V F=>
   obtain ⟨c1,c2,c3⟩:=qw2 (d:={kind:=5,name:=s,typ:=ty}) (.inr ⟨rfl,R,Y⟩);obtain ⟨x1,x2⟩:=qmp fun k z=>y k z (F k z);have E:=fun a m=>ql5 a m (xas ks);have u:∀p∈xc {kind:=5,name:=s,typ:=ty}++(sg [40]::(ve (xas ks)++[sg [41]])),zH p:=by
    intro p c;simp only [uC,wh,uI,wm] at c;rcases c with c|rfl|c|rfl
    ·exact c1 p c
    ·exact zW (by decide) (by decide)
    ·exact ql6 _ x2 p c
    ·exact zW (by decide) (by decide)
   have A:wk ((xc {kind:=5,name:=s,typ:=ty}++(sg [40]::(ve (xas ks)++[sg [41]]))).map (·.1))=true/\∃p qs,xc {kind:=5,name:=s,typ:=ty}=p::qs/\p.1=1:=by
    have S:=(E 2 (by decide)).2;rw [uP,List.map_cons,uP];refine ⟨?_, ?_⟩
    ·rcases c3 with e|e|e<;>rw [e] <;>simpa [wk,sg] using S
    ·rcases g:xc {kind:=5,name:=s,typ:=ty} with _|⟨p,qs⟩
     ·rw [g] at c3;simp at c3
     ·refine ⟨p,qs,rfl, ?_⟩;rw [g] at c3;rcases c3 with e|e|e<;>simp at e<;>exact e.1
   obtain ⟨x,p,qs,g,C⟩:=A;refine ⟨Qo (ls:=xc {kind:=5,name:=s,typ:=ty}++(sg [40]::(ve (xas ks)++[sg [41]]))) u x (p:=p) (qs:=qs++(sg [40]::(ve (xas ks)++[sg [41]]))) (by rw [g];rfl) (.inl C), ?_⟩;show qR (jK (xc {kind:=5,name:=s,typ:=ty}++(sg [40]::(ve (xas ks)++[sg [41]]))))=zF {kind:=5,name:=s,typ:=ty}++([40]++(jl [44,32] (xts ks)++[41]));rw [<-x1,<-ql4,<-c2];simp [jK,qg4,qxB,sg];rfl
  |ocall s o R ho _ V F=>
   obtain ⟨c1,c2,c3⟩:=qw2 (d:={kind:=5,name:=s,vr:=o}) (.inl ⟨R,ho⟩);obtain ⟨x1,x2⟩:=qmp fun k z=>y k z (F k z);have E:=fun a m=>ql5 a m (xas ks);have u:∀p∈xc {kind:=5,name:=s,vr:=o}++(sg [40]::(ve (xas ks)++[sg [41]])),zH p:=by
    intro p c;simp only [uC,wh,uI,wm] at c;rcases c with c|rfl|c|rfl
    ·exact c1 p c
    ·exact zW (by decide) (by decide)
    ·exact ql6 _ x2 p c
    ·exact zW (by decide) (by decide)
   have A:wk ((xc {kind:=5,name:=s,vr:=o}++(sg [40]::(ve (xas ks)++[sg [41]]))).map (·.1))=true/\∃p qs,xc {kind:=5,name:=s,vr:=o}=p::qs/\p.1=1:=by
    have S:=(E 2 (by decide)).2;rw [uP,List.map_cons,uP];refine ⟨?_, ?_⟩
    ·rcases c3 with e|e|e<;>rw [e] <;>simpa [wk,sg] using S
    ·rcases g:xc {kind:=5,name:=s,vr:=o} with _|⟨p,qs⟩
     ·rw [g] at c3;simp at c3
     ·refine ⟨p,qs,rfl, ?_⟩;rw [g] at c3;rcases c3 with e|e|e<;>simp at e<;>exact e.1
   obtain ⟨x,p,qs,g,C⟩:=A;refine ⟨Qo (ls:=xc {kind:=5,name:=s,vr:=o}++(sg [40]::(ve (xas ks)++[sg [41]]))) u x (p:=p) (qs:=qs++(sg [40]::(ve (xas ks)++[sg [41]]))) (by rw [g];rfl) (.inl C), ?_⟩;show qR (jK (xc {kind:=5,name:=s,vr:=o}++(sg [40]::(ve (xas ks)++[sg [41]]))))=zF {kind:=5,name:=s,vr:=o}++([40]++(jl [44,32] (xts ks)++[41]));rw [<-x1,<-ql4,<-c2];simp [jK,qg4,qxB,sg];rfl
  |neg a m=>
   have j:=qdF (k:=a.d.kind) (y a (by simp) m);refine ⟨Qo (ls:=[wd 2 [110,111,116],bk [32],(1,xR a.d.kind (xa a))]) (fun p c=>?_) rfl rfl (.inl rfl), ?_⟩
   ·simp only [wh,uI,wm] at c;rcases c with rfl|rfl|rfl
    ·exact wJ (by decide) (by decide) (by decide)
    ·exact qeX
    ·exact j.1
   ·show qR (jK [wd 2 [110,111,116],bk [32],(1,xR a.d.kind (xa a))])=[110,111,116,32]++x8 a.d.kind (xt a);rw [qa6];simp [sg,wd,bk,qcJ,j.2]
  |oper s h a b m O=>
   have j:=qdF (k:=a.d.kind) (y a (by simp) m);have H:=qdF (k:=b.d.kind) (y b (by simp) O);obtain ⟨o1,o2,o3⟩:=qCZ h;refine ⟨Qo (ls:=[(1,xR a.d.kind (xa a)),bk [32],Q3 s,bk [32],(1,xR b.d.kind (xa b))]) (fun p c=>?_) ?_ rfl (.inl rfl), ?_⟩
   ·simp only [wh,uI,wm] at c;rcases c with rfl|rfl|rfl|rfl|rfl
    ·exact j.1
    ·exact qeX
    ·exact o1
    ·exact qeX
    ·exact H.1
   ·rcases o3 with e|e|e<;>simp [wk,bk,e]
   ·show qR (jK [(1,xR a.d.kind (xa a)),bk [32],Q3 s,bk [32],(1,xR b.d.kind (xa b))])=x8 a.d.kind (xt a)++([32]++(s++([32]++x8 b.d.kind (xt b))));rw [qa6];simp [bk,qcJ,j.2,H.2,o2]
  |index a b m O=>
   have j:=qdF (k:=a.d.kind) (y a (by simp) m);have H:=y b (by simp) O;refine ⟨Qo (ls:=[(1,xR a.d.kind (xa a)),sg [91],(1,xa b),sg [93]]) (fun p c=>?_) rfl rfl (.inl rfl), ?_⟩
   ·simp only [wh,uI,wm] at c;rcases c with rfl|rfl|rfl|rfl
    ·exact j.1
    ·exact zW (by decide) (by decide)
    ·exact H.1
    ·exact zW (by decide) (by decide)
   ·show qR (jK [(1,xR a.d.kind (xa a)),sg [91],(1,xa b),sg [93]])=x8 a.d.kind (xt a)++([91]++(xt b++[93]));rw [qa6];simp [sg,wd,bk,qcJ,j.2,H.2]
  |field s h a m=>
   have j:=qdF (k:=a.d.kind) (y a (by simp) m);refine ⟨Qo (ls:=[(1,xR a.d.kind (xa a)),sg [46],wd 1 s]) (fun p c=>?_) rfl rfl (.inl rfl), ?_⟩
   ·simp only [wh,uI,wm] at c;rcases c with rfl|rfl|rfl
    ·exact j.1
    ·exact zW (by decide) (by decide)
    ·exact wJ (qbn h) (by decide) (by decide)
   ·show qR (jK [(1,xR a.d.kind (xa a)),sg [46],wd 1 s])=x8 a.d.kind (xt a)++([46]++s);rw [qa6];simp [sg,wd,bk,qcJ,j.2]
  |up a m=>
   have j:=y a (by simp) m;refine ⟨Qo (ls:=[wd 2 [117,112],sg [40],(1,xa a),sg [41]]) (fun p c=>?_) rfl rfl (.inl rfl), ?_⟩
   ·simp only [wh,uI,wm] at c;rcases c with rfl|rfl|rfl|rfl
    ·exact wJ (by decide) (by decide) (by decide)
    ·exact zW (by decide) (by decide)
    ·exact j.1
    ·exact zW (by decide) (by decide)
   ·show qR (jK [wd 2 [117,112],sg [40],(1,xa a),sg [41]])=[117,112,40]++(xt a++[41]);rw [qa6];simp [sg,wd,bk,qcJ,j.2]
  |down a m=>
   have j:=y a (by simp) m;refine ⟨Qo (ls:=[wd 2 [100,111,119,110],sg [40],(1,xa a),sg [41]]) (fun p c=>?_) rfl rfl (.inl rfl), ?_⟩
   ·simp only [wh,uI,wm] at c;rcases c with rfl|rfl|rfl|rfl
    ·exact wJ (by decide) (by decide) (by decide)
    ·exact zW (by decide) (by decide)
    ·exact j.1
    ·exact zW (by decide) (by decide)
   ·show qR (jK [wd 2 [100,111,119,110],sg [40],(1,xa a),sg [41]])=[100,111,119,110,40]++(xt a++[41]);rw [qa6];simp [sg,wd,bk,qcJ,j.2]
  |_=>simp [T.d,qf] at hk
end Go.L02
namespace Go.L02
open Go Go.Eng Go.RowKit
open Go.Proofs hiding encI
open Go.L01 (Bd Bs Own.same SlK Tok fV jA jX jY jZ jb jh qF qbG qd2 qeV qg qh1 qhX qi qoM qp qwX qxy vc vu zz)
set_option maxRecDepth 100000
set_option maxHeartbeats 2000000
def yG (i:Nat) (u:T) (j:Nat):Nat:=i+sizes (u.kids.take (j+1)) - u.size
structure NdR (w:World) (l:List Nd) (nv:Value) (N i:Nat) (u:T) (kv:Value):Prop where
 is:qu nv=true
 len:ql nv=N
 lt:i<N
 cell:∀j,j<6->w.cell? (qQ nv (i*6+j))=[Value.int .u8 (u.d.kind:Int),.string (qb u.d.name),.string (qb u.d.vr),.string (qb u.d.typ),.int .i64 u.d.n,kv][j]?
 kis:qu kv=true
 klen:ql kv=u.kids.length
 kids:Cells w kv 1 ((qt (i+1 - u.size) u.kids).map encI)
 kcell:∀j (h:j<u.kids.length),w.cell? (qQ kv j)=some (.int .i64 (yG i u j:Int))/\xf l (yG i u j) u.kids[j]/\u.kids[j].size<u.size
def qjg {w:World} {nv:Value} {xs:List NV} {i:Nat} {u:T} (l:Rd w nv xs) (g:xf (xs.map (·.nd)) i u):∃kv,NdR w (xs.map (·.nd)) nv xs.length i u kv:=by
 have k:i<xs.length:=by have:=g.lt;rwa [uh] at this
 have z:=l.len;have e:=g.node;rw [JT,ug k] at e;simp only [Option.map_some,ub] at e;have a:=l.kids xs[i] (wz _);have o:xs[i].nd.kids=qt (i+1 - u.size) u.kids:=by rw [e]
 rw [o] at a;have p:ql xs[i].kv=u.kids.length:=by have:=a.len;simpa [kp] using this.symm
 have F:=g.le;have E:=u.size_eq;have A:qk xs[i]=[Value.int .u8 (u.d.kind:Int),.string (qb u.d.name),.string (qb u.d.vr),.string (qb u.d.typ),.int .i64 u.d.n,xs[i].kv]:=by unfold qk;rw [e]
 refine ⟨xs[i].kv,l.cells.is,z,k,fun j h=>by rw [l.cell k h,A],a.is,p,a,fun j h=>?_⟩;have c:=a.cell j (by simpa [kp] using h);have x:=qe8 u.kids (i+1 - u.size) j h;have m:j<(qt (i+1 - u.size) u.kids).length:=by simpa [kp] using h
 rw [ug m,ub] at x;have J:sizes (u.kids.take (j+1))=sizes (u.kids.take j)+u.kids[j].size:=by rw [uG h,yy];simp [sizes]
 have y:=u.kids[j].size_pos;have H:sizes (u.kids.take (j+1))<=sizes u.kids:=by have:=congrArg sizes (Jw (j+1) u.kids);rw [yy] at this;omega
 have C:(((i+1 - u.size+sizes (u.kids.take (j+1)):Nat):Int) - 1)=((i+sizes (u.kids.take (j+1)) - u.size:Nat):Int):=by omega
 rw [u6,x,C] at c;exact ⟨by simpa [encI,yG] using c,g.kid h,by omega⟩
def NdR.ext {w w':World} {l:List Nd} {nv:Value} {N i:Nat} {u:T} {kv:Value} (h:NdR w l nv N i u kv) (a:qc w w'):NdR w' l nv N i u kv where
 is:=h.is
 len:=h.len
 lt:=h.lt
 cell j hj:=by
  have:=h.cell j hj;have c:j<[Value.int .u8 (u.d.kind:Int),.string (qb u.d.name),.string (qb u.d.vr),.string (qb u.d.typ),.int .i64 u.d.n,kv].length:=by simpa using hj
  rw [ug c] at this⊢;exact a.cell this
 kis:=h.kis
 klen:=h.klen
 kids:=h.kids.ext a
 kcell j hj:=⟨a.cell (h.kcell j hj).1,(h.kcell j hj).2⟩
def NdR.row {w:World} {l:List Nd} {nv:Value} {N i:Nat} {u:T} {kv:Value} (h:NdR w l nv N i u kv):Eng.jG w (qQ nv (i*6)) 0 6=some [Value.int .u8 (u.d.kind:Int),.string (qb u.d.name),.string (qb u.d.vr),.string (qb u.d.typ),.int .i64 u.d.n,kv]:=by
 have:=qal (w:=w) (a:=qQ nv (i*6)) (l:=[Value.int .u8 (u.d.kind:Int),.string (qb u.d.name),.string (qb u.d.vr),.string (qb u.d.typ),.int .i64 u.d.n,kv]) (i:=0) fun j e=>by
  have c:j<6:=by simpa using e
  rw [qeT,ut,h.cell j c,ug e]
 exact this
def Jk:∀ks:List T,xts ks=ks.map xt
 |[]=>rfl
 |t::a=>by simp [xts,Jk a]
def qBi {a:Type} (xs:List a) (f:Nat->a) (h:∀(j:Nat) (e:j<xs.length),f j=xs[j]):(List.range xs.length).map f=xs:=by
 apply VD
 ·simp
 ·intro j g c;simp [h j c]
def jB {x y:Bs} (h:x.length+y.length<=1000000000000000000):qY .add (qb x) (qb y)=some (.string (qb (x++y))):=by
 simp only [qY,qDB,qjh];rw [if_pos (by unfold maxLen;omega)]
theorem vf (x y:ByteArray):qY .neq x y=some (.bool (!decide (x=y))):=rfl
theorem qU (l:Bs):ByteArray.mk l.toArray=qb l:=rfl
def ExC (w:World) (l:List Nd) (b:Nat) (n:Nat):Prop:=∀(u:T) (i:Nat) (W:World),qc w W->u.size<=n->jE u=true->qf u.d.kind=true->xf l i u->(xt u).length<=10000000000000->
 Calls Tryz.prog 82 #[.pointer (some ⟨b,0,none⟩),.int .i64 (i:Int)] W fun e w'=>e=.returned (.string (qb (xt u)))/\qc W w'
section
variable {w:World} {b:Nat} {nv:Value} {xs:List NV}
theorem qCd (C:Rd w nv xs) (A:w.cell? ⟨b,2,none⟩=some nv) {n:Nat} (z:ExC w (xs.map (·.nd)) b n) (u:T) (i:Nat) (W:World) (o:qc w W) (x:u.size<=n) (k:jE u=true) (y:qf u.d.kind=true) (j:xf (xs.map (·.nd)) i u) (c:(ot u).length<=10000000000000):
  Calls Tryz.prog 173 #[.pointer (some ⟨b,0,none⟩),.int .i64 (i:Int)] W fun e w'=>e=.returned (.string (qb (ot u)))/\qc W w':=by
 obtain ⟨kv,a⟩:=qjg (C.ext o) j;have l:=o.cell A;have c0:=a.cell 0 (by decide);have g:(i:Int)<(xs.length:Int):=by have:=a.lt;omega
 refine qHh fun ρ r0 r1=>?_;by_cases m:u.d.kind=6
 ·have e:ot u=[40]++(xt u++[41]):=by unfold ot x8;rw [if_pos m]
  rw [e] at c⊢;simp at c c0;simp -implicitDefEqProofs [qkD,r0,r1,l,a.is,a.len,a.lt,g,c0,m];refine (z u i W o x k y j (by omega)).mono ?_;rintro _ w1 ⟨rfl,h⟩;simp -implicitDefEqProofs (disch:=(simp only [kh,List.length_cons,List.length_nil];omega)) [-qY,jB,qU];exact h
 ·have e:ot u=xt u:=by unfold ot x8;rw [if_neg m]
  rw [e] at c⊢;have p:¬((u.d.kind:Int)=6):=by omega
  simp at c0;simp -implicitDefEqProofs [qkD,r0,r1,l,a.is,a.len,a.lt,g,c0,m,p,qux];refine (z u i W o x k y j (by omega)).mono ?_;rintro _ w1 ⟨rfl,h⟩;simp -implicitDefEqProofs;exact h
theorem qjv (sep:Bs):∀(ss:List Bs) (s:Bs),s∈ss->s.length<=(jl sep ss).length
 |[],s,h=>by cases h
 |[x],s,h=>by
  rcases wh.1 h with rfl|h
  ·exact j1 _
  ·cases h
 |x::y::ys,s,h=>by
  rcases wh.1 h with rfl|h
  ·simp [jl]
  ·have:=qjv sep (y::ys) s h;simp [jl];omega
theorem qCv (hR:Rd w nv xs) {n:Nat} (hx:ExC w (xs.map (·.nd)) b n) (u:T) (i:Nat) (W:World) (hE:qc w W) (hn:u.size<=n+1) (x:jE u=true) (hk:u.d.kind=5) (hat:xf (xs.map (·.nd)) i u) (a:(xt u).length<=10000000000000) {kv:Value} (l:NdR W (xs.map (·.nd)) nv xs.length i u kv):
  Calls Tryz.prog 172 #[.pointer (some ⟨b,0,none⟩),.agg #[.int .u8 (u.d.kind:Int),.string (qb u.d.name),.string (qb u.d.vr),.string (qb u.d.typ),.int .i64 u.d.n,kv]] W fun e w'=>e=.returned (.string (qb (xt u)))/\qc W w':=by
 obtain ⟨d,ks⟩:=u;simp only [T.d] at hk;have S:xt (.mk d ks)=zF d++([40]++(jl [44,32] (xts ks)++[41])):=by simp [xt,zU,hk]
 rw [S] at a⊢;have hvw:Vw d ks:=QM (by simp only [jE,j0] at x;exact x.1);have V:okTs ks=true:=by simp only [jE,j0] at x;exact x.2
 have H:(∀k∈ks,qf k.d.kind=true)/\ks.length<=6:=by cases hvw<;>simp_all
 obtain ⟨H,hk6⟩:=H;have hkc:=vN l.kis;have hko:=xS l.kis;refine qHj fun ρ r0 r1=>?_;simp -implicitDefEqProofs [quz,r0,r1,T.d,T.kids];refine vO fun X w1 hX E o _=>?_;simp -implicitDefEqProofs [r1,T.d,Value.cells,hkc] at o;have c1:w1.cell? ⟨X,1,none⟩=some (.string (qb d.name)):=by rw [o.cell];rfl
 have c2:w1.cell? ⟨X,2,none⟩=some (.string (qb d.vr)):=by rw [o.cell];rfl
 have c3:w1.cell? ⟨X,3,none⟩=some (.string (qb d.typ)):=by rw [o.cell];rfl
 have c5:w1.cell? ⟨X,5,none⟩=some kv:=by rw [o.cell];rfl
 obtain ⟨rs,hrs,hrl,Z⟩:∃rs:List Int,Cells w1 kv 1 (rs.map encI)/\rs.length=ks.length/\∀(j:Nat) (h:j<ks.length),rs[j]? =some (yG i (.mk d ks) j:Int):=by
  refine ⟨qt (i+1 - (T.mk d ks).size) ks,l.kids.ext E,kp _ _,fun j C=>?_⟩;have k1:=(l.kcell j C).1;have U:j<(qt (i+1 - (T.mk d ks).size) ks).length:=by rw [kp];exact C
  have h3:=l.kids.cell j (by rw [uh];exact U);have h4:=h3.symm.trans k1;rw [ug U];simp [encI] at h4;exact congrArg some h4
 obtain ⟨qj,O,z⟩:∃qj,qj=jl [44,32] (xts ks)/\jl [44,32] ((List.range rs.length).map fun j=>(xts ks).getD j [])=qj:=by
  refine ⟨_,rfl, ?_⟩;congr 1;rw [hrl];have:ks.length=(xts ks).length:=by rw [Jk];simp
  rw [this];exact qBi _ _ fun j C=>by simp [C]
 rw [<-O] at S a⊢;have g:∀(p:qa),p 0=.pointer (some ⟨b,0,none⟩)->p 3=.pointer (some ⟨X,0,none⟩)->p 5=.string (qb (zF d))->qkE.wp ⟨Tryz.prog,36,quy,[]⟩ (qB [.tmp 4] fun e w'=>e=.returned (.string (qb (zF d++([40]++(qj++[41])))))/\qc W w') (ji [.tmp 4] fun e w'=>e=.returned (.string (qb (zF d++([40]++(qj++[41])))))/\qc W w') p w1:=by
  intro p r0 r3 r5;generalize zF d=hd at*;simp at a;simp -implicitDefEqProofs (disch:=(simp only [kh,List.length_cons,List.length_nil];omega)) [-qY,jB,qU,vf,qkE,r0,r3,r5,c5];have hp0:=0;have hf:∀(j:Nat) (C:j<rs.length) (W':World),qc w1 W'->True->Calls Tryz.prog 82 (#[.pointer (some ⟨b,0,none⟩)]++ #[.int .i64 rs[j]]++ #[]) W' fun e w'=>e=.returned (.string (qb ((xts ks).getD j [])))/\True/\qc w1 w'/\qz (fun _ T=>T=9) W' w':=by
   intro j C W' R _;have J:j<ks.length:=by omega
   obtain ⟨k1,k2,k3⟩:=l.kcell j J;have m:=Z j J;rw [ug C,ub] at m;have hsj:(xts ks).getD j []=xt ks[j]:=by rw [Jk];simp [J]
   have hjl:(xt ks[j]).length<=qj.length:=by rw [O];exact qjv _ _ _ (by rw [Jk];exact un.2 ⟨_,wz _,rfl⟩)
   have k3':ks[j].size<(T.mk d ks).size:=k3;rw [hsj,m];refine (hx ks[j] (yG i (.mk d ks) j) W' ((hE.trans' E).trans' R) (by omega) (yU V _ (wz _)) (H _ (wz _)) k2 (by omega)).mono ?_;rintro _ w3 ⟨rfl,y⟩;exact ⟨rfl,trivial,R.trans' y,qz.ext y⟩
  have hp:=qCj (w0:=w1) (w:=w1) (F:=82) (fs:=#[.pointer (some ⟨b,0,none⟩)]) (caps:=#[]) (fun _ _=>True) (fun j=>(xts ks).getD j []) (qO _) hrs (by omega) qJO trivial (fun _ _ _ _ _ _=>trivial) hf (by rw [z];omega);rw [z] at hp;refine hp.mono ?_;rintro _ w3 ⟨rfl,_,y⟩;simp -implicitDefEqProofs (disch:=(simp only [kh,List.length_cons,List.length_nil];omega)) [-qY,jB,qU,vf];exact E.trans' y
 have c:zF d=if d.vr≠[] then d.vr++([36]++d.name) else if d.typ≠[] then d.name++([123]++(d.typ++[125])) else d.name:=rfl
 by_cases A:d.vr=[]
 ·by_cases z:d.typ=[]
  ·rw [if_neg (by simp [A]),if_neg (by simp [z])] at c;have q2:decide (qb d.vr=⟨#[]⟩)=true:=by rw [A];rfl
   have Y:decide (qb d.typ=⟨#[]⟩)=true:=by rw [z];rfl
   simp -implicitDefEqProofs [c1,c2,c3,A,z,qb,q2,Y];exact g _ (by simp [r0]) (by simp) (by simp [c,qb])
  ·rw [if_neg (by simp [A]),if_pos (by simp [z])] at c;have Y:decide (qb d.typ=qb [])=false:=by simp [qb,z]
   have e2:decide (qb d.vr=qb [])=true:=by rw [A];rfl
   rw [c] at a;simp at a;simp -implicitDefEqProofs (disch:=(simp only [kh,List.length_cons,List.length_nil];omega)) [-qY,jB,qU,vf,c1,c2,c3,e2,Y];exact g _ (by simp [r0]) (by simp) (by simp [c])
 ·rw [if_pos (by simp [A])] at c;have q2:decide (qb d.vr=qb [])=false:=by simp [qb,A]
  rw [c] at a;simp at a;simp -implicitDefEqProofs (disch:=(simp only [kh,List.length_cons,List.length_nil];omega)) [-qY,jB,qU,vf,c1,c2,c3,q2];exact g _ (by simp [r0]) (by simp) (by simp [c])
theorem qo9 (hG:L01.G w) (hR:Rd w nv xs) (hc:w.cell? ⟨b,2,none⟩=some nv):∀n,ExC w (xs.map (·.nd)) b n
 |0=>fun u _ _ _ hn=>by have:=u.size_pos;omega
 |n+1=>by
  have hx:=qo9 hG hR hc n;intro u i W hE hn S hk Z g;obtain ⟨kv,y⟩:=qjg (hR.ext hE) Z;have hcW:=hE.cell hc;have hlt':(i:Int)<(xs.length:Int):=by have:=y.lt;omega
  have U:=vN y.kis;have hko:=xS y.kis;have hrow:=y.row;have V:∀(j:Nat) (h:j<u.kids.length),W.cell? (qQ kv j)=some (.int .i64 (yG i u j:Int))/\(∀W',qc w W'->qf u.kids[j].d.kind=true->(xt u.kids[j]).length<=10000000000000->Calls Tryz.prog 82 #[.pointer (some ⟨b,0,none⟩),.int .i64 (yG i u j:Int)] W' fun e w'=>e=.returned (.string (qb (xt u.kids[j])))/\qc W' w')/\∀W',qc w W'->qf u.kids[j].d.kind=true->(ot u.kids[j]).length<=10000000000000->Calls Tryz.prog 173 #[.pointer (some ⟨b,0,none⟩),.int .i64 (yG i u j:Int)] W' fun e w'=>e=.returned (.string (qb (ot u.kids[j])))/\qc W' w':=by
   intro j h;obtain ⟨k1,k2,k3⟩:=y.kcell j h;have ho:jE u.kids[j]=true:=by
    obtain ⟨d,ks⟩:=u;simp only [jE,j0] at S;exact yU S.2 _ (wz _)
   exact ⟨k1,fun W' F he hl=>hx _ _ _ F (by omega) ho he k2 hl,fun W' F he hl=>qCd hR hc hx _ _ _ F (by omega) ho he k2 hl⟩
  have E:=fun (h5:u.d.kind=5) W' (F:qc W W')=>qCv hR hx u i W' (hE.trans' F) hn S h5 Z g (y.ext F);have l:=y.klen;have A:=y.kis;have his:=y.is;have hl:=y.len;have hlt:=y.lt;clear y Z hx;generalize hkx:yG i u=kx at*;obtain ⟨d,ks⟩:=u;have hvw:Vw d ks:=QM (by simp only [jE,j0] at S;exact S.1);refine qEz fun ρ r0 r1=>?_;simp -implicitDefEqProofs [qq2,r0,r1,hcW,his,hl,hlt,hlt',hrow,T.d];refine qX qbP fun X w1 hX hE1 hb1 _=>?_;simp -implicitDefEqProofs;refine jx (B:=X) (by simp) hb1 (by simp [Value.cells,T.d,U]) (by simp [Value.cells,T.d,U,hko]) (by simpa [Value.cells,T.d,U] using qbW) fun O hO2 H=>?_;simp -implicitDefEqProofs [Value.cells,T.d,U] at H;have c:qc W O:=hO2.ext hE1 hX;have c0:O.cell? ⟨X,0,none⟩=some (.int .u8 (d.kind:Int)):=by rw [H.cell];rfl
  have c1:O.cell? ⟨X,1,none⟩=some (.string (qb d.name)):=by rw [H.cell];rfl
  have c4:O.cell? ⟨X,4,none⟩=some (.int .i64 d.n):=by rw [H.cell];rfl
  have c5:O.cell? ⟨X,5,none⟩=some kv:=by rw [H.cell];rfl
  have hr2:Eng.jG O ⟨X,0,none⟩ 0 6=some [.int .u8 (d.kind:Int),.string (qb d.name),.string (qb d.vr),.string (qb d.typ),.int .i64 d.n,kv]:=yD H;have hGW:=hG.ext (hE.trans' c);have C:=hE.trans' c;simp only [T.d,T.kids] at hk V l E;simp -implicitDefEqProofs [c0, -qY,jB,qU,vf];cases hvw with
  |int m h0 h1=>
   simp -implicitDefEqProofs [c4];refine (L01.qnW hGW h0 (by omega)).mono ?_;rintro _ Y ⟨rfl,k⟩;simp -implicitDefEqProofs;exact ⟨by simp [xt,zU],c.trans' k⟩
  |bool m h=>
   rcases h with rfl|rfl
   ·simp -implicitDefEqProofs [c4,qjK];exact ⟨by simp [xt,zU,qb],c⟩
   ·simp -implicitDefEqProofs [c4,qjK];exact ⟨by simp [xt,zU,qb],c⟩
  |nil=>
   simp -implicitDefEqProofs;exact ⟨by simp [xt,zU,qb],c⟩
  |var s h=>
   simp -implicitDefEqProofs [c1];exact ⟨by simp [xt,zU],c⟩
  |mcall s ty h ht ks h6 hk=>
   simp -implicitDefEqProofs [hr2,r0];have h9:=E rfl O c;simp -implicitDefEqProofs [T.d] at h9;refine h9.mono ?_;rintro _ Y ⟨rfl,k⟩;simp -implicitDefEqProofs;exact c.trans' k
  |ocall s o h ho ks h6 hk=>
   simp -implicitDefEqProofs [hr2,r0];have h9:=E rfl O c;simp -implicitDefEqProofs [T.d] at h9;refine h9.mono ?_;rintro _ Y ⟨rfl,k⟩;simp -implicitDefEqProofs;exact c.trans' k
  |neg a R=>
   obtain ⟨k1,k2,k3⟩:=V 0 (by simp);have p:=c.cell k1;have e:xt (.mk {kind:=6,name:=[110,111,116]} [a])=[110,111,116,32]++ot a:=rfl;rw [e] at g⊢;simp at g l;simp -implicitDefEqProofs [r0,c5,A,l,p];refine (k3 O C R (by simp;omega)).mono ?_;rintro _ Y ⟨rfl,k⟩;simp -implicitDefEqProofs (disch:=(simp only [kh,List.length_cons,List.length_nil];omega)) [-qY,jB,qU,vf];exact c.trans' k
  |oper s h a b R hb=>
   obtain ⟨k1,k2,k3⟩:=V 0 (by simp);obtain ⟨l1,l2,l3⟩:=V 1 (by simp);have p:=c.cell k1;have J:=c.cell l1;have e:xt (.mk {kind:=6,name:=s} [a,b])=ot a++([32]++(s++([32]++ot b))):=rfl;rw [e] at g⊢;simp at g l;simp -implicitDefEqProofs [r0,c5,A,l];simp -implicitDefEqProofs [r0,qq0,qq1,c5,c1,A,l,p,J, -qM,vj,vk,vi];refine qbf (.string (qb (ot a))) qwV (fun w' x=>?_) ?_
   ·simp -implicitDefEqProofs [p,r0];refine (k3 w' (C.trans' x) R (by simp;omega)).mono ?_;rintro _ w4 ⟨rfl,z⟩;exact ⟨rfl,x.trans' z⟩
   simp -implicitDefEqProofs (disch:=(simp only [kh,List.length_cons,List.length_nil];omega)) [-qY,jB,qU,vf,r0,c1,c5,A,l,p,J, -qM,vj,vk,vi];refine qbf (.string (qb (ot b))) qwV (fun w' x=>?_) ?_
   ·simp -implicitDefEqProofs [J,r0];refine (l3 w' (C.trans' x) hb (by simp;omega)).mono ?_;rintro _ w4 ⟨rfl,z⟩;exact ⟨rfl,x.trans' z⟩
   simp -implicitDefEqProofs (disch:=(simp only [kh,List.length_cons,List.length_nil];omega)) [-qY,jB,qU,vf,r0, -qM,vj,vk,vi];intro Y k;exact c.trans' k
  |index a b R hb=>
   obtain ⟨k1,k2,k3⟩:=V 0 (by simp);obtain ⟨l1,l2,l3⟩:=V 1 (by simp);have p:=c.cell k1;have J:=c.cell l1;have e:xt (.mk {kind:=7} [a,b])=ot a++([91]++(xt b++[93])):=rfl;rw [e] at g⊢;simp at g l;simp -implicitDefEqProofs [r0,qqZ,c5,c1,A,l,p,J, -qM,vj,vk,vi];refine ⟨(.string (qb (ot a))),fun w' x=>?_, ?_⟩
   ·refine (k3 w' (C.trans' x) R (by simp;omega)).mono ?_;rintro _ w4 ⟨rfl,z⟩;exact ⟨rfl,x.trans' z⟩
   simp -implicitDefEqProofs (disch:=(simp only [kh,List.length_cons,List.length_nil];omega)) [-qY,jB,qU,vf,r0,c1,c5,A,l,p,J, -qM,vj,vk,vi];refine ⟨(.string (qb (xt b))),fun w' x=>?_, ?_⟩
   ·refine (l2 w' (C.trans' x) hb (by simp;omega)).mono ?_;rintro _ w4 ⟨rfl,z⟩;exact ⟨rfl,x.trans' z⟩
   simp -implicitDefEqProofs (disch:=(simp only [kh,List.length_cons,List.length_nil];omega)) [-qY,jB,qU,vf,r0, -qM,vj,vk,vi];intro Y k;exact c.trans' k
  |field s h a R=>
   obtain ⟨k1,k2,k3⟩:=V 0 (by simp);have p:=c.cell k1;have e:xt (.mk {kind:=8,name:=s} [a])=ot a++([46]++s):=rfl;rw [e] at g⊢;simp at g l;simp -implicitDefEqProofs [r0,qqY,c5,c1,A,l,p, -qM,vj,vk,vi];refine ⟨(.string (qb (ot a))),fun w' x=>?_, ?_⟩
   ·refine (k3 w' (C.trans' x) R (by simp;omega)).mono ?_;rintro _ w4 ⟨rfl,z⟩;exact ⟨rfl,x.trans' z⟩
   simp -implicitDefEqProofs (disch:=(simp only [kh,List.length_cons,List.length_nil];omega)) [-qY,jB,qU,vf,r0,c1, -qM,vj,vk,vi];intro Y k;exact c.trans' k
  |up a R=>
   obtain ⟨k1,k2,k3⟩:=V 0 (by simp);have p:=c.cell k1;have e:xt (.mk {kind:=9} [a])=[117,112,40]++(xt a++[41]):=rfl;rw [e] at g⊢;simp at g l;simp -implicitDefEqProofs [r0,c5,A,l,p];refine (k2 O C R (by simp;omega)).mono ?_;rintro _ Y ⟨rfl,k⟩;simp -implicitDefEqProofs (disch:=(simp only [kh,List.length_cons,List.length_nil];omega)) [-qY,jB,qU,vf];exact c.trans' k
  |down a R=>
   obtain ⟨k1,k2,k3⟩:=V 0 (by simp);have p:=c.cell k1;have e:xt (.mk {kind:=10} [a])=[100,111,119,110,40]++(xt a++[41]):=rfl;rw [e] at g⊢;simp at g l;simp -implicitDefEqProofs [r0,qqX,c5,A,l,p];refine (k2 O C R (by simp;omega)).mono ?_;rintro _ Y ⟨rfl,k⟩;simp -implicitDefEqProofs (disch:=(simp only [kh,List.length_cons,List.length_nil];omega)) [-qY,jB,qU,vf];exact c.trans' k
  |_=>simp [qf] at hk
end
noncomputable def qqJ:Code:=((Tryz.f90.body).getD .skip)
noncomputable def qqI:IR:=.ret
noncomputable def qqL:IR:=zq [za 2 (.const (zs #[]))] <| .seq (.raw (qP qqJ 1)) (qqI)
def qqK:List Nat:=zV 14 [1]
def qEu:C1 90 14 qqK qqL [.tmp 2]:=c1 [1] Tryz.func90
noncomputable def qqH:OT:=zy 3 (zv 0)<|zy 4 (zN (zv 3))<|zy 5 (zf 1 (zv 4))<|zy 6 (zl (zv 5))<|zy 8 (zv 0)<|zy 9 (zN (zv 8))<|zy 10 (zf 1 (zv 9))<|zy 11 (zl (zv 10))<|zy 12 (zL (zv 11))<| .step (zE 7 (.call {callee:=.builtin .unsafeSliceData,args:=#[zt 6],argTypes:=#[112]}) 196) true<| .step (zE 13 (.call {callee:=.builtin .unsafeString,args:=#[zt 7,zt 12],argTypes:=#[196,3]}) 9) false<| .step (zm 2 13) false<| .done
theorem qEt:zj Tryz.prog 14 qqK 10 (qP qqJ 1)=some qqH:=by kernel_rfl
def Pr (B b:Nat) (nv:Value) (op:Bool) (bs:Bs) (w:World):Prop:=B<=b/\∃p v,Blk w b #[p,v,nv,.bool op] 116/\(p=.pointer none\/p=.pointer (some ⟨b,0,none⟩))/\w.ownsRow B 5 1 v bs.length (bs.map jn)/\v.ownBlock≠some b
def prP:Nat->TypeId->Prop:=fun _ T=>T≠116/\T≠5
def qzJ {w:World} {b:Nat} {p v nv o:Value} (h:Blk w b #[p,v,nv,o] 116):w.shape? b=some (116,4):=by simp [World.shape?,h.heap]
theorem qDT:liesAt Tryz.prog Tryz.prog.depth 116 (4 / Tryz.prog.cellsOf 116) 0 114 1=true:=by kernel_rfl
def qBQ (b:Nat) (w:World) (a:w.cell? ⟨b,0,none⟩=some (.pointer (some ⟨b,0,none⟩))):
  Calls Tryz.prog 177 #[.pointer (some ⟨b,0,none⟩)] w fun e w'=>e=.returned (.tuple #[])/\w'=w:=L01.ql2 b w a
def qBR (b:Nat) (w:World) {v nv o:Value} (h:Blk w b #[.pointer none,v,nv,o] 116):
  Calls Tryz.prog 177 #[.pointer (some ⟨b,0,none⟩)] w fun e w'=>e=.returned (.tuple #[])/\w'=w.setCell ⟨b,0,none⟩ (.pointer (some ⟨b,0,none⟩)):=by
 obtain ⟨j,g,c⟩:=L01.qk3;have l:w.cell? ⟨b,0,none⟩=some (.pointer none):=by rw [h.cell];rfl
 have a:=qzJ h;have k:w.frozen? ⟨b,0,none⟩=false:=by simp [World.frozen?,h.heap]
 go_enter Tryz.func177,Tryz.ntmps177
 go_wp2
 rw [Lib.run_to_unsafe w ⟨b,0,none⟩ Tryz.underlying111 Tryz.underlying254 g (by rw [c];decide) a (Nat.zero_lt_succ 3)];simp only [Result.andThen];rw [Oper.upon_value]
 go_wp2
 rw [run_callFunc_extern Tryz.func247 (by kernel_rfl) (by kernel_rfl) (by kernel_rfl) (e:=Extern.AbiNoEscape.same) (by kernel_rfl),Lib.run_noEscape];simp only [Result.andThen];rw [Oper.upon_value]
 go_wp2
 rw [Lib.run_from_unsafe w ⟨b,0,none⟩ Tryz.underlying254 Tryz.underlying111 g a qDT];simp only [Result.andThen];rw [Oper.upon_value]
 go_wp2
 go_end0
 exact ⟨rfl,rfl⟩
def qBS {w:World} {b:Nat} {p v nv o:Value} (h:Blk w b #[p,v,nv,o] 116) (a:p=.pointer none\/p=.pointer (some ⟨b,0,none⟩)):
  Calls Tryz.prog 177 #[.pointer (some ⟨b,0,none⟩)] w fun e w'=>e=.returned (.tuple #[])/\Blk w' b #[.pointer (some ⟨b,0,none⟩),v,nv,o] 116/\Only b w w':=by
 rcases a with rfl|rfl
 ·refine (qBR b w h).mono ?_;rintro _ _ ⟨rfl,rfl⟩;exact ⟨rfl,by simpa using qg2 h 0 (.pointer (some ⟨b,0,none⟩)),qfu _ _ _ _⟩
 ·refine (qBQ b w (by rw [h.cell];rfl)).mono ?_;rintro _ _ ⟨rfl,rfl⟩;exact ⟨rfl,h,Only.refl _ _⟩
def qdC {w w':World} {B:Nat} {v:Value} {n:Nat} {xs:List Value} (h:w.ownsRow B 5 1 v n xs) (c:∀k,v.ownBlock=some k->w'.heap[k]? =w.heap[k]?):w'.ownsRow B 5 1 v n xs:=by
 refine ⟨h.1, ?_⟩;rcases h.2 with j|⟨g,cap,cur,rfl,e,a,r⟩
 ·exact .inl j
 ·exact .inr ⟨g,cap,cur,rfl,e,(c g rfl).trans a,r⟩
def qof {w:World} {B:Nat} {v:Value} {n:Nat} {xs:List Value} (h:w.ownsRow B 5 1 v n xs) {k:Nat} (a:v.ownBlock=some k):∃cur,w.heap[k]? =some (.cells cur 5 (0,0)):=by
 rcases h.2 with ⟨rfl,_⟩|⟨g,cap,cur,rfl,e,c,r⟩
 ·simp at a
 ·simp at a;subst a;exact ⟨cur,c⟩
def Pr.ext {w w':World} {B b:Nat} {nv:Value} {op:Bool} {bs:Bs} (h:Pr B b nv op bs w) (c:qc w w'):Pr B b nv op bs w':=by
 obtain ⟨n,p,v,g,j,e,a⟩:=h;exact ⟨n,p,v,g.ext c,j,qdC e (fun k m=>by obtain ⟨cur,l⟩:=qof e m;exact c.block k (uq.1 l).1),a⟩
def Pr.at' {p:Nat->TypeId->Prop} {w w':World} {B b:Nat} {nv:Value} {op:Bool} {bs:Bs} (h:Pr B b nv op bs w) (e:qz p w w') (o:∀k,p k 116) (g:∀k,p k 5):Pr B b nv op bs w':=by
 obtain ⟨u,q,v,j,l,c,a⟩:=h;exact ⟨u,q,v,j.at' e (o _),l,qdC c (fun k n=>by obtain ⟨cur,m⟩:=qof c n;exact e k _ _ _ m (g _)),a⟩
def Pr.nodes {w:World} {B b:Nat} {nv:Value} {op:Bool} {bs:Bs} (h:Pr B b nv op bs w):w.cell? ⟨b,2,none⟩=some nv:=by
 obtain ⟨g,q,v,a,j,e,c⟩:=h;rw [a.cell];rfl
structure Chg (w0 w w':World):Prop where
 ext:qc w0 w'
 same:qz prP w w'
 size:w.heap.size<=w'.heap.size
def Chg.trans {w0 a b c:World} (h:Chg w0 a b) (k:Chg w0 b c):Chg w0 a c:=⟨k.ext,h.same.trans k.same,Nat.le_trans h.size k.size⟩
def qwz {P:Program} {Q:Ks} {d:Option Nat} {b:Builtin} {args:Array Operand} {a:Array TypeId} {ty:TypeId} {K:qa->World->Prop} {ρ:qa} {w:World} (h:vK P Q d (.call {callee:=.builtin b,args:=args,argTypes:=a}) ty K ρ w):qx P Q d (.call {callee:=.builtin b,args:=args,argTypes:=a}) ty K ρ w:=h
def ndC (t:T) (kv:Value):List Value:=[Value.int .u8 (t.d.kind:Int),.string (qb t.d.name),.string (qb t.d.vr),.string (qb t.d.typ),.int .i64 t.d.n,kv]
structure StC (w0 W:World) (b:Nat) (nv:Value) (bs ind:Bs) (t:T) (kv:Value) (P I X:Nat):Prop where
 ext:qc w0 W
 pr:Pr w0.heap.size b nv true bs W
 bP:Blk W P #[.pointer (some ⟨b,0,none⟩)] 110
 bI:Blk W I #[.string (qb ind)] 9
 bX:Blk W X (ndC t kv).toArray 44
section
variable {w0 W:World} {b:Nat} {nv:Value} {bs ind:Bs} {t:T} {kv:Value} {P I X:Nat}
theorem StC.cs (h:StC w0 W b nv bs ind t kv P I X):W.cell? ⟨P,0,none⟩=some (.pointer (some ⟨b,0,none⟩))/\W.cell? ⟨I,0,none⟩=some (.string (qb ind))/\W.cell? ⟨X,0,none⟩=some (.int .u8 (t.d.kind:Int))/\W.cell? ⟨X,1,none⟩=some (.string (qb t.d.name))/\W.cell? ⟨X,3,none⟩=some (.string (qb t.d.typ))/\W.cell? ⟨X,5,none⟩=some kv:=
 ⟨by rw [h.bP.cell];rfl,by rw [h.bI.cell];rfl,by rw [h.bX.cell];rfl,by rw [h.bX.cell];rfl,by rw [h.bX.cell];rfl,by rw [h.bX.cell];rfl⟩
end
def yr.rd {q:Nat->Prop} {w:World} {v:Value} {l:List Nd} (h:yr q w v l):RdN w v l:=by
 obtain ⟨xs,e,a,c⟩:=h;exact ⟨xs,e,qov a fun x g=>(c x g).1⟩
def QH.rd {e:Type} {b T sz:Nat} {C C':List Value->e->Prop} {w:World} {v:Value} {l:List e} (h:QH b T sz C w v l) (k:∀c a,C c a->C' c a):kE sz C' w v l:=by
 obtain ⟨css,g,j⟩:=h;exact ⟨css,L01.jR g,j.imp k⟩
def qaT.rd {w:World} {cs:List Value} {s:Sig} (h:qaT w cs s):Qc w cs s:=by
 obtain ⟨c,sv,e,a,g⟩:=h;exact ⟨c,sv,e,L01.jR a,L01.jR g⟩
def Ji.rd {q:Nat->Prop} {w:World} {cs:List Value} {m:Mod} (h:Ji (yr q w) w cs m):qbL w cs m:=by
 obtain ⟨a,b,c,e,j,k,g⟩:=h;refine ⟨a,b,c,e,j.rd ?_,k.rd ?_,g.rd ?_⟩
 ·rintro _ _ ⟨c,e,h⟩;exact ⟨c,e,h.rd⟩
 ·rintro _ _ ⟨c,e,h⟩;exact ⟨c,e,h.rd⟩
 ·rintro _ _ ⟨c,n,l,e,j,k,g⟩;exact ⟨c,n,l,e,j.rd,L01.jR k,g.rd⟩
def RdM (w:World) (v:Value) (l:List Mod):Prop:=kE 7 (qbL w) w v l
def RdM.ext {w w':World} {v:Value} {l:List Mod} (h:RdM w v l) (a:qc w w'):RdM w' v l:=kE.ext h a fun _ _ h=>h.ext a
def qKE {w W:World} {base:Nat} {v k:Value} {n:Nat} {xs:List Value} (s:ByteArray) (a:w.ownsRow base 5 1 v n xs) (y:n+s.size<=140737488355328) (o:(Builtin.append_ #[112,9] 112 #[v,.string s]).run Tryz.prog w=.ok k W) (h:k=.slice none 0 0↔v=.slice none 0 0/\s.size=0):k.ownBlock=v.ownBlock\/k.ownBlock=some w.heap.size:=by
 obtain ⟨i,p,A,x,j⟩:=qd2;have u:xs.length=n:=by simpa using a.1
 rcases a.2 with ⟨rfl,rfl⟩|⟨g,cap,cur,rfl,H,E,J,C,m,l⟩
 ·by_cases F:s.size=0
  ·left;rw [h.2 ⟨rfl,F⟩]
  ·have c:=run_append_nil_string (P:=Tryz.prog) w 112 9 112 5 i (.int .u8 0) Tryz.underlying112 Tryz.underlying9 p A s (by omega) (by omega) (by rw [j];omega);rw [o] at c;cases c;right;rfl
 ·have z:cur.size=cap:=by simpa using m
  by_cases e:n+s.size<=cap
  ·have c:=Lib.run_append_room_string (P:=Tryz.prog) w 112 9 112 5 i Tryz.underlying112 Tryz.underlying9 p x g n cap cur E s e (by omega);rw [o] at c;cases c;left;rfl
  ·have c:=Lib.run_append_grow_string (P:=Tryz.prog) w 112 9 112 5 i (.int .u8 0) Tryz.underlying112 Tryz.underlying9 p A ⟨g,0,none⟩ n cap xs (by rw [x];simpa using u) (a.cells (g:=g) rfl) s (by omega) (by omega) (by rw [j];exact growslice_fits (by omega) (by omega));rw [o] at c;cases c;right;rfl
def QK (B O:Nat) (v:Value) (bs:Bs) (w:World):Prop:=B<=O/\(∃p,(p=.pointer none\/p=.pointer (some ⟨O,0,none⟩))/\Blk w O #[p,v] 114)/\w.ownsRow B 5 1 v bs.length (bs.map jn)/\v.ownBlock≠some O
def QK.bd {B O:Nat} {v:Value} {bs:Bs} {w:World} (h:QK B O v bs w):Bd B O bs w:=by
 obtain ⟨g,⟨p,j,c⟩,e,a⟩:=h;rcases j with rfl|rfl
 ·exact .inl ⟨g,v,c.heap,by simpa using e,a⟩
 ·exact .inr ⟨g,v,c.heap,by simpa using e,a⟩
def QK.keep {B O:Nat} {v:Value} {bs:Bs} {w w':World} (h:QK B O v bs w) (m:w'.heap[O]? =w.heap[O]?) (c:∀k,v.ownBlock=some k->w'.heap[k]? =w.heap[k]?):QK B O v bs w':=by
 obtain ⟨g,⟨p,l,e⟩,j,a⟩:=h;exact ⟨g,⟨p,l,⟨m.trans e.heap⟩⟩,qdC j c,a⟩
def QK.lt {B O:Nat} {v:Value} {bs:Bs} {w:World} (h:QK B O v bs w):O<w.heap.size/\∀k,v.ownBlock=some k->k<w.heap.size:=by
 obtain ⟨j,⟨p,l,c⟩,g,e⟩:=h;exact ⟨c.lt,fun k a=>(g.lt k a).2⟩
def QK.ext {B O:Nat} {v:Value} {bs:Bs} {w w':World} (h:QK B O v bs w) (a:qc w w'):QK B O v bs w':=h.keep (a.block O h.lt.1) fun k c=>a.block k (h.lt.2 k c)
def x7 (l:List Nd):Bs×Int:=if whole l qf then (xt (qhF l),0) else ([],21)
def qKp {nv:Value} (h:qu nv=true):Tryz.prog.built 116 [(1,nv)]=some #[.pointer none,.slice none 0 0,nv,.bool false]:=by
 rcases xT h with ⟨b,o,n,c,rfl,_⟩|rfl|⟨b,o,sp,rfl⟩<;>kernel_rfl
def qCB {w:World} {lv:Value} {xs:List NV} (H:L01.G w) (V:kF w) (g:Rd w lv xs) (h:Qd (xs.map (·.nd))) (l:∀t:T,xs.map (·.nd)=t.flat 0->t.size<=400->jE t=true->(xt t).length<=10000000000000):
  Calls Tryz.prog 28 #[lv] w fun e w'=>e=.returned (.tuple #[.string (qb (x7 (xs.map (·.nd))).1),.int .i64 (x7 (xs.map (·.nd))).2])/\qc w w':=by
 have O:=g.len;have lc:=vN g.cells.is;refine qFH fun ρ r0=>?_;generalize k:(fun (e:Ending) (w':World)=>e=.returned (.tuple #[.string (qb (x7 (xs.map (·.nd))).1),.int .i64 (x7 (xs.map (·.nd))).2])/\qc w w')=R;simp -implicitDefEqProofs [qsu,r0];refine (qiY H V g (fun y u=>h.1 y.nd (un.2 ⟨y,u,rfl⟩)) (fun y u=>h.2 y.nd (un.2 ⟨y,u,rfl⟩)) qfN).mono ?_;rintro _ w1 ⟨rfl,m⟩;cases o:whole (xs.map (·.nd)) qf with
 |false=>
  simp -implicitDefEqProofs;rw [<-k];exact ⟨by simp [x7,o,qb],m⟩
 |true=>
  obtain ⟨t,n,x,U,c⟩:=(qes _ _).1 o;have p:=l t n x c;have C:xs.length=t.size:=by have:=congrArg List.length n;rwa [uh,T.flat_len] at this
  have J:=t.size_pos;have z:IntKind.i64.wrap ((xs.length:Int) - 1)=((t.size - 1:Nat):Int):=by rw [C,qH (by omega)];omega
  simp -implicitDefEqProofs [qsr,r0,qKp g.cells.is];refine vO fun b Y Z E j _=>?_;simp -implicitDefEqProofs [Value.cells] at j;have a:=m.trans' E;simp -implicitDefEqProofs [r0,g.cells.is,O,z];have A:xf (xs.map (·.nd)) (t.size - 1) t:=by rw [n];exact qxA t
  refine (qo9 (b:=b) (H.ext a) (g.ext a) (by rw [j.cell];rfl) t.size t (t.size - 1) Y (qO _) (j1 _) c U A p).mono ?_;rintro _ w3 ⟨rfl,F⟩;simp -implicitDefEqProofs;rw [<-k];have S:x7 (xs.map (·.nd))=(xt t,0):=by unfold x7;rw [if_pos o,n,qhE]
  exact ⟨by rw [S],a.trans' F⟩
end Go.L02
namespace Go.L02
open Go Go.Eng
open Go.L01 (Bs Tok)
set_option maxRecDepth 100000
set_option maxHeartbeats 2000000
def exB:Bs:=[112,114,111,99,32,112,40,41,32,105,115,32,120,32,58,61,32,97,91,105,110,116,93,59,32,112,117,116,32,49,32,101,110,100]
def exC:Bs:=[112,114,111,99,32,112,40,41,32,115,105,103,110,97,108,115,40,98,44,32,97,41,32,105,115,32,101,110,100]
def ty1:qI [114,101,99,111,114,100,91,98,58,105,110,116,44,97,58,115,101,116,91,63,116,93,93]=true:=by decide+kernel
def op1:vx [103,101,116,95,102]=true:=by decide+kernel
def op2:vx [103,101,116,95]=false:=by decide+kernel
end Go.L02
namespace Go.L02
open Go Go.Eng Go.Proofs
set_option maxRecDepth 100000
set_option maxHeartbeats 2000000
noncomputable def qrG:IR:=zq [zm 40 3,zc 41 17 #[zt 40] #[9] 30,zm 39 41,za 42 (ze 0 (zv 39)),za 43 (ze 1 (zv 39)),zA 8 26,zm 7 42,zw 26 (zt 8) (zt 43),zc 44 14 #[] #[] 4,zm 45 44,zg 45 true 46 (zM 2 (zv 8)),.eff (some (45,true)) (some 47) (.build 26 #[]) 26,.eff (some (45,true)) (some 48) (.binOp .eql 26 (zt 46) (zt 47) 26) 4,za 50 (.ite (zv 45) (zv 48) (zQ false)),zg 50 true 51 (zv 7),zg 50 true 52 (zv 0),zh 50 true 53 20 #[zt 51,zt 52] #[29,29] 4,za 2 (.ite (zv 50) (zv 53) (zQ false))] <| .ret
noncomputable def qf4:IR:=zq [za 37 (.ite (zI .neq (zv 4) (zK 0)) (zQ true) (zI .gtr (zT (zv 3)) (zK 20000)))] <| .seq (.cond (zv 37) (zq [zc 38 14 #[] #[] 4,zm 2 38] <| .ret) .skip) (qrG)
noncomputable def qrF:IR:=zq [zm 14 0,zc 15 28 #[zt 14] #[29] 38,zm 13 15,za 16 (ze 0 (zv 13)),za 17 (ze 1 (zv 13)),zm 3 16,zm 4 17,zm 19 0,zc 20 29 #[zt 19] #[29] 38,zm 18 20,za 21 (ze 0 (zv 18)),za 22 (ze 1 (zv 18)),zm 5 21,zm 6 22,za 30 (.ite (zS .neq (zv 3) (zv 5)) (zQ true) (zI .neq (zv 4) (zv 6)))] <| .seq (.cond (zv 30) (zq [za 2 (zQ false)] <| .ret) .skip) (qf4)
noncomputable def ir5:IR:=zq [za 2 (zQ false),zm 9 0,zc 10 21 #[zt 9] #[29] 4,za 11 (zn (zv 10))] <| .seq (.cond (zv 11) (zq [zc 12 14 #[] #[] 4,zm 2 12] <| .ret) .skip) (qrF)
def qE8:List Nat:=zV 54 [1,23,24,25,26,27,28,29,31,32,33,34,35,36,49]
def qE7:C1 5 55 qE8 ir5 [.tmp 2]:=c1 [] Tryz.func5
noncomputable def qtV:IR:=.reg [za 11 (zI .add (zv 11) (zK 1))]
noncomputable def qtU:IR:=.seq (.block 1 (zq [za 14 (zM 6 (zx 6 (zv 9) (zv 11))),zA 4 44,zw 44 (zt 4) (zt 14),za 36 (.ite (.ite (.ite (zI .gtr (zT (zo 1 (zv 4))) (zK 40)) (zQ true) (zI .gtr (zT (zo 2 (zv 4))) (zK 110))) (zQ true) (zI .gtr (zT (zo 3 (zv 4))) (zK 110))) (zQ true) (zI .gtr (zL (zo 5 (zv 4))) (zK 420)))] <| .cond (zv 36) (zq [za 2 (zQ false)] <| .ret) .skip)) (qtV)
noncomputable def qkp:IR:=zq [za 12 (zI .lss (zv 11) (zv 10))] <| .seq (.cond (zv 12) .skip (.exit 0)) (qtU)
noncomputable def qtT:IR:=zq [za 2 (.ite (zI .leq (zL (zv 0)) (zK 120)) (zQ true) (.ite (zI .gtr (zL (zv 0)) (zK 400)) (zI .leq (zL (zv 0)) (zK 410)) (zQ false)))] <| .ret
noncomputable def qtY:IR:=zq [za 2 (zQ false),zm 5 0,za 7 (zL (zv 0)),zE 8 (.call {callee:=.builtin .min,args:=#[zt 7,zO 420],argTypes:=#[3,3]}) 3,za 9 (.op3 (.slLoHi 6) (zv 5) (zK 0) (zv 8)),za 10 (zL (zv 9)),za 11 (zK 0)] <| .seq (.block 0 (.loop qkp)) (qtT)
def qGX:List Nat:=[0,2,4,5,7,8,9,10,11,12,14,36]
def qGW:C1 21 51 qGX qtY [.tmp 2]:=c1 [] Tryz.func21
end Go.L02
namespace Go.L02
open Go Go.Eng Go.RowKit
open Go.Proofs hiding encI
open Go.L01 (Bd Bs Own.same SlK Tok fV jA jX jY jZ jb jh qF qbG qd2 qg qi qp vc vu xb zz)
set_option maxRecDepth 100000
set_option maxHeartbeats 2000000
theorem g26:Tryz.prog.eqGuardType Tryz.prog.depth 26=false:=by kernel_rfl
theorem qII : ((Tryz.prog.fieldsOf 26).toList.map fun f => (f.name == "_", f.type, f.offset)) = [(false, 24, 0), (false, 3, 1)] := by kernel_rfl
theorem qzn:Tryz.prog.underlying 26=some (.struct (Tryz.prog.fieldsOf 26)):=by kernel_rfl
theorem qIu:Tryz.prog.stoodInHeld 26=false:=by kernel_rfl
def qwn (a b c d:Int) (w:World):(Op.equalIn 10000 26 (.agg #[.int .i64 a,.int .i64 b]) (.agg #[.int .i64 c,.int .i64 d])).run Tryz.prog w=.ok (decide (a=c)&&decide (b=d)) w:=by
 have k:=qII;obtain ⟨o,p,g⟩:∃o p,(Tryz.prog.fieldsOf 26).toList=[o,p]:=by
  match h:(Tryz.prog.fieldsOf 26).toList with
  |[o,p]=>exact ⟨o,p,rfl⟩
  |[] |[_] |_::_::_::_=>rw [h] at k;simp at k
 rw [g] at k;simp at k;obtain ⟨⟨A,R,o1⟩,n2,J,o2⟩:=k;have e:=run_equalIn_agg (P:=Tryz.prog) w 9999 26 #[.int .i64 a,.int .i64 b] #[.int .i64 c,.int .i64 d] qzn qIu;have m:∀(cs:Array Value) (v:Value) (off t:Nat),kY Tryz.prog t=some false->cs[off]? =some v->(Go.part t cs off).run Tryz.prog w=.ok v w:=fun cs v off t F C=>qiu F C;have j:kY Tryz.prog 24=some false:=by kernel_rfl
 have i3:kY Tryz.prog 3=some false:=by kernel_rfl
 have n:=run_equalIn_int (P:=Tryz.prog) w 9998 24 .i64 .i64 a c (by kernel_rfl);have l:=run_equalIn_int (P:=Tryz.prog) w 9998 3 .i64 .i64 b d (by kernel_rfl);refine e.trans ?_;rw [g];have H:=m #[.int .i64 a,.int .i64 b] (.int .i64 a) 0 24 j rfl;have O:=m #[.int .i64 a,.int .i64 b] (.int .i64 b) 1 3 i3 rfl;have E:=m #[.int .i64 c,.int .i64 d] (.int .i64 c) 0 24 j rfl;have b2:=m #[.int .i64 c,.int .i64 d] (.int .i64 d) 1 3 i3 rfl;have u:(a==c)=decide (a=c):=by rw [uJ];simp
 have y:(b==d)=decide (b=d):=by rw [uJ];simp
 rw [u] at n;rw [y] at l;generalize decide (a=c)=x at n;generalize decide (b=d)=z at l;simp only [Nat.reduceAdd] at n l;cases x<;>cases z<;>simp [Op.eqFields,A,n2,R,J,o1,o2,H,O,E,b2,n,l]
@[simp] theorem qMV:qh Tryz.prog 28=true:=by kernel_rfl
@[simp] theorem qMX:qh Tryz.prog 14=true:=by kernel_rfl
@[simp] theorem qMW:qh Tryz.prog 21=true:=by kernel_rfl
def goV (b:Bool) (o:Option Value) (d:Nat) (K:qa->World->Prop) (ρ:qa) (w:World):Prop:=if b then xp o (fun v=>K (qw ρ d v) w) else K (qw ρ d undef) w
def goE (P:Program) (Q:Ks) (b:Bool) (d:Option Nat) (op:Op) (ty:TypeId) (K:qa->World->Prop) (ρ:qa) (w:World):Prop:=if b then qx P Q d op ty K ρ w else K (qn ρ d undef) w
section
variable {P:Program} {Q:Ks} {K:qa->World->Prop} {ρ:qa} {w:World} {r:List St}
theorem wa2 {g:Option (Nat×Bool)} {d:Nat} {e:Ex}:je P Q (.asg g d e::r) K ρ w=goV (gd ρ g) (e.ev ρ w) d (je P Q r K) ρ w:=rfl
theorem we2 {g:Option (Nat×Bool)} {d:Option Nat} {op:Op} {ty:TypeId}:je P Q (.eff g d op ty::r) K ρ w=goE P Q (gd ρ g) d op ty (je P Q r K) ρ w:=rfl
@[simp] theorem qIx {d:Nat} {v:Value}:goV true (some v) d K ρ w=K (qw ρ d v) w:=rfl
@[simp] theorem qIy {o:Option Value} {d:Nat}:goV false o d K ρ w=K (qw ρ d undef) w:=rfl
@[simp] theorem qIz {d:Option Nat} {op:Op} {ty:TypeId}:goE P Q true d op ty K ρ w=qx P Q d op ty K ρ w:=rfl
@[simp] theorem qIA {d:Option Nat} {op:Op} {ty:TypeId}:goE P Q false d op ty K ρ w=K (qn ρ d undef) w:=rfl
end
def okR (w:World):Ending->World->Prop:=fun e w'=>e=.returned (.bool true)/\qc w w'
def yi (x:Nd):Bool:=decide (x.d.name.length<=40)&&decide (x.d.vr.length<=110)&&decide (x.d.typ.length<=110)&&decide (x.kids.length<=420)
def yH (l:List Nd):Bool:=(l.take 420).all yi&&(decide (l.length<=120)||(decide (400<l.length)&&decide (l.length<=410)))
def qwg {l:List Nd} (h:yH l=true):l.length<=410:=by
 simp only [yH,j0,uk,kr] at h;omega
def qwh {l:List Nd} (h:yH l=true):∀x∈l,yi x=true:=by
 have a:=qwg h;simp only [yH,j0] at h;have:=h.1;rw [ul (by omega)] at this;exact um.1 this
def qIQ {l:List Nd} (h:yH l=true) (e:∀x∈l,x.d.kind<256):Qd l:=by
 have c:=qwh h;refine ⟨fun x a=>?_,fun x a=>?_⟩
 ·have:=c x a;simp only [yi,j0,kr] at this;exact ⟨e x a,by omega,by omega,by omega⟩
 ·have:=c x a;simp only [yi,j0,kr] at this;omega
def qCs {w:World} {lv:Value} {xs:List NV} (hR:Rd w lv xs) (hlen:xs.length<4611686018427387904) (hkl:∀x∈xs,x.nd.kids.length<4611686018427387904):Calls Tryz.prog 21 #[lv] w fun e w'=>e=.returned (.bool (yH (xs.map (·.nd))))/\qc w w':=by
 have hl:=hR.len;have a:=hR.cells.is;have hcap:=qcm a;generalize hRR:(fun (e:Ending) (w':World)=>e=.returned (.bool (yH (xs.map (·.nd))))/\qc w w')=R;refine qGW fun ρ r0=>?_;simp -implicitDefEqProofs [qtY,r0,a,hl];refine qwq (x:=(xs.length:Int)) (y:=420) (k:=.i64) (by simp) (by simp) ?_;obtain ⟨m,hm,hmm⟩:∃m:Nat,(if (420:Int)<(xs.length:Int) then 420 else (xs.length:Int))=(m:Int)/\m=min xs.length 420:=by
  refine ⟨min xs.length 420, ?_,rfl⟩;split<;>omega
 rw [hm];have hml:m<=qy lv:=by omega
 have hml':(m:Int)<=(qy lv:Int):=by omega
 have ab:=qaC a 6 0 m (qy lv) (uz _) hml (j1 _);have V:ql (qZ lv 6 0 m (qy lv))=m:=by rw [qc9 _ _ _ _ a];omega
 have hsa:∀j,0<m->qQ (qZ lv 6 0 m (qy lv)) j=qQ lv j:=fun j h0=>by rw [qda 6 0 m _ j a (by omega) (by omega)];simp
 generalize hsv:qZ lv 6 0 m (qy lv)=sv at ab V hsa;simp -implicitDefEqProofs [a,hml,hml',hsv,ab,V];have c:yH (xs.map (·.nd))=((xs.take m).all (fun x=>yi x.nd)&&(decide (xs.length<=120)||(decide (400<xs.length)&&decide (xs.length<=410)))):=by
  unfold yH;rw [uh,<-List.map_take,List.all_map];congr 2;rw [hmm];by_cases h:xs.length<=420
  ·rw [ul (by omega),ul (by omega)]
  ·rw [show min xs.length 420=420 by omega]
 obtain ⟨J,hJ⟩:∃J:Nat->qa->World->Prop,∀j A w',J j A w'↔(A 0=lv/\A 9=sv/\A 10=.int .i64 (m:Int)/\(xs.take j).all (fun x=>yi x.nd)=true/\qc w w'):=⟨_,fun _ _ _=>Iff.rfl⟩;refine vD 11 m J (by simp) ((hJ _ _ _).2 ⟨by simp [r0],by simp,by simp,by simp,qO _⟩) ?_;clear r0;rintro j A w' hj rj hJw;obtain ⟨r0,r9,aa,O,Z⟩:=(hJ _ _ _).1 hJw;have hwj:IntKind.i64.wrap ((j:Int)+1)=(j:Int)+1:=qH (by omega);by_cases hlt:j<m
 ·have F:(j:Int)<(m:Int):=by omega
  have hjx:j<xs.length:=by omega
  have hR':=hR.ext Z;have z:=hR'.row hjx;rw [<-hsa (j*6) (by omega)] at z;have hk:=hR'.kids xs[j] (wz _);have Y:ql xs[j].kv=xs[j].nd.kids.length:=by simpa using hk.len.symm
  have p:=vN hk.is;have hko:=xS hk.is;have htk:(xs.take (j+1)).all (fun x=>yi x.nd)=yi xs[j].nd:=by rw [uG hjx,JP,O];simp
  have hno:yi xs[j].nd=false->yH (xs.map (·.nd))=false:=fun h=>by
   rw [c];have:(xs.take m).all (fun x=>yi x.nd)=false:=by
    rw [Vx];exact ⟨xs[j],Vh.2 ⟨j,by rw [uF];omega,by simp⟩,by simp [h]⟩
   rw [this];rfl
  generalize xs[j]=x at z hk Y p hko htk hno;simp -implicitDefEqProofs [qkp,rj,aa,F,hlt,qtU,r9,ab,V,z];refine qX qbP fun X w1 hX hE1 hb1 _=>?_;simp -implicitDefEqProofs;refine jx (B:=X) (by simp) hb1 (by simp [Value.cells,qk,p]) (by simp [Value.cells,qk,p,hko]) (by simpa [Value.cells,qk,p] using qbW) fun w2 hO2 l=>?_;simp -implicitDefEqProofs [Value.cells,qk,p] at l;have hE2:qc w' w2:=hO2.ext hE1 hX;have c1:w2.cell? ⟨X,1,none⟩=some (.string (qb x.nd.d.name)):=by rw [l.cell];rfl
  have c2:w2.cell? ⟨X,2,none⟩=some (.string (qb x.nd.d.vr)):=by rw [l.cell];rfl
  have c3:w2.cell? ⟨X,3,none⟩=some (.string (qb x.nd.d.typ)):=by rw [l.cell];rfl
  have c5:w2.cell? ⟨X,5,none⟩=some x.kv:=by rw [l.cell];rfl
  have bad:yi x.nd=false->R (.returned (.bool false)) w2:=fun h=>by rw [<-hRR];exact ⟨by rw [hno h],Z.trans' hE2⟩
  have n:yi x.nd=(decide (x.nd.d.name.length<=40)&&decide (x.nd.d.vr.length<=110)&&decide (x.nd.d.typ.length<=110)&&decide (x.nd.kids.length<=420)):=rfl;by_cases q1:40<x.nd.d.name.length
  ·have g:(40:Int)<(x.nd.d.name.length:Int):=by omega
   simp -implicitDefEqProofs [c1,q1,g];exact bad (by rw [n];simp;omega)
  have g:¬(40:Int)<(x.nd.d.name.length:Int):=by omega
  by_cases q2:110<x.nd.d.vr.length
  ·have u:(110:Int)<(x.nd.d.vr.length:Int):=by omega
   simp -implicitDefEqProofs [c1,q1,g,c2,q2,u];exact bad (by rw [n];simp;omega)
  have u:¬(110:Int)<(x.nd.d.vr.length:Int):=by omega
  by_cases q3:110<x.nd.d.typ.length
  ·have C:(110:Int)<(x.nd.d.typ.length:Int):=by omega
   simp -implicitDefEqProofs [c1,q1,g,c2,q2,u,c3,q3,C];exact bad (by rw [n];simp;omega)
  have C:¬(110:Int)<(x.nd.d.typ.length:Int):=by omega
  by_cases q4:420<x.nd.kids.length
  ·have U:(420:Int)<(x.nd.kids.length:Int):=by omega
   simp -implicitDefEqProofs [c1,q1,g,c2,q2,u,c3,q3,C,c5,hk.is,Y,q4,U];exact bad (by rw [n];simp;omega)
  have U:¬(420:Int)<(x.nd.kids.length:Int):=by omega
  simp -implicitDefEqProofs [c1,q1,g,c2,q2,u,c3,q3,C,c5,hk.is,Y,q4,U,qtV,rj,hwj];refine (hJ _ _ _).2 ⟨by simp [r0],by simp [r9],by simp [aa], ?_,Z.trans' hE2⟩;rw [htk,n];simp;omega
 ·have F:¬(j:Int)<(m:Int):=by omega
  have hjm:j=m:=by omega
  subst hjm;rw [O,ud] at c;simp -implicitDefEqProofs [qkp,rj,aa,qtT,r0,a,hl];rw [<-hRR];by_cases H:xs.length<=120
  ·have o:(xs.length:Int)<=120:=by omega
   simp [H,o];exact ⟨by rw [c];simp [H],Z⟩
  ·have o:¬(xs.length:Int)<=120:=by omega
   by_cases p2:400<xs.length
   ·have E:(400:Int)<(xs.length:Int):=by omega
    by_cases p3:xs.length<=410
    ·have S:(xs.length:Int)<=410:=by omega
     simp [H,o,p2,E,p3,S];exact ⟨by rw [c];simp [H,p2,p3],Z⟩
    ·have S:¬(xs.length:Int)<=410:=by omega
     simp [H,o,p2,E,p3,S];exact ⟨by rw [c];simp [H,p2,p3],Z⟩
   ·have E:¬(400:Int)<(xs.length:Int):=by omega
    simp [H,o,p2,E];exact ⟨by rw [c];simp [H,p2],Z⟩
noncomputable section
def qdN (b:ByteArray):qb b.data.toList=b:=by cases b;simp [qb]
section
variable {σ:Sg} {w0 w W:World} {s s':Sx}
theorem qCV (z:Iv σ w0 s w) (V:qc w W) {Y:Value} {t sz n i:Nat} {cs cs':List Value} (Z:qr σ cs cs') (ho:Own w.heap.size t sz W Y cs') (E:cs.length=n*sz) (h1:1<=cs.length) (A:sz≠0) {k:Option Nat} (h:kq s k ⟨cs,t,sz,false,false⟩=some (i,s')):
  ∃m,σ.le m/\Iv m w0 s' W/\VR m (.slice (some ⟨i,0,none⟩) n n) Y:=by
 have y:=Z.len;rcases ho with ⟨_,C⟩|⟨g,off,a,cap,cur,rfl,H,S,U,hnc,hcm,F,e⟩
 ·rw [C,List.length_nil] at y;omega
 ·have hn:a=n:=Nat.eq_of_mul_eq_mul_right (Nat.pos_of_ne_zero A) (by rw [<-E,y,<-U]);subst hn;obtain ⟨m,l,J,O⟩:=qfA z h (b:=g) (f:=off) (x:=cap - a) (z.mr.ext V) (z.ext.trans' V) (Nat.le_trans z.ext.size H) (fun j oj pj hj hp he=>by
   obtain ⟨p,u,hlt⟩:=z.mr.at' hj;rw [hp] at u;cases u;omega) fun m l J=>⟨fun hz=>absurd hz A,fun _=>⟨cur,J,S,by
    dsimp only;rw [E,e];exact Z.mono l,by
    dsimp only;rw [E];have:a*sz+(cap - a)*sz=cap*sz:=by rw [<-uX];congr 1;omega
    omega,(fun R=>by cases R),fun _=>⟨a,E,by omega⟩,(fun R=>by cases R)⟩⟩
  refine ⟨m,l,O, ?_⟩;have:=VR.slc (σ:=m) (o:=0) (n:=a) (c:=a) J (j1 _)
  rwa [show a+(cap - a)=cap by omega] at this
theorem qmO {a b c e:Value} (h:VR σ a c) (j:VR σ b e):VR σ (.tuple #[a,b]) (.tuple #[c,e]):=by
 obtain ⟨g,k⟩:=qr.arr (cs:=#[a,b]) (ds:=#[c,e]) ⟨h,j,trivial⟩;exact .tup g k
theorem qb8 {P:Program} {f:FuncId} {args:Array Value} {v:Value} (g:Iv σ w0 s w) (c:qcD v=true) (h:Calls P f args w fun e w'=>e=.returned v/\qc w w'):Calls P f args w (xz σ w0 (.ret v s)):=
 h.mono fun _ w' a=>⟨σ,v,Sg.le_refl σ,g.toExt a.2,QE c,a.1⟩
theorem qc4 {b:ByteArray} {args':List Value} (h:qr σ [.string b] args'):args'=[.string (qb b.data.toList)]:=by
 rw [qdN]
 match args',h with
 |[x],h=>rw [h.1.uniq (.pln (v:=.string b) rfl)]
def qeO:List Value->Option (List Bs)
 |[]=>some []
 | .string b::l=>match qeO l with|some r=>some (b.data.toList::r)|none=>none
 |_=>none
theorem qnq:∀{l g:List Value} {ss:List Bs},qr σ l g->qeO l=some ss->g=ss.map qi
 |[],[],ss,_,h=>by cases h;rfl
 |a::l,b::m,ss,e,h=>by
  unfold qeO at h;split at h
  ·rename_i c;cases c
  ·rename_i k l1 c;cases c;split at h
   ·rename_i r j;cases h;rw [qnq e.2 j,e.1.uniq (.pln (v:=.string k) rfl)];simp [qi,qdN]
   ·cases h
  ·cases h
def qgA:List Value->Option (List Int)
 |[]=>some []
 | .int .i64 n::l=>match qgA l with|some r=>some (n::r)|none=>none
 |_=>none
theorem qvU:∀{l j:List Value} {c:List Int},qr σ l j->qgA l=some c->j=c.map encI
 |[],[],c,_,h=>by cases h;rfl
 |a::l,b::m,c,g,h=>by
  unfold qgA at h;split at h
  ·rename_i e;cases e
  ·rename_i n l1 e;cases e;split at h
   ·rename_i r k;cases h;rw [qvU g.2 k,g.1.uniq (.pln (v:=.int .i64 n) rfl)];rfl
   ·cases h
  ·cases h
def qpA (H:vR) (k:Int) (a b c:ByteArray) (n:Int) (kv:Value):Option Nd:=
 match qai H 1 kv with
 |some ks=>match qgA ks with
  |some is=>bif decide (0<=k) then some ⟨⟨k.toNat,a.data.toList,b.data.toList,c.data.toList,n⟩,is⟩ else none
  |none=>none
 |none=>none
def qfz (H:vR):List Value->Option (List Nd)
 |[]=>some []
 | .int .u8 k:: .string a:: .string b:: .string c:: .int .i64 n::kv::l=>match qpA H k a b c n kv,qfz H l with
  |some x,some r=>some (x::r)
  |_,_=>none
 |_=>none
theorem qpy (Y:Iv σ w0 s w):∀(n:Nat) {l j:List Value} {z:List Nd},l.length<=n->qr σ l j->qfz s.H l=some z->∃xs:List NV,jH xs=j/\xs.map (·.nd)=z/\∀x∈xs,Cells w x.kv 1 (x.nd.kids.map encI)
 |0,l,j,z,R,o,h=>by
  obtain rfl:=uU.1 (Nat.le_zero.1 R);cases h;cases j with
  |nil=>exact ⟨[],rfl,rfl,fun x g=>by simp at g⟩
  |cons _ _=>exact o.elim
 |Z+1,l,j,z,R,o,h=>by
  unfold qfz at h;split at h
  ·cases h;cases j with
   |nil=>exact ⟨[],rfl,rfl,fun x g=>by simp at g⟩
   |cons _ _=>exact o.elim
  ·rename_i k a b c n kv l1;have S:l1.length<=Z:=by simp at R;omega
   obtain ⟨F,u,C,A,E,p,m,rfl⟩:∃F u C A E p m,j=F::u::C::A::E::p::m:=by
    have:=o.len
    match j,this with
    |F::u::C::A::E::p::m,_=>exact ⟨F,u,C,A,E,p,m,rfl⟩
    |[],e|[_],e|[_,_],e|[_,_,_],e|[_,_,_,_],e|[_,_,_,_,_],e=>simp at e
   obtain ⟨h1,h2,h3,h4,h5,h6,o⟩:=o;split at h
   ·rename_i x r g hr;cases h;obtain ⟨xs,e1,e2,e3⟩:=qpy Y Z S o hr;unfold qpA at g;split at g
    ·rename_i ks J;split at g
     ·rename_i is O;obtain ⟨V,g⟩:=ju g;have V:0<=k:=by simpa using V
      cases g;obtain ⟨ks',g1,g2⟩:=qc8 Y h6 J;refine ⟨⟨⟨⟨k.toNat,a.data.toList,b.data.toList,c.data.toList,n⟩,is⟩,p⟩::xs, ?_,by simp [e2],fun y U=>?_⟩
      ·show qk _++jH xs=_;rw [e1];have ek:((k.toNat:Nat):Int)=k:=Jt V;rw [h1.uniq (.pln (v:=.int .u8 k) rfl),h2.uniq (.pln (v:=.string a) rfl),h3.uniq (.pln (v:=.string b) rfl),h4.uniq (.pln (v:=.string c) rfl),h5.uniq (.pln (v:=.int .i64 n) rfl)];simp [qk,qdN,ek]
      ·rcases wh.1 U with rfl|U
       ·rw [<-qvU g2 O];exact g1
       ·exact e3 y U
     ·cases g
    ·cases g
   ·cases h
  ·cases h
end
def p53 (s:Sx):List Value->Option (Value×Sx)
 |[.string b]=>bif Nat.blt b.size 4611686018427387904&&Nat.ble 1 (qF (qp b.data.toList).toks).length&&(qF (qp b.data.toList).toks).all xP then
   (match kq s none ⟨qF (qp b.data.toList).toks,53,3,false,false⟩ with
   |some (i,s')=>some (.tuple #[.slice (some ⟨i,0,none⟩) (qp b.data.toList).toks.length (qp b.data.toList).toks.length,fV b.data.toList],s')
   |none=>none) else none
 |_=>none
def p77 (s:Sx):List Value->Option (Value×Sx)
 |[.string b]=>some (.bool (qg b.data.toList),s)
 |_=>none
def p22 (s:Sx):List Value->Option (Value×Sx)
 |[.string b]=>bif Nat.blt b.size 4611686018427387904 then some (.bool (qI b.data.toList),s) else none
 |_=>none
def p24 (s:Sx):List Value->Option (Value×Sx)
 |[.string b]=>bif Nat.blt b.size 4294967281 then some (.bool (vx b.data.toList),s) else none
 |_=>none
def p34 (s:Sx):List Value->Option (Value×Sx)
 |[v,.string b]=>match qai s.H 1 v with
  |some l=>match qeO l with
   |some ss=>bif Nat.ble ss.length 100000000000000&&Nat.ble (jl b.data.toList ss).length 100000000000000 then some (.string (qb (jl b.data.toList ss)),s) else none
   |none=>none
  |none=>none
 |_=>none
def qom (g:FuncId):Option (Nat->Bool):=bif Nat.beq g 65 then some qf else bif Nat.beq g 80 then some (qv 20) else none
def qgP (x:Nd):Bool:=decide (x.d.kind<256)&&decide (x.d.name.length<4294967281)&&decide (x.d.vr.length<4294967281)&&decide (x.d.typ.length<4294967281)&&decide (x.kids.length<=1000000)
def p64 (s:Sx):List Value->Option (Value×Sx)
 |[v,.func (.func g) fs cs]=>match qai s.H 6 v with
  |some l=>match qfz s.H l,qom g with
   |some ns,some root=>bif fs.isEmpty&&cs.isEmpty&&ns.all qgP then some (.bool (whole ns root),s) else none
   |_,_=>none
  |none=>none
 |_=>none
def qxz (b:Bs):Option Int:=match Lib.atoiAll b with| .ok n=>some n|_=>none
def qi1 (s:Sx):List Value->Option (Value×Sx)
 |[.string b]=>bif Nat.ble b.size 20 then (match qxz b.data.toList with|some n=>some (.tuple #[.int .i64 n,.nilIface],s)|none=>none) else none
 |_=>none
def GM (w:World):Prop:=L01.G w/\kF w
section
variable {σ:Sg} {w0 w:World} {s s':Sx} {args args':List Value} {v:Value}
theorem gm (c:GM w0) (a:Iv σ w0 s w):L01.G w/\kF w:=⟨c.1.ext a.ext,c.2.ext a.ext⟩
theorem qCN (o:GM w0) (e:Iv σ w0 s w) (l:qr σ args args') (h:p53 s args=some (v,s')):Calls Tryz.prog 53 args'.toArray w (xz σ w0 (.ret v s')):=by
 unfold p53 at h;split at h
 ·rename_i b;obtain ⟨a,h⟩:=ju h;simp only [j0,uZ,Jo] at a;rw [qc4 l];split at h
  ·rename_i i y j;cases h;refine (L01.qhT (gm o e).1 b.data.toList a.1.1).mono ?_;rintro _ W ⟨u,rfl,p,k⟩;obtain ⟨x,g,c,m⟩:=qCV (n:=(qp b.data.toList).toks.length) e k (qbh a.2) p (L01.jA _) a.1.2 (by decide) j;exact ⟨x,_,g,c,qmO m (QE rfl),rfl⟩
  ·cases h
 ·cases h
theorem qCL (c:GM w0) (a:Iv σ w0 s w) (e:qr σ args args') (h:p77 s args=some (v,s')):Calls Tryz.prog 77 args'.toArray w (xz σ w0 (.ret v s')):=by
 unfold p77 at h;split at h
 ·rename_i b;cases h;rw [qc4 e];exact qb8 a rfl (L01.qa1 (gm c a).1 b.data.toList)
 ·cases h
theorem qCR (c:GM w0) (a:Iv σ w0 s w) (e:qr σ args args') (h:p22 s args=some (v,s')):Calls Tryz.prog 22 args'.toArray w (xz σ w0 (.ret v s')):=by
 unfold p22 at h;split at h
 ·rename_i b;obtain ⟨g,h⟩:=ju h;cases h;rw [qc4 e];exact qb8 a rfl (qfq (gm c a).1 b.data.toList (by simpa [Jo] using g))
 ·cases h
theorem qCQ (c:GM w0) (a:Iv σ w0 s w) (e:qr σ args args') (h:p24 s args=some (v,s')):Calls Tryz.prog 24 args'.toArray w (xz σ w0 (.ret v s')):=by
 unfold p24 at h;split at h
 ·rename_i b;obtain ⟨g,h⟩:=ju h;cases h;rw [qc4 e];exact qb8 a rfl (qpf (gm c a).1 (gm c a).2 b.data.toList (by simpa [Jo] using g))
 ·cases h
theorem qCO (j:Iv σ w0 s w) (a:qr σ args args') (h:p34 s args=some (v,s')):Calls Tryz.prog 34 args'.toArray w (xz σ w0 (.ret v s')):=by
 unfold p34 at h;split at h
 ·rename_i u b;split at h
  ·rename_i l k;split at h
   ·rename_i ss c;obtain ⟨e,h⟩:=ju h;cases h;simp only [j0,uZ] at e
    match args',a with
    |[x,y],a=>
     obtain ⟨o,g,m⟩:=qc8 j a.1 k;rw [qnq m c] at g;have n:y=.string (qb b.data.toList):=by rw [qdN];exact a.2.1.uniq (.pln (v:=.string b) rfl)
     subst n;exact qb8 j rfl (qpe b.data.toList g e.1 e.2)
   ·cases h
  ·cases h
 ·cases h
theorem qCM (A:GM w0) (j:Iv σ w0 s w) (m:qr σ args args') (h:p64 s args=some (v,s')):Calls Tryz.prog 64 args'.toArray w (xz σ w0 (.ret v s')):=by
 unfold p64 at h;split at h
 ·rename_i u g fs cs;split at h
  ·rename_i l C;split at h
   ·rename_i V root o a;obtain ⟨z,h⟩:=ju h;cases h;simp only [j0,J9] at z;obtain ⟨⟨rfl,rfl⟩,F⟩:=z
    match args',m with
    |[x,y],m=>
     obtain ⟨U,O,E⟩:=qc8 j m.1 C;obtain ⟨xs,S,p,H⟩:=qpy j l.length (j1 _) E o;have J:y=qT g #[]:=m.2.1.uniq (QE (v:=.func (.func g) #[] #[]) rfl);subst J;have R:xd w (qT g #[]) root:=by
      unfold qom at a;cases e:Nat.beq g 65 with
      |true=>
       rw [e] at a;cases a;rw [uo e];exact qfN
      |false=>
       rw [e] at a;obtain ⟨n,a⟩:=ju (b:=Nat.beq g 80) a;cases a;rw [uo n];exact qqa
     have c:∀x∈xs,qgP x.nd=true:=fun x k=>um.1 F x.nd (by rw [<-p];exact un.2 ⟨x,k,rfl⟩);have:=qiY (gm A j).1 (gm A j).2 (xs:=xs) ⟨by rw [S];exact O,H⟩ (fun x k=>by
      have:=c x k;simp only [qgP,j0,kr] at this;exact ⟨this.1.1.1.1,this.1.1.1.2,this.1.1.2,this.1.2⟩) (fun x k=>by
      have:=c x k;simp only [qgP,j0,kr] at this;exact this.2) R
     rw [p] at this;exact qb8 j rfl this
   ·cases h
  ·cases h
 ·cases h
theorem qCP (j:Iv σ w0 s w) (c:qr σ args args') (h:qi1 s args=some (v,s')):Calls Tryz.prog 273 args'.toArray w (xz σ w0 (.ret v s')):=by
 unfold qi1 at h;split at h
 ·rename_i b;obtain ⟨g,h⟩:=ju h;split at h
  ·rename_i n a;cases h;rw [qc4 c];unfold qxz at a;split at a
   ·rename_i m k;cases a;refine qb8 j rfl ((qpc (by simpa [uZ] using g) k).mono ?_);rintro _ W ⟨e,rfl⟩;exact ⟨rfl,e⟩
   ·cases a
  ·cases h
 ·cases h
end
end
def qdH {s:Sx} {i:Nat} {o:Ob} (h:qbq s i o=true):s.H.get i=some o:=by
 unfold qbq at h;split at h
 ·rename_i p a;rw [a,qdG h]
 ·cases h
def q54:TrP:=⟨54,83,4,3,85,153⟩
def qJL {c:List PanicEntry} (h:chainB q54 c=true):c=QR:=by
 unfold chainB at h;split at h
 ·rename_i p;obtain ⟨v,e,g⟩:=p;simp only [j0,uE] at h;obtain ⟨⟨a,rfl⟩,rfl⟩:=h;split at a
  ·rename_i t cs;simp only [j0,ur,J9] at a;obtain ⟨rfl,rfl⟩:=a;rfl
  ·cases a
 ·cases h
def qfw {σ:Sg} {w0 w:World} {s:Sx} (k:Iv σ w0 s w) {i b:Nat} {v:Value} {t:TypeId} (h:s.H.get i=some ⟨[v],t,1,true,false⟩) (j:xP v=true) (c:σ i=some (b,0,0)):Blk w b #[v] t:=by
 obtain ⟨l,cs',g,e,a⟩:=qef k h rfl (show (1:Nat)≠0 by decide);rw [c] at g;cases g
 match cs',e,a with
 |[x],e,a=>
  rw [e.1.uniq (.pln j)] at a;exact a
def qyA {r:Sx->Tk->Option Ou} (hr:Sound Tryz.prog GM r) {s:Sx} {o:Ou} {σ:Sg} {w0 w:World} (hg:GM w0) (hI:Iv σ w0 s w) {b B g i f n:Nat} {cs:List Value} {ds:Array Value} {tv' V:Value} (hσB:σ b=some (B,0,0)) (hB:Blk w B #[tv',.int .i64 (i:Int),.int .i64 (f:Int),V] 85)
  (hsl:qu V=true) (hln:ql V=n) (hcs:qr σ cs ds.toList) (hcb:qh Tryz.prog g=true) (h:qhD r s q54 b g cs (i:Int) n=some o):
  Calls Tryz.prog 54 #[.pointer (some ⟨B,0,none⟩),.func (.func g) #[] ds] w (xz σ w0 o):=by
 unfold qhD at h;split at h
 ·cases h
 rename_i iA s1 n1;split at h
 ·cases h
 rename_i iY s2 n2;split at h
 ·cases h
 rename_i iN s3 n3;split at h
 ·cases h
 rename_i iM s4 n4;generalize hR:xz σ w0 o=R;refine qjR fun ρ r0 r1 rg=>?_;simp [qdV,r0];refine vO fun A W1 hA hE1 hbA hA1=>?_;simp [Value.cells,r0] at hbA;simp;refine qX z4 fun Y W2 hY hE2 hbY hY1=>?_;simp;have hB2:=hB.ext (hE1.trans' hE2);have hA2:=hbA.ext hE2;refine vZ (hpn:=qhG (by decide)) qjQ (fun W=>Blk W A #[.pointer (some ⟨B,0,none⟩)] 83/\Blk W B #[tv',.int .i64 (i:Int),.int .i64 (f:Int),V] 85) fun W3 hE3 _=>?_;have C:=hB2.ext hE3;have y:=hA2.ext hE3;have hY3:=hbY.ext hE3;have hJ:Blk W3 A #[.pointer (some ⟨B,0,none⟩)] 83/\Blk W3 B #[tv',.int .i64 (i:Int),.int .i64 (f:Int),V] 85:=⟨y,C⟩;refine ⟨hJ, ?_⟩;have cA:∀W,(Blk W A #[.pointer (some ⟨B,0,none⟩)] 83/\Blk W B #[tv',.int .i64 (i:Int),.int .i64 (f:Int),V] 85)->W.cell? ⟨A,0,none⟩=some (.pointer (some ⟨B,0,none⟩))/\W.cell? ⟨B,1,none⟩=some (.int .i64 (i:Int))/\W.cell? ⟨B,3,none⟩=some V:=fun W h=>⟨by rw [h.1.cell];rfl,by rw [h.2.cell];rfl,by rw [h.2.cell];rfl⟩;simp+contextual -implicitDefEqProofs [qf5,cA,hJ,hsl];have rest:∀(J:qa) (W4:World) (X5 X6:Nat),qc W3 W4->W3.heap.size<=X5->W3.heap.size<=X6->X5≠X6->Blk W4 X5 #[.int .i64 (i:Int)] 3->Blk W4 X6 #[.int .i64 (n:Int)] 3->J 1=ρ 1->J 2=.pointer (some ⟨A,0,none⟩)->J 4=.pointer (some ⟨Y,0,none⟩)->J 5=.pointer (some ⟨X5,0,none⟩)->J 6=.pointer (some ⟨X6,0,none⟩)->J gS=.tuple #[]->
   qbr.wp ⟨Tryz.prog,19,qbs,y6⟩ (vz Tryz.prog [.cell1 4] R .returning) (xj Tryz.prog [.cell1 4] R) J W4:=by
  intro J W4 X5 X6 k q5 q6 q56 aa z e1 e2 e4 e5 e6 eg;have hA4:=y.ext k;have hY4:=hY3.ext k;have hE04:qc w W4:=((hE1.trans' hE2).trans' hE3).trans' k;have z1:=hE1.size;have z2:=hE2.size;have z3:=hE3.size;have hI4:=hI.toExt hE04;have wle:=hI.ext.size;have low:∀j o p,s.H.get j=some o->σ j=some p->p.1<w.heap.size:=fun j o p hj hp=>by
   obtain ⟨q,hq,hlt⟩:=hI.mr.at' hj;rw [hp] at hq;cases hq;exact hlt
  obtain ⟨τ1,l1,i1,I1,d1⟩:=qfi (cs':=[.pointer (some ⟨B,0,none⟩)]) hI4 n1 (b:=A) (by omega) (fun j oj pj hj hp=>by have:=low j oj pj hj hp;omega) hA4 ⟨qaq hσB,trivial⟩;obtain ⟨τ2,l2,i2,I2,d2⟩:=qfi (cs':=[.bool false]) I1 n2 (b:=Y) (by omega) (fun j oj pj hj hp=>by
   rcases d1 j oj pj hj hp with e|⟨a1,a2⟩
   ·omega
   ·have:=low j oj pj a1 a2;omega) hY4 ⟨.pln rfl,trivial⟩
  have d2':∀j o p,s2.H.get j=some o->τ2 j=some p->p.1<W2.heap.size:=fun j o p hj hp=>by
   rcases d2 j o p hj hp with e|⟨a1,a2⟩
   ·omega
   ·rcases d1 j o p a1 a2 with e|⟨b1,b2⟩
    ·omega
    ·have:=low j o p b1 b2;omega
  obtain ⟨τ3,l3,i3,I3,d3⟩:=qfi (cs':=[.int .i64 (i:Int)]) I2 n3 (b:=X5) (by omega) (fun j oj pj hj hp=>by have:=d2' j oj pj hj hp;omega) aa ⟨.pln rfl,trivial⟩;obtain ⟨τ4,l4,i4,I4,d4⟩:=qfi (cs':=[.int .i64 (n:Int)]) I3 n4 (b:=X6) (by omega) (fun j oj pj hj hp=>by
   rcases d3 j oj pj hj hp with e|⟨a1,a2⟩
   ·omega
   ·have:=d2' j oj pj a1 a2;omega) z ⟨.pln rfl,trivial⟩
  have l04:σ.le τ4:=Sg.le_trans l1 (Sg.le_trans l2 (Sg.le_trans l3 l4));simp [qbr];refine qgL (f:=116) (caps:=#[.pointer (some ⟨X5,0,none⟩),.pointer (some ⟨A,0,none⟩),.pointer (some ⟨X6,0,none⟩),.pointer (some ⟨Y,0,none⟩)]) (by simp [e2,e4,e5,e6]) trivial ?_;have eg':J 1000000000=.tuple #[]:=eg;simp [gS,e1,r1,eg'];refine kL (f:=g) hcb (fs:=#[]) (caps:=ds) (by simp) ?_;simp;cases ho:r s4 (.call g cs) with
  |none=>rw [ho] at h;cases h
  |some o1=>
   rw [ho] at h;have Z:=hr.call _ _ _ _ ho τ4 w0 W4 ds.toList hg I4 (hcs.mono l04);rw [Array.toArray_toList] at Z;refine Z.mono ?_;cases o1 with
   |ret v s'=>
    rintro e w5 ⟨τ,v',hl,E,hv',rfl⟩;obtain ⟨hc,h⟩:=ju h;simp only [j0] at hc;obtain ⟨⟨c1,c2⟩,c3⟩:=hc;cases h;have hYo:=qdH c1;have iY5:=hl _ _ (l4 _ _ (l3 _ _ i2));have hY5:=qfw E hYo rfl iY5;simp;refine qW (B:=Y) (i:=0) (by simp [e4]) hY5 (by simp) (by simp [Value.cells]) (by simp) sz4 fun W6 u z=>?_;simp at z;simp [xj,vz,gS,e4];refine vu (by simp) qcH (qlN.mono ?_);rintro e u' w' ⟨⟨v,rfl⟩,rfl,rfl⟩;refine qaA ?_;have cY:w'.cell? ⟨Y,0,none⟩=some (.bool true):=by rw [z.cell];rfl
    simp [qB,vY,RV.val,e4,cY,yu,<-hR];exact ⟨τ,.bool true,Sg.le_trans l04 hl,qwI E hYo (ym c2) iY5 u,.pln rfl,rfl⟩
   |pn c s'=>
    rintro e w5 ⟨τ,hl,E,rfl⟩;obtain ⟨hc,h9⟩:=ju h;simp only [j0,uE] at hc;obtain ⟨⟨⟨⟨⟨c1,c2⟩,c3⟩,c4⟩,c5⟩,c6⟩:=hc;obtain rfl:=qJL c1;have hYo:=qdH c3;have iY5:=hl _ _ (l4 _ _ (l3 _ _ i2));have hY5:=qfw E hYo rfl iY5;have h55:=qfw E (qdH c4) rfl (hl _ _ (l4 _ _ i3));have h56:=qfw E (qdH c5) rfl (hl _ _ i4);have F:τ b=some (B,0,0):=hl _ _ (l04 _ _ hσB);have hA5:Blk w5 A #[.pointer (some ⟨B,0,none⟩)] 83:=by
     obtain ⟨b',cs',g1,g2,g3⟩:=qef E (qdH c2) rfl (show (1:Nat)≠0 by decide);rw [hl _ _ (l4 _ _ (l3 _ _ (l2 _ _ i1)))] at g1;cases g1
     match cs',g2,g3 with
     |[x],g2,g3=>
      rw [g2.1.uniq (qaq F)] at g3;exact g3
    unfold qxv at h9;split at h9
    ·rename_i ob hob;split at h9
     ·rename_i tv i' far a m c hcl;split at h9
      ·rename_i nv2 hsub;obtain ⟨hc,h8⟩:=ju h9;cases h8;simp only [j0,kr,uZ] at hc;obtain ⟨⟨⟨⟨⟨g1,g2⟩,g3⟩,g4⟩,g5⟩,g6⟩:=hc;have hobe:=qdG g6;subst hobe;obtain ⟨b',cs',k1,k2,k3⟩:=qef E hob rfl (show (1:Nat)≠0 by decide);rw [F] at k1;cases k1
       match cs',k2,k3 with
       |[tx,x1,x2,nx],k2,k3=>
        obtain ⟨v1,v2,v3,v4,_⟩:=k2;obtain ⟨j,rfl⟩:=Js g1;obtain ⟨f2,rfl⟩:=Js g2;have u2:=v2.uniq (.pln (v:=.int .i64 (j:Int)) rfl);have u3:=v3.uniq (.pln (v:=.int .i64 (f2:Int)) rfl);subst u2;subst u3;obtain ⟨hsx,hlx⟩:=qeS v4;obtain ⟨m1,m2,m3,m4,nv2',m5,m6⟩:=qh0 v4 hsub;simp [xj,vz,gS,e4];refine vu (by simp) qcH ((qlM (n:=n) h55 hA5 h56 (.inr hY5) k3 hsx (by rw [hlx];exact g3)).mono ?_);rintro e u' w' ⟨⟨v,rfl⟩,hu,W6,W7,hE6,S,O,hO8,hb8⟩;show vB _ _ _ _ [] (settle u') w';rw [hu];refine qaA ?_;have cY:w'.cell? ⟨Y,0,none⟩=some (.bool false):=by rw [hb8.cell];rfl
        simp [qB,vY,RV.val,e4,cY,yu,<-hR];have hI6:=E.toExt hE6;have hm5:qZ nx 6 0 n (qy nx)=nv2':=by simpa using m5
        rw [hm5] at O;have hI7:Iv τ w0 ⟨s'.H.set b ⟨[tv,.int .i64 (i:Int),.int .i64 (f2:Int),nv2],q54.tt,1,true,false⟩,s'.nx,s'.rs⟩ W7:=by
         refine qlT hI6 hob (ym g4) F S ⟨(fun hz=>by cases hz),fun _=>⟨_,F,O.heap, ?_,by simp,fun _=>⟨rfl,rfl,by simp⟩,(fun hw=>by cases hw),(fun hx=>by cases hx)⟩⟩;exact ⟨v1,.pln rfl,.pln rfl,m6,trivial⟩
        have hYo2:(s'.H.set b ⟨[tv,.int .i64 (i:Int),.int .i64 (f2:Int),nv2],q54.tt,1,true,false⟩).get iY=some ⟨[.bool false],q54.tb,1,true,false⟩:=by
         rw [Tr.get_set _ _ (ym g4),if_neg (fun e=>by rw [e] at c6;simp at c6)];exact hYo
        exact ⟨τ,.bool false,Sg.le_trans l04 hl,qwI hI7 hYo2 (ym g5) iY5 hO8,.pln rfl,rfl⟩
      ·cases h9
     ·cases h9
    ·cases h9
   |go e s'=>exact fun e w h=>h.elim
   |ex j e s'=>exact fun e w h=>h.elim
   |rt e s'=>exact fun e w h=>h.elim
 refine ⟨?_, ?_⟩
 ·refine qX z3 fun X5 W4 hX5 k hb4 hs4=>⟨⟨y.ext k,C.ext k⟩, ?_⟩;refine qX z3 fun X6 W5 hX6 l aa hs5=>⟨⟨(y.ext k).ext l,(C.ext k).ext l⟩, ?_⟩;have l5:W3.heap.size<=X5:=hX5;have U:X5≠X6:=by omega
  have z4:=k.size;refine qW (B:=X5) (i:=0) (by simp) (hb4.ext l) (by simp) (by simp [Value.cells]) (by simp) vp fun W6 u z=>?_;simp at z;have hA6:=u.blk ((y.ext k).ext l) (by have:=y.lt;omega);have hB6:=u.blk ((C.ext k).ext l) (by have:=C.lt;omega);refine ⟨⟨hA6,hB6⟩, ?_⟩;refine qW (B:=X6) (i:=0) (by simp) (u.blk aa (Ne.symm U)) (by simp) (by simp [Value.cells]) (by simp) vp fun W7 S O=>?_;simp [hln] at O;exact rest _ W7 X5 X6 (S.ext (u.ext (k.trans' l) l5) (by omega)) l5 (by omega) U (S.blk z U) O (by simp) (by simp) (by simp) (by simp) (by simp) (by simp [gS] at rg⊢;exact rg)
 ·refine qX z3 fun X6 W4 hX6 k hb4 hs4=>⟨⟨y.ext k,C.ext k⟩, ?_⟩;refine qX z3 fun X5 W5 hX5 l aa hs5=>⟨⟨(y.ext k).ext l,(C.ext k).ext l⟩, ?_⟩;have z4:=k.size;have l5:W3.heap.size<=X5:=by omega
  have U:X6≠X5:=by omega
  refine qW (B:=X5) (i:=0) (by simp) aa (by simp) (by simp [Value.cells]) (by simp) vp fun W6 u z=>?_;simp at z;have hA6:=u.blk ((y.ext k).ext l) (by have:=y.lt;omega);have hB6:=u.blk ((C.ext k).ext l) (by have:=C.lt;omega);refine ⟨⟨hA6,hB6⟩, ?_⟩;refine qW (B:=X6) (i:=0) (by simp) (u.blk (hb4.ext l) U) (by simp) (by simp [Value.cells]) (by simp) vp fun W7 S O=>?_;simp [hln] at O;exact rest _ W7 X5 X6 (S.ext (u.ext (k.trans' l) l5) hX6) l5 hX6 (Ne.symm U) (S.blk z (Ne.symm U)) O (by simp) (by simp) (by simp) (by simp) (by simp) (by simp [gS] at rg⊢;exact rg)
def t54:qmd Tryz.prog GM (some q54):=by
 intro q hq r hr s args o h σ w0 w args' hg O z;cases hq;unfold qhC at h;split at h
 ·rename_i b g fs cs;split at h
  ·rename_i ob u;unfold qmP at h;split at h
   ·rename_i tv at0 far a n c p;obtain ⟨R,h9⟩:=ju h;simp only [j0,J9,kr] at R;obtain ⟨⟨⟨⟨rfl,h0⟩,h1⟩,J⟩,e⟩:=R;have e:=qdG e;subst e;obtain ⟨B,E,l,m,k⟩:=qef O u rfl (show (1:Nat)≠0 by decide)
    match E,m,k with
    |[tv',x1,x2,aa],m,k=>
     obtain ⟨ht,e1,e2,Y,_⟩:=m;obtain ⟨i,rfl⟩:=Js h0;obtain ⟨f,rfl⟩:=Js h1;have u1:=e1.uniq (.pln (v:=.int .i64 (i:Int)) rfl);have U:=e2.uniq (.pln (v:=.int .i64 (f:Int)) rfl);subst u1;subst U;obtain ⟨F,H⟩:=qeS Y
     match args',z with
     |[y1,y2],z=>
      obtain ⟨C,A,_⟩:=z;have Z:=C.uniq (qaq l);subst Z;cases A with
      |pln V=>cases V
      |fnc k1 k2 k3 k4=>
       rename_i S ds;have:S=#[]:=Array.eq_empty_of_size_eq_zero (by simpa using k1.symm);subst this;exact qyA (cs:=cs.toList) hr hg O l k F H (qr.of (by simpa using k3) fun j x y hx hy=>k4 j x y (by simpa using hx) (by simpa using hy)) J h9
   ·cases h
  ·cases h
 ·cases h
def qJK {w:World} {b:Nat} {p v:Value} (c:p=.pointer none\/p=.pointer (some ⟨b,0,none⟩)) (a:Blk w b #[p,v] 114):
  Calls Tryz.prog 177 #[.pointer (some ⟨b,0,none⟩)] w fun e w'=>e=.returned (.tuple #[])/\Blk w' b #[.pointer (some ⟨b,0,none⟩),v] 114/\Only b w w':=by
 rcases c with rfl|rfl
 ·refine (L01.qxx b w (by rw [a.cell];rfl) (by simp [World.shape?,a.heap]) (by simp [World.frozen?,a.heap])).mono ?_;rintro _ _ ⟨rfl,rfl⟩;exact ⟨rfl,by simpa using qg2 a 0 (.pointer (some ⟨b,0,none⟩)),qfu _ _ _ _⟩
 ·refine (L01.ql2 b w (by rw [a.cell];rfl)).mono ?_;rintro _ _ ⟨rfl,rfl⟩;exact ⟨rfl,a,Only.refl _ _⟩
def qyb {w:World} {B b:Nat} {v:Value} {bs:Bs} {rest:List Value} {T:TypeId} (s:Bs) (hB:B<=b) (hblt:b<w.heap.size) (y:w.ownsRow B 5 1 v bs.length (bs.map jn)) (o:v.ownBlock≠some b)
  (A:Calls Tryz.prog 177 #[.pointer (some ⟨b,0,none⟩)] w fun e w'=>e=.returned (.tuple #[])/\Blk w' b (.pointer (some ⟨b,0,none⟩)::v::rest).toArray T/\Only b w w') (hlen:bs.length+s.length<=100000000000000) (hBw:B<=w.heap.size):
  Calls Tryz.prog 89 #[.pointer (some ⟨b,0,none⟩),.string (qb s)] w fun e w'=>e=.returned (.tuple #[.int .i64 s.length,.nilIface])/\∃c,Blk w' b (.pointer (some ⟨b,0,none⟩)::c::rest).toArray T/\w'.ownsRow B 5 1 c (bs++s).length ((bs++s).map jn)/\c.ownBlock≠some b/\Below B w w'/\
   (∀k,k<w.heap.size->k≠b->v.ownBlock≠some k->w'.heap[k]? =w.heap[k]?)/\(c.ownBlock=v.ownBlock\/c.ownBlock=some w.heap.size):=by
 refine L01.qqM fun ρ h0 h1=>?_;simp [L01.qjA,h0];refine A.mono ?_;rintro _ w1 ⟨rfl,R,l⟩;have V:w1.cell? ⟨b,1,none⟩=some v:=by rw [R.cell];rfl
 simp [h0,h1,V];obtain ⟨i,hi,hz,hs,Z⟩:=qd2;have S:=l.size;have U:=R.lt;have u:(qb s).size=s.length:=rfl;have j:w1.ownsRow B 5 1 v bs.length (bs.map jn):=qdC y fun k E=>l.block k fun e=>o (by rw [E,e]);obtain ⟨c,W3,hr,n,p,H⟩:=Lib.run_append_own_string (P:=Tryz.prog) w1 B 112 9 112 5 i Tryz.underlying112 Tryz.underlying9 hi hz hs Z v bs.length (bs.map jn) (by simpa using j) (qb s) (by rw [u];simp only [maxLen];omega) (by rw [u];omega) (by omega);have z:=qKE (qb s) j (by rw [u];omega) hr H;rw [S] at z;have a:W3.ownsRow B 5 1 c (bs++s).length ((bs++s).map jn):=by simpa [L01.qh1] using n
 have Y:Blk W3 b (.pointer (some ⟨b,0,none⟩)::v::rest).toArray T:=⟨(p.block b U (fun e=>o e.symm)).trans R.heap⟩;refine jQ (v:=c) (w':=W3) (by simp [execOp,qN,resolve,invoke,builtin,hr]) ?_;have C:c.cells=#[c]/\c.oneCell=true:=by
  rcases a.2 with ⟨rfl,_⟩|⟨g,cap,cur,rfl,_⟩<;>exact ⟨rfl,rfl⟩
 simp;refine qW (B:=b) (i:=1) (by simp) Y (by simp) (by simp;exact C.1) (by simp;exact C.2) L01.qhX fun W4 x J=>?_;simp [h1] at J⊢;have m:c.ownBlock≠some b:=by
  rcases z with h|h
  ·rw [h];exact o
  ·rw [h];simp;omega
 have h3:Below B w W3:=(yh l hB).grown p (by omega) fun k E=>(j.lt k E).1;refine ⟨c,J,by simpa using qdC a (fun k E=>x.block k fun e=>m (by rw [E,e])),m,Below.trans h3 (yh x hB),fun k hk1 F O=>?_,z⟩;exact (x.block k F).trans ((p.block k (by omega) (fun e=>O e.symm)).trans (l.block k F))
def qzp {b g cap:Nat} {cur:Array Value} {bs:Bs} {w:World} (a:w.cell? ⟨b,1,none⟩=some (.slice (some ⟨g,0,none⟩) bs.length cap)) (A:w.heap[g]? =some (.cells cur 5 (0,0))) (J:bs≠[]) (F:bs.length<=cap) (y:cap<=maxLen) (O:cur.size=cap*1) (l:cur.toList.take (bs.length*1)=bs.map jn):
  Calls Tryz.prog 90 #[.pointer (some ⟨b,0,none⟩)] w fun e w'=>e=.returned (.string (qb bs))/\Below g w w'/\∀k,k≠g->w'.heap[k]? =w.heap[k]? :=by
 have R:0<bs.length:=Jn.2 J;refine qEu fun ρ r0=>?_;simp -implicitDefEqProofs [qqL];refine vZ qEt (fun W=>W.heap=w.heap) fun w1 h c=>⟨c, ?_⟩;have H:∀W:World,W.heap=w.heap->W.cell? ⟨b,1,none⟩=some (.slice (some ⟨g,0,none⟩) bs.length cap):=fun W e=>by
  rw [<-a];simp only [World.cell?,e]
 have u:qu (.slice (some ⟨g,0,none⟩) bs.length cap)=true:=by simp [qu,F]
 have E:ql (.slice (some ⟨g,0,none⟩) bs.length cap)=bs.length:=rfl;simp+contextual -implicitDefEqProofs [qqH,r0,H,H w1 c,u,E];have C:(Builtin.unsafeSliceData_ #[112] 196 #[.slice (some ⟨g,0,none⟩) bs.length cap]).run Tryz.prog w1=.ok (.pointer (some ⟨g,0,none⟩)) w1:=
  Lib.run_unsafeSliceData_row _ _ _ _ _ _ (by omega)
 refine qwz ?_;refine jQ (v:=.pointer (some ⟨g,0,none⟩)) (w':=w1) (by simp [execOp,qN,resolve,invoke,builtin,C]) ?_;refine ⟨c, ?_⟩;have m:w1.heap[g]? =some (.cells cur 5 (0,0)):=by rw [c];exact A
 have o:(Builtin.unsafeString_ #[196,3] 9 #[.pointer (some ⟨g,0,none⟩),.int .i64 bs.length]).run Tryz.prog w1=.ok (.string ⟨bs.toArray⟩) (w1.freeze ⟨g,0,none⟩ bs.length):=by
  refine Lib.run_unsafeString_row w1 196 3 9 5 Tryz.underlying196 (by kernel_rfl) g cur.size (by simp [World.shape?,m]) bs J (by omega) (by unfold maxLen at y;omega) ?_;intro j x S;have a:cur.toList[j]? =some (jn x):=by
   have n:(bs.map jn)[j]? =some (jn x):=by simp [S]
   rw [<-l,JU] at n;split at n
   ·exact n
   ·cases n
  simp only [World.cell?,kg,ut,m];simpa [jn] using a
 refine qwz ?_;refine jQ (v:=.string ⟨bs.toArray⟩) (w':=w1.freeze ⟨g,0,none⟩ bs.length) (by simp [execOp,qN,resolve,invoke,builtin,o]) ?_;simp -implicitDefEqProofs [qqI];refine ⟨rfl,Lib.below_freeze (⟨h.os,h.tape,h.output,h.size,fun k _=>by rw [c]⟩:Below g w w1) (p:=⟨g,0,none⟩) (j1 _) _,fun k z=>?_⟩;rw [<-c];unfold World.freeze;split
 ·rfl
 ·simp only [J7];rw [if_neg (by simpa using fun e=>z e.symm)]
section
variable {σ:Sg} {w0 w:World} {s s':Sx} {args args':List Value} {v:Value}
def qlX:Value->Option UInt8
 | .int .u8 k=>bif decide (0<=k)&&decide (k<256) then some (UInt8.ofNat k.toNat) else none
 |_=>none
def qgX:List Value->Option Bs
 |[]=>some []
 |a::l=>match qlX a,qgX l with|some c,some r=>some (c::r)|_,_=>none
theorem qJZ {a:Value} {c:UInt8} (h:qlX a=some c):a=jn c:=by
 unfold qlX at h;split at h
 ·rename_i k;obtain ⟨e,h⟩:=ju h;simp only [j0,kr] at e;cases h;have:k.toNat<256:=by omega
  simp only [jn,Value.int.injEq,true_and];rw [UInt8.toNat_ofNat',Nat.mod_eq_of_lt (by simpa using this),Jt e.1]
 ·cases h
theorem qw5:∀{l g:List Value} {bs:Bs},qr σ l g->qgX l=some bs->g=bs.map jn
 |[],[],bs,_,h=>by cases h;rfl
 |a::l,b::m,bs,e,h=>by
  unfold qgX at h;split at h
  ·rename_i c r n k;cases h;have j:=qJZ n;subst j;rw [qw5 e.2 k,e.1.uniq (.pln (v:=jn c) rfl)];rfl
  ·cases h
noncomputable def qee (s:Sx):Value->Option (Bs×vR)
 | .slice none 0 0=>some ([],s.H)
 | .slice (some ⟨j,0,none⟩) n c=>match s.H.get j with
  |some ob=>bif ob.ex&&Nat.beq ob.ty 5&&Nat.beq ob.sz 1&& !ob.whole&&Nat.beq n ob.cells.length&&Nat.beq c n&&Nat.blt j vV then
    (match qgX ob.cells with|some bs=>some (bs,s.H.del j)|none=>none) else none
  |none=>none
 |_=>none
theorem qw8 (F:Iv σ w0 s w) {u J:Value} (hv:VR σ u J) {bs:Bs} {H:vR} (h:qee s u=some (bs,H)):
  w.ownsRow w0.heap.size 5 1 J bs.length (bs.map jn)/\(∀j o,H.get j=some o->s.H.get j=some o)/\(∀j o p,H.get j=some o->σ j=some p->some p.1≠J.ownBlock)/\(∀b i o,s.H.get i=some o->σ i=some (b,0,0)->o.ty≠5->J.ownBlock≠some b/\(∃o',H.get i=some o'/\o'=o)):=by
 unfold qee at h;split at h
 ·cases h;cases hv with
  |pln _=>exact ⟨⟨by simp,.inl ⟨rfl,rfl⟩⟩,fun _ _ h=>h,fun _ _ _ _ _=>by simp [Value.ownBlock],fun b i o g y ht=>⟨by simp [Value.ownBlock],o,g,rfl⟩⟩
 ·rename_i j n c;split at h
  ·rename_i ob a;obtain ⟨hc,Z⟩:=ju h;simp only [j0,uE] at hc;obtain ⟨⟨⟨⟨⟨⟨c1,c2⟩,c3⟩,c4⟩,c5⟩,c6⟩,z⟩:=hc;have c2:=uo c2;have c3:=uo c3;have c5:=uo c5;have c6:=uo c6;have z:=ym z;subst c6;split at Z
   ·rename_i bs1 O;cases Z;cases hv with
    |pln h'=>cases h'
    |slc y hn=>
     rename_i b f x;obtain ⟨b1,f1,x1,cur,m⟩:=(F.mr j ob a).2 (by rw [c3];decide);have C:=m.at';rw [y] at C;cases C;obtain ⟨Y,V⟩:=m.exact c1;subst Y;rw [c3,y0] at V;obtain ⟨n0,aa,hm0⟩:=m.most c4;rw [c3,y0] at aa;have k:=m.cs;simp only [List.drop_zero] at k;have A:=qw5 k O;have l:bs.length=ob.cells.length:=by
      have:=congrArg List.length A;rw [uF,Array.length_toList,uh] at this;omega
     refine ⟨⟨by simp,.inr ⟨b,c+x,cur,by rw [c5,l],F.own j ob _ a y,by rw [<-c2];exact m.heap,by omega,by omega,by omega, ?_⟩⟩,fun i o g=>(get_del z g).2,fun i o p g U he=>?_,fun b' i o g U ht=>?_⟩
     ·rw [y0,l];exact A
     ·obtain ⟨R,S⟩:=get_del z g;refine R (F.ap i j o ob p _ S a U y ?_);simpa [Value.ownBlock] using he
     ·have E:i≠j:=fun e=>by subst e;rw [a] at g;cases g;exact ht c2
      refine ⟨fun e=>E (F.ap i j o ob _ _ g a U y ?_),o, ?_,rfl⟩
      ·simp [Value.ownBlock] at e;exact e.symm
      ·rw [Tr.get_del _ z,if_neg E];exact g
   ·cases Z
  ·cases h
 ·cases h
theorem qBe (n:Iv σ w0 s w) {i:Nat} (y:i<vV) {b f x:Nat} (k:σ i=some (b,f,x)) (z:∀j o p,s.H.get j=some o->σ j=some p->j≠i->p.1≠b) (O:w0.heap.size<=b) {ob:Ob} (R:ob.sz≠0) {cur:Array Value} (S:RO σ w i ob b f x cur):
  Iv σ w0 ⟨s.H.set i ob,s.nx,s.rs⟩ w:=by
 have J:∀j,(s.H.set i ob).get j=if j=i then some ob else s.H.get j:=fun j=>Tr.get_set _ _ y j
 refine ⟨fun j u c=>?_,n.dom,n.res,fun j l u ol E pl c m a g F=>?_,n.ext,fun j u E c a=>?_⟩
 ·dsimp only at c;rw [J] at c;split at c
  ·rename_i e;cases c;subst e;exact ⟨fun h=>absurd h R,fun _=>⟨b,f,x,cur,S⟩⟩
  ·exact n.mr j u c
 ·dsimp only at c m;rw [J] at c m;split at c
  ·rename_i C;subst C;rw [k] at a;cases a;split at m
   ·rename_i A;exact A.symm
   ·rename_i A;exact absurd F.symm (z l ol pl m g A)
  ·rename_i C;split at m
   ·rename_i A;subst A;rw [k] at g;cases g;exact absurd F (z j u E c a C)
   ·exact n.ap j l u ol E pl c m a g F
 ·dsimp only at c;rw [J] at c;split at c
  ·rename_i C;subst C;rw [k] at a;cases a;exact O
  ·exact n.own j u E c a
def ql1 (t:TypeId) (n:Nat):Bool:=(Nat.beq t 114&&Nat.beq n 0)||(Nat.beq t 116&&Nat.beq n 2)
def qxR (i:Nat):Value->Bool
 | .pointer none=>true
 | .pointer (some ⟨j,0,none⟩)=>Nat.beq j i
 |_=>false
noncomputable def wrX (s:Sx) (i:Nat) (ob:Ob) (b:ByteArray) (rest:List Value) (bs:Bs) (H:vR):Option (Value×Sx):=
 bif Nat.ble (bs.length+b.size) 100000000000000&&Nat.ble 1 (bs.length+b.size) then
  match kq ⟨H.del i,s.nx,s.rs⟩ none ⟨(bs++b.data.toList).map jn,5,1,false,true⟩ with
  |some (k,s1)=>some (.tuple #[.int .i64 b.size,.nilIface],⟨s1.H.set i ⟨.pointer (some ⟨i,0,none⟩):: .slice (some ⟨k,0,none⟩) (bs.length+b.size) (bs.length+b.size)::rest,ob.ty,1,true,false⟩,s1.nx,s1.rs⟩)
  |none=>none
 else none
noncomputable def wrA (s:Sx) (i:Nat) (ob:Ob) (b:ByteArray):Option (Value×Sx):=
 match ob.cells with
 |p::bv::rest=>bif qxR i p&&ql1 ob.ty rest.length&&Nat.blt i vV&&qbl ob ⟨p::bv::rest,ob.ty,1,true,false⟩ then
   (match qee s bv with|some (bs,H)=>wrX s i ob b rest bs H|none=>none) else none
 |_=>none
noncomputable def p89 (s:Sx):List Value->Option (Value×Sx)
 |[.pointer (some ⟨i,0,none⟩),.string b]=>match s.H.get i with
  |some ob=>wrA s i ob b
  |none=>none
 |_=>none
theorem qCK (z:Iv σ w0 s w) (hv:qr σ args args') (h:p89 s args=some (v,s')):Calls Tryz.prog 89 args'.toArray w (xz σ w0 (.ret v s')):=by
 unfold p89 at h;split at h
 ·rename_i i b;split at h
  ·rename_i ob S;unfold wrA at h;split at h
   ·rename_i p bv rest hcells;obtain ⟨hc,h9⟩:=ju h;simp only [j0] at hc;obtain ⟨⟨⟨c1,c2⟩,c3⟩,c4⟩:=hc;have ac:=qdG c4;generalize hty:ob.ty=T at*;subst ac;split at h9
    ·rename_i bs H hbuf;unfold wrX at h9;obtain ⟨hc,h8⟩:=ju h9;simp only [j0,uZ] at hc;split at h8
     ·rename_i k s1 hnew;cases h8;have E:=ym c3;obtain ⟨B,bs',F,V,a⟩:=qef z S rfl (show (1:Nat)≠0 by decide)
      match bs',V,a with
      |p'::bv'::u,V,a=>
       obtain ⟨v1,v2,v3⟩:=V;have hT5:T≠5:=fun e=>by subst e;simp [ql1] at c2
       obtain ⟨b1,b2,b3,b4⟩:=qw8 z v2 hbuf;obtain ⟨b5,_⟩:=b4 B i _ S F hT5;have hB0:w0.heap.size<=B:=z.own i _ _ S F;have hp':p'=.pointer none\/p'=.pointer (some ⟨B,0,none⟩):=by
        unfold qxR at c1;split at c1
        ·exact .inl (v1.uniq (.pln rfl))
        ·rename_i j;have:=uo c1;subst this;exact .inr (v1.uniq (qaq F))
        ·cases c1
       have ad:Calls Tryz.prog 177 #[.pointer (some ⟨B,0,none⟩)] w fun e w'=>e=.returned (.tuple #[])/\Blk w' B (.pointer (some ⟨B,0,none⟩)::bv'::u).toArray T/\Only B w w':=by
        simp only [ql1,uk,j0] at c2;have hrl:=v3.len;rcases c2 with ⟨Y,R⟩|⟨Y,R⟩
        ·have Y:=uo Y;have R:=uo R;subst Y
         match u,hrl,a with
         |[],_,a=>exact qJK hp' a
         |_::_,e,_=>exact absurd (e.symm.trans R) (by simp)
        ·have Y:=uo Y;have R:=uo R;subst Y
         match u,hrl,a with
         |[nv,o],_,a=>exact qBS a hp'
         |[],e,_=>exact absurd (e.symm.trans R) (by simp)
         |[_],e,_=>exact absurd (e.symm.trans R) (by simp)
         |_::_::_::_,e,_=>exact absurd (e.symm.trans R) (by simp)
       have O:b.data.toList.length=b.size:=rfl
       match args',hv with
       |[y1,y2],hv=>
        obtain ⟨g1,g2,_⟩:=hv;have u1:=g1.uniq (qaq F);have u2:y2=.string (qb b.data.toList):=by rw [qdN];exact g2.uniq (.pln (v:=.string b) rfl)
        subst u1;subst u2;refine (qyb b.data.toList hB0 a.lt b1 b5 ad (by rw [O];exact hc.1) z.ext.size).mono ?_;rintro _ W ⟨rfl,v',k1,k2,k3,k4,k5,k6⟩;have C:(bs++b.data.toList).length=bs.length+b.size:=by rw [kh,O]
        have aa:Iv σ w0 ⟨H.del i,s.nx,s.rs⟩ w:=by
         have sub:∀j o,(H.del i).get j=some o->j≠i/\s.H.get j=some o:=fun j o m=>⟨(get_del E m).1,b2 j o (get_del E m).2⟩;exact ⟨z.mr.keep (fun j o m=>(sub j o m).2) fun _ _ _ _ _=>rfl,z.dom,z.res,fun j l oj ol pj pl m hl=>z.ap j l oj ol pj pl (sub j oj m).2 (sub l ol hl).2,z.ext,fun j o p m=>z.own j o p (sub j o m).2⟩
        have Z:∀j o q,(H.del i).get j=some o->σ j=some q->q.1<w.heap.size/\q.1≠B/\some q.1≠bv'.ownBlock:=fun j o q m J=>by
         obtain ⟨r,hr,hlt⟩:=aa.mr.at' m;rw [J] at hr;cases hr;obtain ⟨hne,hj2⟩:=get_del E m;exact ⟨hlt,fun e=>hne (z.ap j i o _ q _ (b2 j o hj2) S J F e),b3 j o q hj2 J⟩
        rcases k2.2 with ⟨_,hz⟩|⟨g,cap,cur,hv',hg0,hgh,hnc,hcm,hcs,A⟩
        ·rw [C] at hz;omega
        ·subst hv';rw [C] at hnc A;have hMW:MR σ (H.del i) W:=aa.mr.keep (fun _ _ h=>h) fun j o q m J=>by
          obtain ⟨e1,e2,e3⟩:=Z j o q m J;exact k5 q.1 e1 e2 fun e=>e3 e.symm
         have hEW:qc w0 W:=⟨k4.os.trans z.ext.os,k4.tape.trans z.ext.tape,k4.output.trans z.ext.output,Nat.le_trans z.ext.size k4.size,fun q J=>(k4.block q J).trans (z.ext.block q J)⟩;have hgB:g≠B:=fun e=>k3 (by simp [Value.ownBlock,e]);obtain ⟨τ,U,hi,hI',e4,e5,e6⟩:=qje aa hnew (b:=g) (f:=0) (x:=cap - (bs.length+b.size)) (W:=W) hMW hEW hg0 (fun j oj pj m hp e=>by
          obtain ⟨e1,e2,e3⟩:=Z j oj pj m hp;rcases k6 with k6|k6
          ·exact e3 (by rw [<-k6,e];rfl)
          ·simp [Value.ownBlock] at k6;omega) fun τ U hi=>⟨(fun hz=>by cases hz),fun _=>⟨cur,hi,hgh,by
          dsimp only;rw [uh,C,List.drop_zero];rw [y0] at A;rw [A];exact qbh (by rw [um];intro x hx;obtain ⟨c,_,rfl⟩:=un.1 hx;rfl),by
          dsimp only;rw [uh,C];omega,(fun hw=>by cases hw),fun _=>⟨bs.length+b.size,by rw [uh,C,y0],by omega⟩,fun _=>⟨rfl,by
          dsimp only;rw [uh,C];omega⟩⟩⟩
         have y:τ i=some (B,0,0):=U _ _ F;have hki:k≠i:=fun e=>by
          subst e;rw [hi] at y;exact hgB (congrArg Prod.fst (Jp y))
         have hsl:VR τ (.slice (some ⟨k,0,none⟩) (bs.length+b.size) (bs.length+b.size)) (.slice (some ⟨g,0,none⟩) (bs++b.data.toList).length cap):=by
          have:=VR.slc (σ:=τ) (o:=0) (n:=bs.length+b.size) (c:=bs.length+b.size) hi (j1 _);rw [show bs.length+b.size+(cap - (bs.length+b.size))=cap by omega] at this;rw [C];exact this
         refine ⟨τ,_,U,qBe hI' E y (fun j o q m J hne e=>?_) hB0 (show (1:Nat)≠0 by decide) (ob:=⟨.pointer (some ⟨i,0,none⟩):: .slice (some ⟨k,0,none⟩) (bs.length+b.size) (bs.length+b.size)::rest,T,1,true,false⟩) (cur:=(.pointer (some ⟨B,0,none⟩):: .slice (some ⟨g,0,none⟩) (bs++b.data.toList).length cap::u).toArray) ?_, ?_,rfl⟩
         ·rw [e4,Tr.get_set _ _ e5] at m;split at m
          ·rename_i e7;subst e7;rw [hi] at J;cases J;exact hgB e
          ·rename_i e7;exact (Z j o q m (e6 j q J e7)).2.1 e
         ·have ab:=v3.len;refine ⟨y,k1.heap, ?_,by simp [ab],fun _=>⟨rfl,rfl,by simp [ab]⟩,(fun hw=>by cases hw),(fun hx=>by cases hx)⟩;simp only [List.drop_zero];rw [ul (by simp [ab])];exact ⟨qaq y,hsl,v3.mono U⟩
         ·rw [O];exact QE (v:=.tuple #[.int .i64 (b.size:Int),.nilIface]) rfl
     ·cases h8
    ·cases h9
   ·cases h
  ·cases h
 ·cases h
noncomputable def qnr (s:Sx) (j:Nat) (bs:Bs):Option (Value×Sx):=bif Nat.ble 1 bs.length&&Nat.blt j vV then some (.string (qb bs),⟨s.H.del j,s.nx,s.rs⟩) else none
def qog:Value->Option Nat
 | .slice (some ⟨j,0,none⟩) _ _=>some j
 |_=>none
noncomputable def p90 (s:Sx):List Value->Option (Value×Sx)
 |[.pointer (some ⟨i,0,none⟩)]=>match s.H.get i with
  |some ob=>bif ob.whole&&Nat.beq ob.sz 1 then (match qgV s.H ⟨i,1,none⟩ with
   |some bv=>match qee s bv,qog bv with
    |some (bs,_),some j=>qnr s j bs
    |_,_=>none
   |none=>none) else none
  |none=>none
 |_=>none
theorem qCJ (a:Iv σ w0 s w) (hv:qr σ args args') (h:p90 s args=some (v,s')):Calls Tryz.prog 90 args'.toArray w (xz σ w0 (.ret v s')):=by
 unfold p90 at h;split at h
 ·rename_i i;split at h
  rotate_left
  ·cases h
  rename_i ob hob;obtain ⟨Z,h⟩:=ju h;simp only [j0] at Z;have hz1:=uo Z.2;split at h
  ·rename_i bv hbv;split at h
   ·rename_i bs H j k m;unfold qnr at h;obtain ⟨Y,h9⟩:=ju h;cases h9;simp only [j0,uZ] at Y;have E:=ym Y.2
    match args',hv with
    |[y1],hv=>
     obtain ⟨g1,_⟩:=hv;cases g1 with
     |pln h'=>cases h'
     |ptr J=>
      rename_i B f x;obtain ⟨u,hu,S⟩:=qwU a.mr (.ptr (o:=1) J) hbv;have A:w.cell? ⟨B,f+1,none⟩=some u:=hu;obtain ⟨b1,b2,b3,b4⟩:=qw8 a S k;unfold qog at m;split at m
      ·rename_i j' n c;cases m;rcases b1.2 with ⟨_,hz⟩|⟨g,cap,cur,hv',hg0,hgh,hnc,hcm,hcs,z⟩
       ·omega
       ·subst hv';have V:∃q,σ j=some q/\q.1=g:=by
         cases S with
         |pln h'=>cases h'
         |slc hs hn=>exact ⟨_,hs,rfl⟩
        obtain ⟨q,hq,hqg⟩:=V;have hf:f=0:=by
         obtain ⟨b5,f5,x5,cur5,O⟩:=(a.mr i ob hob).2 (by rw [hz1];decide);have U:=O.at';rw [J] at U;cases U;exact (O.whole Z.1).1
        subst hf;refine (qzp A hgh (by intro e;rw [e] at Y;simp at Y) hnc hcm hcs z).mono ?_;rintro _ W ⟨rfl,R,hk⟩;have hEW:qc w0 W:=⟨R.os.trans a.ext.os,R.tape.trans a.ext.tape,R.output.trans a.ext.output,Nat.le_trans a.ext.size R.size,fun r hr=>(R.block r (by omega)).trans (a.ext.block r hr)⟩;refine ⟨σ,_,Sg.le_refl σ,⟨?_,a.dom,a.res,fun F l C ol pj pl y h2=>a.ap F l C ol pj pl (get_del E y).2 (get_del E h2).2,hEW,fun F o p y=>a.own F o p (get_del E y).2⟩,.pln rfl,rfl⟩;obtain ⟨C,hoj⟩:∃C,s.H.get j=some C:=by
         cases hj2:s.H.get j with
         |some C=>exact ⟨C,rfl⟩
         |none=>unfold qee at k;simp only [hj2] at k;cases k
        exact a.mr.keep (fun F o y=>(get_del E y).2) fun F o p y hp=>hk p.1 fun e=>(get_del E y).1 (a.ap F j o C p q (get_del E y).2 hoj hp hq (by rw [e,hqg]))
      ·cases m
   ·cases h
  ·cases h
 ·cases h
end
noncomputable def qfl:qcO:=fun f args s=>
 bif Nat.beq f 89 then p89 s args else bif Nat.beq f 90 then p90 s args else bif Nat.beq f 53 then p53 s args else bif Nat.beq f 77 then p77 s args else bif Nat.beq f 22 then p22 s args else bif Nat.beq f 24 then p24 s args else
 bif Nat.beq f 34 then p34 s args else bif Nat.beq f 64 then p64 s args else bif Nat.beq f 273 then qi1 s args else none
def QG {c:Type} {f n:Nat} {x y:Option c} {v:c} (h:(bif Nat.beq f n then x else y)=some v):(f=n/\x=some v)\/y=some v:=by
 cases a:Nat.beq f n with
 |true=>rw [a] at h;exact .inl ⟨uo a,h⟩
 |false=>rw [a] at h;exact .inr h
def qoU:qhg Tryz.prog GM qfl:=by
 intro f args s v s' h σ w0 w args' e c a;unfold qfl at h;rcases QG h with ⟨rfl,h⟩|h
 ·exact qCK c a h
 rcases QG h with ⟨rfl,h⟩|h
 ·exact qCJ c a h
 rcases QG h with ⟨rfl,h⟩|h
 ·exact qCN e c a h
 rcases QG h with ⟨rfl,h⟩|h
 ·exact qCL e c a h
 rcases QG h with ⟨rfl,h⟩|h
 ·exact qCR e c a h
 rcases QG h with ⟨rfl,h⟩|h
 ·exact qCQ e c a h
 rcases QG h with ⟨rfl,h⟩|h
 ·exact qCO c a h
 rcases QG h with ⟨rfl,h⟩|h
 ·exact qCM e c a h
 rcases QG h with ⟨rfl,h⟩|h
 ·exact qCP c a h
 ·cases h
def prZ (t:TypeId):Bool:=Nat.beq t 26
def qoV:Jg Tryz.prog prZ:=fun t e=>by
 have:=uo e;subst this;exact ⟨g26,fun a b c d w=>qwn a b c d w⟩
def skZ (f:FuncId) (i:Nat):List Nat:=bif Nat.beq f 122&&Nat.beq i 4 then [5] else []
noncomputable def qe5 (f:FuncId) (args:List Value):Option Ou:=yd Tryz.prog qfl (some q54) skZ prZ 3000 ⟨.lf,0,[]⟩ (.call f args)
def iv0 (w:World):Iv (fun _=>none) w ⟨.lf,0,[]⟩ w:=⟨qdM,(fun i p h=>by cases h),(fun i h=>by cases h),(fun i j e g a c h=>by cases h),qO w,(fun i o p h=>by cases h)⟩
def qmQ:Option Ou->Bool
 |some (.ret (.bool true) _)=>true
 |_=>false
def QC (a b:Int):Value:=.tuple #[.slice none 0 0,.agg #[.int .i64 a,.int .i64 b]]
def qdm (v:Value):Option Ou->Bool
 |some (.ret u _)=>xL 4 u v
 |_=>false
def qwj {σ:Sg} (a b:Int):VR σ (QC a b) (QC a b):=qmO (.pln rfl) (QE (v:=.agg #[.int .i64 a,.int .i64 b]) rfl)
theorem qAx:qdm (QC 20 1) (qe5 15 [.string (qb exB)])=true:=by kernel_rfl
theorem qAw:qdm (QC 21 1) (qe5 15 [.string (qb exC)])=true:=by kernel_rfl
def qIU {b:ByteArray} {x y:Int} (h:qdm (QC x y) (qe5 15 [.string b])=true) {w:World} (k:GM w):Calls Tryz.prog 15 #[.string b] w fun e w'=>e=.returned (QC x y)/\qc w w':=by
 unfold qdm at h;split at h
 ·rename_i u s j;have g:=Qe 4 _ _ h;subst g;refine ((qnY qoV qoU t54 3000).call 15 [.string b] _ _ j (fun _=>none) w w [.string b] k (iv0 w) ⟨.pln rfl,trivial⟩).mono ?_;rintro e w' ⟨n,m,l,a,c,rfl⟩;exact ⟨by rw [c.uniq (qwj x y)],a.ext⟩
 ·cases h
noncomputable def p15 (s:Sx):List Value->Option (Value×Sx)
 |[.string b]=>bif yb b (qb exB) then some (QC 20 1,s) else bif yb b (qb exC) then some (QC 21 1,s) else none
 |_=>none
noncomputable def qiR:qcO:=fun f args s=>bif Nat.beq f 15 then p15 s args else qfl f args s
def qBP:qhg Tryz.prog GM qiR:=by
 intro f args s v s' h σ w0 w args' l k j;unfold qiR at h;rcases QG h with ⟨rfl,a⟩|a
 ·clear h;unfold p15 at a;split at a
  ·rename_i b;have key:∀{c:Bs} {x y:Int},qdm (QC x y) (qe5 15 [.string (qb c)])=true->b=qb c->Calls Tryz.prog 15 args'.toArray w (xz σ w0 (.ret (QC x y) s)):=by
    intro c x y p g;subst g;have m:args'=[.string (qb c)]:=by
     match args',j with
     |[z],j=>rw [j.1.uniq (.pln (v:=.string (qb c)) rfl)]
    rw [m];refine (qIU p (gm l k)).mono ?_;rintro e W ⟨rfl,n⟩;exact ⟨σ,_,Sg.le_refl σ,k.toExt n,qwj x y,rfl⟩
   cases g:yb b (qb exB) with
   |true=>
    rw [g] at a;cases a;exact key qAx (qa4.1 g)
   |false=>
    rw [g] at a;obtain ⟨u,o⟩:=ju (b:=yb b (qb exC)) a;cases o;exact key qAw (qa4.1 u)
  ·cases a
 ·exact qoU f args s v s' a σ w0 w args' l k j
noncomputable def qAu (f:FuncId) (args:List Value):Option Ou:=yd Tryz.prog qiR (some q54) skZ prZ 3000 ⟨.lf,0,[]⟩ (.call f args)
theorem qAy:qmQ (qAu 14 [])=true:=by kernel_rfl
def qx4 {w:World} (a:L01.G w) (k:kF w):Calls Tryz.prog 14 #[] w (okR w):=by
 have h:=qAy;unfold qmQ at h;split at h
 ·rename_i s g;refine ((qnY qoV qBP t54 3000).call 14 [] _ _ g (fun _=>none) w w [] ⟨a,k⟩ (iv0 w) trivial).mono ?_;rintro e w' ⟨m,n,l,j,c,rfl⟩;exact ⟨by rw [c.uniq (.pln (v:=.bool true) rfl)],j.ext⟩
 ·cases h
noncomputable def qtE:Code:=((Tryz.f228.body).getD .skip)
noncomputable def qtD:IR:=zq [za 6 (zQ false)] <| .ret
noncomputable def qtC:IR:=.seq (.raw (qP qtE 3)) (qtD)
noncomputable def qgm:IR:=.seq (.cond (zv 50) (zq [za 6 (zQ true)] <| .ret) .skip) (qtC)
noncomputable def qtF:IR:=zq [za 6 (zQ false)] <| .seq (.drw [za 50 (.ite (.ite (zI .lss (zo 1 (zN (zv 0))) (zL (zo 0 (zN (zv 0))))) (zB .eql (zo 0 (zx 3 (zo 0 (zN (zv 0))) (zo 1 (zN (zv 0))))) (zv 1)) (zQ false)) (.ite (zS .eql (zv 2) (.const (zs #[]))) (zQ true) (zS .eql (zo 1 (zx 3 (zo 0 (zN (zv 0))) (zo 1 (zN (zv 0))))) (zv 2))) (zQ false))]) (qgm)
def qkn:List Nat:=[0,1,2,6,50,51,52,53,54,55,56,57,58,59,60,61,62]
def qGH:C3 228 63 qkn qtF [.tmp 6]:=c3 [3] Tryz.func228
noncomputable def qtB:OT:=zy 51 (zv 0)<|zy 52 (zv 0)<|zy 53 (zN (zv 52))<|zy 54 (zf 2 (zv 53))<|zy 55 (zl (zv 54))<|zy 56 (zv 0)<|zy 57 (zN (zv 56))<|zy 58 (zf 1 (zv 57))<|zy 59 (zl (zv 58))<| .step (zE 60 (.call {callee:=.builtin .max,args:=#[zt 55,zt 59],argTypes:=#[3,3]}) 3) true<| .step (za 61 (zN (zv 51))) false<| .step (za 62 (zf 2 (zv 61))) false<| .step (zw 3 (zt 62) (zt 60)) false<| .done
theorem qGG:zj Tryz.prog 63 qkn 10 (qP qtE 3)=some qtB:=by kernel_rfl
noncomputable def qkK:IR:=zq [zm 6 7] <| .ret
noncomputable def quP:IR:=zq [za 6 (zQ false),zm 8 0,zm 9 1,zm 10 2,zc 11 228 #[zt 8,zt 9,zt 10] #[90,5,9] 4,zm 7 11,zm 12 7] <| .seq (.cond (zv 12) (.reg [zm 13 0,za 17 (zI .add (zo 1 (zN (zv 13))) (zK 1)),za 19 (zf 1 (zN (zv 13))),zw 3 (zt 19) (zt 17)]) .skip) (qkK)
def qHB:List Nat:=zV 20 [3,4,5,14,15,16,18]
def qHA:C3 159 21 qHB quP [.tmp 6]:=c3 [] Tryz.func159
noncomputable def quV:IR:=zq [za 4 (zQ false),zm 5 0,zm 6 1,zc 7 159 #[zt 5,(.const (zu 4)),zt 6] #[90,5,9] 4,zm 4 7] <| .ret
def qHF:List Nat:=zV 8 [2,3]
def qHE:C2 157 8 qHF quV [.tmp 4]:=c2 [] Tryz.func157
noncomputable def qvE:IR:=zq [za 4 (zQ false),zm 5 0,zm 6 1,zc 7 159 #[zt 5,(.const (zu 2)),zt 6] #[90,5,9] 4,zm 4 7] <| .ret
def qIf:List Nat:=zV 8 [2,3]
def qIe:C2 132 8 qIf qvE [.tmp 4]:=c2 [] Tryz.func132
noncomputable def qvC:IR:=.ret
noncomputable def qvB:IR:=.seq (.drw [za 2 (zo 1 (zx 3 (zo 0 (zN (zv 0))) (zI .sub (zo 1 (zN (zv 0))) (zK 1)))),za 3 (zQ true)]) (qvC)
noncomputable def qvD:IR:=zq [za 2 (.const (zs #[])),za 3 (zQ false),zm 5 0,zc 6 159 #[zt 5,(.const (zu 1)),zY #[]] #[90,5,9] 4,zm 4 6,za 8 (zn (zv 4))] <| .seq (.cond (zv 8) (zq [za 2 (.const (zs #[])),za 3 (zQ false)] <| .ret) .skip) (qvB)
def qId:List Nat:=zV 9 [1,7]
def qIc:C1 134 21 qId qvD [.tmp 2,.tmp 3]:=c1 [] Tryz.func134
noncomputable def qvH:IR:=.reg [za 8 (zI .add (zv 8) (zK 1))]
noncomputable def qvG:IR:=.seq (.block 1 (zq [zm 16 0,zm 17 2,za 21 (zl (zx 1 (zv 1) (zv 8))),zc 22 159 #[zt 16,zt 17,zt 21] #[90,5,9] 4,zm 9 22,zm 23 9] <| .cond (zv 23) (zq [za 6 (zl (zx 1 (zv 1) (zv 8))),za 7 (zQ true)] <| .ret) .skip)) (qvH)
noncomputable def qkY:IR:=zq [za 13 (zI .lss (zv 8) (zL (zv 1)))] <| .seq (.cond (zv 13) .skip (.exit 0)) (qvG)
noncomputable def qvF:IR:=zq [za 6 (.const (zs #[])),za 7 (zQ false)] <| .ret
noncomputable def qvI:IR:=zq [za 6 (.const (zs #[])),za 7 (zQ false),za 8 (zK 0)] <| .seq (.block 0 (.loop qkY)) (qvF)
def qIh:List Nat:=[0,1,2,6,7,8,9,13,16,17,21,22,23]
def qIg:C3 131 28 qIh qvI [.tmp 6,.tmp 7]:=c3 [] Tryz.func131
noncomputable def quT:IR:=.reg [za 4 (zS .add (zv 4) (.const (zs #[44])))]
noncomputable def quS:IR:=zq [za 4 (zS .add (zS .add (zS .add (zv 4) (zv 5)) (.const (zs #[58]))) (zv 7)),zm 34 0,zc 35 157 #[zt 34,zY #[44]] #[90,9] 4,za 36 (zn (zv 35))] <| .seq (.cond (zv 36) (zq [zm 2 4,za 3 (zQ true)] <| .ret) .skip) (quT)
noncomputable def quR:IR:=zq [zm 22 0,zc 23 74 #[zt 22] #[90] 105,zm 21 23,za 24 (ze 0 (zv 21)),za 25 (ze 1 (zv 21)),zm 7 24,zm 8 25,za 27 (zn (zv 8))] <| .seq (.cond (zv 27) (zq [za 2 (.const (zs #[])),za 3 (zQ false)] <| .ret) .skip) (quS)
noncomputable def quQ:IR:=.block 1 (zq [zm 10 0,zc 11 134 #[zt 10] #[90] 105,zm 9 11,za 12 (ze 0 (zv 9)),za 13 (ze 1 (zv 9)),zm 5 12,zm 6 13,za 16 (zn (zv 6)),zg 16 false 17 (zv 0),zh 16 false 18 157 #[zt 17,zY #[58]] #[90,9] 4,za 20 (.ite (zv 16) (zQ true) (zn (zv 18)))] <| .seq (.cond (zv 20) (zq [za 2 (.const (zs #[])),za 3 (zQ false)] <| .ret) .skip) (quR))
noncomputable def quU:IR:=zq [za 2 (.const (zs #[])),za 3 (zQ false),za 4 (.const (zs #[]))] <| .block 0 (.loop quQ)
def qHD:List Nat:=zV 37 [1,14,15,19,26,28,29,30,31,32,33]
def qHC:C1 158 40 qHD quU [.tmp 2,.tmp 3]:=c1 [] Tryz.func158
noncomputable def qro:IR:=zq [za 2 (zS .add (zS .add (.const (zs #[97,114,114,97,121,91])) (zv 6)) (.const (zs #[93]))),za 3 (zQ true)] <| .ret
noncomputable def qrn:IR:=zq [zm 28 0,zc 29 74 #[zt 28] #[90] 105,zm 27 29,za 30 (ze 0 (zv 27)),za 31 (ze 1 (zv 27)),zm 6 30,zm 7 31,za 34 (zn (zv 7)),zg 34 false 35 (zv 0),zh 34 false 36 157 #[zt 35,zY #[93]] #[90,9] 4,za 38 (.ite (zv 34) (zQ true) (zn (zv 36)))] <| .seq (.cond (zv 38) (zq [za 2 (.const (zs #[])),za 3 (zQ false)] <| .ret) .skip) (qro)
noncomputable def qrl:IR:=zq [za 2 (zS .add (zS .add (zS .add (zv 8) (.const (zs #[91]))) (zv 9)) (.const (zs #[93]))),za 3 (zQ true)] <| .ret
noncomputable def qrk:IR:=zq [zm 53 0,zc 54 158 #[zt 53] #[90] 105,zm 52 54,za 55 (ze 0 (zv 52)),za 56 (ze 1 (zv 52)),zm 9 55,zm 10 56,za 59 (zn (zv 10)),zg 59 false 60 (zv 0),zh 59 false 61 157 #[zt 60,zY #[93]] #[90,9] 4,za 63 (.ite (zv 59) (zQ true) (zn (zv 61)))] <| .seq (.cond (zv 63) (zq [za 2 (.const (zs #[])),za 3 (zQ false)] <| .ret) .skip) (qrl)
noncomputable def qrj:IR:=zq [za 2 (zS .add (zS .add (zS .add (zv 11) (.const (zs #[91]))) (zv 12)) (.const (zs #[93]))),za 3 (zQ true)] <| .ret
noncomputable def qri:IR:=zq [zm 85 0,zc 86 74 #[zt 85] #[90] 105,zm 84 86,za 87 (ze 0 (zv 84)),za 88 (ze 1 (zv 84)),zm 12 87,zm 13 88,za 91 (zn (zv 13)),zg 91 false 92 (zv 0),zh 91 false 93 157 #[zt 92,zY #[93]] #[90,9] 4,za 95 (.ite (zv 91) (zQ true) (zn (zv 93)))] <| .seq (.cond (zv 95) (zq [za 2 (.const (zs #[])),za 3 (zQ false)] <| .ret) .skip) (qrj)
noncomputable def qrh:IR:=zq [zm 80 0,zc 81 157 #[zt 80,zY #[91]] #[90,9] 4,za 82 (zn (zv 81))] <| .seq (.cond (zv 82) (zq [zm 2 11,za 3 (zQ true)] <| .ret) .skip) (qri)
noncomputable def qrg:IR:=zq [zm 74 0,zc 75 134 #[zt 74] #[90] 105,zm 73 75,za 76 (ze 0 (zv 73)),za 77 (ze 1 (zv 73)),zm 11 76,zm 5 77,za 79 (zn (zv 5))] <| .seq (.cond (zv 79) (zq [za 2 (.const (zs #[])),za 3 (zQ false)] <| .ret) .skip) (qrh)
noncomputable def qrf:IR:=zq [zm 69 0,zc 70 157 #[zt 69,zY #[63]] #[90,9] 4] <| .seq (.cond (zv 70) (zq [zm 71 0,zc 72 159 #[zt 71,(.const (zu 1)),zY #[116]] #[90,5,9] 4,za 2 (.const (zs #[63,116])),zm 3 72] <| .ret) .skip) (qrg)
noncomputable def qre:IR:=zq [zm 43 0,zE 44 (.buildSlice 51 2 #[(0,(zY #[114,101,99,111,114,100])),(1,(zY #[111,110,101,111,102]))]) 51,zc 45 131 #[zt 43,zt 44,(.const (zu 2))] #[90,51,5] 105,zm 42 45,za 46 (ze 0 (zv 42)),za 47 (ze 1 (zv 42)),zm 8 46,zm 5 47,zm 48 5] <| .seq (.cond (zv 48) (zq [zm 49 0,zc 50 157 #[zt 49,zY #[91]] #[90,9] 4,za 51 (zn (zv 50))] <| .seq (.cond (zv 51) (zq [za 2 (.const (zs #[])),za 3 (zQ false)] <| .ret) .skip) (qrk)) .skip) (qrf)
noncomputable def qrm:IR:=zq [zm 22 0,zc 23 132 #[zt 22,zY #[97,114,114,97,121]] #[90,9] 4] <| .seq (.cond (zv 23) (zq [zm 24 0,zc 25 157 #[zt 24,zY #[91]] #[90,9] 4,za 26 (zn (zv 25))] <| .seq (.cond (zv 26) (zq [za 2 (.const (zs #[])),za 3 (zQ false)] <| .ret) .skip) (qrn)) .skip) (qre)
noncomputable def qrp:IR:=zq [za 2 (.const (zs #[])),za 3 (zQ false),zm 15 0,zE 16 (.buildSlice 51 3 #[(0,(zY #[105,110,116])),(1,(zY #[98,111,111,108])),(2,(zY #[110,117,108,108]))]) 51,zc 17 131 #[zt 15,zt 16,(.const (zu 2))] #[90,51,5] 105,zm 14 17,za 18 (ze 0 (zv 14)),za 19 (ze 1 (zv 14)),zm 4 18,zm 5 19,zm 20 5] <| .seq (.cond (zv 20) (zq [zm 2 4,za 3 (zQ true)] <| .ret) .skip) (qrm)
def qEO:List Nat:=zV 96 [1,21,32,33,37,39,40,41,57,58,62,64,65,66,67,68,78,83,89,90,94]
def qEN:C1 74 101 qEO qrp [.tmp 2,.tmp 3]:=c1 [] Tryz.func74
noncomputable def qrc:IR:=zq [za 0 (.const (.slice none 0 0)),zE 1 (.buildSlice 51 4 #[(0,(zY #[109,111,100])),(1,(zY #[97,110,100])),(2,(zY #[111,114])),(3,(zY #[110,111,116]))]) 51,zm 0 1] <| .ret
def qEI:List Nat:=[0,1]
def qEH:C0 78 2 qEI qrc [.tmp 0]:=c0 [] Tryz.func78
noncomputable def qu7:IR:=zq [za 0 (.const (.slice none 0 0)),zE 1 (.buildSlice 51 7 #[(0,(zY #[43])),(1,(zY #[45])),(2,(zY #[42])),(3,(zY #[47])),(4,(zY #[60])),(5,(zY #[60,61])),(6,(zY #[61]))]) 51,zm 0 1] <| .ret
def qHT:List Nat:=[0,1]
def qHS:C0 150 2 qHT qu7 [.tmp 0]:=c0 [] Tryz.func150
noncomputable def qu6:IR:=zq [za 0 (.const (.slice none 0 0)),zE 1 (.buildSlice 51 3 #[(0,(zY #[109,111,100])),(1,(zY #[97,110,100])),(2,(zY #[111,114]))]) 51,zm 0 1] <| .ret
def qHR:List Nat:=[0,1]
def qHQ:C0 151 2 qHR qu6 [.tmp 0]:=c0 [] Tryz.func151
noncomputable def qs9:IR:=zq [zm 21 3,zE 22 (.build 92 #[(0,(zt 21))]) 92,zE 23 (.box 92 (zt 22)) 90,zm 5 23,zm 25 5,zc 26 74 #[zt 25] #[90] 105,zm 24 26,za 27 (ze 0 (zv 24)),za 28 (ze 1 (zv 24)),zm 6 27,zm 7 28,za 2 (.ite (.ite (zv 7) (zI .eql (zo 1 (zN (zv 5))) (zL (zv 3))) (zQ false)) (zS .eql (zv 6) (zv 0)) (zQ false))] <| .ret
noncomputable def qty:IR:=zq [za 2 (zQ false),zm 9 0,zc 10 33 #[zt 9] #[9] 49,zm 8 10,za 11 (ze 0 (zv 8)),za 12 (ze 1 (zv 8)),zA 4 26,zm 3 11,zw 26 (zt 4) (zt 12),za 20 (.ite (zI .neq (zo 0 (zv 4)) (zK 0)) (zQ true) (zI .gtr (zT (zv 0)) (zK 100)))] <| .seq (.cond (zv 20) (zq [za 2 (zQ false)] <| .ret) .skip) (qs9)
def qGm:List Nat:=zV 29 [1,13,14,15,16,17,18,19]
def qGl:C1 23 44 qGm qty [.tmp 2]:=c1 [] Tryz.func23
noncomputable def qsR:IR:=.reg [za 4 (zI .add (zv 4) (zK 1))]
noncomputable def qsQ:IR:=.seq (.block 1 (zq [za 16 (zB .eql (.op2 .ixs (zv 0) (zv 4)) (.const (zu 95)))] <| .cond (zv 16) (zq [zm 3 4] <| .exit 0) .skip)) (qsR)
noncomputable def qj7:IR:=zq [za 10 (zI .lss (zv 4) (zT (zv 0)))] <| .seq (.cond (zv 10) .skip (.exit 0)) (qsQ)
noncomputable def qsP:IR:=.reg [za 6 (zI .add (zv 6) (zK 1))]
noncomputable def qj8:IR:=.seq (.block 3 (zq [za 32 (zS .eql (zl (zx 1 (zv 5) (zv 6))) (zv 0))] <| .cond (zv 32) (zq [za 2 (zQ true)] <| .ret) .skip)) (qsP)
noncomputable def qf9:IR:=zq [za 24 (zI .lss (zv 6) (zL (zv 5)))] <| .seq (.cond (zv 24) .skip (.exit 2)) (qj8)
noncomputable def qsO:IR:=zq [zm 33 0,zc 34 79 #[zt 33] #[9] 4,zm 2 34] <| .ret
noncomputable def qsN:IR:=zq [za 37 (.op3 .stLoHi (zv 0) (zK 0) (zv 3)),zc 38 79 #[zt 37] #[9] 4,zm 39 38,zg 39 true 43 (.op2 .stLo (zv 0) (zI .add (zv 3) (zK 1))),zh 39 true 44 79 #[zt 43] #[9] 4,za 2 (.ite (zv 39) (zv 44) (zQ false))] <| .ret
noncomputable def qga:IR:=zq [za 19 (zI .lss (zv 3) (zK 0))] <| .seq (.cond (zv 19) (zq [zc 20 78 #[] #[] 51,zm 5 20,za 6 (zK 0)] <| .seq (.block 2 (.loop qf9)) (qsO)) .skip) (qsN)
noncomputable def qsT:IR:=zq [za 2 (zQ false),za 3 (.const (.int .i64 (-1))),za 4 (zK 0)] <| .seq (.block 0 (.loop qj7)) (qga)
def qsS:List Nat:=[0,2,3,4,5,6,10,16,19,20,24,32,33,34,37,38,39,43,44]
def qF8:C1 25 46 qsS qsT [.tmp 2]:=c1 [] Tryz.func25
@[simp] theorem qNx:qh Tryz.prog 228=true:=by kernel_rfl
@[simp] theorem qNA:qh Tryz.prog 159=true:=by kernel_rfl
@[simp] theorem qNC:qh Tryz.prog 157=true:=by kernel_rfl
@[simp] theorem qNH:qh Tryz.prog 132=true:=by kernel_rfl
@[simp] theorem qNG:qh Tryz.prog 134=true:=by kernel_rfl
@[simp] theorem qNI:qh Tryz.prog 131=true:=by kernel_rfl
structure ExB (B:Nat) (w w':World):Prop where
 below:Below B w w'
 block:∀k,k<w.heap.size->k≠B->w'.heap[k]? =w.heap[k]?
def ExB.size {B:Nat} {w w':World} (h:ExB B w w'):w.heap.size<=w'.heap.size:=h.below.size
theorem ExB.refl (B:Nat) (w:World):ExB B w w:=⟨Below.refl _ _,fun _ _ _=>rfl⟩
def ExB.trans {B:Nat} {a b c:World} (h:ExB B a b) (k:ExB B b c):ExB B a c:=⟨h.below.trans k.below,fun j g e=>(k.block j (by have:=h.size;omega) e).trans (h.block j g e)⟩
def ExB.ext {B:Nat} {w w':World} (h:qc w w') (c:B<=w.heap.size):ExB B w w':=⟨h.mono c,fun k a _=>h.block k a⟩
def ExB.only {B:Nat} {w w':World} (h:Only B w w'):ExB B w w':=⟨yh h (j1 _),fun k _ a=>h.block k a⟩
def ExB.blk {B X:Nat} {w w':World} {cs:Array Value} {T:TypeId} (h:ExB B w w') (c:Blk w X cs T) (a:X≠B):Blk w' X cs T:=⟨(h.block X c.lt a).trans c.heap⟩
structure RSt (B:Nat) (W:World) (tv:Value) (L:List Tok) (i f:Nat):Prop where
 blk:Blk W B #[tv,.int .i64 (i:Int),.int .i64 (f:Int)] 92
 tok:Own 0 53 3 W tv (qF L)
 tl:L.length<=20000
 il:i<=L.length
 fl:f<=L.length
section
variable {B:Nat} {w w':World} {tv:Value} {L:List Tok} {i f:Nat}
theorem RSt.lt (h:RSt B w tv L i f):B<=w.heap.size:=J0 h.blk.lt
theorem RSt.slk (h:RSt B w tv L i f):SlK w tv L:=SlK.own h.tok (by have:=h.tl;omega)
theorem RSt.ext (h:RSt B w tv L i f) (a:qc w w'):RSt B w' tv L i f:=⟨h.blk.ext a,h.tok.ext a,h.tl,h.il,h.fl⟩
theorem RSt.ne (h:RSt B w tv L i f) {b e sz:Nat} {v:Value} {ys:List Value} (l:Own b e sz w v ys) (j:e≠92) {k:Nat} (c:v.ownBlock=some k):k≠B:=fun g=>by
 obtain ⟨cur,a⟩:=Own.row l c;rw [g,h.blk.heap] at a;cases a;exact j rfl
theorem RSt.keep (h:RSt B w tv L i f) (g:ExB B w w') {b e sz:Nat} {v:Value} {ys:List Value} (a:Own b e sz w v ys) (j:e≠92):Own b e sz w' v ys:=Own.same a fun k c=>g.block k (a.blk k c).2 (h.ne a j c)
theorem RSt.move (h:RSt B w tv L i f) {c a:Nat} (e:Only B w w') (k:Blk w' B #[tv,.int .i64 (c:Int),.int .i64 (a:Int)] 92) (j:c<=L.length) (g:a<=L.length):RSt B w' tv L c a/\ExB B w w':=
 ⟨⟨k,h.keep (ExB.only e) h.tok (by decide),h.tl,j,g⟩,ExB.only e⟩
def TkR (B:Nat) (w:World) (tv:Value) (L:List Tok) (i f k:Nat) (s:Bs):Ending->World->Prop:=fun e w'=>e=.returned (.bool (qC L i k s))/\(if qC L i k s then RSt B w' tv L (i+1) f else RSt B w' tv L i (max f i))/\ExB B w w'
theorem qBx (h:RSt B w tv L i f) (k:Nat) (s:Bs) (hk:k<256):Calls Tryz.prog 228 #[.pointer (some ⟨B,0,none⟩),.int .u8 (k:Int),.string (qb s)] w fun e w'=>e=.returned (.bool (qC L i k s))/\RSt B w' tv L i (if qC L i k s then f else max f i)/\ExB B w w':=by
 have Y:=h.tl;have E:=h.il;have Z:=h.fl;have V:(⟨#[]⟩:ByteArray)=qb []:=rfl;generalize z:(fun (e:Ending) (w':World)=>e=.returned (.bool (qC L i k s))/\RSt B w' tv L i (if qC L i k s then f else max f i)/\ExB B w w')=R;refine qGH fun ρ r0 r1 r2=>?_;simp -implicitDefEqProofs [qtF,r0,r1,r2];have c0:∀W,qc w W->W.cell? ⟨B,0,none⟩=some tv:=fun W y=>by rw [(h.blk.ext y).cell];rfl
 have c1:∀W,qc w W->W.cell? ⟨B,1,none⟩=some (.int .i64 (i:Int)):=fun W y=>by rw [(h.blk.ext y).cell];rfl
 have c2:∀W,qc w W->W.cell? ⟨B,2,none⟩=some (.int .i64 (f:Int)):=fun W y=>by rw [(h.blk.ext y).cell];rfl
 have p:=h.slk;have step:∀S,qc w S->(qgm).wp ⟨Tryz.prog,63,qkn,[]⟩ (qB [.tmp 6] R) (ji [.tmp 6] R) (qw (qw ρ 6 (.bool false)) 50 (.bool (qC L i k s))) S:=fun S m=>by
  cases x:qC L i k s with
  |true=>
   simp -implicitDefEqProofs [qgm];rw [<-z,x];exact ⟨rfl,by simpa using h.ext m,ExB.ext m h.lt⟩
  |false=>
   simp -implicitDefEqProofs [qgm,qtC];refine vZ qGG (fun W=>RSt B W tv L i f) fun W3 u _=>⟨h.ext (m.trans' u), ?_⟩;have n:=h.ext (m.trans' u);have U:∀W,RSt B W tv L i f->∀j,W.cell? ⟨B,j,none⟩=#[tv,Value.int .i64 (i:Int),.int .i64 (f:Int)][j]? :=fun W h=>h.blk.cell;simp+contextual -implicitDefEqProofs [qtB,U,n,r0];refine qgJ (k:=.i64) (a:=(f:Int)) (b:=(i:Int)) (by simp) (by simp) ?_;have e1:(if (i:Int)>(f:Int) then (i:Int) else (f:Int))=((max f i:Nat):Int):=by split<;>omega
   rw [e1];refine ⟨n, ?_⟩;simp [r0];refine qW (B:=B) (i:=2) (by simp) n.blk (by simp) (by simp [Value.cells]) (by simp) vp fun W4 F A=>?_;simp at A;have O:Blk W4 B #[tv,.int .i64 (i:Int),.int .i64 ((max f i:Nat):Int)] 92:=by simpa using A
   obtain ⟨J,C⟩:=n.move F O E (by omega);simp -implicitDefEqProofs [qtD];rw [<-z,x];exact ⟨rfl,by simpa using J,(ExB.ext (m.trans' u) h.lt).trans C⟩
 by_cases c:i<L.length
 ·obtain ⟨c3,c4,c5⟩:=p.cell i c;have g:(i:Int)<(L.length:Int):=by omega
  have l:qC L i k s=(decide ((tk L i).kind=k)&&(decide (s=[])||decide ((tk L i).text=s))):=by unfold qC;simp [c]
  have H:tk L i=L[i]:=kR c;rw [<-H] at c3 c4;cases o:decide ((tk L i).kind=k) with
  |true=>
   rw [o,ud] at l;have:((tk L i).kind:Int)=(k:Int):=by have:=Vr o;omega
   simp -implicitDefEqProofs [c0 w (qO _),c1 w (qO _),p.is,p.len,g,c,c3,c4,V,jC,this];rw [<-l];exact step
  |false=>
   rw [o,Va] at l;have:¬((tk L i).kind:Int)=(k:Int):=by have:=of_decide_eq_false o;omega
   rw [l] at step;simp -implicitDefEqProofs [c0 w (qO _),c1 w (qO _),p.is,p.len,g,c,c3,c4,V,jC,this];exact step
 ·have g:¬(i:Int)<(L.length:Int):=by omega
  have l:qC L i k s=false:=by unfold qC;simp [c]
  rw [l] at step;simp -implicitDefEqProofs [c0 w (qO _),c1 w (qO _),p.is,p.len,g,c];exact step
theorem qdq (h:RSt B w tv L i f) (k:Nat) (s:Bs) (u:k<256):Calls Tryz.prog 159 #[.pointer (some ⟨B,0,none⟩),.int .u8 (k:Int),.string (qb s)] w (TkR B w tv L i f k s):=by
 refine qHA fun ρ r0 r1 r2=>?_;simp -implicitDefEqProofs [quP,r0,r1,r2];refine (qBx h k s u).mono ?_;rintro _ y ⟨rfl,c,n⟩;cases a:qC L i k s with
 |false=>
  rw [a] at c;simp -implicitDefEqProofs [qkK];unfold TkR;rw [a];exact ⟨rfl,by simpa using c,n⟩
 |true=>
  rw [a,if_pos rfl] at c;have p:=qaD a;have o:=h.tl;have x:IntKind.i64.wrap ((i:Int)+1)=((i+1:Nat):Int):=by rw [qH (by omega)];push_cast;rfl
  simp -implicitDefEqProofs [r0,c.blk.cell,x];refine qW (B:=B) (i:=1) (by simp) c.blk (by simp) (by simp [Value.cells]) (by simp) vp fun W4 j e=>?_;simp at e;have m:Blk W4 B #[tv,.int .i64 ((i+1:Nat):Int),.int .i64 (f:Int)] 92:=by simpa using e
  obtain ⟨l,g⟩:=c.move j m (by omega) h.fl;simp -implicitDefEqProofs [qkK];unfold TkR;rw [a,if_pos rfl];exact ⟨rfl,l,n.trans g⟩
theorem QZ (h:RSt B w tv L i f) (s:Bs):Calls Tryz.prog 157 #[.pointer (some ⟨B,0,none⟩),.string (qb s)] w (TkR B w tv L i f 4 s):=by
 refine qHE fun ρ r0 r1=>?_;simp -implicitDefEqProofs [quV,r0,r1];refine (qdq h 4 s (by decide)).mono ?_;rintro _ e ⟨rfl,c,a⟩;simp -implicitDefEqProofs;exact ⟨rfl,c,a⟩
theorem qBs (h:RSt B w tv L i f) (s:Bs):Calls Tryz.prog 132 #[.pointer (some ⟨B,0,none⟩),.string (qb s)] w (TkR B w tv L i f 2 s):=by
 refine qIe fun ρ r0 r1=>?_;simp -implicitDefEqProofs [qvE,r0,r1];refine (qdq h 2 s (by decide)).mono ?_;rintro _ e ⟨rfl,c,a⟩;simp -implicitDefEqProofs;exact ⟨rfl,c,a⟩
def NmR (B:Nat) (w:World) (tv:Value) (L:List Tok) (i f:Nat):Ending->World->Prop:=fun e w'=>
 if qC L i 1 [] then e=.returned (.tuple #[.string (qb (tk L i).text),.bool true])/\RSt B w' tv L (i+1) f/\ExB B w w' else e=.returned (.tuple #[.string (qb []),.bool false])/\RSt B w' tv L i (max f i)/\ExB B w w'
theorem qoE (h:RSt B w tv L i f):Calls Tryz.prog 134 #[.pointer (some ⟨B,0,none⟩)] w (NmR B w tv L i f):=by
 refine qIc fun ρ r0=>?_;simp -implicitDefEqProofs [qvD,r0];refine (qdq h 1 [] (by decide)).mono ?_;rintro _ u ⟨rfl,c,m⟩;unfold NmR;cases a:qC L i 1 [] with
 |false=>
  rw [a] at c;simp -implicitDefEqProofs;exact ⟨rfl,by simpa using c,m⟩
 |true=>
  rw [a,if_pos rfl] at c;have e:=qaD a;have n:=h.tl;have l:=c.slk;obtain ⟨c3,c4,c5⟩:=l.cell i e;have k:tk L i=L[i]:=kR e;rw [<-k] at c4;have o:IntKind.i64.wrap (i:Int)=(i:Int):=by rw [qH (by omega)]
  have g:(i:Int)<(L.length:Int):=by omega
  simp -implicitDefEqProofs [qvB,r0,c.blk.cell,l.is,l.len,o,g,e,c4];intro p j;simp -implicitDefEqProofs [qvC];exact ⟨c.ext j,m.trans (ExB.ext j c.lt)⟩
def SnR (B:Nat) (w:World) (tv:Value) (L:List Tok) (i f k:Nat) (ss:List Bs):Ending->World->Prop:=fun e w'=>ExB B w w'/\
 match ss.find? (qC L i k) with
 |some s=>e=.returned (.tuple #[.string (qb s),.bool true])/\RSt B w' tv L (i+1) (if (ss.take 1).any (qC L i k) then f else max f i)
 |none=>e=.returned (.tuple #[.string (qb []),.bool false])/\RSt B w' tv L i (if ss=[] then f else max f i)
theorem qoD (h:RSt B w tv L i f) {lv:Value} {ss:List Bs} (k:Nat) (hk:k<256) (C:Cells w lv 1 (ss.map qi)) (u:∀W,ExB B w W->Cells W lv 1 (ss.map qi)) (aa:ss.length<=1000000):Calls Tryz.prog 131 #[.pointer (some ⟨B,0,none⟩),lv,.int .u8 (k:Int)] w (SnR B w tv L i f k ss):=by
 have x:ql lv=ss.length:=by simpa using C.len.symm
 refine qIg fun ρ r0 r1 r2=>?_;generalize z:SnR B w tv L i f k ss=R;simp -implicitDefEqProofs [qvI];obtain ⟨I,J⟩:∃I:Nat->qa->World->Prop,∀j l w',I j l w'↔(l 0=.pointer (some ⟨B,0,none⟩)/\l 1=lv/\l 2=.int .u8 (k:Int)/\ExB B w w'/\RSt B w' tv L i (if j=0 then f else max f i)/\(∀s∈ss.take j,qC L i k s=false)):=⟨_,fun _ _ _=>Iff.rfl⟩;refine vD 8 ss.length I (by simp) ((J _ _ _).2 ⟨by simp [r0],by simp [r1],by simp [r2],ExB.refl _ _,by simpa using h,by simp⟩) ?_;clear r0 r1 r2;rintro j l w' hj E U;obtain ⟨r0,r1,r2,H,V,o⟩:=(J _ _ _).1 U;have F:IntKind.i64.wrap ((j:Int)+1)=(j:Int)+1:=qH (by omega);by_cases c:j<ss.length
 ·have e:(j:Int)<(ss.length:Int):=by omega
  have Y:=(u w' H).cell j (by simpa using c);simp only [u6,qi] at Y;simp -implicitDefEqProofs [qkY,E,r1,C.is,x,e,c,qvG,r0,r2,Y];refine (qdq V k ss[j] hk).mono ?_;rintro _ w2 ⟨rfl,n,S⟩;have m:=H.trans S;cases g:qC L i k ss[j] with
  |false=>
   rw [g] at n;have e2:max (if j=0 then f else max f i) i=max f i:=by split<;>omega
   simp [e2] at n;simp -implicitDefEqProofs [qvH,E,F,c];refine (J _ _ _).2 ⟨by simp [r0],by simp [r1],by simp [r2],m,by simpa using n,fun s p=>?_⟩;rw [uG c] at p;rcases uC.1 p with p|p
   ·exact o s p
   ·rw [uH.1 p];exact g
  |true=>
   rw [g,if_pos rfl] at n;have A:=(u w2 m).cell j (by simpa using c);simp only [u6,qi] at A;simp -implicitDefEqProofs [r1,E,C.is,x,e,c,A];rw [<-z];refine ⟨m, ?_⟩;have O:ss.find? (qC L i k)=some ss[j]:=by
    rw [List.find?_eq_some_iff_getElem];exact ⟨g,j,c,rfl,fun q hq=>by simpa using o ss[q] (VK.2 ⟨q,by omega,rfl⟩)⟩
   rw [O];refine ⟨rfl, ?_⟩;have Z:(if (ss.take 1).any (qC L i k) then f else max f i)=(if j=0 then f else max f i):=by
    cases ss with
    |nil=>simp at c
    |cons a ss=>
     by_cases y:j=0
     ·subst y;simp only [List.getElem_cons_zero] at g;simp [g]
     ·have:=o a (by cases j with|zero=>exact absurd rfl y|succ j=>simp);simp [this,y]
   rw [Z];exact n
 ·have e:¬(j:Int)<(ss.length:Int):=by omega
  rw [ul (by omega)] at o;simp -implicitDefEqProofs [qkY,E,r1,C.is,x,e,c,qvF];rw [<-z];refine ⟨H, ?_⟩;have O:ss.find? (qC L i k)=none:=List.find?_eq_none.2 fun s p=>by simp [o s p]
  rw [O];refine ⟨rfl, ?_⟩;have:(j=0)↔ss=[]:=by rw [<-uU];omega
  simpa [this] using V
theorem qif {c:Type} (k:Nat) (x:Bs->N c) (y:N c):∀(ss:List Bs) (f:Nat),seen L k x y ss i f=match ss.find? (qC L i k) with|some s=>x s (i+1) (if (ss.take 1).any (qC L i k) then f else max f i)|none=>y i (if ss=[] then f else max f i)
 |[],f=>rfl
 |s::ss,f=>by
  unfold seen jN;cases a:qC L i k s with
  |true=>simp [a]
  |false=>
   rw [if_neg (by simp),qif k x y ss (max f i)];simp only [List.find?_cons,a];cases e:ss.find? (qC L i k) with
   |none=>cases ss<;>simp
   |some t=>simp [a]
end
@[simp] theorem qNB:qh Tryz.prog 158=true:=by kernel_rfl
@[simp] theorem qNl:qh Tryz.prog 74=true:=by kernel_rfl
def qeA {L:List Tok} (p:xe L) (k:xn L) (z:L.length<=20000) {n i g j o:Nat} {s:Bs} (h:j9 L n i g=.val (some s) j o):i<=j/\s.length<=400000:=by
 have a:=qdb p (L.length+3) n i g g rfl;rw [h] at a;have x:=qeH (L:=L) (L.length+3) i g (by omega);cases c:kind L (L.length+3) i g with
 |oof=>exact absurd c x
 |no f=>rw [c] at a;exact absurd a.2 (by simp [qen,QI])
 |ok u j f=>
  rw [c] at a;obtain ⟨b,m,y,e,_,l⟩:=a;subst y;obtain rfl:=Jp m;refine ⟨e, ?_⟩;rw [l];have C:=qqq (qnL k i j);have A:(jW L i j).length<=L.length:=by unfold jW;simp only [uR,uF];omega
  omega
def qIP {L:List Tok} (x:xe L) (l:xn L) (p:L.length<=20000) {n:Nat}:∀{m i g j a:Nat} {s:Bs},kz L (j9 L n) m i g=.val (some s) j a->i<=j/\s.length<=500000*(j - i):=by
 intro m
 induction m with
 |zero=>intro i g j a s h;cases h
 |succ m z=>
  intro i g j a s h;simp only [kz,yF] at h;split at h
  ·rename_i y;have e:=qaD y;have A:(tk L i).text.length<=20:=l _ (by rw [kR e];exact wz _);simp only [kS,jN] at h;split at h
   ·rw [vd] at h;cases c:j9 L n (i+1+1) g with
    |oof=>rw [c] at h;cases h
    |val o C g1=>
     rw [c] at h;cases o with
     |none=>cases h
     |some u=>
      obtain ⟨J,F⟩:=qeA x l p c;simp only [Ro.andThen,jN] at h;split at h
      ·rw [vd] at h;cases k:kz L (j9 L n) m (C+1) g1 with
       |oof=>rw [k] at h;cases h
       |val o2 R E=>
        rw [k] at h;cases o2 with
        |none=>cases h
        |some t=>
         obtain ⟨H,O⟩:=z k;simp only [Ro.andThen,vU,Ro.val.injEq,ub] at h;obtain ⟨rfl,rfl,_⟩:=h;simp only [kh,List.length_cons,List.length_nil];omega
      ·simp only [vU,Ro.val.injEq,ub] at h;obtain ⟨rfl,rfl,_⟩:=h;simp only [kh,List.length_cons,List.length_nil];omega
   ·cases h
  ·cases h
def SR (B:Nat) (w:World) (tv:Value) (L:List Tok) (r:Ro Bs):Ending->World->Prop:=fun e w'=>match r with
 | .val (some s) j g=>e=.returned (.tuple #[.string (qb s),.bool true])/\RSt B w' tv L j g/\ExB B w w'
 | .val none j g=>(∃s,e=.returned (.tuple #[.string s,.bool false]))/\RSt B w' tv L j g/\ExB B w w'
 | .oof=>False
def qdx (s:Bs):Ro Bs->Ro Bs
 | .val (some t) j g=> .val (some (s++t)) j g
 | .val none j g=> .val none j g
 | .oof=> .oof
section
variable {B:Nat} {w w':World} {tv:Value} {L:List Tok} {i f:Nat}
theorem qBB (hG:xe L) (hL:xn L) {n:Nat} (hT:∀{i f w},RSt B w tv L i f->j9 L n i f≠ .oof->Calls Tryz.prog 74 #[.pointer (some ⟨B,0,none⟩)] w (SR B w tv L (j9 L n i f)))
  {m:Nat} (h:RSt B w tv L i f) (J:kz L (j9 L n) m i f≠ .oof):Calls Tryz.prog 158 #[.pointer (some ⟨B,0,none⟩)] w (SR B w tv L (kz L (j9 L n) m i f)):=by
 have e0:(⟨#[]⟩:ByteArray)=qb []:=rfl;have e58:(⟨#[58]⟩:ByteArray)=qb [58]:=rfl;have e44:(⟨#[44]⟩:ByteArray)=qb [44]:=rfl;generalize a:kz L (j9 L n) m i f=r at J;generalize O:SR B w tv L r=R;refine qHC fun ρ r0=>?_;simp -implicitDefEqProofs [quU];obtain ⟨I,hI⟩:∃I:Nat->qa->World->Prop,∀j x w',I j x w'↔∃k Y s,x 0=.pointer (some ⟨B,0,none⟩)/\x 4=.string (qb s)/\RSt B w' tv L k Y/\ExB B w w'/\s.length<=k*500000/\qdx s (kz L (j9 L n) j k Y)=r:=⟨_,fun _ _ _=>Iff.rfl⟩;refine qpN I m ((hI _ _ _).2 ⟨i,f,[],by simp [r0],by simp [e0],h,ExB.refl _ _,by simp,by rw [a];cases r with|oof=>rfl|val o j g=>cases o<;>rfl⟩) ?_;clear r0 a h;rintro m x w' hIw;obtain ⟨k,Y,s,r0,r4,hS,hE,hsl,a⟩:=(hI _ _ _).1 hIw;cases m with
 |zero=>exact absurd a.symm J
 |succ m=>
 have htl:=hS.tl;have hil:=hS.il;unfold kz yF at a;simp -implicitDefEqProofs [quQ,r0];refine (qoE hS).mono ?_;rintro _ w2 U;unfold NmR at U;have fin:∀(W:World) (j g:Nat),RSt B W tv L j g->ExB B w W->r=.val none j g->R (.returned (.tuple #[.string ⟨#[]⟩,.bool false])) W:=fun W j g h1 h2 h3=>by
  rw [<-O,h3];exact ⟨⟨_,rfl⟩,h1,h2⟩
 cases hk:qC L k 1 [] with
 |false=>
  simp only [hk,uf,km] at U a;obtain ⟨rfl,A,E⟩:=U;simp -implicitDefEqProofs;exact fin _ _ _ A (hE.trans E) a.symm
 |true=>
 simp only [hk,kk] at U a;obtain ⟨rfl,A,E⟩:=U;have hlt:=qaD hk;simp -implicitDefEqProofs [r0];refine (QZ A [58]).mono ?_;rintro _ w3 ⟨rfl,p,hE3⟩;have c:=(hE.trans E).trans hE3;unfold kS jN at a;cases S:qC L (k+1) 4 [58] with
 |false=>
  simp only [S,uf,km,yj] at p a;simp -implicitDefEqProofs;exact fin _ _ _ p c a.symm
 |true=>
 simp only [S,kk] at p a;simp -implicitDefEqProofs [quR,r0];have V:j9 L n (k+1+1) Y≠ .oof:=fun e=>by
  rw [vd,e] at a;exact J a.symm
 refine (hT p V).mono ?_;intro e4 w4 C;cases Z:j9 L n (k+1+1) Y with
 |oof=>exact absurd Z V
 |val o j g=>
 rw [Z] at C;rw [vd,Z] at a;cases o with
 |none=>
  obtain ⟨⟨s4,rfl⟩,y,F⟩:=C;simp -implicitDefEqProofs;exact fin _ _ _ y (c.trans F) a.symm
 |some u=>
 obtain ⟨rfl,y,F⟩:=C;obtain ⟨hij,hul⟩:=qeA hG hL htl Z;have hnl:(tk L k).text.length<=20:=hL _ (by rw [kR hlt];exact wz _);simp only [Ro.andThen] at a;have hjl:=y.il;simp -implicitDefEqProofs (disch:=((try simp only [kh,List.length_cons,List.length_nil]);omega)) [-qY,jB,qU,quS,r0,r4];refine (QZ y [44]).mono ?_;rintro _ w5 ⟨rfl,l,aa⟩;have z:=(c.trans F).trans aa;cases H:qC L j 4 [44] with
 |false=>
  simp only [H,uf,km,vU,qdx] at l a;simp -implicitDefEqProofs;rw [<-O,<-a];exact ⟨by simp,l,z⟩
 |true=>
 simp only [H,kk] at l a;have hjl2:=qaD H;simp -implicitDefEqProofs (disch:=((try simp only [kh,List.length_cons,List.length_nil]);omega)) [-qY,jB,qU,quT];refine ⟨m,by omega,(hI _ _ _).2 ⟨j+1,g,s++(tk L k).text++[58]++u++[44],by simp [r0],by simp,l,z, ?_, ?_⟩⟩
 ·simp only [kh,List.length_cons,List.length_nil];omega
 ·rw [<-a];cases hf:kz L (j9 L n) m (j+1) g with
  |oof=>simp [vd,hf,Ro.andThen,qdx]
  |val o j2 g2=>
   cases o with
   |none=>simp [vd,hf,Ro.andThen,qdx]
   |some t=>simp [vd,hf,Ro.andThen,qdx,vU]
@[simp] theorem qMS:True:=trivial
theorem qjl {W:World} {B:Nat} {ss:List Bs} (a:Blk W B (ss.map qi).toArray 9):Cells W (.slice (some ⟨B,0,none⟩) ss.length ss.length) 1 (ss.map qi):=a.cells (n:=ss.length) (by simp)
theorem ExB.cells {B X:Nat} {w w':World} {ss:List Bs} (h:ExB B w w') (c:Blk w X (ss.map qi).toArray 9) (a:X≠B):Cells w' (.slice (some ⟨X,0,none⟩) ss.length ss.length) 1 (ss.map qi):=qjl (h.blk c a)
theorem qfg (hG:xe L) (hL:xn L):∀(n:Nat) {i f:Nat} {w:World},RSt B w tv L i f->j9 L n i f≠ .oof->Calls Tryz.prog 74 #[.pointer (some ⟨B,0,none⟩)] w (SR B w tv L (j9 L n i f))
 |0,i,f,w,h,F=>absurd rfl F
 |n+1,i,f,w,h,F=>by
  have htl:=h.tl;have hil:=h.il;generalize a:j9 L (n+1) i f=r at F;generalize hRR:SR B w tv L r=R;have fin:∀(W:World) (s:ByteArray) (j g:Nat),RSt B W tv L j g->ExB B w W->r=.val none j g->R (.returned (.tuple #[.string s,.bool false])) W:=fun W s j g h1 h2 h3=>by
   rw [<-hRR,h3];exact ⟨⟨_,rfl⟩,h1,h2⟩
  have ok:∀(W:World) (s:Bs) (j g:Nat),RSt B W tv L j g->ExB B w W->r=.val (some s) j g->R (.returned (.tuple #[.string (qb s),.bool true])) W:=fun W s j g h1 h2 h3=>by
   rw [<-hRR,h3];exact ⟨rfl,h1,h2⟩
  refine qEN fun ρ r0=>?_;simp -implicitDefEqProofs [qrp,r0];refine jV yQ (by decide) (by decide) (by simp [Value.cells]) fun X w1 hX hE1 hb1 _=>?_;simp [Value.cells] at hb1;have hb1':Blk w1 X (([[105,110,116],[98,111,111,108],[110,117,108,108]]:List Bs).map qi).toArray 9:=QF hb1 rfl;have hXB:X≠B:=by have:=h.blk.lt;omega
  have hS1:=h.ext hE1;have hEx1:ExB B w w1:=ExB.ext hE1 h.lt;simp -implicitDefEqProofs [r0];refine (qoD (ss:=[[105,110,116],[98,111,111,108],[110,117,108,108]]) hS1 2 (by decide) (qjl hb1') (fun W hW=>hW.cells hb1' hXB) (by decide)).mono ?_;rintro e2 w2 ⟨hE2,ae⟩;unfold j9 at a;rw [qif] at a;cases hf:([[105,110,116],[98,111,111,108],[110,117,108,108]]:List Bs).find? (qC L i 2) with
  |some s=>
   rw [hf] at a ae;obtain ⟨rfl,V⟩:=ae;simp -implicitDefEqProofs;exact ok _ _ _ _ V (hEx1.trans hE2) a.symm
  |none=>
  rw [hf] at a ae;obtain ⟨rfl,V⟩:=ae;have hE02:=hEx1.trans hE2;simp only [List.cons_ne_self,km,reduceCtorEq] at V a;simp -implicitDefEqProofs [qrm,r0];generalize hf0:max f i=f0 at V a;refine (qBs V [97,114,114,97,121]).mono ?_;rintro _ w3 ⟨rfl,H,hE3⟩;have hE03:=hE02.trans hE3;rw [jN] at a;cases hk1:qC L i 2 [97,114,114,97,121] with
  |true=>
   simp only [hk1,kk] at H a;simp -implicitDefEqProofs [r0];refine (QZ H [91]).mono ?_;rintro _ w4 ⟨rfl,S,ac⟩;have E:=hE03.trans ac;rw [kS,jN] at a;cases A:qC L (i+1) 4 [91] with
   |false=>
    simp only [A,uf,km,yj] at S a;simp -implicitDefEqProofs;exact fin _ _ _ _ S E a.symm
   |true=>
   simp only [A,kk] at S a;simp -implicitDefEqProofs [qrn,r0];have C:j9 L n (i+1+1) f0≠ .oof:=fun e=>by
    rw [vd,e] at a;exact F a.symm
   refine (qfg hG hL n S C).mono ?_;intro e5 w5 hR5;cases O:j9 L n (i+1+1) f0 with
   |oof=>exact absurd O C
   |val o j g=>
   rw [O] at hR5;rw [vd,O] at a;cases o with
   |none=>
    obtain ⟨⟨s5,rfl⟩,p,U⟩:=hR5;simp -implicitDefEqProofs;exact fin _ _ _ _ p (E.trans U) a.symm
   |some u=>
   obtain ⟨rfl,p,U⟩:=hR5;have hul:=(qeA hG hL htl O).2;simp only [Ro.andThen,kS,jN] at a;simp -implicitDefEqProofs [r0];refine (QZ p [93]).mono ?_;rintro _ w6 ⟨rfl,k,Z⟩;have c:=(E.trans U).trans Z;cases m:qC L j 4 [93] with
   |false=>
    simp only [m,uf,km,yj] at k a;simp -implicitDefEqProofs;exact fin _ _ _ _ k c a.symm
   |true=>
   simp only [m,kk,vU] at k a;simp -implicitDefEqProofs (disch:=((try simp only [kh,List.length_cons,List.length_nil]);omega)) [-qY,jB,qU,qro];exact ok _ _ _ _ k c a.symm
  |false=>
  simp only [hk1,uf,km] at H a;generalize hf1:max f0 i=f1 at H a;simp -implicitDefEqProofs [qre,r0];refine jV yQ (by decide) (by decide) (by simp [Value.cells]) fun Y w4 hY ac hb4 _=>?_;simp [Value.cells] at hb4;have hb4':Blk w4 Y (([[114,101,99,111,114,100],[111,110,101,111,102]]:List Bs).map qi).toArray 9:=QF hb4 rfl;have hYB:Y≠B:=by have:=H.blk.lt;omega
  have S:=H.ext ac;have E:=hE03.trans (ExB.ext ac H.lt);simp -implicitDefEqProofs [r0];refine (qoD (ss:=[[114,101,99,111,114,100],[111,110,101,111,102]]) S 2 (by decide) (qjl hb4') (fun W hW=>hW.cells hb4' hYB) (by decide)).mono ?_;rintro e5 w5 ⟨U,ad⟩;have hE05:=E.trans U;rw [qif] at a;cases hf2:([[114,101,99,111,114,100],[111,110,101,111,102]]:List Bs).find? (qC L i 2) with
  |some many=>
   rw [hf2] at a ad;obtain ⟨rfl,p⟩:=ad;have hml:many.length<=6:=by
    have hm:=Vj hf2
    revert hm
    exact (by decide:∀s∈([[114,101,99,111,114,100],[111,110,101,111,102]]:List Bs),s.length<=6) many
   dsimp only at a;generalize (if (([[114,101,99,111,114,100],[111,110,101,111,102]]:List Bs).take 1).any (qC L i 2) then f1 else max f1 i)=f2 at p a;simp -implicitDefEqProofs [r0];refine (QZ p [91]).mono ?_;rintro _ w6 ⟨rfl,k,Z⟩;have c:=hE05.trans Z;rw [kS,jN] at a;cases A:qC L (i+1) 4 [91] with
   |false=>
    simp only [A,uf,km,yj] at k a;simp -implicitDefEqProofs;exact fin _ _ _ _ k c a.symm
   |true=>
   simp only [A,kk] at k a;simp -implicitDefEqProofs [qrk,r0];have C:kz L (j9 L n) n (i+1+1) f2≠ .oof:=fun e=>by
    rw [vd,e] at a;exact F a.symm
   refine (qBB hG hL (fun h F=>qfg hG hL n h F) k C).mono ?_;intro e7 w7 hR7;cases O:kz L (j9 L n) n (i+1+1) f2 with
   |oof=>exact absurd O C
   |val o j g=>
   rw [O] at hR7;rw [vd,O] at a;cases o with
   |none=>
    obtain ⟨⟨s5,rfl⟩,l,y⟩:=hR7;simp -implicitDefEqProofs;exact fin _ _ _ _ l (c.trans y) a.symm
   |some u=>
   obtain ⟨rfl,l,y⟩:=hR7;have hul:=(qIP hG hL htl O).2;have hj7:=l.il;simp only [Ro.andThen,kS,jN] at a;simp -implicitDefEqProofs [r0];refine (QZ l [93]).mono ?_;rintro _ w8 ⟨rfl,z,hE8⟩;have x:=(c.trans y).trans hE8;cases m:qC L j 4 [93] with
   |false=>
    simp only [m,uf,km,yj] at z a;simp -implicitDefEqProofs;exact fin _ _ _ _ z x a.symm
   |true=>
   simp only [m,kk,vU] at z a;simp -implicitDefEqProofs (disch:=((try simp only [kh,List.length_cons,List.length_nil]);omega)) [-qY,jB,qU,qrl];exact ok _ _ _ _ z x (by rw [<-a];simp)
  |none=>
  rw [hf2] at a ad;obtain ⟨rfl,p⟩:=ad;simp only [reduceCtorEq,km] at p a;generalize hf3:max f1 i=f3 at p a;simp -implicitDefEqProofs [qrf,r0];refine (QZ p [63]).mono ?_;rintro _ w6 ⟨rfl,k,Z⟩;have c:=hE05.trans Z;rw [jN] at a;cases A:qC L i 4 [63] with
  |true=>
   simp only [A,kk] at k a;simp -implicitDefEqProofs [r0];refine (qdq k 1 [116] (by decide)).mono ?_;rintro _ w7 ⟨rfl,l,y⟩;have J:=c.trans y;rw [jN] at a;cases m:qC L (i+1) 1 [116] with
   |false=>
    simp only [m,uf,km,yj] at l a;simp -implicitDefEqProofs;exact fin _ _ _ _ l J a.symm
   |true=>
    simp only [m,kk,vU] at l a;simp -implicitDefEqProofs;exact ok _ [63,116] _ _ l J a.symm
  |false=>
  simp only [A,uf,km] at k a;generalize hf4:max f3 i=f4 at k a;simp -implicitDefEqProofs [qrg,r0];refine (qoE k).mono ?_;rintro _ w7 aa;unfold NmR at aa;rw [yF] at a;cases m:qC L i 1 [] with
  |false=>
   simp only [m,uf,km] at aa a;obtain ⟨rfl,l,y⟩:=aa;simp -implicitDefEqProofs;exact fin _ _ _ _ l (c.trans y) a.symm
  |true=>
  simp only [m,kk] at aa a;obtain ⟨rfl,l,y⟩:=aa;have J:=c.trans y;have hlt:=qaD m;have hnl:(tk L i).text.length<=20:=hL _ (by rw [kR hlt];exact wz _);simp -implicitDefEqProofs [qrh,r0];refine (QZ l [91]).mono ?_;rintro _ w8 ⟨rfl,z,hE8⟩;have x:=J.trans hE8;rw [jN] at a;cases hk4:qC L (i+1) 4 [91] with
  |false=>
   simp only [hk4,uf,km,vU] at z a;simp -implicitDefEqProofs;exact ok _ _ _ _ z x a.symm
  |true=>
  simp only [hk4,kk] at z a;simp -implicitDefEqProofs [qri,r0];have C:j9 L n (i+1+1) f4≠ .oof:=fun e=>by
   rw [vd,e] at a;exact F a.symm
  refine (qfg hG hL n z C).mono ?_;intro e9 w9 hR9;cases O:j9 L n (i+1+1) f4 with
  |oof=>exact absurd O C
  |val o j g=>
  rw [O] at hR9;rw [vd,O] at a;cases o with
  |none=>
   obtain ⟨⟨s5,rfl⟩,hS9,hE9⟩:=hR9;simp -implicitDefEqProofs;exact fin _ _ _ _ hS9 (x.trans hE9) a.symm
  |some u=>
  obtain ⟨rfl,hS9,hE9⟩:=hR9;have hul:=(qeA hG hL htl O).2;simp only [Ro.andThen,kS,jN] at a;simp -implicitDefEqProofs [r0];refine (QZ hS9 [93]).mono ?_;rintro _ wa ⟨rfl,ab,hEa⟩;have hE0a:=(x.trans hE9).trans hEa;cases hk5:qC L j 4 [93] with
  |false=>
   simp only [hk5,uf,km,yj] at ab a;simp -implicitDefEqProofs;exact fin _ _ _ _ ab hE0a a.symm
  |true=>
  simp only [hk5,kk,vU] at ab a;simp -implicitDefEqProofs (disch:=((try simp only [kh,List.length_cons,List.length_nil]);omega)) [-qY,jB,qU,qrj];exact ok _ _ _ _ ab hE0a (by rw [<-a];simp)
end
@[simp] theorem qNn:qh Tryz.prog 33=true:=by kernel_rfl
@[simp] theorem qNw:qh Tryz.prog 23=true:=by kernel_rfl
@[simp] theorem qNq:qh Tryz.prog 25=true:=by kernel_rfl
@[simp] theorem qNk:qh Tryz.prog 78=true:=by kernel_rfl
def qJ6 {v:Value} (h:qu v=true):Tryz.prog.built 92 [(0,v)]=some #[v,.int .i64 0,.int .i64 0]:=by
 rcases xT h with ⟨b,o,n,c,rfl,_⟩|rfl|⟨b,o,s,rfl⟩<;>kernel_rfl
theorem qqu {s:Bs} {a:List Tok} {cs:List Bs} (e:qp s=.ok a cs) (c:s.length<=100) {o:Option Bs} {j g:Nat} (h:j9 a (a.length+3) 0 0=.val o j g) (E:j<=a.length):qI s=(match o with|some b=>decide (j=a.length)&&decide (b=s)|none=>false):=by
 have y:=Q7 e;have k:=qdb y (a.length+3) (a.length+3) 0 0 0 rfl;rw [h] at k;have z:=qp2 (L:=a) (j1 _) 0;unfold qI;rw [e];simp only [c,y4,ud];cases m:kind a (a.length+3) 0 0 with
 |oof=>exact absurd m z
 |no f=>
  rw [m] at k;cases o with
  |none=>rfl
  |some b=>exact absurd k.2 (by simp [qen,QI])
 |ok u F f=>
  rw [m] at k;obtain ⟨b,x,A,C,_,p⟩:=k;subst A;subst x;have l:b=ja (jW a 0 j):=p;by_cases n:j=a.length
  ·have:jW a 0 j=a:=by unfold jW;rw [ul (by omega)];rfl
   rw [this] at l;simp [n,l]
  ·have:¬a.length<=j:=by omega
   simp [n,this]
theorem qBG {w:World} (s:Bs) (hs:s.length<4611686018427387904):Calls Tryz.prog 23 #[.string (qb s)] w fun e w'=>e=.returned (.bool (qI s))/\qc w w':=by
 generalize U:(fun (e:Ending) (w':World)=>e=.returned (.bool (qI s))/\qc w w')=R;refine qGl fun ρ r0=>?_;simp -implicitDefEqProofs [qty,r0];refine (L01.qBo s hs).mono ?_;rintro _ w1 ⟨v,rfl,hv,hE1⟩;simp -implicitDefEqProofs [fV];refine qX L01.z31 fun F w2 hF hE2 hb2 _=>?_;simp -implicitDefEqProofs;refine jx (B:=F) (by simp) hb2 (by simp [Value.cells]) (by simp [Value.cells]) (by simpa [Value.cells] using L01.yw) fun w3 hO3 Y=>?_;simp [Value.cells] at Y;have A:qc w1 w3:=hO3.ext hE2 hF;have J:qc w w3:=hE1.trans' A;have hc0:w3.cell? ⟨F,0,none⟩=some (.int .i64 (qp s).err):=by rw [Y.cell];rfl
 simp -implicitDefEqProofs [hc0,r0];by_cases z:(qp s).err=0/\s.length<=100
 ·obtain ⟨O,y⟩:=z;have E:¬(100:Int)<(s.length:Int):=by omega
  obtain ⟨a,cs,k⟩:∃a cs,qp s=.ok a cs:=by
   cases h:qp s with
   |ok a cs=>exact ⟨a,cs,rfl⟩
   |bad e l=>rw [h] at O;exact absurd O (qij h)
  rw [k] at hv;have H:Own w.heap.size 53 3 w1 v (qF a):=hv;have n:=Q7 k;have htl:a.length<=20000:=by have:=(L01.qih s).1;rw [k] at this;exact this
  have p:=H.isl;have hic:=vN p;have V:ql v=a.length:=by have:=(L01.jR H).len;rw [jA] at this;omega
  simp -implicitDefEqProofs [O,E,qs9,qJ6 p];refine vO fun B w4 hB S Z _=>?_;simp -implicitDefEqProofs [Value.cells,hic] at Z⊢;have hS:RSt B w4 v a 0 0:=⟨Z,Own.down ((H.ext A).ext S) (uz _),htl,uz _,uz _⟩;refine (qfg n (qid n) (a.length+3) hS (qmM (j1 _) 0)).mono ?_;intro e5 w5 C;cases ht:j9 a (a.length+3) 0 0 with
  |oof=>exact absurd ht (qmM (j1 _) 0)
  |val o j g=>
  rw [ht] at C;have fin:∀(b:Bool) (W:World),ExB B w4 W->b=qI s->R (.returned (.bool b)) W:=fun b W hW m=>by
   rw [<-U,m];refine ⟨rfl,qle (J.trans' S) hW.below ?_⟩;have:=J.size;omega
  cases o with
  |none=>
   obtain ⟨⟨s5,rfl⟩,u,x⟩:=C;have c:=qqu k y ht u.il;simp -implicitDefEqProofs;exact fin _ _ x c.symm
  |some b=>
   obtain ⟨rfl,u,x⟩:=C;have c:=qqu k y ht u.il;have c1:w5.cell? ⟨B,1,none⟩=some (.int .i64 (j:Int)):=by rw [u.blk.cell];rfl
   by_cases hj:j=a.length
   ·simp -implicitDefEqProofs [c1,p,V,hj,jC,r0];exact fin _ _ x (by rw [c];simp [hj])
   ·have hj':¬(j:Int)=(a.length:Int):=by omega
    simp -implicitDefEqProofs [c1,p,V,hj,hj',jC,r0];exact fin _ _ x (by rw [c];simp [hj])
 ·have m:(qp s).err≠0\/100<s.length:=by
   rcases JA ((qp s).err=0) with h|h
   ·exact .inr (by have:=fun h2=>z ⟨h,h2⟩;omega)
   ·exact .inl h
  have c:qI s=false:=by
   unfold qI;cases h:qp s with
   |bad e l=>rfl
   |ok a cs=>
    rw [h] at m;rcases m with m|m
    ·exact absurd rfl m
    ·have:¬s.length<=100:=by omega
     simp [this]
  have fin:R (.returned (.bool false)) w3:=by rw [<-U,c];exact ⟨rfl,J⟩
  rcases m with m|m
  ·simp -implicitDefEqProofs [m];exact fin
  ·have hb':(100:Int)<(s.length:Int):=by omega
   by_cases O:(qp s).err=0
   ·simp -implicitDefEqProofs [O,hb'];exact fin
   ·simp -implicitDefEqProofs [O];exact fin
def qBr {w:World}:Calls Tryz.prog 78 #[] w fun e w'=>∃v,e=.returned v/\Own w.heap.size 9 1 w' v (jL.map qi)/\qc w w':=by
 refine qEH fun ρ=>?_;simp -implicitDefEqProofs [qrc];refine jV yQ (by decide) (by decide) (by simp [Value.cells]) fun X w1 h g a _=>?_;simp [Value.cells] at a;have c:Blk w1 X (jL.map qi).toArray 9:=QF a rfl;simp -implicitDefEqProofs;exact ⟨Own.lit (n:=4) (sz:=1) c (by decide) h (by decide),g⟩
theorem qJx {s:Bs} {k:Nat} (h:kC s=some k):jL.contains s=false:=by
 cases a:jL.contains s with
 |false=>rfl
 |true=>
  have c:=Jl.1 a;have:kC s=none:=(by decide:∀w∈jL,kC w=none) s c;rw [h] at this;cases this
def qw7 (c:UInt8):((c.toNat:Int)=95)↔c=95:=by
 constructor
 ·intro h;apply JN.1;show c.toNat=95;omega
 ·rintro rfl;rfl
theorem qBH {w:World} (s:Bs) (hs:s.length<4611686018427387904):Calls Tryz.prog 25 #[.string (qb s)] w fun e w'=>e=.returned (.bool (vx s))/\qc w w':=by
 generalize n:(fun (e:Ending) (w':World)=>e=.returned (.bool (vx s))/\qc w w')=R;refine qF8 fun ρ r0=>?_;simp -implicitDefEqProofs [qsT];have rest:∀(o:qa) (k:Option Nat),o 0=.string (qb s)->o 3=.int .i64 (match k with|some k=>(k:Int)|none=> -1)->kC s=k->qga.wp ⟨Tryz.prog,46,qsS,[]⟩ (qB [.tmp 2] R) (ji [.tmp 2] R) o w:=by
  intro o k r0 r3 hk;cases k with
  |some k=>
   have e:vx s=(qg (s.take k)&&qg (s.drop (k+1))):=by unfold vx;rw [qJx hk,hk];rfl
   have hkl:k<s.length:=by
    have:=hk;unfold kC at this;rw [VE] at this;exact this.1
   have hk0:¬((k:Int)<0):=by omega
   have S:(k:Int)<=(s.length:Int):=by omega
   have hkn:k<=s.length:=by omega
   have hw1:IntKind.i64.wrap ((k:Int)+1)=(k:Int)+1:=qH (by omega);have hk1:(k:Int)+1<=(s.length:Int):=by omega
   have U:k+1<=s.length:=by omega
   have hkt:((k:Int)+1).toNat=k+1:=by omega
   have x1:=L01.qbB s 0 k;have x2:=L01.qeb s (k+1);simp at x1;simp -implicitDefEqProofs [qga,r3,hk0,qsN,r0,S,hkn,x1];refine (L01.qfe (s.take k)).mono ?_;rintro _ w1 ⟨rfl,m⟩;cases h1:qg (s.take k) with
   |false=>
    simp -implicitDefEqProofs;rw [<-n,e,h1];exact ⟨rfl,m⟩
   |true=>
    simp -implicitDefEqProofs [r0,r3,hw1,hk1,U,hkt,x2];refine (L01.qfe (s.drop (k+1))).mono ?_;rintro _ w2 ⟨rfl,E⟩;simp -implicitDefEqProofs;rw [<-n,e,h1];exact ⟨rfl,m.trans' E⟩
  |none=>
   have e:vx s=(jL.contains s||qg s):=by unfold vx;rw [hk]
   simp -implicitDefEqProofs [qga,r3];refine (qBr).mono ?_;rintro _ w1 ⟨v,rfl,hv,m⟩;have C:=hv.isl;have A:ql v=4:=by have:=(L01.jR hv).len;simpa [jL] using this.symm
   simp -implicitDefEqProofs;obtain ⟨I,y⟩:∃I:Nat->qa->World->Prop,∀j g w',I j g w'↔(g 0=.string (qb s)/\g 5=v/\qc w1 w'/\∀x∈jL.take j,x≠s):=⟨_,fun _ _ _=>Iff.rfl⟩;refine vD 6 4 I (by simp) ((y _ _ _).2 ⟨by simp [r0],by simp,qO _,by simp⟩) ?_;clear r0 r3;rintro j g w' hj z H;obtain ⟨r0,r5,Z,l⟩:=(y _ _ _).1 H;have u:IntKind.i64.wrap ((j:Int)+1)=(j:Int)+1:=qH (by omega);by_cases c:j<4
   ·have a:(j:Int)<4:=by omega
    have V:j<jL.length:=c;have p:=(L01.jR (hv.ext Z)).cell j (by simpa using V);simp only [u6,qi] at p;by_cases J:jL[j]=s
    ·simp -implicitDefEqProofs [qf9,z,r5,C,A,a,c,qj8,p,r0,jC,J];rw [<-n,e];refine ⟨?_,m.trans' Z⟩;have:jL.contains s=true:=Jl.2 (by rw [<-J];exact wz _);rw [this];rfl
    ·simp -implicitDefEqProofs [qf9,z,r5,C,A,a,c,qj8,p,r0,jC,J,qsP,u];refine (y _ _ _).2 ⟨by simp [r0],by simp [r5],Z,fun x Y=>?_⟩;rw [uG V] at Y;rcases uC.1 Y with h|h
     ·exact l x h
     ·rw [uH.1 h];exact J
   ·have a:¬(j:Int)<4:=by omega
    have hj4:j=4:=by omega
    subst hj4;simp -implicitDefEqProofs [qf9,z,r5,C,A,qsO,r0];refine (L01.qfe s).mono ?_;rintro _ w2 ⟨rfl,E⟩;simp -implicitDefEqProofs;rw [<-n,e];refine ⟨?_,(m.trans' Z).trans' E⟩;have:jL.contains s=false:=by
     cases p:jL.contains s with
     |false=>rfl
     |true=>exact absurd rfl (l s (by have:=Jl.1 p;simpa [jL] using this))
    rw [this];rfl
 obtain ⟨I,y⟩:∃I:Nat->qa->World->Prop,∀j g w',I j g w'↔(g 0=.string (qb s)/\g 3=.int .i64 (-1)/\w'=w/\∀q (O:q<s.length),q<j->s[q]≠95):=⟨_,fun _ _ _=>Iff.rfl⟩;refine vD 4 s.length I (by simp) ((y _ _ _).2 ⟨by simp [r0],by simp,rfl,fun q _ h=>by omega⟩) ?_;clear r0;rintro j g w' hj z H;obtain ⟨r0,r3,rfl,l⟩:=(y _ _ _).1 H;have u:IntKind.i64.wrap ((j:Int)+1)=(j:Int)+1:=qH (by omega);by_cases c:j<s.length
 ·have a:(j:Int)<(s.length:Int):=by omega
  have hg:((qb s)[j]'(by simpa using c))=s[j]:=rfl;have hsz:j<(qb s).size:=by simpa using c
  simp -implicitDefEqProofs [qj7,z,r0,a,c,qsQ,hg];split
  ·rename_i F;have p:s[j]=95:=(qw7 _).1 F;refine rest _ (some j) (by simp [r0]) (by simp) ?_;unfold kC;rw [VE];exact ⟨c,Vo p,fun q O=>fun h=>l q (by omega) O (Vr h)⟩
  ·rename_i F;have p:¬s[j]=95:=fun h=>F ((qw7 _).2 h);simp -implicitDefEqProofs [qsR,z,u,c];refine (y _ _ _).2 ⟨by simp [r0],by simp [r3],rfl,fun q O hqj=>?_⟩;by_cases h:q=j
   ·subst h;exact p
   ·exact l q O (by omega)
 ·have a:¬(j:Int)<(s.length:Int):=by omega
  simp -implicitDefEqProofs [qj7,z,r0,a,c];refine rest _ none (by simp [r0]) (by simp [r3]) ?_;unfold kC;rw [List.findIdx?_eq_none_iff];intro x J;obtain ⟨q,O,rfl⟩:=Vh.1 J;simpa using l q O (by omega)
noncomputable def qcr:IR:=.reg [za 5 (zI .add (zv 5) (zK 1))]
noncomputable def qcq:IR:=.seq (.block 1 (zq [za 16 (.op2 .ixs (zv 1) (zv 5))] <| .block 2 (zq [za 17 (zB .eql (zv 16) (.const (zu 110)))] <| .cond (zv 17) (.reg [za 19 (zf 1 (zv 2)),zw 9 (zt 19) (zY #[])]) (zq [za 20 (zB .eql (zv 16) (.const (zu 118)))] <| .cond (zv 20) (.reg [za 22 (zf 2 (zv 2)),zw 9 (zt 22) (zY #[])]) (zq [za 23 (zB .eql (zv 16) (.const (zu 116)))] <| .cond (zv 23) (.reg [za 25 (zf 3 (zv 2)),zw 9 (zt 25) (zY #[])]) (zq [za 26 (zB .eql (zv 16) (.const (zu 78)))] <| .cond (zv 26) (.reg [za 28 (zf 4 (zv 2)),zw 3 (zt 28) (zO 0)]) .skip)))))) (qcr)
noncomputable def qbv:IR:=zq [za 11 (zI .lss (zv 5) (zT (zv 1)))] <| .seq (.cond (zv 11) .skip (.exit 0)) (qcq)
noncomputable def qte:IR:=zq [za 4 (.ite (.ite (.ite (zS .eql (zo 1 (zv 2)) (.const (zs #[]))) (zS .eql (zo 2 (zv 2)) (.const (zs #[]))) (zQ false)) (zS .eql (zo 3 (zv 2)) (.const (zs #[]))) (zQ false)) (zI .eql (zo 4 (zv 2)) (zK 0)) (zQ false))] <| .ret
noncomputable def qtf:IR:=zq [zE 2 (.box 44 (zt 0)) 0,za 4 (zQ false),za 6 (zf 0 (zv 2)),zw 5 (zt 6) (.const (zu 0)),za 7 (zf 5 (zv 2)),zw 40 (zt 7) (.const (.slice none 0 0)),za 5 (zK 0)] <| .seq (.block 0 (.loop qbv)) (qte)
def qGq:List Nat:=zV 29 [3,8,9,10,12,13,14,15,18,21,24,27]
def qGp:C2 238 47 qGq qtf [.tmp 4]:=c2 [] Tryz.func238
noncomputable def qkM:IR:=zq [za 2 (zQ false),za 2 (.ite (zB .geq (zv 0) (.const (zu 1))) (zB .leq (zv 0) (.const (zu 10))) (zQ false))] <| .ret
def qHP:List Nat:=[0,2]
def qHO:C1 152 9 qHP qkM [.tmp 2]:=c1 [] Tryz.func152
noncomputable def qss:IR:=zq [za 2 (zQ false),za 2 (.ite (.ite (.ite (zB .geq (zv 0) (.const (zu 21))) (zB .leq (zv 0) (.const (zu 37))) (zQ false)) (zB .neq (zv 0) (.const (zu 33))) (zQ false)) (zB .neq (zv 0) (.const (zu 36))) (zQ false))] <| .ret
def qFK:List Nat:=[0,2]
def qFJ:C1 287 17 qFK qss [.tmp 2]:=c1 [] Tryz.func287
noncomputable def qkj:IR:=.reg [za 6 (zI .add (zv 6) (zK 1))]
noncomputable def qtg:IR:=.seq (.block 1 (zq [za 7 (zo 0 (zx 6 (zv 0) (zl (zx 1 (zo 5 (zv 3)) (zv 6)))))] <| .block 2 (zq [za 26 (zB .eql (zv 7) (.const (zu 20)))] <| .cond (zv 26) (.reg [za 5 (zS .add (zv 5) (.const (zs #[113])))]) (zq [za 31 (zB .eql (zv 7) (.const (zu 5)))] <| .cond (zv 31) (.reg [za 5 (zS .add (zv 5) (.const (zs #[99])))]) (zq [zm 37 7,zc 38 152 #[zt 37] #[5] 4,zm 36 38] <| .cond (zv 36) (.reg [za 5 (zS .add (zv 5) (.const (zs #[101])))]) (zq [za 41 (zB .eql (zv 7) (.const (zu 33)))] <| .cond (zv 41) (.reg [za 5 (zS .add (zv 5) (.const (zs #[119])))]) (zq [za 46 (zB .eql (zv 7) (.const (zu 36)))] <| .cond (zv 46) (.reg [za 5 (zS .add (zv 5) (.const (zs #[97])))]) (zq [zm 52 7,zc 53 287 #[zt 52] #[5] 4,zm 51 53] <| .cond (zv 51) (.reg [za 5 (zS .add (zv 5) (.const (zs #[115])))]) (.reg [za 5 (zS .add (zv 5) (.const (zs #[63])))]))))))))) (qkj)
noncomputable def qgg:IR:=zq [za 12 (zI .lss (zv 6) (zL (zo 5 (zv 3))))] <| .seq (.cond (zv 12) .skip (.exit 0)) (qtg)
noncomputable def qgh:IR:=zq [zm 4 5] <| .ret
noncomputable def qti:IR:=zq [zE 3 (.box 44 (zt 1)) 0,za 4 (.const (zs #[])),za 5 (.const (zs #[])),za 6 (zK 0)] <| .seq (.block 0 (.loop qgg)) (qgh)
def qth:List Nat:=[0,1,3,4,5,6,7,12,26,31,36,37,38,41,46,51,52,53]
def qGr:C2 237 57 qth qti [.tmp 4]:=c2 [] Tryz.func237
noncomputable def qgf:IR:=.cond (zv 35) (zq [za 4 (zQ false)] <| .ret) .skip
noncomputable def qge:IR:=.reg [za 5 (zI .add (zv 5) (zK 1))]
noncomputable def qs7:IR:=.seq (.block 1 (.seq (.drw [za 35 (.ite (zB .neq (.op2 .ixs (zv 0) (zv 5)) (.op2 .ixs (zv 1) (zv 5))) (.ite (zB .neq (.op2 .ixs (zv 0) (zv 5)) (.const (zu 99))) (zQ true) (zB .neq (.op2 .ixs (zv 1) (zv 5)) (.const (zu 101)))) (zQ false))]) (qgf))) (qge)
noncomputable def qkd:IR:=zq [za 14 (zI .lss (zv 5) (zT (zv 0)))] <| .seq (.cond (zv 14) .skip (.exit 0)) (qs7)
noncomputable def qdX:IR:=zq [za 4 (zQ true)] <| .ret
noncomputable def qs6:IR:=zq [za 5 (zK 0)] <| .seq (.block 0 (.loop qkd)) (qdX)
noncomputable def qke:IR:=zq [za 4 (zQ false),za 10 (zI .neq (zT (zv 0)) (zT (zv 1)))] <| .seq (.cond (zv 10) (zq [za 4 (zQ false)] <| .ret) .skip) (qs6)
def qbu:List Nat:=[0,1,4,5,10,14,35]
def qGk:C2 240 36 qbu qke [.tmp 4]:=c2 [] Tryz.func240
noncomputable def qki:IR:=.reg [za 7 (zI .add (zv 7) (zK 1))]
noncomputable def qkh:IR:=.seq (.block 3 (.drw [za 6 (.ite (zv 6) (zQ true) (zB .eql (.op2 .ixs (zv 0) (zv 5)) (.op2 .ixs (zv 1) (zv 7))))])) (qki)
noncomputable def qdY:IR:=zq [za 17 (zI .lss (zv 7) (zT (zv 1)))] <| .seq (.cond (zv 17) .skip (.exit 2)) (qkh)
noncomputable def qkg:IR:=zq [za 31 (zn (zv 6))] <| .cond (zv 31) (zq [za 4 (zQ false)] <| .ret) .skip
noncomputable def qtc:IR:=.reg [za 5 (zI .add (zv 5) (zK 1))]
noncomputable def qtb:IR:=.seq (.block 1 (zq [za 6 (zQ false),za 7 (zK 0)] <| .seq (.block 2 (.loop qdY)) (qkg))) (qtc)
noncomputable def qkf:IR:=zq [za 11 (zI .lss (zv 5) (zT (zv 0)))] <| .seq (.cond (zv 11) .skip (.exit 0)) (qtb)
noncomputable def qta:IR:=zq [za 4 (zQ true)] <| .ret
noncomputable def qtd:IR:=zq [za 4 (zQ false),za 5 (zK 0)] <| .seq (.block 0 (.loop qkf)) (qta)
def qGo:List Nat:=[0,1,4,5,6,7,11,17,31]
def qGn:C2 239 32 qGo qtd [.tmp 4]:=c2 [] Tryz.func239
noncomputable def qs4:IR:=.reg [za 4 (zI .add (zv 4) (zK 1))]
noncomputable def qkc:IR:=.seq (.block 1 (zq [za 19 (zS .eql (zl (zx 1 (zv 3) (zv 4))) (zv 0))] <| .cond (zv 19) (zq [za 2 (zQ true)] <| .ret) .skip)) (qs4)
noncomputable def qgd:IR:=zq [za 11 (zI .lss (zv 4) (zL (zv 3)))] <| .seq (.cond (zv 11) .skip (.exit 0)) (qkc)
noncomputable def qs3:IR:=zq [za 2 (zQ false)] <| .ret
noncomputable def qs5:IR:=zq [za 2 (zQ false),zc 5 150 #[] #[] 51,zc 6 151 #[] #[] 51,zp 7 #[zt 5,zt 6] #[51,51] 51,zm 3 7,za 4 (zK 0)] <| .seq (.block 0 (.loop qgd)) (qs3)
def qGj:List Nat:=[0,2,3,4,5,6,7,11,19]
def qGi:C1 241 20 qGj qs5 [.tmp 2]:=c1 [] Tryz.func241
noncomputable def qaF:IR:=zq [za 101 (zM 6 (zv 3)),zc 102 238 #[zt 101,zY #[110,118]] #[44,9] 4,zm 103 102,zg 103 true 105 (zo 1 (zv 3)),zh 103 true 106 25 #[zt 105] #[9] 4,za 108 (.ite (zv 103) (zv 106) (zQ false)),zg 108 true 110 (zo 2 (zv 3)),zh 108 true 111 23 #[zt 110] #[9] 4,za 4 (.ite (zv 108) (zv 111) (zQ false))] <| .ret
noncomputable def qaE:IR:=zq [za 85 (zS .eql (zo 2 (zv 3)) (.const (zs #[])))] <| .seq (.cond (zv 85) (zq [za 86 (zM 6 (zv 3)),zc 87 238 #[zt 86,zY #[110,116]] #[44,9] 4,za 91 (.ite (zv 87) (zv 6) (zQ false)),zg 91 true 95 (zS .eql (zo 3 (zv 3)) (.const (zs #[]))),zg 95 false 97 (zo 3 (zv 3)),zh 95 false 98 23 #[zt 97] #[9] 4,za 4 (.ite (zv 91) (.ite (zv 95) (zQ true) (zv 98)) (zQ false))] <| .ret) .skip) (qaF)
noncomputable def quC:IR:=.reg [za 7 (zI .add (zv 7) (zK 1))]
noncomputable def qkF:IR:=.seq (.block 2 (zq [za 307 (zS .eql (zo 1 (zx 6 (zv 0) (zl (zx 1 (zo 5 (zv 3)) (zv 7))))) (.const (zs #[])))] <| .cond (zv 307) (zq [za 4 (zQ false)] <| .ret) .skip)) (quC)
noncomputable def qgq:IR:=zq [za 295 (zI .lss (zv 7) (zI .sub (zT (zv 5)) (zK 1)))] <| .seq (.cond (zv 295) .skip (.exit 1)) (qkF)
noncomputable def quB:IR:=zq [za 308 (zM 6 (zv 3)),zc 309 238 #[zt 308,zY #[]] #[44,9] 4,zm 4 309] <| .ret
noncomputable def quA:IR:=zq [za 7 (zK 1)] <| .seq (.block 1 (.loop qgq)) (quB)
noncomputable def wS:IR:=.cond (zv 154) (zq [za 159 (zM 6 (zv 3)),zc 160 238 #[zt 159,zY #[]] #[44,9] 4,zm 161 160,zg 161 true 162 (zv 5),zh 161 true 163 240 #[zt 162,zY #[101]] #[9,9] 4,za 4 (.ite (zv 161) (zv 163) (zQ false))] <| .ret) (zq [za 165 (zB .eql (zv 15) (.const (zu 20)))] <| .cond (zv 165) (zq [za 167 (zM 6 (zv 3)),zc 168 238 #[zt 167,zY #[]] #[44,9] 4,zm 169 168,zg 169 true 170 (zv 5),zh 169 true 171 239 #[zt 170,zY #[115]] #[9,9] 4,za 4 (.ite (zv 169) (zv 171) (zQ false))] <| .ret) (zq [za 173 (zB .eql (zv 15) (.const (zu 21)))] <| .cond (zv 173) (zq [za 175 (zM 6 (zv 3)),zc 176 238 #[zt 175,zY #[110,116]] #[44,9] 4,za 180 (.ite (zv 176) (zv 6) (zQ false)),zg 180 true 182 (zo 3 (zv 3)),zh 180 true 183 23 #[zt 182] #[9] 4,za 185 (.ite (zv 180) (zv 183) (zQ false)),zg 185 true 186 (zv 5),zh 185 true 187 240 #[zt 186,zY #[101]] #[9,9] 4,za 4 (.ite (zv 185) (zv 187) (zQ false))] <| .ret) (zq [za 189 (zB .eql (zv 15) (.const (zu 22)))] <| .cond (zv 189) (zq [za 191 (zM 6 (zv 3)),zc 192 238 #[zt 191,zY #[110]] #[44,9] 4,za 196 (.ite (zv 192) (zv 6) (zQ false)),zg 196 true 197 (zv 5),zh 196 true 198 240 #[zt 197,zY #[101]] #[9,9] 4,za 4 (.ite (zv 196) (zv 198) (zQ false))] <| .ret) (zq [za 200 (zB .eql (zv 15) (.const (zu 23)))] <| .cond (zv 200) (zq [za 202 (zM 6 (zv 3)),zc 203 238 #[zt 202,zY #[]] #[44,9] 4,zm 204 203,zg 204 true 205 (zv 5),zh 204 true 206 240 #[zt 205,zY #[101,101,101]] #[9,9] 4,za 4 (.ite (zv 204) (zv 206) (zQ false))] <| .ret) (zq [za 208 (zB .eql (zv 15) (.const (zu 24)))] <| .cond (zv 208) (zq [za 210 (zM 6 (zv 3)),zc 211 238 #[zt 210,zY #[110]] #[44,9] 4,za 215 (.ite (zv 211) (zv 6) (zQ false)),zg 215 true 216 (zv 5),zh 215 true 217 240 #[zt 216,zY #[101,101]] #[9,9] 4,za 4 (.ite (zv 215) (zv 217) (zQ false))] <| .ret) (zq [za 219 (zB .eql (zv 15) (.const (zu 25)))] <| .cond (zv 219) (zq [za 221 (zM 6 (zv 3)),zc 222 238 #[zt 221,zY #[]] #[44,9] 4,za 4 (.ite (zv 222) (zS .eql (zv 5) (.const (zs #[99]))) (zQ false))] <| .ret) (zq [za 227 (zB .eql (zv 15) (.const (zu 26)))] <| .cond (zv 227) (zq [za 229 (zM 6 (zv 3)),zc 230 238 #[zt 229,zY #[]] #[44,9] 4,zm 231 230,zg 231 true 232 (zv 5),zh 231 true 233 240 #[zt 232,zY #[101,113]] #[9,9] 4,zg 231 true 234 (zv 233),zg 234 false 235 (zv 5),zh 234 false 236 240 #[zt 235,zY #[101,113,113]] #[9,9] 4,za 4 (.ite (zv 231) (.ite (zv 234) (zQ true) (zv 236)) (zQ false))] <| .ret) (zq [za 239 (zB .eql (zv 15) (.const (zu 27)))] <| .cond (zv 239) (zq [za 241 (zM 6 (zv 3)),zc 242 238 #[zt 241,zY #[]] #[44,9] 4,zm 243 242,zg 243 true 244 (zv 5),zh 243 true 245 240 #[zt 244,zY #[101,113]] #[9,9] 4,za 4 (.ite (zv 243) (zv 245) (zQ false))] <| .ret) (zq [za 247 (zB .eql (zv 15) (.const (zu 28)))] <| .cond (zv 247) (zq [za 249 (zM 6 (zv 3)),zc 250 238 #[zt 249,zY #[110,116]] #[44,9] 4,za 254 (.ite (zv 250) (zv 6) (zQ false)),zg 254 true 256 (zo 3 (zv 3)),zh 254 true 257 23 #[zt 256] #[9] 4,za 4 (.ite (.ite (zv 254) (zv 257) (zQ false)) (zS .eql (zv 5) (.const (zs #[99,113]))) (zQ false))] <| .ret) (zq [za 263 (zB .eql (zv 15) (.const (zu 29)))] <| .cond (zv 263) (zq [za 265 (zM 6 (zv 3)),zc 266 238 #[zt 265,zY #[]] #[44,9] 4,zm 267 266,zg 267 true 270 (zS .eql (zv 5) (.const (zs #[]))),zg 270 false 271 (zv 5),zh 270 false 272 240 #[zt 271,zY #[101]] #[9,9] 4,za 4 (.ite (zv 267) (.ite (zv 270) (zQ true) (zv 272)) (zQ false))] <| .ret) (zq [za 275 (zB .eql (zv 15) (.const (zu 32)))] <| .cond (zv 275) (zq [za 285 (.ite (zI .lss (zT (zv 5)) (zK 2)) (zQ true) (zB .neq (.op2 .ixs (zv 5) (zK 0)) (.const (zu 113)))),zg 285 false 287 (.op2 .stLo (zv 5) (zK 1)),zh 285 false 288 239 #[zt 287,zY #[119]] #[9,9] 4,za 290 (.ite (zv 285) (zQ true) (zn (zv 288)))] <| .seq (.cond (zv 290) (zq [za 4 (zQ false)] <| .ret) .skip) (quA)) (zq [za 310 (zB .eql (zv 15) (.const (zu 33)))] <| .cond (zv 310) (zq [za 312 (zM 6 (zv 3)),zc 313 238 #[zt 312,zY #[110]] #[44,9] 4,za 4 (.ite (.ite (zv 313) (.ite (zS .eql (zo 1 (zv 3)) (.const (zs #[]))) (zQ true) (zv 6)) (zQ false)) (zS .eql (zv 5) (.const (zs #[113]))) (zQ false))] <| .ret) (zq [za 326 (zB .eql (zv 15) (.const (zu 35)))] <| .cond (zv 326) (zq [za 328 (zM 6 (zv 3)),zc 329 238 #[zt 328,zY #[]] #[44,9] 4,za 335 (.ite (zv 329) (zI .gtr (zT (zv 5)) (zK 1)) (zQ false)),zg 335 true 337 (.op3 .stLoHi (zv 5) (zK 0) (zK 1)),zh 335 true 338 240 #[zt 337,zY #[101]] #[9,9] 4,za 340 (.ite (zv 335) (zv 338) (zQ false)),zg 340 true 342 (.op2 .stLo (zv 5) (zK 1)),zh 340 true 343 239 #[zt 342,zY #[97]] #[9,9] 4,za 4 (.ite (zv 340) (zv 343) (zQ false))] <| .ret) (zq [za 345 (zB .eql (zv 15) (.const (zu 36)))] <| .cond (zv 345) (zq [za 347 (zM 6 (zv 3)),zc 348 238 #[zt 347,zY #[110,118,116]] #[44,9] 4,za 352 (.ite (zv 348) (zv 6) (zQ false)),zg 352 true 354 (zo 2 (zv 3)),zh 352 true 355 79 #[zt 354] #[9] 4,za 357 (.ite (zv 352) (zv 355) (zQ false)),zg 357 true 359 (zo 3 (zv 3)),zh 357 true 360 23 #[zt 359] #[9] 4,za 4 (.ite (.ite (zv 357) (zv 360) (zQ false)) (zS .eql (zv 5) (.const (zs #[113]))) (zQ false))] <| .ret) .skip))))))))))))))
noncomputable def wo:IR:=.cond (zv 61) (zq [za 64 (zM 6 (zv 3)),zc 65 238 #[zt 64,zY #[110]] #[44,9] 4,za 4 (.ite (.ite (zv 65) (zv 6) (zQ false)) (zS .eql (zv 5) (.const (zs #[]))) (zQ false))] <| .ret) (zq [za 73 (zB .eql (zv 15) (.const (zu 5)))] <| .cond (zv 73) (zq [za 78 (zI .gtr (zT (zv 5)) (zK 6)),zg 78 false 79 (zv 5),zh 78 false 80 239 #[zt 79,zY #[101,99]] #[9,9] 4,za 82 (.ite (zv 78) (zQ true) (zn (zv 80)))] <| .seq (.cond (zv 82) (zq [za 4 (zQ false)] <| .ret) .skip) (qaE)) (zq [za 113 (zB .eql (zv 15) (.const (zu 6)))] <| .cond (zv 113) (zq [za 115 (zM 6 (zv 3)),zc 116 238 #[zt 115,zY #[110]] #[44,9] 4,zm 117 116,zg 117 true 121 (zS .eql (zo 1 (zv 3)) (.const (zs #[110,111,116]))),zg 121 true 122 (zv 5),zh 121 true 123 240 #[zt 122,zY #[101]] #[9,9] 4,zg 117 true 125 (.ite (zv 121) (zv 123) (zQ false)),zg 125 false 127 (zo 1 (zv 3)),zh 125 false 128 241 #[zt 127] #[9] 4,zg 125 false 129 (zv 128),zg 129 true 130 (zv 5),zh 129 true 131 240 #[zt 130,zY #[101,101]] #[9,9] 4,zg 125 false 132 (.ite (zv 129) (zv 131) (zQ false)),za 4 (.ite (zv 117) (.ite (zv 125) (zQ true) (zv 132)) (zQ false))] <| .ret) (zq [za 135 (zB .eql (zv 15) (.const (zu 7)))] <| .cond (zv 135) (zq [za 137 (zM 6 (zv 3)),zc 138 238 #[zt 137,zY #[]] #[44,9] 4,zm 139 138,zg 139 true 140 (zv 5),zh 139 true 141 240 #[zt 140,zY #[101,101]] #[9,9] 4,za 4 (.ite (zv 139) (zv 141) (zQ false))] <| .ret) (zq [za 143 (zB .eql (zv 15) (.const (zu 8)))] <| .cond (zv 143) (zq [za 145 (zM 6 (zv 3)),zc 146 238 #[zt 145,zY #[110]] #[44,9] 4,za 150 (.ite (zv 146) (zv 6) (zQ false)),zg 150 true 151 (zv 5),zh 150 true 152 240 #[zt 151,zY #[101]] #[9,9] 4,za 4 (.ite (zv 150) (zv 152) (zQ false))] <| .ret) (zq [za 154 (zB .eql (zv 15) (.const (zu 9)))] <| .seq (.cond (zv 154) .skip (zq [za 154 (zB .eql (zv 15) (.const (zu 10)))] <| .cond (zv 154) .skip (zq [za 154 (zB .eql (zv 15) (.const (zu 30)))] <| .cond (zv 154) .skip (.reg [za 154 (zB .eql (zv 15) (.const (zu 37)))])))) (wS))))))
noncomputable def wn:IR:=.cond (zv 52) (zq [za 55 (zM 6 (zv 3)),zc 56 238 #[zt 55,zY #[]] #[44,9] 4,za 4 (.ite (zv 56) (zS .eql (zv 5) (.const (zs #[]))) (zQ false))] <| .ret) (zq [za 61 (zB .eql (zv 15) (.const (zu 4)))] <| .seq (.cond (zv 61) .skip (.reg [za 61 (zB .eql (zv 15) (.const (zu 31)))])) (wo))
noncomputable def wq:IR:=zq [za 4 (zQ false)] <| .ret
noncomputable def quE:IR:=zq [zE 3 (.box 44 (zt 1)) 0,za 4 (zQ false),zm 8 0,za 9 (zM 6 (zv 3)),zc 10 237 #[zt 8,zt 9] #[29,44] 9,zm 5 10,za 12 (zo 1 (zv 3)),zc 13 79 #[zt 12] #[9] 4,zm 6 13,za 15 (zo 0 (zv 3))] <| .seq (.block 0 (zq [za 16 (zB .eql (zv 15) (.const (zu 1)))] <| .cond (zv 16) (zq [za 18 (zM 6 (zv 3)),zc 19 238 #[zt 18,zY #[78]] #[44,9] 4,za 4 (.ite (.ite (.ite (zv 19) (zI .geq (zo 4 (zv 3)) (zK 0)) (zQ false)) (zI .leq (zo 4 (zv 3)) (zK 1000000000)) (zQ false)) (zS .eql (zv 5) (.const (zs #[]))) (zQ false))] <| .ret) (zq [za 34 (zB .eql (zv 15) (.const (zu 2)))] <| .cond (zv 34) (zq [za 36 (zM 6 (zv 3)),zc 37 238 #[zt 36,zY #[78]] #[44,9] 4,za 4 (.ite (.ite (zv 37) (.ite (zI .eql (zo 4 (zv 3)) (zK 0)) (zQ true) (zI .eql (zo 4 (zv 3)) (zK 1))) (zQ false)) (zS .eql (zv 5) (.const (zs #[]))) (zQ false))] <| .ret) (zq [za 52 (zB .eql (zv 15) (.const (zu 3)))] <| .seq (.cond (zv 52) .skip (.reg [za 52 (zB .eql (zv 15) (.const (zu 34)))])) (wn))))) (wq)
def quD:List Nat:=[0,1,3,4,5,6,7,8,9,10,12,13,15,16,18,19,34,36,37,52,55,56,61,64,65,73,78,79,80,82,85,86,87,91,95,97,98,101,102,103,105,106,108,110,111,113,115,116,117,121,122,123,125,127,128,129,130,131,132,135,137,138,139,140,141,143,145,146,150,151,152,154,159,160,161,162,163,165,167,168,169,170,171,173,175,176,180,182,183,185,186,187,189,191,192,196,197,198,200,202,203,204,205,206,208,210,211,215,216,217,219,221,222,227,229,230,231,232,233,234,235,236,239,241,242,243,244,245,247,249,250,254,256,257,263,265,266,267,270,271,272,275,285,287,288,290,295,307,308,309,310,312,313,326,328,329,335,337,338,340,342,343,345,347,348,352,354,355,357,359,360]
def qHk:C2 170 366 quD quE [.tmp 4]:=c2 [] Tryz.func170
noncomputable def qra:IR:=.reg [za 7 (zI .add (zv 7) (zl (zx 1 (zv 4) (zv 9))))]
noncomputable def qjN:IR:=.seq (.cond (zv 57) (zq [za 2 (zQ false)] <| .ret) .skip) (qra)
noncomputable def qq7:IR:=.reg [za 8 (zI .add (zv 8) (zK 1))]
noncomputable def qjM:IR:=.seq (.block 3 (zq [za 9 (zI .add (zI .sub (zL (zv 3)) (zv 6)) (zv 8))] <| .seq (.drw [za 57 (zI .neq (zl (zx 1 (zo 5 (zx 6 (zv 0) (zv 5))) (zv 8))) (zl (zx 1 (zv 3) (zv 9))))]) (qjN))) (qq7)
noncomputable def qdU:IR:=zq [za 36 (zI .lss (zv 8) (zv 6))] <| .seq (.cond (zv 36) .skip (.exit 2)) (qjM)
noncomputable def qq6:IR:=.reg [zE 71 (.buildSlice 40 0 #[]) 40,za 77 (.op3 (.slLoHi 1) (zv 3) (zK 0) (zI .sub (zL (zv 3)) (zv 6))),zp 78 #[zt 71,zt 77] #[40,40] 40,zm 79 5,zE 80 (.buildSlice 40 1 #[(0,(zt 79))]) 40,zp 81 #[zt 78,zt 80] #[40,40] 40,zm 3 81,zE 82 (.buildSlice 40 0 #[]) 40,za 88 (.op3 (.slLoHi 1) (zv 4) (zK 0) (zI .sub (zL (zv 4)) (zv 6))),zp 89 #[zt 82,zt 88] #[40,40] 40,zm 90 7,zE 91 (.buildSlice 40 1 #[(0,(zt 90))]) 40,zp 92 #[zt 89,zt 91] #[40,40] 40,zm 4 92]
noncomputable def qq5:IR:=zq [zm 64 0,za 68 (zM 6 (zx 6 (zv 0) (zv 5))),zc 69 170 #[zt 64,zt 68] #[29,44] 4,za 70 (zn (zv 69))] <| .seq (.cond (zv 70) (zq [za 2 (zQ false)] <| .ret) .skip) (qq6)
noncomputable def qq4:IR:=zq [za 7 (zK 1),za 8 (zK 0)] <| .seq (.block 2 (.loop qdU)) (qq5)
noncomputable def qq3:IR:=.reg [za 5 (zI .add (zv 5) (zK 1))]
noncomputable def qjL:IR:=.seq (.block 1 (zq [za 6 (zL (zo 5 (zx 6 (zv 0) (zv 5)))),za 33 (zI .gtr (zv 6) (zL (zv 3)))] <| .seq (.cond (zv 33) (zq [za 2 (zQ false)] <| .ret) .skip) (qq4))) (qq3)
noncomputable def qf0:IR:=zq [za 21 (zI .lss (zv 5) (zL (zv 0)))] <| .seq (.cond (zv 21) .skip (.exit 0)) (qjL)
noncomputable def qq9:IR:=zq [za 2 (zI .eql (zL (zv 3)) (zK 1))] <| .ret
noncomputable def qq8:IR:=zq [za 3 (.const (.slice none 0 0)),za 4 (.const (.slice none 0 0)),za 5 (zK 0)] <| .seq (.block 0 (.loop qf0)) (qq9)
noncomputable def qf1:IR:=zq [za 2 (zQ false),za 17 (.ite (zI .eql (zL (zv 0)) (zK 0)) (zQ true) (zI .gtr (zL (zv 0)) (zK 400)))] <| .seq (.cond (zv 17) (zq [za 2 (zQ false)] <| .ret) .skip) (qq8)
def qEC:List Nat:=[0,2,3,4,5,6,7,8,9,17,21,33,36,57,64,68,69,70,71,77,78,79,80,81,82,88,89,90,91,92]
def qEB:C1 81 96 qEC qf1 [.tmp 2]:=c1 [] Tryz.func81
noncomputable def qrw:IR:=zq [za 2 (zQ false),zm 4 0,zc 5 81 #[zt 4] #[29] 4,zm 3 5,zm 7 3,zg 7 true 14 (zo 0 (zx 6 (zv 0) (zI .sub (zL (zv 0)) (zK 1)))),zh 7 true 15 152 #[zt 14] #[5] 4,za 2 (.ite (zv 7) (zv 15) (zQ false))] <| .ret
def qEW:List Nat:=[0,2,3,4,5,7,14,15]
def qEV:C1 67 17 qEW qrw [.tmp 2]:=c1 [] Tryz.func67
noncomputable def quv:Code:=((Tryz.f174.body).getD .skip)
noncomputable def quu:IR:=.ret
noncomputable def qut:IR:=.seq (.raw (qP quv 3)) (quu)
noncomputable def qkC:IR:=zq [za 2 (.const (zs #[])),za 4 (zI .lss (zv 0) (zK 10))] <| .seq (.cond (zv 4) (zq [za 7 (.op1 (.conv .u8) (zI .add (zK 48) (zv 0))),zE 8 (.buildSlice 112 1 #[(0,(zt 7))]) 112,za 2 (.op1 .b2s (zv 8))] <| .ret) .skip) (qut)
def quw:List Nat:=zV 20 [1,3,5,6,9]
def qHg:C1 174 20 quw qkC [.tmp 2]:=c1 [3] Tryz.func174
noncomputable def qjJ:IR:=zq [za 6 (.const (zs #[102,97,108,115,101]))] <| .ret
noncomputable def qqU:IR:=.ret
noncomputable def qqT:IR:=.ret
noncomputable def qjF:IR:=.reg [zm 116 8,zm 117 0,za 122 (zl (zx 1 (zo 5 (zv 7)) (zv 9))),zc 123 83 #[zt 117,zt 122,(.const (zb false))] #[29,3,4] 9,za 8 (zS .add (zv 116) (zv 123))]
noncomputable def qjE:IR:=.reg [za 9 (zI .add (zv 9) (zK 1))]
noncomputable def qjD:IR:=.seq (.block 2 (zq [za 113 (zI .gtr (zv 9) (zK 0))] <| .seq (.cond (zv 113) (.reg [za 8 (zS .add (zv 8) (.const (zs #[44,32])))]) .skip) (qjF))) (qjE)
noncomputable def qfY:IR:=zq [za 109 (zI .lss (zv 9) (zL (zo 5 (zv 7))))] <| .seq (.cond (zv 109) .skip (.exit 1)) (qjD)
noncomputable def qqS:IR:=zq [za 6 (zS .add (zv 8) (.const (zs #[41])))] <| .ret
noncomputable def qjC:IR:=zq [za 8 (zS .add (zv 8) (.const (zs #[40]))),za 9 (zK 0)] <| .seq (.block 1 (.loop qfY)) (qqS)
noncomputable def qfZ:IR:=zq [za 96 (zS .neq (zo 3 (zv 7)) (.const (zs #[])))] <| .seq (.cond (zv 96) (.reg [za 8 (zS .add (zS .add (zS .add (zv 8) (.const (zs #[123]))) (zo 3 (zv 7))) (.const (zs #[125])))]) .skip) (qjC)
noncomputable def qjI:IR:=zq [zm 6 10] <| .ret
noncomputable def qjH:IR:=zq [zm 155 2] <| .seq (.cond (zv 155) (zq [za 6 (zS .add (zS .add (.const (zs #[40])) (zv 10)) (.const (zs #[41])))] <| .ret) .skip) (qjI)
noncomputable def qjG:IR:=zq [za 10 (.const (zs #[])),za 129 (zS .eql (zo 1 (zv 7)) (.const (zs #[110,111,116])))] <| .seq (.cond (zv 129) (.reg [zm 130 0,za 134 (zl (zx 1 (zo 5 (zv 7)) (zK 0))),zc 135 83 #[zt 130,zt 134,(.const (zb true))] #[29,3,4] 9,za 10 (zS .add (.const (zs #[110,111,116,32])) (zv 135))]) (.drw [zm 137 0,za 141 (zl (zx 1 (zo 5 (zv 7)) (zK 0))),zc 142 83 #[zt 137,zt 141,(.const (zb true))] #[29,3,4] 9,za 147 (zS .add (zS .add (zS .add (zv 142) (.const (zs #[32]))) (zo 1 (zv 7))) (.const (zs #[32]))),zm 148 0,za 152 (zl (zx 1 (zo 5 (zv 7)) (zK 1))),zc 153 83 #[zt 148,zt 152,(.const (zb true))] #[29,3,4] 9,za 10 (zS .add (zv 147) (zv 153))])) (qjH)
noncomputable def qqW:IR:=zq [za 6 (.const (zs #[])),za 14 (zM 6 (zx 6 (zv 0) (zv 1))),zA 7 44,zw 44 (zt 7) (zt 14),za 16 (zo 0 (zv 7))] <| .seq (.block 0 (zq [za 17 (zB .eql (zv 16) (.const (zu 1)))] <| .cond (zv 17) (zq [za 20 (zo 4 (zv 7)),zc 21 174 #[zt 20] #[3] 9,zm 6 21] <| .ret) (zq [za 22 (zB .eql (zv 16) (.const (zu 2)))] <| .cond (zv 22) (zq [za 26 (zI .eql (zo 4 (zv 7)) (zK 1))] <| .seq (.cond (zv 26) (zq [za 6 (.const (zs #[116,114,117,101]))] <| .ret) .skip) (qjJ)) (zq [za 27 (zB .eql (zv 16) (.const (zu 3)))] <| .cond (zv 27) (zq [za 6 (.const (zs #[110,105,108]))] <| .ret) (zq [za 29 (zB .eql (zv 16) (.const (zu 4)))] <| .cond (zv 29) (zq [za 6 (zo 1 (zv 7))] <| .ret) (zq [za 33 (zB .eql (zv 16) (.const (zu 7)))] <| .cond (zv 33) (.seq (.drw [zm 35 0,za 39 (zl (zx 1 (zo 5 (zv 7)) (zK 0))),zc 40 83 #[zt 35,zt 39,(.const (zb true))] #[29,3,4] 9,za 41 (zS .add (zv 40) (.const (zs #[91]))),zm 42 0,za 46 (zl (zx 1 (zo 5 (zv 7)) (zK 1))),zc 47 83 #[zt 42,zt 46,(.const (zb false))] #[29,3,4] 9,za 6 (zS .add (zS .add (zv 41) (zv 47)) (.const (zs #[93])))]) (qqU)) (zq [za 50 (zB .eql (zv 16) (.const (zu 8)))] <| .cond (zv 50) (.seq (.drw [zm 52 0,za 56 (zl (zx 1 (zo 5 (zv 7)) (zK 0))),zc 57 83 #[zt 52,zt 56,(.const (zb true))] #[29,3,4] 9,za 6 (zS .add (zS .add (zv 57) (.const (zs #[46]))) (zo 1 (zv 7)))]) (qqT)) (zq [za 62 (zB .eql (zv 16) (.const (zu 9)))] <| .cond (zv 62) (zq [zm 64 0,za 68 (zl (zx 1 (zo 5 (zv 7)) (zK 0))),zc 69 83 #[zt 64,zt 68,(.const (zb false))] #[29,3,4] 9,za 6 (zS .add (zS .add (.const (zs #[117,112,40])) (zv 69)) (.const (zs #[41])))] <| .ret) (zq [za 72 (zB .eql (zv 16) (.const (zu 10)))] <| .cond (zv 72) (zq [zm 74 0,za 78 (zl (zx 1 (zo 5 (zv 7)) (zK 0))),zc 79 83 #[zt 74,zt 78,(.const (zb false))] #[29,3,4] 9,za 6 (zS .add (zS .add (.const (zs #[100,111,119,110,40])) (zv 79)) (.const (zs #[41])))] <| .ret) (zq [za 82 (zB .eql (zv 16) (.const (zu 5)))] <| .cond (zv 82) (zq [za 8 (zo 1 (zv 7)),za 88 (zS .neq (zo 2 (zv 7)) (.const (zs #[])))] <| .seq (.cond (zv 88) (.reg [za 8 (zS .add (zS .add (zo 2 (zv 7)) (.const (zs #[36]))) (zv 8))]) .skip) (qfZ)) .skip)))))))))) (qjG)
def qqV:List Nat:=[0,1,2,6,7,8,9,10,14,16,17,20,21,22,26,27,29,33,35,39,40,41,42,46,47,50,52,56,57,62,64,68,69,72,74,78,79,82,88,96,109,113,116,117,122,123,129,130,134,135,137,141,142,147,148,152,153,155]
def qEy:C3 83 160 qqV qqW [.tmp 6]:=c3 [] Tryz.func83
noncomputable def qsp:IR:=zq [zm 9 0,za 12 (zI .sub (zL (zv 0)) (zK 1)),zc 13 83 #[zt 9,zt 12,(.const (zb false))] #[29,3,4] 9,zm 2 13,za 3 (zK 0)] <| .ret
noncomputable def qsq:IR:=zq [za 2 (.const (zs #[])),za 3 (zK 0),zm 5 0,zc 6 67 #[zt 5] #[29] 4,zm 4 6,za 8 (zn (zv 4))] <| .seq (.cond (zv 8) (zq [za 2 (.const (zs #[])),za 3 (zK 21)] <| .ret) .skip) (qsp)
def qFG:List Nat:=zV 14 [1,7,10,11]
def qFF:C1 29 14 qFG qsq [.tmp 2,.tmp 3]:=c1 [] Tryz.func29
noncomputable def qks:IR:=.cond (zv 87) (zq [za 4 (zQ false)] <| .ret) .skip
noncomputable def qt5:IR:=.reg [za 8 (zI .add (zv 8) (zK 1))]
noncomputable def qt4:IR:=.seq (.block 3 (.seq (.drw [za 87 (zI .neq (zl (zx 1 (zo 5 (zv 6)) (zv 8))) (zl (zx 1 (zo 5 (zv 7)) (zv 8))))]) (qks))) (qt5)
noncomputable def qkr:IR:=zq [za 74 (zI .lss (zv 8) (zL (zo 5 (zv 6))))] <| .seq (.cond (zv 74) .skip (.exit 2)) (qt4)
noncomputable def qt3:IR:=zq [za 8 (zK 0)] <| .block 2 (.loop qkr)
noncomputable def qt2:IR:=.reg [za 5 (zI .add (zv 5) (zK 1))]
noncomputable def qt1:IR:=.seq (.block 1 (zq [za 23 (zM 6 (zx 6 (zv 0) (zv 5))),zA 6 44,zw 44 (zt 6) (zt 23),za 27 (zM 6 (zx 6 (zv 1) (zv 5))),zA 7 44,zw 44 (zt 7) (zt 27),za 69 (.ite (.ite (.ite (.ite (.ite (zB .neq (zo 0 (zv 6)) (zo 0 (zv 7))) (zQ true) (zS .neq (zo 1 (zv 6)) (zo 1 (zv 7)))) (zQ true) (zS .neq (zo 2 (zv 6)) (zo 2 (zv 7)))) (zQ true) (zS .neq (zo 3 (zv 6)) (zo 3 (zv 7)))) (zQ true) (zI .neq (zo 4 (zv 6)) (zo 4 (zv 7)))) (zQ true) (zI .neq (zL (zo 5 (zv 6))) (zL (zo 5 (zv 7)))))] <| .seq (.cond (zv 69) (zq [za 4 (zQ false)] <| .ret) .skip) (qt3))) (qt2)
noncomputable def qkq:IR:=zq [za 17 (zI .lss (zv 5) (zL (zv 0)))] <| .seq (.cond (zv 17) .skip (.exit 0)) (qt1)
noncomputable def qt0:IR:=zq [za 4 (zQ true)] <| .ret
noncomputable def qtZ:IR:=zq [za 5 (zK 0)] <| .seq (.block 0 (.loop qkq)) (qt0)
noncomputable def qkv:IR:=zq [za 4 (zQ false),za 13 (zI .neq (zL (zv 0)) (zL (zv 1)))] <| .seq (.cond (zv 13) (zq [za 4 (zQ false)] <| .ret) .skip) (qtZ)
def qG3:List Nat:=[0,1,4,5,6,7,8,13,17,23,27,69,74,87]
def qG2:C2 20 88 qG3 qkv [.tmp 4]:=c2 [] Tryz.func20
section
variable {P:Program} {Q:Ks} {d:Option Nat} {ty:TypeId} {K:qa->World->Prop} {ρ:qa} {w:World}
end
def Own.le {b c e sz:Nat} {w:World} {v:Value} {xs:List Value} (h:Own c e sz w v xs) (a:b<=c):Own b e sz w v xs:=by
 rcases h with h|⟨g,off,n,cap,cur,j,k,r⟩
 ·exact .inl h
 ·exact .inr ⟨g,off,n,cap,cur,j,Nat.le_trans a k,r⟩
structure OwnN (base:Nat) (W:World) (v:Value) (ys:List NV):Prop where
 own:Own base 44 6 W v (jH ys)
 kid:∀y∈ys,Own base 3 1 W y.kv (y.nd.kids.map encI)
def OwnN.nil (base:Nat) (W:World):OwnN base W (.slice none 0 0) []:=⟨Own.nil _ _ _ _,fun _ h=>by cases h⟩
def OwnN.rd {base:Nat} {W:World} {v:Value} {ys:List NV} (h:OwnN base W v ys):Rd W v ys:=⟨L01.jR h.own,fun y a=>L01.jR (h.kid y a)⟩
def OwnN.ext {base:Nat} {W W':World} {v:Value} {ys:List NV} (h:OwnN base W v ys) (a:qc W W'):OwnN base W' v ys:=⟨h.own.ext a,fun y c=>(h.kid y c).ext a⟩
def OwnN.le {b c:Nat} {W:World} {v:Value} {ys:List NV} (h:OwnN c W v ys) (a:b<=c):OwnN b W v ys:=⟨Own.le h.own a,fun y e=>Own.le (h.kid y e) a⟩
def _root_.Go.Eng.Cells.sub {w:World} {v:Value} {sz:Nat} {xs:List Value} (h:Cells w v sz xs) {l r m:Nat} (k:l<=r) (o:r*sz<=xs.length) (g:r<=m) (p:m<=qy v):Cells w (qZ v sz l r m) sz ((xs.take (r*sz)).drop (l*sz)):=by
 have c:((xs.take (r*sz)).drop (l*sz)).length=(r - l)*sz:=by simp only [uR,uF];rw [J1 o,Nat.sub_mul]
 refine ⟨qaC h.is sz l r m k g p,by rw [qc9 _ _ _ _ h.is,c],fun j a=>?_⟩;have n:l<r:=by
  rcases JM l r with h|h
  ·exact h
  ·rw [c,show r - l=0 by omega] at a;simp at a
 have e:=a;rw [c,Nat.sub_mul] at e;rw [qda sz l r m j h.is (by omega) (by omega),h.cell (l*sz+j) (by omega)];simp
def qDl (xs:List NV) (r:Nat):(jH xs).take (r*6)=jH (xs.take r):=by
 induction xs generalizing r with
 |nil=>simp [jH]
 |cons x xs c=>
  have e:jH (x::xs)=qk x++jH xs:=rfl;have a:(qk x).length=6:=rfl;cases r with
  |zero=>simp [jH]
  |succ r=>
   rw [e,JZ,ul (by omega),a,show (r+1)*6 - 6=r*6 by omega,c];rfl
def qDm (xs:List NV) (l:Nat):(jH xs).drop (l*6)=jH (xs.drop l):=by
 induction xs generalizing l with
 |nil=>simp [jH]
 |cons x xs c=>
  have e:jH (x::xs)=qk x++jH xs:=rfl;have a:(qk x).length=6:=rfl;cases l with
  |zero=>simp [jH]
  |succ l=>
   rw [e,JQ,uY (by omega),a,show (l+1)*6 - 6=l*6 by omega,c];rfl
def Rd.sub {w:World} {v:Value} {xs:List NV} (h:Rd w v xs) {l r m:Nat} (c:l<=r) (j:r<=xs.length) (a:r<=m) (g:m<=qy v):Rd w (qZ v 6 l r m) ((xs.take r).drop l):=by
 refine ⟨?_,fun x e=>h.kids x (JI (JX e))⟩;have:=h.cells.sub c (by rw [yV];omega) a g
 rwa [qDl,qDm] at this
def shN (g:Int->Int) (x:Nd):Nd:=⟨x.d,x.kids.map g⟩
mutual
def qk9:∀(u:T) (b c:Nat),(u.flat b).map (shN (· +(c:Int)))=u.flat (b+c)
 | .mk d ks,b,c=>by
  have a:=flats_shift ks b c;have e:=roots_shift ks b c;simp only [T.flat,uP,a,List.map_cons,List.map_nil,shN,e]
def flats_shift:∀(a:List T) (b c:Nat),(flats b a).map (shN (· +(c:Int)))=flats (b+c) a
 |[],_,_=>rfl
 |u::a,b,c=>by
  simp only [flats,uP];rw [qk9 u b c,flats_shift a (b+u.size) c];congr 2;omega
def roots_shift:∀(a:List T) (b c:Nat),(qt b a).map (· +(c:Int))=qt (b+c) a
 |[],_,_=>rfl
 |u::a,b,c=>by
  simp only [qt,List.map_cons];rw [roots_shift a (b+u.size) c];congr 1
  ·push_cast;omega
  ·congr 1;omega
end
def xf.cut {l:List Nd} {i:Nat} {u:T} (h:xf l i u):(l.take (i+1)).drop (i+1 - u.size)=u.flat (i+1 - u.size):=by
 obtain ⟨a,post,rfl,h⟩:=h;have e:i+1 - u.size=a.length:=by omega
 rw [e,h,<-uB,List.take_append_of_le_length (by rw [kh,T.flat_len];exact j1 _),ul (by rw [kh,T.flat_len];exact j1 _)];simp
section
variable {w:World} {lv:Value} {xs:List NV}
end
end Go.L02
namespace Go.L02
open Go Go.Eng Go.RowKit
open Go.Proofs hiding encI
open Go.L01 (Bs Tok jh qi)
set_option maxRecDepth 100000
set_option maxHeartbeats 4000000
instance:Inhabited T:=⟨.mk {kind:=0} []⟩
section
variable {w:World} {lv bv:Value} {xs bs:List NV}
end
end Go.L02
