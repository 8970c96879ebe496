/- Lemmas for a claim about layer 2 (tree). No conditions but those they state. -/
import Derived.Test.YtbcmiempigoooaaGreatDoorEas
set_option linter.all false
namespace Go.L02
open Go Go.Eng Go.RowKit
open Go.Proofs hiding encI
open Go.L01 (Bs Tok qg qi)
set_option maxRecDepth 100000
set_option maxHeartbeats 2000000
@[simp] theorem qNu:qh Tryz.prog 238=true:=by kernel_rfl
@[simp] theorem qND:qh Tryz.prog 152=true:=by kernel_rfl
@[simp] theorem qNp:qh Tryz.prog 287=true:=by kernel_rfl
@[simp] theorem qNv:qh Tryz.prog 237=true:=by kernel_rfl
@[simp] theorem qNs:qh Tryz.prog 240=true:=by kernel_rfl
@[simp] theorem qNt:qh Tryz.prog 239=true:=by kernel_rfl
@[simp] theorem qNr:qh Tryz.prog 241=true:=by kernel_rfl
@[simp] theorem qNF:qh Tryz.prog 150=true:=by kernel_rfl
@[simp] theorem qNE:qh Tryz.prog 151=true:=by kernel_rfl
section
variable {w:World}
theorem qoF (k:Nat):Calls Tryz.prog 152 #[.int .u8 (k:Int)] w fun e w'=>e=.returned (.bool (qf k))/\qc w w':=by
 refine qHO fun ρ r0=>?_;have b:qf k=(decide (1<=k)&&decide (k<=10)):=rfl;have g:(1:Int)<=(k:Int)↔1<=k:=by omega
 have c:(k:Int)<=10↔k<=10:=by omega
 by_cases h:1<=k
 ·have a:(1:Int)<=(k:Int):=by omega
  simp -implicitDefEqProofs [qkM,r0,h,a,b,c];exact qO _
 ·have a:¬(1:Int)<=(k:Int):=by omega
  simp -implicitDefEqProofs [qkM,r0,h,a,b];exact qO _
theorem qBz (k:Nat):Calls Tryz.prog 287 #[.int .u8 (k:Int)] w fun e w'=>e=.returned (.bool (decide (21<=k)&&decide (k<=37)&&decide (k≠33)&&decide (k≠36)))/\qc w w':=by
 refine qFJ fun ρ r0=>?_;have g:(k:Int)<=37↔k<=37:=by omega
 have a:(k:Int)=33↔k=33:=by omega
 have j:(k:Int)=36↔k=36:=by omega
 have i:(21:Int)<=(k:Int)↔21<=k:=by omega
 by_cases g1:21<=k<;>by_cases c:k<=37<;>by_cases b:k=33<;>by_cases h:k=36<;>(simp -implicitDefEqProofs [qss,r0,i,g,a,j,g1,c,b,h];try exact qO _)
theorem wC (a b:UInt8):((a.toNat:Int)=(b.toNat:Int))↔a=b:=by
 constructor
 ·intro h;apply JN.1;omega
 ·rintro rfl;rfl
theorem qaZ (a:UInt8) (n:Nat) (b:n<256):((a.toNat:Int)=(n:Int))↔a=UInt8.ofNat n:=by
 have:=wC a (UInt8.ofNat n);rw [<-this];simp;omega
theorem qBv {x:NV} (hx:qu x.kv=true) (fs:Bs) (hfs:fs.length<=1000000):Calls Tryz.prog 238 #[vJ x,.string (qb fs)] w fun e w'=>e=.returned (.bool (qS x.nd.d (fs.contains 110) (fs.contains 118) (fs.contains 116) (fs.contains 78)))/\qc w w':=by
 have hkc:=vN hx;have Z:(⟨#[]⟩:ByteArray)=qb []:=rfl;generalize v:(fun (e:Ending) (w':World)=>e=.returned (.bool (qS x.nd.d (fs.contains 110) (fs.contains 118) (fs.contains 116) (fs.contains 78)))/\qc w w')=R;refine qGp fun ρ r0 r1=>?_;simp -implicitDefEqProofs [qtf];refine vO fun X w1 hX aa L _=>?_;rw [show qe ρ (.tmp 0)=vJ x by simp [r0],Qs hx] at L;simp -implicitDefEqProofs;refine qW (B:=X) (i:=0) (by simp) L (by simp [qk]) (by simp [Value.cells]) (by simp) (by kernel_rfl) fun w2 m k=>?_;simp -implicitDefEqProofs;refine qW (B:=X) (i:=5) (by simp) k (by simp [qk]) (by simp [Value.cells]) (by simp) (by kernel_rfl) fun w3 hO3 S=>?_;simp -implicitDefEqProofs [qk,r1] at S⊢;have hE3:qc w w3:=(m.trans hO3).ext aa hX;obtain ⟨I,O⟩:∃I:Nat->qa->World->Prop,∀j J w',I j J w'↔(J 1=.string (qb fs)/\J 2=.pointer (some ⟨X,0,none⟩)/\qc w w'/\Blk w' X #[.int .u8 0,.string (qb (if (fs.take j).contains 110 then [] else x.nd.d.name)),.string (qb (if (fs.take j).contains 118 then [] else x.nd.d.vr)),.string (qb (if (fs.take j).contains 116 then [] else x.nd.d.typ)),.int .i64 (if (fs.take j).contains 78 then 0 else x.nd.d.n),.slice none 0 0] 44):=⟨_,fun _ _ _=>Iff.rfl⟩;refine vD 5 fs.length I (by simp) ((O _ _ _).2 ⟨by simp [r1],by simp,hE3,by simpa using S⟩) ?_;clear r0 r1 S k L;rintro j J w' hj E hIw;obtain ⟨r1,r2,W,P⟩:=(O _ _ _).1 hIw;have y:IntKind.i64.wrap ((j:Int)+1)=(j:Int)+1:=qH (by omega);by_cases a:j<fs.length
 ·have g:(j:Int)<(fs.length:Int):=by omega
  have V:((qb fs)[j]'(by simpa using a))=fs[j]:=rfl;have hsz:j<(qb fs).size:=by simpa using a
  have Y:fs.take (j+1)=fs.take j++[fs[j]]:=uG a;generalize fs[j]=c at V Y;have z:∀b:UInt8,b∈fs.take (j+1)↔(b∈fs.take j\/b=c):=fun b=>by
   rw [Y];simp
  have F:=qaZ c 110 (by decide);have C:=qaZ c 118 (by decide);have A:=qaZ c 116 (by decide);have U:=qaZ c 78 (by decide);simp at F C A U;have K:w.heap.size<=X:=by have:=aa.size;omega
  by_cases t:c=110
  ·have l:(c.toNat:Int)=110:=F.2 t;simp -implicitDefEqProofs [qbv,E,r1,g,a,qcq,V,l,r2];refine qW (B:=X) (i:=1) (by simp) P (by simp) (by simp [Value.cells]) (by simp) (by kernel_rfl) fun w2 m k=>?_;simp -implicitDefEqProofs [qcr,E,y,a];refine (O _ _ _).2 ⟨by simp [r1],by simp [r2],m.ext W K,QF k ?_⟩;simp [z,t,Z]
  ·have l:¬(c.toNat:Int)=110:=fun h=>t (F.1 h);by_cases p:c=118
   ·have o:(c.toNat:Int)=118:=C.2 p;simp -implicitDefEqProofs [qbv,E,r1,g,a,qcq,V,l,o,r2];refine qW (B:=X) (i:=2) (by simp) P (by simp) (by simp [Value.cells]) (by simp) (by kernel_rfl) fun w2 m k=>?_;simp -implicitDefEqProofs [qcr,E,y,a];refine (O _ _ _).2 ⟨by simp [r1],by simp [r2],m.ext W K,QF k ?_⟩;simp [z,p,Z]
   ·have o:¬(c.toNat:Int)=118:=fun h=>p (C.1 h);by_cases u:c=116
    ·have s:(c.toNat:Int)=116:=A.2 u;simp -implicitDefEqProofs [qbv,E,r1,g,a,qcq,V,l,o,s,r2];refine qW (B:=X) (i:=3) (by simp) P (by simp) (by simp [Value.cells]) (by simp) (by kernel_rfl) fun w2 m k=>?_;simp -implicitDefEqProofs [qcr,E,y,a];refine (O _ _ _).2 ⟨by simp [r1],by simp [r2],m.ext W K,QF k ?_⟩;simp [z,u,Z]
    ·have s:¬(c.toNat:Int)=116:=fun h=>u (A.1 h);by_cases H:c=78
     ·have Q:(c.toNat:Int)=78:=U.2 H;simp -implicitDefEqProofs [qbv,E,r1,g,a,qcq,V,l,o,s,Q,r2];refine qW (B:=X) (i:=4) (by simp) P (by simp) (by simp [Value.cells]) (by simp) (by kernel_rfl) fun w2 m k=>?_;simp -implicitDefEqProofs [qcr,E,y,a];refine (O _ _ _).2 ⟨by simp [r1],by simp [r2],m.ext W K,QF k ?_⟩;simp [z,H,Z]
     ·have Q:¬(c.toNat:Int)=78:=fun h=>H (U.1 h);simp -implicitDefEqProofs [qbv,E,r1,g,a,qcq,V,l,o,s,Q,r2];simp -implicitDefEqProofs [qcr,E,y,a];refine (O _ _ _).2 ⟨by simp [r1],by simp [r2],W,QF P ?_⟩;simp [z,Ne.symm t,Ne.symm p,Ne.symm u,Ne.symm H]
 ·have g:¬(j:Int)<(fs.length:Int):=by omega
  rw [ul (by omega)] at P;have cX:∀q,w'.cell? ⟨X,q,none⟩=[Value.int .u8 0,.string (qb (if fs.contains 110 then [] else x.nd.d.name)),.string (qb (if fs.contains 118 then [] else x.nd.d.vr)),.string (qb (if fs.contains 116 then [] else x.nd.d.typ)),.int .i64 (if fs.contains 78 then 0 else x.nd.d.n),.slice none 0 0][q]? :=fun q=>by rw [P.cell];simp
  unfold qS at v;generalize fs.contains 110=b1 at cX v;generalize fs.contains 118=b2 at cX v;generalize fs.contains 116=b3 at cX v;generalize fs.contains 78=b4 at cX v;simp -implicitDefEqProofs [qbv,E,r1,g,a,qte,r2,cX,Z,jC];rw [<-v];refine ⟨?_,W⟩;have e4:((if b4=true then (0:Int) else x.nd.d.n)==0)=(b4||decide (x.nd.d.n=0)):=by
   cases b4 with
   |true=>rfl
   |false=>exact uJ.2 (by simp)
  rw [e4]
theorem qBA (a p:Bs) (Z:a.length<=1000000):Calls Tryz.prog 240 #[.string (qb a),.string (qb p)] w fun e w'=>e=.returned (.bool (jP a p))/\qc w w':=by
 have m:∀(a p:Bs),jP a p=true->a.length=p.length:=by
  intro a
  induction a with
  |nil=>intro p h;cases p<;>simp [jP] at h⊢
  |cons x a Y=>intro p h;cases p with
   |nil=>simp [jP] at h
   |cons y p=>simp only [jP,j0] at h;simp [Y p h.2]
 generalize i:jP a p=b;generalize t:(fun (e:Ending) (w':World)=>e=.returned (.bool b)/\qc w w')=R;refine qGk fun ρ r0 r1=>?_;by_cases z:a.length=p.length
 ·simp -implicitDefEqProofs [qke,r0,r1,z,qs6];obtain ⟨I,L⟩:∃I:Nat->qa->World->Prop,∀j k w',I j k w'↔(k 0=.string (qb a)/\k 1=.string (qb p)/\qc w w'/\jP (a.drop j) (p.drop j)=b):=⟨_,fun _ _ _=>Iff.rfl⟩;refine vD 5 p.length I (by simp) ((L _ _ _).2 ⟨by simp [r0],by simp [r1],qO _,i⟩) ?_;clear r0 r1 i;rintro j k w' hj O Q;obtain ⟨r0,r1,H,i⟩:=(L _ _ _).1 Q;have J:IntKind.i64.wrap ((j:Int)+1)=(j:Int)+1:=qH (by omega);by_cases n:j<p.length
  ·have l:(j:Int)<(p.length:Int):=by omega
   have v:j<a.length:=by omega
   have U:(j:Int)<(a.length:Int):=by omega
   have F:((qb a)[j]'(by simpa using v))=a[j]:=rfl;have C:((qb p)[j]'(by simpa using n))=p[j]:=rfl;have V:j<(qb a).size:=by simpa using v
   have X:j<(qb p).size:=by simpa using n
   rw [u0 v,u0 n,jP] at i;generalize a[j]=x at F i;generalize p[j]=y at C i;have K:=wC x y;have B:=qaZ x 99 (by decide);have s:=qaZ y 101 (by decide);simp at B s;have step:∀o,qc w o->qgf.wp ⟨Tryz.prog,36,qbu,[]⟩ (qge.wp ⟨Tryz.prog,36,qbu,[]⟩ (fun c u=>c 5=.int .i64 ((j:Int)+1)/\I (j+1) c u) ((ji [.tmp 4] R).blk 0 (qdX.wp ⟨Tryz.prog,36,qbu,[]⟩ (qB [.tmp 4] R) (ji [.tmp 4] R)))) (((ji [.tmp 4] R).blk 0 (qdX.wp ⟨Tryz.prog,36,qbu,[]⟩ (qB [.tmp 4] R) (ji [.tmp 4] R))).blk 1 (qge.wp ⟨Tryz.prog,36,qbu,[]⟩ (fun c u=>c 5=.int .i64 ((j:Int)+1)/\I (j+1) c u) ((ji [.tmp 4] R).blk 0 (qdX.wp ⟨Tryz.prog,36,qbu,[]⟩ (qB [.tmp 4] R) (ji [.tmp 4] R))))) (qw (qw k 14 (.bool true)) 35 (.bool (!xV x y))) o:=by
    intro o g;cases S:xV x y with
    |true=>
     rw [S,ud] at i;simp -implicitDefEqProofs [qgf,qge,O,J];exact (L _ _ _).2 ⟨by simp [r0],by simp [r1],g,i⟩
    |false=>
     rw [S,Va] at i;simp -implicitDefEqProofs [qgf];rw [<-t,<-i];exact ⟨rfl,g⟩
   simp -implicitDefEqProofs [qkd,O,r0,r1,z,l,n,qs7,F,C,K,B,s];by_cases g1:x=y
   ·have E:xV x y=true:=by simp [xV,g1]
    rw [if_pos g1];rw [E] at step;exact fun o g=>step o (H.trans' g)
   ·rw [if_neg g1];by_cases A:x=99
    ·rw [if_pos A];have E:xV x y=decide (y=101):=by simp [xV,g1,A];exact fun e=>absurd (A.trans e) g1
     have W:(!((y.toNat:Int) !=101))=decide (y=101):=by
      rw [uJ];simp;omega
     rw [E,<-W,Bool.not_not] at step;exact fun o g=>step o (H.trans' g)
    ·have E:xV x y=false:=by simp [xV,g1,A]
     rw [if_neg A];rw [E] at step;exact fun o g=>step o (H.trans' g)
  ·have l:¬(j:Int)<(p.length:Int):=by omega
   rw [uY (by omega),uY (by omega)] at i;simp -implicitDefEqProofs [qkd,O,r0,z,l,n,qdX];rw [<-t,<-i];exact ⟨rfl,H⟩
 ·have P:b=false:=by
   cases b with
   |false=>rfl
   |true=>exact absurd (m a p i) z
  simp -implicitDefEqProofs [qke,r0,r1,z];rw [<-t,P];exact ⟨rfl,qO _⟩
theorem qBD (a b:Bs) (ha:a.length<=1000000) (aa:b.length<=1000000):Calls Tryz.prog 239 #[.string (qb a),.string (qb b)] w fun e w'=>e=.returned (.bool (we a b))/\qc w w':=by
 generalize z:(fun (e:Ending) (w':World)=>e=.returned (.bool (we a b))/\qc w w')=R;refine qGn fun ρ r0 r1=>?_;simp -implicitDefEqProofs [qtd];obtain ⟨I,Q⟩:∃I:Nat->qa->World->Prop,∀j c w',I j c w'↔(c 0=.string (qb a)/\c 1=.string (qb b)/\qc w w'/\(a.take j).all b.contains=true):=⟨_,fun _ _ _=>Iff.rfl⟩;refine vD 5 a.length I (by simp) ((Q _ _ _).2 ⟨by simp [r0],by simp [r1],qO _,by simp⟩) ?_;clear r0 r1;rintro j c w' hj K U;obtain ⟨r0,r1,o,l⟩:=(Q _ _ _).1 U;have P:IntKind.i64.wrap ((j:Int)+1)=(j:Int)+1:=qH (by omega);by_cases k:j<a.length
 ·have i:(j:Int)<(a.length:Int):=by omega
  have F:((qb a)[j]'(by simpa using k))=a[j]:=rfl;have V:j<(qb a).size:=by simpa using k
  have B:a.take (j+1)=a.take j++[a[j]]:=uG k;have p:a[j]∈a:=wz _;generalize a[j]=x at F B p;simp -implicitDefEqProofs [qkf,K,r0,i,k,qtb];obtain ⟨J,H⟩:∃J:Nat->qa->World->Prop,∀q c w',J q c w'↔(c 0=.string (qb a)/\c 1=.string (qb b)/\c 5=.int .i64 (j:Int)/\c 6=.bool ((b.take q).contains x)/\qc w w'):=⟨_,fun _ _ _=>Iff.rfl⟩;refine vD 7 b.length J (by simp) ((H _ _ _).2 ⟨by simp [r0],by simp [r1],by simp [K],by simp,o⟩) ?_;clear r0 r1 K o;rintro q X w2 hq v S;obtain ⟨O,s,L,m,o⟩:=(H _ _ _).1 S;have C:IntKind.i64.wrap ((q:Int)+1)=(q:Int)+1:=qH (by omega);by_cases g:q<b.length
  ·have h:(q:Int)<(b.length:Int):=by omega
   have A:((qb b)[q]'(by simpa using g))=b[q]:=rfl;have Z:q<(qb b).size:=by simpa using g
   have E:b.take (q+1)=b.take q++[b[q]]:=uG g;generalize b[q]=y at A E;have W:=wC x y;have n:(b.take (q+1)).contains x=((b.take q).contains x||decide (x=y)):=by
    rw [E,uJ];simp
   cases t:(b.take q).contains x with
   |true=>
    rw [t] at m n;simp -implicitDefEqProofs [qdY,v,s,h,g,qkh,m];intro Y u;simp -implicitDefEqProofs [qki,v,C,g];exact (H _ _ _).2 ⟨by simp [O],by simp [s],by simp [L],by rw [n];simp,o.trans' u⟩
   |false=>
    rw [t] at m n;simp -implicitDefEqProofs [qdY,v,O,s,L,h,g,i,k,qkh,m,F,A];intro Y u;simp -implicitDefEqProofs [qki,v,C,g];refine (H _ _ _).2 ⟨by simp [O],by simp [s],by simp [L], ?_,o.trans' u⟩;rw [n,uj];simp;rw [uJ];simp;exact JN
  ·have h:¬(q:Int)<(b.length:Int):=by omega
   rw [ul (by omega)] at m;cases t:b.contains x with
   |true=>
    rw [t] at m;simp -implicitDefEqProofs [qdY,v,s,h,g,qkg,m,qtc,L,P];refine (Q _ _ _).2 ⟨by simp [O],by simp [s],o, ?_⟩;rw [B,JP,l];simpa using t
   |false=>
    rw [t] at m;simp -implicitDefEqProofs [qdY,v,s,h,g,qkg,m];rw [<-z];refine ⟨?_,o⟩;congr 2
    symm
    unfold we;rw [Vx];exact ⟨x,p,by simpa using t⟩
 ·have i:¬(j:Int)<(a.length:Int):=by omega
  rw [ul (by omega)] at l;simp -implicitDefEqProofs [qkf,K,r0,i,k,qta];rw [<-z];exact ⟨by unfold we;rw [l],o⟩
theorem qBt:Calls Tryz.prog 150 #[] w fun e w'=>∃v,e=.returned v/\Own w.heap.size 9 1 w' v (qa8.map qi)/\qc w w':=by
 refine qHS fun ρ=>?_;simp -implicitDefEqProofs [qu7];refine jV yQ (by decide) (by decide) (by simp [Value.cells]) fun X w1 g c a _=>?_;simp [Value.cells] at a;have b:Blk w1 X (qa8.map qi).toArray 9:=QF a rfl;simp -implicitDefEqProofs;exact ⟨Own.lit (n:=7) (sz:=1) b (by decide) g (by decide),c⟩
theorem qBq:Calls Tryz.prog 151 #[] w fun e w'=>∃v,e=.returned v/\Own w.heap.size 9 1 w' v (qaY.map qi)/\qc w w':=by
 refine qHQ fun ρ=>?_;simp -implicitDefEqProofs [qu6];refine jV yQ (by decide) (by decide) (by simp [Value.cells]) fun X w1 g c a _=>?_;simp [Value.cells] at a;have b:Blk w1 X (qaY.map qi).toArray 9:=QF a rfl;simp -implicitDefEqProofs;exact ⟨Own.lit (n:=3) (sz:=1) b (by decide) g (by decide),c⟩
theorem qC1 (s:Bs):(qa8++qaY).contains s=jU.contains s:=by
 rw [uJ];simp [qa8,qaY,jU];constructor<;>intro h<;>(rcases h with h|h|h|h|h|h|h|h|h|h<;>simp [h])
theorem qBw (s:Bs):Calls Tryz.prog 241 #[.string (qb s)] w fun e w'=>e=.returned (.bool (jU.contains s))/\qc w w':=by
 rw [<-qC1 s];generalize c:(fun (e:Ending) (w':World)=>e=.returned (.bool ((qa8++qaY).contains s))/\qc w w')=R;refine qGi fun ρ r0=>?_;simp -implicitDefEqProofs [qs5];refine qBt.mono ?_;rintro _ w1 ⟨Q,rfl,F,H⟩;simp -implicitDefEqProofs;refine qBq.mono ?_;rintro _ U ⟨O,rfl,E,t⟩;simp -implicitDefEqProofs;refine qbz qiG (W0:=w) (H.trans' t) (sv:=Q) (xv:=O) (by simp) (by simp) (F.ext t) (L01.jR E) (by simp [qi,Value.oneCell']) (by decide) (by decide) fun v P u m _ _=>?_;rw [<-uP] at m;have k:=m.isl;have g:ql v=10:=by have:=(L01.jR m).len;simpa [qa8,qaY] using this.symm
 simp -implicitDefEqProofs;generalize L:qa8++qaY=W at c m;have K:W.length=10:=by rw [<-L];rfl
 obtain ⟨I,B⟩:∃I:Nat->qa->World->Prop,∀j b w',I j b w'↔(b 0=.string (qb s)/\b 3=v/\qc P w'/\∀x∈W.take j,x≠s):=⟨_,fun _ _ _=>Iff.rfl⟩;refine vD 4 10 I (by simp) ((B _ _ _).2 ⟨by simp [r0],by simp,qO _,by simp⟩) ?_;clear r0;rintro j b w' S C J;obtain ⟨r0,r3,y,l⟩:=(B _ _ _).1 J;have A:IntKind.i64.wrap ((j:Int)+1)=(j:Int)+1:=qH (by omega);by_cases i:j<10
 ·have a:(j:Int)<10:=by omega
  have n:j<W.length:=by omega
  have p:=(L01.jR (m.ext y)).cell j (by simpa using n);simp only [u6,qi] at p;by_cases z:W[j]=s
  ·simp -implicitDefEqProofs [qgd,C,r3,k,g,a,i,qkc,p,r0,jC,z];rw [<-c];refine ⟨?_,u.trans' y⟩;have:W.contains s=true:=Jl.2 (by rw [<-z];exact wz _);rw [this]
  ·simp -implicitDefEqProofs [qgd,C,r3,k,g,a,i,qkc,p,r0,jC,z,qs4,A];refine (B _ _ _).2 ⟨by simp [r0],by simp [r3],y,fun x o=>?_⟩;rw [uG n] at o;rcases uC.1 o with h|h
   ·exact l x h
   ·rw [uH.1 h];exact z
 ·have a:¬(j:Int)<10:=by omega
  rw [ul (by omega)] at l;simp -implicitDefEqProofs [qgd,C,r3,k,g,a,i,qs3];rw [<-c];refine ⟨?_,u.trans' y⟩;have:W.contains s=false:=by
   cases p:W.contains s with
   |false=>rfl
   |true=>exact absurd rfl (l s (Jl.1 p))
  rw [this]
end
section
variable {w:World} {lv:Value} {xs:List NV}
def oK:wx
 |152,[.int .u8 k]=>if 0<=k then some (.bool (qf k.toNat)) else none
 |287,[.int .u8 k]=>if 0<=k then some (.bool (decide (21<=k.toNat)&&decide (k.toNat<=37)&&decide (k.toNat≠33)&&decide (k.toNat≠36))) else none
 |_,_=>none
theorem qDg (w0:World):qaV Tryz.prog oK w0:=by
 intro f l v h;unfold oK at h;split at h
 ·rename_i k;split at h
  ·rename_i a;obtain ⟨n,rfl⟩:=Js a;cases h;exact ⟨by simp,fun W _=>by simpa using qoF (w:=W) n⟩
  ·cases h
 ·rename_i k;split at h
  ·rename_i a;obtain ⟨n,rfl⟩:=Js a;cases h;exact ⟨by simp,fun W _=>by simpa using qBz (w:=W) n⟩
  ·cases h
 ·cases h
theorem qJz (s:Bs) (n:Nat):(qb s).extract 0 n=qb (s.take n):=by
 apply JO;apply JF;show ((qb s).extract 0 n).data.toList=_;simp [qb]
theorem qwH (s:Bs) (k:Nat):(qb s).extract k s.length=qb (s.drop k):=L01.qeb s k
theorem qBy (hR:Rd w lv xs) {x:NV} (S:Cells w x.kv 1 (x.nd.kids.map encI)) (hin:∀k∈x.nd.kids,0<=k/\k<xs.length) (aa:x.nd.kids.length<=1000000) (hxl:xs.length<=1000000):
  Calls Tryz.prog 237 #[lv,vJ x] w fun e w'=>e=.returned (.string (qb (vw (xs.map (·.nd)) x.nd)))/\qc w w':=by
 generalize J:(fun (e:Ending) (w':World)=>e=.returned (.string (qb (vw (xs.map (·.nd)) x.nd)))/\qc w w')=R;refine qGr fun ρ r0 r1=>?_;simp only [qti,qhu,qmt,qep,gd,kk];refine vO fun X w1 hX u z _=>?_;rw [show qe ρ (.tmp 1)=vJ x by simp [r1],Qs S.is] at z;have cX:∀q,w1.cell? ⟨X,q,none⟩=(qk x)[q]? :=fun q=>by rw [z.cell];simp
 have v:=hR.ext u;have t:=S.ext u;have C:ql x.kv=x.nd.kids.length:=by have:=S.len;simpa using this.symm
 refine qoO (cx:=⟨Tryz.prog,57,qth,[]⟩) (a:=.seq (.block 0 (.loop qgg)) qgh) (qDg _) (qO w1) (fun ρ=>ρ 4=.string (qb (vw (xs.map (·.nd)) x.nd))) (fun g w' hE hT=>?_) ?_
 ·rw [qot,<-J,hT];exact ⟨rfl,u.trans' hE⟩
 simp -implicitDefEqProofs;obtain ⟨I,L⟩:∃I:Nat->qa->Prop,∀j g,I j g↔(g 0=lv/\g 3=.pointer (some ⟨X,0,none⟩)/\g 5=.string (qb ((x.nd.kids.take j).map fun k=>jS (jJ (xs.map (·.nd)) k)))):=⟨_,fun _ _=>Iff.rfl⟩;refine qpI 6 x.nd.kids.length I (by simp) ((L _ _).2 ⟨by simp [r0],by simp,by simp;rfl⟩) ?_;clear r0 r1;rintro j g hj m W;obtain ⟨r0,r3,r5⟩:=(L _ _).1 W;have F:IntKind.i64.wrap ((j:Int)+1)=(j:Int)+1:=qH (by omega);simp only [qk] at cX;by_cases c:j<x.nd.kids.length
 ·have i:(j:Int)<(x.nd.kids.length:Int):=by omega
  have Y:=t.cell j (by simpa using c);simp only [u6,encI] at Y;have A:x.nd.kids.take (j+1)=x.nd.kids.take j++[x.nd.kids[j]]:=uG c;have l:=hin _ (wz c);generalize x.nd.kids[j]=k at Y A l;obtain ⟨n,rfl⟩:=Js l.1;have Z:n<xs.length:=by omega
  have s:=v.cell (k:=n) (j:=0) Z (by omega);have hK:=qp8 l;simp only [Int.toNat_natCast] at hK;have P:((x.nd.kids.take j).map fun k=>jS (jJ (xs.map (·.nd)) k)).length<=1000000:=by simp;omega
  generalize K:((x.nd.kids.take j).map fun k=>jS (jJ (xs.map (·.nd)) k))=pr at r5 P;have p:((x.nd.kids.take (j+1)).map fun k=>jS (jJ (xs.map (·.nd)) k))=pr++[jS (xs[n].nd.d.kind)]:=by
   rw [A,uP,K];simp [hK]
  simp [qk] at s;generalize xs[n].nd.d.kind=b at s p;have fin:∀h:qa,h 0=lv->h 3=.pointer (some ⟨X,0,none⟩)->h 6=.int .i64 j->h 5=.string (qb (pr++[jS b]))->qkj.mi oK w1 (fun o=>o 6=.int .i64 ((j:Int)+1)/\I (j+1) o) (Kp.blk ⟨fun _ _=>False,fun ρ=>ρ 4=.string (qb (vw (xs.map (·.nd)) x.nd))⟩ 0 (qgh.mi oK w1 (fun ρ=>ρ 4=.string (qb (vw (xs.map (·.nd)) x.nd))) ⟨fun _ _=>False,fun ρ=>ρ 4=.string (qb (vw (xs.map (·.nd)) x.nd))⟩)) h:=by
   intro h h0 h3 h6 h5;simp -implicitDefEqProofs [qkj,h6,F,c];exact (L _ _).2 ⟨by simp [h0],by simp [h3],by simp [h5,p]⟩
  simp -implicitDefEqProofs (maxSteps:=2000000) (disch:=(simp only [kh,List.length_cons,List.length_nil];omega)) [-qY,jB,qU,qgg,m,r3,r5,r0,cX,t.is,C,i,c,qtg,Y,v.cells.is,v.len,Z,s,oK,qDI];unfold jS at fin;have H:(b:Int)=20↔b=20:=by omega
  have q5:(b:Int)=5↔b=5:=by omega
  have U:(b:Int)=33↔b=33:=by omega
  have Q:(b:Int)=36↔b=36:=by omega
  have V:(b:Int)<=37↔b<=37:=by omega
  simp only [H,q5,U,Q,V];by_cases g1:b=20
  ·simp only [if_pos g1] at fin⊢;exact fin _ (by simp [r0]) (by simp [r3]) (by simp [m]) (by simp)
  by_cases y:b=5
  ·simp only [if_neg g1,if_pos y] at fin⊢;exact fin _ (by simp [r0]) (by simp [r3]) (by simp [m]) (by simp)
  by_cases B:qf b=true
  ·simp only [if_neg g1,if_neg y,if_pos B] at fin⊢;exact fin _ (by simp [r0]) (by simp [r3]) (by simp [m]) (by simp)
  by_cases E:b=33
  ·simp only [if_neg g1,if_neg y,if_neg B,if_pos E] at fin⊢;exact fin _ (by simp [r0]) (by simp [r3]) (by simp [m]) (by simp)
  by_cases O:b=36
  ·simp only [if_neg g1,if_neg y,if_neg B,if_neg E,if_pos O] at fin⊢;exact fin _ (by simp [r0]) (by simp [r3]) (by simp [m]) (by simp)
  have q6:(decide (21<=b)&&decide (b<=37)&&decide (b≠33)&&decide (b≠36))=true↔(((21<=b/\b<=37)/\¬b=33)/\¬b=36):=by simp
  by_cases g6:(((21<=b/\b<=37)/\¬b=33)/\¬b=36)
  ·simp only [if_neg g1,if_neg y,if_neg B,if_neg E,if_neg O,q6,if_pos g6] at fin⊢;exact fin _ (by simp [r0]) (by simp [r3]) (by simp [m]) (by simp)
  ·simp only [if_neg g1,if_neg y,if_neg B,if_neg E,if_neg O,q6,if_neg g6] at fin⊢;exact fin _ (by simp [r0]) (by simp [r3]) (by simp [m]) (by simp)
 ·have i:¬(j:Int)<(x.nd.kids.length:Int):=by omega
  rw [ul (by omega)] at r5;simp -implicitDefEqProofs [qgg,m,r3,r5,cX,t.is,C,i,c,qgh];rfl
open Classical in
noncomputable def oR (xs:List NV) (lv:Value) (x:NV):wx
 |237,[a,b]=>if a=lv/\b=vJ x then some (.string (qb (vw (xs.map (·.nd)) x.nd))) else none
 |79,[.string s]=>some (.bool (qg s.data.toList))
 |238,[a,.string s]=>if a=vJ x/\s.data.toList.length<=1000000 then some (.bool (qS x.nd.d (s.data.toList.contains 110) (s.data.toList.contains 118) (s.data.toList.contains 116) (s.data.toList.contains 78))) else none
 |239,[.string a,.string b]=>if a.data.toList.length<=1000000/\b.data.toList.length<=1000000 then some (.bool (we a.data.toList b.data.toList)) else none
 |240,[.string a,.string b]=>if a.data.toList.length<=1000000 then some (.bool (jP a.data.toList b.data.toList)) else none
 |241,[.string s]=>some (.bool (jU.contains s.data.toList))
 |25,[.string s]=>if s.data.toList.length<4611686018427387904 then some (.bool (vx s.data.toList)) else none
 |23,[.string s]=>if s.data.toList.length<4611686018427387904 then some (.bool (qI s.data.toList)) else none
 |_,_=>none
theorem qDf (m:Rd w lv xs) {x:NV} (j:Cells w x.kv 1 (x.nd.kids.map encI)) (hin:∀k∈x.nd.kids,0<=k/\k<xs.length) (g:x.nd.kids.length<=1000000) (i:xs.length<=1000000):qaV Tryz.prog (oR xs lv x) w:=by
 intro f l v h;unfold oR at h;split at h
 ·split at h
  ·rename_i c;obtain ⟨rfl,rfl⟩:=c;cases h;exact ⟨by simp,fun W e=>qBy (m.ext e) (j.ext e) hin g i⟩
  ·cases h
 ·rename_i s;cases h;exact ⟨by simp,fun W e=>L01.qfe s.data.toList⟩
 ·rename_i a s;split at h
  ·rename_i c;obtain ⟨rfl,c⟩:=c;cases h;exact ⟨by simp,fun W e=>qBv j.is s.data.toList c⟩
  ·cases h
 ·rename_i a b;split at h
  ·rename_i c;cases h;exact ⟨by simp,fun W e=>qBD a.data.toList b.data.toList c.1 c.2⟩
  ·cases h
 ·rename_i a b;split at h
  ·rename_i c;cases h;exact ⟨by simp,fun W e=>qBA a.data.toList b.data.toList c⟩
  ·cases h
 ·rename_i s;cases h;exact ⟨by simp,fun W e=>qBw s.data.toList⟩
 ·rename_i s;split at h
  ·rename_i c;cases h;exact ⟨by simp,fun W e=>qBH s.data.toList c⟩
  ·cases h
 ·rename_i s;split at h
  ·rename_i c;cases h;exact ⟨by simp,fun W e=>qBG s.data.toList c⟩
  ·cases h
 ·cases h
theorem qBu (hR:Rd w lv xs) {x:NV} (hx:Cells w x.kv 1 (x.nd.kids.map encI)) (hd:DOk x.nd.d) (hin:∀k∈x.nd.kids,0<=k/\k<xs.length) (hlen:x.nd.kids.length<=1000000) (hxl:xs.length<=1000000):
  Calls Tryz.prog 170 #[lv,vJ x] w fun e w'=>e=.returned (.bool (qA (xs.map (·.nd)) x.nd))/\qc w w':=by
 generalize c:qA (xs.map (·.nd)) x.nd=res;generalize hRR:(fun (e:Ending) (w':World)=>e=.returned (.bool res)/\qc w w')=R;refine qHk fun ρ r0 r1=>?_;simp only [quE,qhu,qmt,qep,gd,kk];refine vO fun X w1 hX Y ad _=>?_;rw [show qe ρ (.tmp 1)=vJ x by simp [r1],Qs hx.is] at ad;have cX:∀q,w1.cell? ⟨X,q,none⟩=(qk x)[q]? :=fun q=>by rw [ad.cell];simp
 have g:Eng.jG w1 ⟨X,0,none⟩ 0 6=some (qk x):=qal (l:=qk x) fun j hj=>by rw [ut,show (⟨X,0,none⟩:Addr).add j=⟨X,j,none⟩ by simp,cX,ug hj]
 have B:=hR.ext Y;have u:=hx.ext Y;have hkl:ql x.kv=x.nd.kids.length:=by have:=hx.len;simpa using this.symm
 have c0:=cX 0;have c1:=cX 1;have c2:=cX 2;have c3:=cX 3;have c4:=cX 4;have c5:=cX 5;simp [qk] at c0 c1 c2 c3 c4 c5;have hkk:=qfJ (xs.map (·.nd)) x.nd;refine qoO (cx:=⟨Tryz.prog,366,quD,[]⟩) (a:=.seq (.block 0 _) wq) (qDf B u hin hlen hxl) (qO w1) (fun ρ=>ρ 4=.bool res) (fun A w' hE hT=>?_) ?_
 ·rw [qot,<-hRR,hT];exact ⟨rfl,Y.trans' hE⟩
 have z:Value.agg (qk x).toArray=vJ x:=rfl;have g1:x.nd.d.name.length<4611686018427387904:=by have:=hd.name;omega
 have C:x.nd.d.vr.length<4611686018427387904:=by have:=hd.vr;omega
 have E:x.nd.d.typ.length<4611686018427387904:=by have:=hd.typ;omega
 have m:(vw (xs.map (·.nd)) x.nd).length<=1000000:=by omega
 simp -implicitDefEqProofs [r0,g,z,oR,c0,c1];unfold qA at c;generalize vw (xs.map (·.nd)) x.nd=t at*;by_cases hr:[1,2,3,34,4,31,6,7,8,9,10,30,37,20,21,22,23,24,25,26,27,28,29,33,36].contains x.nd.d.kind=true
 ·simp only [List.contains_cons,List.contains_nil,uO,uk,ur] at hr;rcases hr with h|h|h|h|h|h|h|h|h|h|h|h|h|h|h|h|h|h|h|h|h|h|h|h|h
  all_goals
   simp [h] at c0 c;subst c;simp -implicitDefEqProofs [h,c0,c1,c2,c3,c4,c5,g,z,oR,qU,jC,g1,C,E,m,r0,wq,wn,wo,wS,qaE,qaF]
   repeat' (first|refine qjk (fun s=>?_) (fun s=>?_)|refine qjj (fun s=>?_) (fun s=>?_))<;>(try simp only [uE,Vb,kr,uS] at s)<;>(try simp -implicitDefEqProofs [undef,s,h,c0,c1,c2,c3,c4,c5,g,z,oR,qU,jC,g1,C,E,m,r0,wq,wn,wo,wS,qaE,qaF])
 simp only [List.contains_cons,List.contains_nil,uO,uk,ur,not_or] at hr;obtain ⟨q1,q2,q3,q34,q4,q31,q6,q7,q8,q9,q10,q30,q37,q20,q21,q22,q23,q24,q25,q26,q27,q28,q29,q33,q36⟩:=hr;by_cases h:x.nd.d.kind=5
 ·simp [h] at c0 c;subst c;by_cases h6:t.length<=6
  ·have K:¬(6:Int)<(t.length:Int):=by omega
   simp -implicitDefEqProofs [h6,K,h,c0,c1,c2,c3,c4,c5,g,z,oR,qU,jC,g1,C,E,m,r0,wq,wn,wo,wS,qaE,qaF]
   repeat' (first|refine qjk (fun s=>?_) (fun s=>?_)|refine qjj (fun s=>?_) (fun s=>?_))<;>(try simp only [uE,Vb,kr,uS] at s)<;>(try simp -implicitDefEqProofs [undef,s,h6,K,h,c0,c1,c2,c3,c4,c5,g,z,oR,qU,jC,g1,C,E,m,r0,wq,wn,wo,wS,qaE,qaF])
  ·have K:(6:Int)<(t.length:Int):=by omega
   simp -implicitDefEqProofs [undef,h6,K,h,c0,oR,wn,wo]
 by_cases h:x.nd.d.kind=35
 ·simp [h, -List.drop_one] at c0 c;by_cases h1:1<t.length
  ·have H:(1:Int)<(t.length:Int):=by omega
   have ae:(1:Int)<=(t.length:Int):=by omega
   have hx0:(qb t).extract 0 1=qb (t.take 1):=by simp [qJz]
   have u:(qb t).extract 1 t.length=qb (t.drop 1):=by simp [qwH]
   have ac:(t.take 1).length<=1000000:=by rw [uF];omega
   have ht2:(t.drop 1).length<=1000000:=by rw [uR];omega
   simp [h1, -List.drop_one] at c;subst c;generalize t.take 1=ka at*;generalize t.drop 1=kb at*;simp -implicitDefEqProofs [H,ae,hx0,u,ac,ht2,h,c0,c1,c2,c3,c4,c5,g,z,oR,qU,jC,g1,C,E,m,r0,wq,wn,wo,wS,qaE,qaF]
   repeat' (first|refine qjk (fun s=>?_) (fun s=>?_)|refine qjj (fun s=>?_) (fun s=>?_))<;>(try simp only [uE,Vb,kr,uS] at s)<;>(try simp -implicitDefEqProofs [undef,s,H,ae,hx0,u,ac,ht2,h,c0,c1,c2,c3,c4,c5,g,z,oR,qU,jC,g1,C,E,m,r0,wq,wn,wo,wS,qaE,qaF])
  ·have H:¬(1:Int)<(t.length:Int):=by omega
   simp [h1] at c;subst c;simp -implicitDefEqProofs [H,h,c0,c1,c2,c3,c4,c5,g,z,oR,qU,jC,g1,C,E,m,r0,wq,wn,wo,wS,qaE,qaF]
 by_cases h:x.nd.d.kind=32
 ·simp [h] at c0 c;rcases t with _|⟨a,_|⟨b,p⟩⟩
  ·simp at c;subst c;simp -implicitDefEqProofs [h,c0,c1,c2,c3,c4,c5,g,z,oR,qU,jC,g1,C,E,m,r0,wq,wn,wo,wS]
  ·simp at c;subst c;simp -implicitDefEqProofs [h,c0,c1,c2,c3,c4,c5,g,z,oR,qU,jC,g1,C,E,m,r0,wq,wn,wo,wS]
  simp only [List.length_cons] at hkk m;have U:¬((p.length:Int)+1+1<2):=by omega
  have V:(qb (a::b::p)).extract 1 (p.length+1+1)=qb (b::p):=by have:=qwH (a::b::p) 1;simpa using this
  have aa:(1:Int)<=(p.length:Int)+1+1:=by omega
  have S:p.length+1<=1000000:=by omega
  have Z:∀h,(qb (a::b::p))[0]'h=a:=fun _=>rfl;have F:=qaZ a 113 (by decide);simp at F;by_cases ha:a=113
  ·have P:=F.2 ha;cases y:we (b::p) [119] with
   |false=>
    simp [y] at c;subst c;simp -implicitDefEqProofs [U,V,aa,S,Z,P,y,h,c0,c1,c2,c3,c4,c5,g,z,oR,qU,jC,g1,C,E,m,r0,wq,wn,wo,wS]
   |true=>
    simp [y,ha] at c;have ab:IntKind.i64.wrap ((p.length:Int)+1+1 - 1)=(p.length:Int)+1:=by rw [qH (by omega)];omega
    have W:IntKind.i64.wrap ((p.length:Int)+1)=(p.length:Int)+1:=qH (by omega);simp -implicitDefEqProofs [U,V,aa,S,Z,P,y,h,c0,c1,c2,c3,c4,c5,g,z,oR,qU,jC,g1,C,E,m,r0,wq,wn,wo,wS,quA];obtain ⟨I,hI⟩:∃I:Nat->qa->Prop,∀i A,I i A↔(A 0=lv/\A 3=.pointer (some ⟨X,0,none⟩)/\A 5=.string (qb (a::b::p))/\∀j,1<=j->j<i->∀hj:j<x.nd.kids.length,kK (xs.map (·.nd)) x.nd.kids[j]≠[]):=⟨_,fun _ _=>Iff.rfl⟩;refine qDD 7 1 (p.length+1) I (by simp) (by omega) ((hI _ _).2 ⟨by simp [r0],by simp,by simp,fun j h1 h2=>by omega⟩) ?_;clear r0 r1;rintro i A H hin' ri hIw;obtain ⟨s0,s3,s5,hno⟩:=(hI _ _).1 hIw;by_cases hlt:i<p.length+1
    ·have v:(i:Int)<(p.length:Int)+1:=by omega
     have L:i<x.nd.kids.length:=by omega
     have hc:=u.cell i (by simpa using L);simp only [u6,encI] at hc;have J:=hin _ (wz L);have hK:=qp7 J;generalize hk:x.nd.kids[i]=k at hc J hK;obtain ⟨n,rfl⟩:=Js J.1;have hn:n<xs.length:=by omega
     have O:=B.cell (k:=n) (j:=1) hn (by omega);simp only [Int.toNat_natCast] at hK;simp [qk] at O;by_cases o:xs[n].nd.d.name=[]
     ·have Q:res=false:=by
       cases res with
       |false=>rfl
       |true=>
        exfalso;simp only [j0] at c;have:=(qgH _ _).1 c.1 (i - 1) (by rw [uR];omega) (by omega);have e1:(x.nd.kids.drop 1)[i - 1]'(by rw [uR];omega)=x.nd.kids[i]:=by rw [VF];congr 1;omega
        rw [e1,hk,hK] at this;exact this o
      rw [o] at O;simp -implicitDefEqProofs [qgq,ri,s0,s3,s5,ab,W,v,c5,u.is,hkl,L,hc,B.cells.is,B.len,hn,O,qU,jC,qkF,Q]
     ·simp -implicitDefEqProofs [qgq,ri,s0,s3,s5,ab,W,v,c5,u.is,hkl,L,hc,B.cells.is,B.len,hn,O,qU,jC,qkF,o,quC,hlt];have hwj:IntKind.i64.wrap ((i:Int)+1)=(i:Int)+1:=qH (by omega);refine ⟨hwj,(hI _ _).2 ⟨by simp [s0],by simp [s3],by simp [s5],fun j h1 h2 hj=>?_⟩⟩;by_cases hji:j<i
      ·exact hno j h1 hji hj
      ·have:j=i:=by omega
       subst this;rw [hk,hK];exact o
    ·have v:¬(i:Int)<(p.length:Int)+1:=by omega
     have he:qd7 (xs.map (·.nd)) x.nd=true:=(qgH _ _).2 fun j hj hj2=>by
      have:=hno (j+1) (by omega) (by omega) (by omega);have e1:(x.nd.kids.drop 1)[j]=x.nd.kids[j+1]'(by omega):=by rw [VF];congr 1;omega
      rw [e1];exact this
     rw [he] at c;simp -implicitDefEqProofs [qgq,ri,s0,s3,s5,ab,W,v,quB,g,z,oR,qU];simpa using c
  ·have P:((a.toNat:Int) !=113)=true:=bne_iff_ne.2 fun e=>ha (F.1 e);simp [ha] at c;subst c;simp -implicitDefEqProofs [U,V,aa,S,Z,P,h,c0,c1,c2,c3,c4,c5,g,z,oR,qU,jC,g1,C,E,m,r0,wq,wn,wo,wS]
 have m1:((x.nd.d.kind:Int)==1)=false:=uw (by omega);have m2:((x.nd.d.kind:Int)==2)=false:=uw (by omega);have m3:((x.nd.d.kind:Int)==3)=false:=uw (by omega);have m34:((x.nd.d.kind:Int)==34)=false:=uw (by omega);have m4:((x.nd.d.kind:Int)==4)=false:=uw (by omega);have m31:((x.nd.d.kind:Int)==31)=false:=uw (by omega);have m5:((x.nd.d.kind:Int)==5)=false:=uw (by omega);have q5:¬x.nd.d.kind=5:=by omega
 have m6:((x.nd.d.kind:Int)==6)=false:=uw (by omega);have m7:((x.nd.d.kind:Int)==7)=false:=uw (by omega);have m8:((x.nd.d.kind:Int)==8)=false:=uw (by omega);have m9:((x.nd.d.kind:Int)==9)=false:=uw (by omega);have m10:((x.nd.d.kind:Int)==10)=false:=uw (by omega);have m30:((x.nd.d.kind:Int)==30)=false:=uw (by omega);have m37:((x.nd.d.kind:Int)==37)=false:=uw (by omega);have m20:((x.nd.d.kind:Int)==20)=false:=uw (by omega);have m21:((x.nd.d.kind:Int)==21)=false:=uw (by omega);have m22:((x.nd.d.kind:Int)==22)=false:=uw (by omega);have m23:((x.nd.d.kind:Int)==23)=false:=uw (by omega);have m24:((x.nd.d.kind:Int)==24)=false:=uw (by omega);have m25:((x.nd.d.kind:Int)==25)=false:=uw (by omega);have m26:((x.nd.d.kind:Int)==26)=false:=uw (by omega);have m27:((x.nd.d.kind:Int)==27)=false:=uw (by omega);have m28:((x.nd.d.kind:Int)==28)=false:=uw (by omega);have m29:((x.nd.d.kind:Int)==29)=false:=uw (by omega);have m33:((x.nd.d.kind:Int)==33)=false:=uw (by omega);have m35:((x.nd.d.kind:Int)==35)=false:=uw (by omega);have q35:¬x.nd.d.kind=35:=by omega
 have m36:((x.nd.d.kind:Int)==36)=false:=uw (by omega);have m32:((x.nd.d.kind:Int)==32)=false:=uw (by omega);have q32:¬x.nd.d.kind=32:=by omega
 simp [q1,q2,q3,q34,q4,q31,q5,q6,q7,q8,q9,q10,q30,q37,q20,q21,q22,q23,q24,q25,q26,q27,q28,q29,q33,q35,q36,q32] at c;subst c;simp -implicitDefEqProofs [m1,m2,m3,m34,m4,m31,m5,m6,m7,m8,m9,m10,m30,m37,m20,m21,m22,m23,m24,m25,m26,m27,m28,m29,m33,m35,m36,m32,c0,wq,wn,wo,wS]
end
@[simp] theorem qNz:qh Tryz.prog 170=true:=by kernel_rfl
@[simp] theorem qNj:qh Tryz.prog 81=true:=by kernel_rfl
section
variable {w:World} {lv:Value} {xs:List NV}
theorem qnz {l:List Nd} {i:Nat} {o:List Int} {x:Nd} {r:List Nd} (h:l.drop i=x::r) (b:vW (l.drop i) i o=vW l 0 []) (a:¬(x.kids.length<=o.length/\o.drop (o.length - x.kids.length)=x.kids)):xO l=false:=by
 unfold xO;rw [<-b,h,qeP,if_neg a]
theorem qBF (hR:Rd w lv xs) (hds:∀y∈xs,DOk y.nd.d) (hkl:∀x∈xs,x.nd.kids.length<4611686018427387904) (hlen:xs.length<4611686018427387904):
  Calls Tryz.prog 81 #[lv] w fun e w'=>e=.returned (.bool (qar (xs.map (·.nd))))/\qc w w':=by
 have hl:=hR.len;have s:=hR.cells.is;generalize b:qar (xs.map (·.nd))=res;generalize hRR:(fun (e:Ending) (w':World)=>e=.returned (.bool res)/\qc w w')=R;have fin:∀W,qc w W->R (.returned (.bool res)) W:=fun W hE=>by rw [<-hRR];exact ⟨rfl,hE⟩
 refine qEB fun ρ r0=>?_;unfold qar at b;simp only [uh] at b;generalize hLL:xs.map (·.nd)=L at b;by_cases h0:xs.length=0
 ·simp [h0] at b;subst b;simp -implicitDefEqProofs [qf1,r0,s,hl,h0];exact fin _ (qO _)
 by_cases h4:400<xs.length
 ·have h4i:(400:Int)<(xs.length:Int):=by omega
  have h4n:¬xs.length<=400:=by omega
  simp [h4n] at b;subst b;simp -implicitDefEqProofs [qf1,r0,s,hl,h0,h4i,h4];exact fin _ (qO _)
 have h4i:¬(400:Int)<(xs.length:Int):=by omega
 have h1:1<=xs.length:=by omega
 have h4n:xs.length<=400:=by omega
 simp [h1,h4n] at b;simp -implicitDefEqProofs [qf1,r0,s,hl,h0,h4,h4i,qq8];have hLl:L.length=xs.length:=by rw [<-hLL,uh]
 obtain ⟨I,hI⟩:∃I:Nat->qa->World->Prop,∀i H w',I i H w'↔∃(ov sv:Value) (o ss:List Int),H 0=lv/\H 3=ov/\H 4=sv/\qc w w'/\Cells w' ov 1 (o.map encI)/\Cells w' sv 1 (ss.map encI)/\ss.length=o.length/\o.length<=i/\(∀k∈o,0<=k/\k<(i:Int))/\vW (L.drop i) i o=vW L 0 []/\(L.take i).all (qA L)=true:=⟨_,fun _ _ _=>Iff.rfl⟩;have hnil:∀W:World,Cells W (.slice none 0 0) 1 (([]:List Int).map encI):=fun W=>⟨rfl,rfl,fun j hj=>absurd hj (by simp)⟩;refine vD 5 xs.length I (by simp) ((hI _ _ _).2 ⟨_,_,[],[],by simp [r0],by simp,by simp,qO _,hnil _,hnil _,rfl,by simp,by simp,by simp,by simp⟩) ?_;clear r0;rintro i H w' hi ri hIw;obtain ⟨ov,sv,o,ss,r0,r3,r4,hE,U,hs,hso,hoi,hor,S,O⟩:=(hI _ _ _).1 hIw;have v:ql ov=o.length:=by have:=U.len;simpa using this.symm
 have hsl:ql sv=ss.length:=by have:=hs.len;simpa using this.symm
 have V:=hR.ext hE;by_cases p:i<xs.length
 ·have g:(i:Int)<(xs.length:Int):=by omega
  have z:=V.cell (k:=i) (j:=5) p (by omega);simp [qk] at z;have E:=wz p;have hx:=V.kids _ E;have hd:=hds _ E;have hkx:=hkl _ E;have hrow:=V.row p;have hLi:i<L.length:=by omega
  have X:L[i]=xs[i].nd:=by subst hLL;simp
  have hdr:L.drop i=xs[i].nd::L.drop (i+1):=by rw [u0 hLi,X]
  have htk:L.take (i+1)=L.take i++[xs[i].nd]:=by rw [uG hLi,X]
  generalize xs[i]=x at z hx hd hkx hrow hdr htk X;have hxl:ql x.kv=x.nd.kids.length:=by have:=hx.len;simpa using this.symm
  by_cases hk:x.nd.kids.length<=o.length
  ·have hki:¬(o.length:Int)<(x.nd.kids.length:Int):=by omega
   have hw1:IntKind.i64.wrap ((o.length:Int) - (x.nd.kids.length:Int))=((o.length - x.nd.kids.length:Nat):Int):=by rw [qH (by omega)];omega
   simp -implicitDefEqProofs [qf0,ri,r0,r3,s,hl,g,p,qjL,z,hx.is,hxl,U.is,v,hki,qq4];obtain ⟨J,hJ⟩:∃J:Nat->qa->Prop,∀m c,J m c↔(c 0=lv/\c 3=ov/\c 4=sv/\c 5=.int .i64 i/\c 6=.int .i64 (x.nd.kids.length:Int)/\(∃n,c 7=.int .i64 n)/\∀q,q<m->(o.drop (o.length - x.nd.kids.length))[q]? =x.nd.kids[q]?):=⟨_,fun _ _=>Iff.rfl⟩;refine qaw (C:=qpi) (w0:=w') (qCX _ _) (.loop qdU) (K:=fun _=>False) (Q:=⟨fun j c=>j=2/\J x.nd.kids.length c,fun c=>c 2=.bool false/\¬o.drop (o.length - x.nd.kids.length)=x.nd.kids⟩) (qO _) (fun _ _ _ h=>h.elim) ?_ ?_ ?_
   ·intro j c w2 t hh;obtain ⟨rfl,hJw⟩:=hh;obtain ⟨s0,s3,s4,s5,s6,⟨n,s7⟩,hq⟩:=(hJ _ _).1 hJw;have hkd:o.drop (o.length - x.nd.kids.length)=x.nd.kids:=by
     apply Vd;intro q;by_cases hq':q<x.nd.kids.length
     ·exact hq q hq'
     ·rw [u4 (by rw [uR];omega),u4 (by omega)]
    have hin:∀k∈x.nd.kids,0<=k/\k<(xs.length:Int):=fun k Y=>by
     rw [<-hkd] at Y;have:=hor k (JX Y);omega
    have hE02:=hE.trans' t;have hrow2:=qe7 t _ _ _ _ hrow;simp -implicitDefEqProofs [qq5,s0,s5,s,hl,g,p,hrow2];refine (qBu (x:=x) (V.ext t) (hx.ext t) hd hin (by omega) (by omega)).mono ?_;rintro _ w3 ⟨rfl,hE3⟩;have hE03:=hE02.trans' hE3;rw [hLL];cases hr:qA L x.nd with
    |false=>
     have ha:L.all (qA L)=false:=by
      rw [Vx];exact ⟨L[i],wz _,by rw [X,hr];simp⟩
     rw [ha,Bool.and_false] at b;subst b;simp -implicitDefEqProofs;exact fin _ hE03
    |true=>
     have hE2':=t.trans' hE3;have ho3:=U.ext hE2';have hs3:=hs.ext hE2';have hcapo:=qcm U.is;have hcaps:=qcm hs.is;have ho5:=ho3.sub (l:=0) (r:=o.length - x.nd.kids.length) (m:=qy ov) (uz _) (by simp) (by omega) (j1 _);have hs5:=hs3.sub (l:=0) (r:=o.length - x.nd.kids.length) (m:=qy sv) (uz _) (by simp;omega) (by omega) (j1 _);simp only [y0,Nat.zero_mul,List.drop_zero,<-List.map_take] at ho5 hs5;have hlo:(o.take (o.length - x.nd.kids.length)).length<=400:=by rw [uF];omega
     have hls:(ss.take (o.length - x.nd.kids.length)).length<=400:=by rw [uF];omega
     have P:(ss.take (o.length - x.nd.kids.length)).length=(o.take (o.length - x.nd.kids.length)).length:=by rw [uF,uF];omega
     have hst2:vW (L.drop (i+1)) (i+1) (o.take (o.length - x.nd.kids.length)++[(i:Int)])=vW L 0 []:=by
      rw [<-S,hdr,qeP,if_pos ⟨hk,hkd⟩]
     have hor2:∀k∈o.take (o.length - x.nd.kids.length)++[(i:Int)],0<=k/\k<((i+1:Nat):Int):=fun k Y=>by
      rcases uC.1 Y with h|h
      ·have:=hor k (JI h);omega
      ·rw [uH.1 h];omega
     have hoi2:(o.take (o.length - x.nd.kids.length)++[(i:Int)]).length<=i+1:=by rw [kh,uF];simp;omega
     generalize o.take (o.length - x.nd.kids.length)=o2 at ho5 hlo P hst2 hor2 hoi2;generalize ss.take (o.length - x.nd.kids.length)=s2 at hs5 hls P;have hc1:((o.length - x.nd.kids.length:Nat):Int)<=(qy ov:Int):=by omega
     have hc2:((o.length - x.nd.kids.length:Nat):Int)<=(qy sv:Int):=by omega
     have hc3:o.length<=qy ov+x.nd.kids.length:=by omega
     have hc4:o.length<=qy sv+x.nd.kids.length:=by omega
     simp -implicitDefEqProofs [qq6];refine jV QU (by decide) (by decide) (by simp) fun B4 W4 hB4 hE4 hb4 _=>?_;simp at hb4;simp -implicitDefEqProofs [s3,s6,U.is,v,hw1,hc1,hc3];refine qbz qb6 hE4 (by rfl) (by rfl) (Own.lit (n:=0) (sz:=1) hb4 (by simp) hB4 (by decide)) (ho5.ext hE4) (by simp [encI,Value.oneCell']) (by simp;omega) (by simp;omega) fun u5 W5 hE5 ho6 _ _=>?_;simp -implicitDefEqProofs [s5];refine jV QU (by decide) (by decide) (by simp [Value.cells]) fun B6 W6 hB6 hE6 hb6 _=>?_;simp [Value.cells] at hb6;simp -implicitDefEqProofs;refine qbz qb6 (hE5.trans' hE6) (by rfl) (by rfl) (ho6.ext hE6) (L01.jR (Own.lit (n:=1) (sz:=1) (cs:=[.int .i64 i]) hb6 (by simp) hB6 (by decide))) (by simp [Value.oneCell']) (by simp;omega) (by simp;omega) fun u7 W7 hE7 ho7 _ _=>?_;simp -implicitDefEqProofs;refine jV QU (by decide) (by decide) (by simp) fun B8 W8 hB8 hE8 hb8 _=>?_;simp at hb8;simp -implicitDefEqProofs [s3,s4,s6,hs.is,hsl,hso,hw1,hc2,hc4];refine qbz qb6 hE8 (by rfl) (by rfl) (Own.lit (n:=0) (sz:=1) hb8 (by simp) hB8 (by decide)) (hs5.ext (hE7.trans' hE8)) (by simp [encI,Value.oneCell']) (by simp;omega) (by simp;omega) fun u9 W9 hE9 ho9 _ _=>?_;simp -implicitDefEqProofs [s7];refine jV QU (by decide) (by decide) (by simp [Value.cells]) fun B10 W10 hB10 hE10 hb10 _=>?_;simp [Value.cells] at hb10;simp -implicitDefEqProofs;refine qbz qb6 (hE9.trans' hE10) (by rfl) (by rfl) (ho9.ext hE10) (L01.jR (Own.lit (n:=1) (sz:=1) (cs:=[.int .i64 n]) hb10 (by simp) hB10 (by decide))) (by simp [Value.oneCell']) (by simp;omega) (by simp;omega) fun u11 W11 hE11 ho11 _ _=>?_;have hwj:IntKind.i64.wrap ((i:Int)+1)=(i:Int)+1:=qH (by omega);simp -implicitDefEqProofs [qq3,s5,hwj,p];refine (hI _ _ _).2 ⟨u7,u11,o2++[(i:Int)],s2++[n],by simp [s0],by simp,by simp,(hE03.trans' hE7).trans' hE11, ?_, ?_,by simp [P],hoi2,hor2,hst2, ?_⟩
     ·have:=L01.jR (ho7.ext hE11);simpa [encI] using this
     ·have:=L01.jR ho11;simpa [encI] using this
     ·rw [htk,JP,O];simp [hr]
   ·intro c w2 t hh;have hp:=qnz hdr S fun h=>hh.2 h.2;rw [hp] at b;simp at b;subst b;simp -implicitDefEqProofs [hh.1];exact fin _ (hE.trans' t)
   ·refine qpI 8 x.nd.kids.length J (by simp) ((hJ _ _).2 ⟨by simp [r0],by simp [r3],by simp [r4],by simp [ri],by simp,⟨1,by simp⟩,fun q hq=>by omega⟩) ?_;rintro m c hm rm hJw;obtain ⟨s0,s3,s4,s5,s6,⟨n,s7⟩,hq⟩:=(hJ _ _).1 hJw;by_cases B:m<x.nd.kids.length
    ·have A:(m:Int)<(x.nd.kids.length:Int):=by omega
     have F:=hx.cell m (by simpa using B);obtain ⟨a,ha⟩:∃a,a=o.length - x.nd.kids.length+m:=⟨_,rfl⟩;have u:a<o.length:=by omega
     have hatm:a<ss.length:=by omega
     have hoc:=U.cell a (by simpa using u);have hsc:=hs.cell a (by simpa using hatm);simp only [u6,encI] at F hoc hsc;have hat:(a:Int)<(o.length:Int):=by omega
     have hats:(a:Int)<(ss.length:Int):=by omega
     have hw2:IntKind.i64.wrap (((o.length - x.nd.kids.length:Nat):Int)+(m:Int))=(a:Int):=by rw [qH (by omega)];omega
     have hwm:IntKind.i64.wrap ((m:Int)+1)=(m:Int)+1:=qH (by omega);have hdg:(o.drop (o.length - x.nd.kids.length))[m]? =some o[a]:=by
      rw [Jm,<-ha,ug u]
     by_cases Z:x.nd.kids[m]=o[a]
     ·have hbn:(x.nd.kids[m] !=o[a])=false:=by rw [Z];simp
      simp -implicitDefEqProofs [qdU,rm,s6,A,B,qjM,s0,s3,s4,s5,s,hl,g,p,z,hx.is,hxl,U.is,v,hs.is,hsl,hw1,hw2,hat,hats,u,hatm,F,hoc,hsc,hbn,qjN,qra,s7,qq7,hwm];refine (hJ _ _).2 ⟨by simp [s0],by simp [s3],by simp [s4],by simp [s5],by simp [s6],⟨_,by simp;rfl⟩,fun q hq2=>?_⟩;by_cases hqm:q<m
      ·exact hq q hqm
      ·obtain rfl:q=m:=by omega
       rw [hdg,ug B,Z]
     ·have hbn:(x.nd.kids[m] !=o[a])=true:=bne_iff_ne.2 Z;simp -implicitDefEqProofs [qdU,rm,s6,A,B,qjM,s0,s3,s5,s,hl,g,p,z,hx.is,hxl,U.is,v,hw1,hw2,hat,u,F,hoc,hbn,qjN];intro he;rw [he,ug B] at hdg;exact Z (Jp hdg)
    ·have A:¬(m:Int)<(x.nd.kids.length:Int):=by omega
     obtain rfl:m=x.nd.kids.length:=by omega
     simp -implicitDefEqProofs [qdU,rm,s6];exact (hJ _ _).2 ⟨by simp [s0],by simp [s3],by simp [s4],by simp [s5],by simp [s6],⟨n,by simp [s7]⟩,hq⟩
  ·have hki:(o.length:Int)<(x.nd.kids.length:Int):=by omega
   have hp:=qnz hdr S fun h=>hk h.1;simp [hp] at b;subst b;simp -implicitDefEqProofs [qf0,ri,r0,r3,s,hl,g,p,qjL,z,hx.is,hxl,U.is,v,hki];exact fin _ hE
 ·have g:¬(i:Int)<(xs.length:Int):=by omega
  rw [uY (by omega)] at S;rw [ul (by omega)] at O;have hp:xO L=decide (o.length=1):=by unfold xO;rw [<-S];rfl
  rw [hp,O,kA] at b;have hb1:((o.length:Int)==1)=decide (o.length=1):=by rw [uJ];simp;omega
  simp -implicitDefEqProofs [qf0,ri,r0,s,hl,g,qq9,r3,U.is,v,hb1];subst b;exact fin _ hE
theorem qAJ {L:List Nd} (b:0<xs.length) (a:xs.map (·.nd)=L):yf L=(xs[xs.length - 1]'(by omega)).nd.d.kind:=by
 subst a;unfold yf;rw [Vf,uh,JT,ug (by omega)];rfl
theorem qBI (c:Rd w lv xs) (l:∀y∈xs,DOk y.nd.d) (o:∀x∈xs,x.nd.kids.length<4611686018427387904) (b:xs.length<4611686018427387904):
  Calls Tryz.prog 67 #[lv] w fun e w'=>e=.returned (.bool (whole (xs.map (·.nd)) qf))/\qc w w':=by
 have s:=c.len;have g:=c.cells.is;have t:whole (xs.map (·.nd)) qf=(qar (xs.map (·.nd))&&qf (yf (xs.map (·.nd)))):=qyi _ _ rfl;rw [t];refine qEV fun ρ r0=>?_;simp -implicitDefEqProofs [qrw,r0];refine (qBF c l o b).mono ?_;rintro _ w1 ⟨rfl,i⟩;cases p:qar (xs.map (·.nd)) with
 |false=>
  simp -implicitDefEqProofs;exact i
 |true=>
  have z:0<xs.length:=by
   unfold qar at p;simp only [j0,kr,uh] at p;omega
  rw [qAJ z rfl];have h:xs.length - 1<xs.length:=by omega
  have a:=(c.ext i).cell (k:=xs.length - 1) (j:=0) h (by omega);simp [qk] at a;have n:IntKind.i64.wrap ((xs.length:Int) - 1)=((xs.length - 1:Nat):Int):=by rw [qH (by omega)];omega
  have u:((xs.length - 1:Nat):Int)<(xs.length:Int):=by omega
  generalize (xs[xs.length - 1]'h).nd.d.kind=v at a;simp -implicitDefEqProofs [r0,g,s,n,u,h,a];refine (qoF v).mono ?_;rintro _ A ⟨rfl,m⟩;simp -implicitDefEqProofs;exact i.trans' m
end
section
variable {w:World} {lv:Value} {xs:List NV}
theorem Qd.q (h:Qd (xs.map (·.nd))):(∀y∈xs,DOk y.nd.d)/\∀x∈xs,x.nd.kids.length<4611686018427387904:=
 ⟨fun y a=>h.1 _ (Vi a),fun y a=>Nat.lt_of_le_of_lt (h.2 _ (Vi a)) (by decide)⟩
end
end Go.L02
