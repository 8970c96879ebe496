/- Lemmas for a claim about layer 2 (tree). No conditions but those they state. -/
import Derived.Test.YtbcmiempigoooaaGreatDoorEat
import Derived.Lib.ItoaLen
set_option linter.all false
namespace Go.L02
open Go Go.Eng Go.RowKit
open Go.Proofs hiding encI
open Go.L01 (Bs Tok qg qi)
set_option maxRecDepth 100000
set_option maxHeartbeats 2000000
@[simp] theorem qNi:qh Tryz.prog 83=true:=by kernel_rfl
@[simp] theorem qNm:qh Tryz.prog 67=true:=by kernel_rfl
@[simp] theorem qNy:qh Tryz.prog 174=true:=by kernel_rfl
noncomputable def qus:OT:=zy 10 (zv 0)<|zy 11 (zI .quo (zv 10) (zK 10))<|zy 13 (zv 0)<|zy 14 (zI .rem (zv 13) (zK 10))<|zy 15 (zI .add (zK 48) (zv 14))<|zy 16 (.op1 (.conv .u8) (zv 15))<| .both (.step (zc 12 174 #[zt 11] #[3] 9) true<| .step (zE 17 (.buildSlice 112 1 #[(0,(zt 16))]) 112) true<| .step (za 18 (.op1 .b2s (zv 17))) true<| .step (za 19 (zS .add (zv 12) (zv 18))) false<| .step (zm 2 19) false<| .done)<| .step (zE 17 (.buildSlice 112 1 #[(0,(zt 16))]) 112) true<| .both (.step (zc 12 174 #[zt 11] #[3] 9) true<| .step (za 18 (.op1 .b2s (zv 17))) true<| .step (za 19 (zS .add (zv 12) (zv 18))) false<| .step (zm 2 19) false<| .done)<| .step (za 18 (.op1 .b2s (zv 17))) true<| .step (zc 12 174 #[zt 11] #[3] 9) true<| .step (za 19 (zS .add (zv 12) (zv 18))) false<| .step (zm 2 19) false<| .done
theorem qHf:qdD Tryz.prog 20 quw [8] 9 (qP quv 3)=some qus:=by kernel_rfl
def qgY {w:World} {K c:Nat} (h:Blk w K #[.int .u8 (c:Int)] 5) (j:c<256):Sl jn w (.slice (some ⟨K,0,none⟩) 1 1) [UInt8.ofNat c]:=
 ⟨by simp [qu],rfl,by simp,fun i g=>by
  simp at g;subst g;simp only [qQ];rw [h.cell];simp [jn];omega⟩
def qBC (n:Nat):∀(w:World),n<=9223372036854775807->Calls Tryz.prog 174 #[.int .i64 (n:Int)] w fun e w'=>e=.returned (.string (qb (Lib.decDigits n)))/\qc w w':=by
 induction n using Nat.strongRecOn with
 |_ n F=>
  intro w H;refine qHg fun ρ r0=>?_;by_cases h:n<10
  ·have x:(n:Int)<10:=by omega
   have z:IntKind.u8.wrap (IntKind.i64.wrap ((48:Int)+(n:Int)))=((48+n:Nat):Int):=by rw [qH (by omega)];unfold IntKind.wrap;simp [IntKind.signed,IntKind.bits];omega
   have y:Lib.decDigits n=[UInt8.ofNat (48+n)]:=by rw [Lib.decDigits,dif_pos h]
   rw [y];simp -implicitDefEqProofs [qkC,r0,x,h,z];refine jV L01.qeV (by decide) (by decide) (by simp [Value.cells]) fun K w1 C g u _=>?_;simp [Value.cells] at u;have j:=qg3 (qgY (c:=48+n) (by simpa using u) (by omega));simp -implicitDefEqProofs [j];exact g
  ·have x:¬(n:Int)<10:=by omega
   have z:IntKind.i64.wrap ((n:Int) / 10)=((n / 10:Nat):Int):=by rw [qH (by omega)];omega
   have B:IntKind.u8.wrap (IntKind.i64.wrap ((48:Int)+(n:Int).tmod 10))=((48+n%10:Nat):Int):=by
    rw [Int.tmod_eq_emod_of_nonneg (by omega),qH (by omega)];unfold IntKind.wrap;simp [IntKind.signed,IntKind.bits];omega
   have y:Lib.decDigits n=Lib.decDigits (n / 10)++[UInt8.ofNat (48+n%10)]:=by rw [Lib.decDigits,dif_neg h]
   have E:(Lib.decDigits (n / 10)).length<=100:=by
    rw [Lib.decDigits_length];have:=Lib.nDigits_le20 (n / 10) (by omega);omega
   rw [y];have v:48+n%10<256:=by omega
   have m:=fun w=>F (n / 10) (by omega) w (by omega);generalize 48+n%10=c at B v⊢;obtain ⟨ds,t⟩:∃ds,ds=Lib.decDigits (n / 10):=⟨_,rfl⟩;rw [<-t] at E⊢;simp only [<-t] at m;generalize p:(fun (e:Ending) (w':World)=>e=.returned (.string (qb (ds++[UInt8.ofNat c])))/\qc w w')=R;simp -implicitDefEqProofs [qkC,r0,x,h,qut];refine qow qHf (fun _=>True) fun W o _=>⟨trivial, ?_⟩;simp -implicitDefEqProofs [qus,r0,z,B,quu];constructor
   ·refine (m W).mono ?_;rintro _ w1 ⟨rfl,g⟩;simp -implicitDefEqProofs;refine jV L01.qeV (by decide) (by decide) (by simp [Value.cells]) fun K A C l j _=>?_;simp [Value.cells] at j;have k:=qg3 (qgY j v);simp -implicitDefEqProofs (disch:=((try simp only [kh,List.length_cons,List.length_nil]);omega)) [-qY,jB,k];rw [<-p];exact ⟨rfl,o.trans' (g.trans' l)⟩
   ·refine jV L01.qeV (by decide) (by decide) (by simp [Value.cells]) fun K A C l j _=>?_;simp [Value.cells] at j;simp -implicitDefEqProofs;constructor
    ·refine (m A).mono ?_;rintro _ w1 ⟨rfl,g⟩;have k:=qg3 (qgY (j.ext g) v);simp -implicitDefEqProofs (disch:=((try simp only [kh,List.length_cons,List.length_nil]);omega)) [-qY,jB,k];rw [<-p];exact ⟨rfl,o.trans' (l.trans' g)⟩
    ·have k:=qg3 (qgY j v);simp -implicitDefEqProofs [k];refine (m A).mono ?_;rintro _ w1 ⟨rfl,g⟩;simp -implicitDefEqProofs (disch:=((try simp only [kh,List.length_cons,List.length_nil]);omega)) [-qY,jB];rw [<-p];exact ⟨rfl,o.trans' (l.trans' g)⟩
def qqn (sep:Bs):∀(l:List Bs) (x:Bs),jl sep (l++[x])=if l=[] then x else jl sep l++(sep++x)
 |[],x=>rfl
 |[y],x=>by simp [jl]
 |y::z::l,x=>by
  have:=qqn sep (z::l) x;simp [jl] at this⊢;rw [this]
def qqm (sep:Bs) (l:List Bs) (j:Nat) (h:j<l.length):jl sep (l.take (j+1))=if j=0 then l[j] else jl sep (l.take j)++(sep++l[j]):=by
 rw [uG h,qqn];by_cases c:j=0
 ·subst c;simp
 ·have k:l.take j≠[]:=by intro m;have g:=congrArg List.length m;rw [uF] at g;simp only [List.length_nil] at g;omega
  rw [if_neg k,if_neg c]
def qql (sep:Bs) (l:List Bs):∀k j,j+k=l.length->(jl sep (l.take j)).length<=(jl sep l).length
 |0,j,h=>by rw [ul (by omega)];exact j1 _
 |k+1,j,h=>by
  have c:=qql sep l k (j+1) (by omega);rw [qqm sep l j (by omega)] at c;refine Nat.le_trans ?_ c;split
  ·rename_i g;subst g;simp [jl]
  ·simp
section
variable {w:World} {nv:Value} {xs:List NV}
theorem qoC (hR:Rd w nv xs):∀(n:Nat) (u:T) (i:Nat) (c:Bool) (W:World),qc w W->u.size<=n->jE u=true->qf u.d.kind=true->xf (xs.map (·.nd)) i u->(xt u).length<=10000000000000->
  Calls Tryz.prog 83 #[nv,.int .i64 (i:Int),.bool c] W fun e w'=>e=.returned (.string (qb (if c then ot u else xt u)))/\qc W w'
 |0,u,_,_,_,_,hn,_,_,_,_=>by have:=u.size_pos;omega
 |n+1,u,i,c,W,hE,hn,hok,hk,hat,l=>by
  obtain ⟨kv,A⟩:=qjg (hR.ext hE) hat;have hlt':(i:Int)<(xs.length:Int):=by have:=A.lt;omega
  have hkc:=vN A.kis;have hko:=xS A.kis;have hrow:=A.row;have hK:∀(j:Nat) (h:j<u.kids.length),W.cell? (qQ kv j)=some (.int .i64 (yG i u j:Int))/\∀(c:Bool) W',qc W W'->qf u.kids[j].d.kind=true->(xt u.kids[j]).length<=10000000000000->Calls Tryz.prog 83 #[nv,.int .i64 (yG i u j:Int),.bool c] W' fun e w'=>e=.returned (.string (qb (if c then ot u.kids[j] else xt u.kids[j])))/\qc W' w':=by
   intro j h;obtain ⟨k1,k2,k3⟩:=A.kcell j h;have ho:jE u.kids[j]=true:=by
    obtain ⟨d,ks⟩:=u;simp only [jE,j0] at hok;exact yU hok.2 _ (wz _)
   exact ⟨k1,fun c W' hW' he hl=>qoC hR n _ _ c _ (hE.trans' hW') (by omega) ho he k2 hl⟩
  have p:=A.klen;have E:=A.kis;have his:=A.is;have hl:=A.len;have hlt:=A.lt;clear A hat;generalize hkx:yG i u=kx at*;obtain ⟨d,ks⟩:=u;have hvw:Vw d ks:=QM (by simp only [jE,j0] at hok;exact hok.1);refine qEy fun ρ r0 r1 r2=>?_;have hoe:∀t:T,(ot t).length<=(xt t).length+2:=fun t=>by unfold ot x8;split<;>simp
  have aa:∀t:T,(xt t).length<=(ot t).length:=fun t=>by
   unfold ot x8;split
   ·simp only [kh];omega
   ·exact j1 _
  simp -implicitDefEqProofs [qqW,r0,r1,his,hl,hlt,hlt',hrow,T.d];refine qX qbP fun X w1 hX hE1 hb1 _=>?_;simp -implicitDefEqProofs;refine jx (B:=X) (by simp) hb1 (by simp [Value.cells,T.d,hkc]) (by simp [Value.cells,T.d,hkc,hko]) (by simpa [Value.cells,T.d,hkc] using qbW) fun U hO2 J=>?_;simp -implicitDefEqProofs [Value.cells,T.d,hkc] at J;have g:qc W U:=hO2.ext hE1 hX;have c0:U.cell? ⟨X,0,none⟩=some (.int .u8 (d.kind:Int)):=by rw [J.cell];rfl
  have c1:U.cell? ⟨X,1,none⟩=some (.string (qb d.name)):=by rw [J.cell];rfl
  have c2:U.cell? ⟨X,2,none⟩=some (.string (qb d.vr)):=by rw [J.cell];rfl
  have c3:U.cell? ⟨X,3,none⟩=some (.string (qb d.typ)):=by rw [J.cell];rfl
  have c4:U.cell? ⟨X,4,none⟩=some (.int .i64 d.n):=by rw [J.cell];rfl
  have c5:U.cell? ⟨X,5,none⟩=some kv:=by rw [J.cell];rfl
  simp only [T.d,T.kids] at hk hK p;simp -implicitDefEqProofs [c0, -qY,jB,qU,vf];have v:∀s:Bs,xt (.mk d ks)=s->d.kind≠6->(if c=true then ot (.mk d ks) else xt (.mk d ks))=s:=fun s hs h6=>by
   have:ot (.mk d ks)=xt (.mk d ks):=by unfold ot x8;rw [if_neg (by simpa [T.d] using h6)]
   rw [this,hs,ite_self]
  have V:(∀k∈ks,qf k.d.kind=true)->ks.length<=6->xt (.mk d ks)=zF d++([40]++(jl [44,32] (xts ks)++[41]))->∀(K:qa->World->Prop) (Q:Ks) (ρ2:qa),ρ2 0=nv->ρ2 7=.pointer (some ⟨X,0,none⟩)->ρ2 8=.string (qb (zF d))->
    (∀C w',C 6=.string (qb (xt (.mk d ks)))->qc W w'->Q.rt C w')->qjC.wp ⟨Tryz.prog,160,qqV,[]⟩ K Q ρ2 U:=by
   intro hke h6 ab K Q ρ2 s0 s7 s8 hQ;rw [ab] at l hQ;have hxl:(xts ks).length=ks.length:=by rw [Jk];simp
   have hjl:=fun j (h:j<=ks.length)=>qql [44,32] (xts ks) (ks.length - j) j (by omega);have hxj:∀(j:Nat) (h:j<ks.length),(xt ks[j]).length<=(jl [44,32] (xts ks)).length:=fun j h=>qjv _ _ _ (by rw [Jk];exact un.2 ⟨_,wz _,rfl⟩);generalize zF d=hd at*;simp only [kh] at l;simp -implicitDefEqProofs (disch:=((try simp only [kh,List.length_cons,List.length_nil]);omega)) [-qY,jB,qU,vf,qjC,s8];obtain ⟨I,hI⟩:∃I:Nat->qa->World->Prop,∀j C w',I j C w'↔(C 0=nv/\C 7=.pointer (some ⟨X,0,none⟩)/\C 8=.string (qb (hd++([40]++jl [44,32] ((xts ks).take j))))/\qc U w'):=⟨_,fun _ _ _=>Iff.rfl⟩;refine vD 9 ks.length I (by simp) ((hI _ _ _).2 ⟨by simp [s0],by simp [s7],by simp [jl],qO _⟩) ?_;rintro j C w' hj rj hIw;obtain ⟨t0,t7,t8,R⟩:=(hI _ _ _).1 hIw;have c5':=R.cell c5;have hwj:IntKind.i64.wrap ((j:Int)+1)=(j:Int)+1:=qH (by omega);have hjl':=hjl j hj;by_cases P:j<ks.length
   ·have S:(j:Int)<(ks.length:Int):=by omega
    obtain ⟨k1,k3⟩:=hK j P;have y:=(g.trans' R).cell k1;have hgx:(xts ks)[j]'(by omega)=xt ks[j]:=by simp [Jk]
    have Y:=qqm [44,32] (xts ks) j (by omega);rw [hgx] at Y;have hjl2:=hjl (j+1) (by omega);have hxj':=hxj j P;have hcl:=fun w1 hw1=>k3 false w1 hw1 (hke _ (wz _)) (by omega);simp only [uf,km] at hcl;by_cases hj0:j=0
    ·rw [if_pos hj0] at Y;have ht0:(xts ks).take j=[]:=by rw [hj0];rfl
     rw [ht0] at t8;simp only [jl] at t8;have Z:¬(0:Int)<(j:Int):=by omega
     have H:¬0<j:=by omega
     simp -implicitDefEqProofs (disch:=((try simp only [kh,List.length_cons,List.length_nil]);omega)) [-qY,jB,qU,vf,qfY,qjD,qjF,rj,t0,t7,t8,c5',E,p,S,P,y,Z,H];refine (hcl w' (g.trans' R)).mono ?_;rintro _ w3 ⟨rfl,x⟩;simp -implicitDefEqProofs (disch:=((try simp only [kh,List.length_cons,List.length_nil]);omega)) [-qY,jB,qU,vf,qjE,rj,P,hwj];exact (hI _ _ _).2 ⟨by simp [t0],by simp [t7],by simp [Y],R.trans' x⟩
    ·rw [if_neg hj0] at Y;have Z:(0:Int)<(j:Int):=by omega
     have H:0<j:=by omega
     simp -implicitDefEqProofs (disch:=((try simp only [kh,List.length_cons,List.length_nil]);omega)) [-qY,jB,qU,vf,qfY,qjD,qjF,rj,t0,t7,t8,c5',E,p,S,P,y,Z,H];refine (hcl w' (g.trans' R)).mono ?_;rintro _ w3 ⟨rfl,x⟩;simp -implicitDefEqProofs (disch:=((try simp only [kh,List.length_cons,List.length_nil]);omega)) [-qY,jB,qU,vf,qjE,rj,P,hwj];exact (hI _ _ _).2 ⟨by simp [t0],by simp [t7],by simp [Y],R.trans' x⟩
   ·have S:¬(j:Int)<(ks.length:Int):=by omega
    rw [ul (by omega)] at t8;simp -implicitDefEqProofs (disch:=((try simp only [kh,List.length_cons,List.length_nil]);omega)) [-qY,jB,qU,vf,qfY,rj,t7,t8,c5',E,p,S,P,qqS];exact hQ _ _ (by simp) (g.trans' R)
  cases hvw with
  |int m h0 h1=>
   rw [v (Lib.itoa m) (by simp [xt,zU]) (by simp)];have hm:Lib.itoa m=Lib.decDigits m.toNat:=by rw [Lib.itoa,if_neg (by omega)]
   have hq:=qBC m.toNat U (by omega);rw [Jt h0] at hq;rw [hm];simp -implicitDefEqProofs [c4];refine hq.mono ?_;rintro _ w3 ⟨rfl,x⟩;simp -implicitDefEqProofs;exact g.trans' x
  |bool m h=>
   rcases h with rfl|rfl
   ·rw [v [102,97,108,115,101] (by simp [xt,zU]) (by simp)];simp -implicitDefEqProofs [c4,qjJ];exact ⟨rfl,g⟩
   ·rw [v [116,114,117,101] (by simp [xt,zU]) (by simp)];simp -implicitDefEqProofs [c4,qjJ];exact g
  |nil=>
   rw [v [110,105,108] (by simp [xt,zU]) (by simp)];simp -implicitDefEqProofs;exact g
  |var s h=>
   rw [v s (by simp [xt,zU]) (by simp)];simp -implicitDefEqProofs [c1];exact g
  |mcall s ty h ht ks h6 hk=>
   rw [v _ rfl (by simp)];have hc:=V hk h6 (by simp [xt,zU]);by_cases hty:ty=[]
   ·have q3:decide (qb ty=qb [])=true:=by rw [hty];rfl
    have O:zF {kind:=5,name:=s,typ:=ty}=s:=by simp [zF,hty]
    rw [O] at hc;simp -implicitDefEqProofs [-qY,jB,qU,vf,c1,c2,c3,qfZ,q3];exact hc _ _ _ (by simp [r0]) (by simp) (by simp) fun C w' h1 h2=>by simp -implicitDefEqProofs [h1];exact h2
   ·have q3:decide (qb ty=qb [])=false:=by simp [qb,hty]
    have O:zF {kind:=5,name:=s,typ:=ty}=s++([123]++(ty++[125])):=by simp [zF,hty]
    rw [O] at hc;have ab:xt (.mk {kind:=5,name:=s,typ:=ty} ks)=(s++([123]++(ty++[125])))++([40]++(jl [44,32] (xts ks)++[41])):=by rw [<-O];simp [xt,zU]
    rw [ab] at l;simp only [kh] at l;simp -implicitDefEqProofs (disch:=((try simp only [kh,List.length_cons,List.length_nil]);omega)) [-qY,jB,qU,vf,c1,c2,c3,qfZ,q3];exact hc _ _ _ (by simp [r0]) (by simp) (by simp) fun C w' h1 h2=>by simp -implicitDefEqProofs [h1];exact h2
  |ocall s o h ho ks h6 hk=>
   rw [v _ rfl (by simp)];have hc:=V hk h6 (by simp [xt,zU]);have hv:o≠[]:=by rintro rfl;rw [qfU] at ho;cases ho
   have q3:decide (qb o=qb [])=false:=by simp [qb,hv]
   have q4:decide (qb []=qb [])=true:=rfl;have O:zF {kind:=5,name:=s,vr:=o}=o++([36]++s):=by simp [zF,hv]
   rw [O] at hc;have ab:xt (.mk {kind:=5,name:=s,vr:=o} ks)=(o++([36]++s))++([40]++(jl [44,32] (xts ks)++[41])):=by rw [<-O];simp [xt,zU]
   rw [ab] at l;simp only [kh] at l;simp -implicitDefEqProofs (disch:=((try simp only [kh,List.length_cons,List.length_nil]);omega)) [-qY,jB,qU,vf,c1,c2,c3,qfZ,q3,q4];exact hc _ _ _ (by simp [r0]) (by simp) (by simp) fun C w' h1 h2=>by simp -implicitDefEqProofs [h1];exact h2
  |neg a ha=>
   obtain ⟨k1,k3⟩:=hK 0 (by simp);have y:=g.cell k1;have e:xt (.mk {kind:=6,name:=[110,111,116]} [a])=[110,111,116,32]++ot a:=rfl;have e':ot (.mk {kind:=6,name:=[110,111,116]} [a])=[40]++(([110,111,116,32]++ot a)++[41]):=rfl;rw [e] at l⊢;rw [e'];simp at l p;have hxa:=aa a;simp -implicitDefEqProofs [r0,c1,c5,E,p,y,qjG];refine (k3 true U g ha (by simp;omega)).mono ?_;rintro _ w3 ⟨rfl,x⟩;cases c<;>
   ·simp -implicitDefEqProofs (disch:=((try simp only [kh,List.length_cons,List.length_nil]);omega)) [-qY,jB,qU,vf,qjH,qjI,r2];exact g.trans' x
  |oper s h a b ha hb=>
   obtain ⟨k1,k3⟩:=hK 0 (by simp);obtain ⟨l1,l3⟩:=hK 1 (by simp);have y:=g.cell k1;have l1':=g.cell l1;have e:xt (.mk {kind:=6,name:=s} [a,b])=ot a++([32]++(s++([32]++ot b))):=rfl;have e':ot (.mk {kind:=6,name:=s} [a,b])=[40]++((ot a++([32]++(s++([32]++ot b))))++[41]):=rfl;rw [e] at l⊢;rw [e'];simp at l p;have hxa:=aa a;have hxb:=aa b;have hsn:decide (qb s=qb [110,111,116])=false:=by
    simp only [uS,jC];rintro rfl;exact absurd h (by rw [qDr];decide)
   simp -implicitDefEqProofs [r0,c1,hsn,qU,qjG];simp -implicitDefEqProofs [r0,c5,c1,E,p,y,l1', -qM,vj,vk,vi];refine ⟨(.string (qb (ot a))),fun w' z=>?_, ?_⟩
   ·refine (k3 true w' (g.trans' z) ha (by simp;omega)).mono ?_;rintro _ w4 ⟨rfl,F⟩;exact ⟨rfl,z.trans' F⟩
   simp -implicitDefEqProofs (disch:=((try simp only [kh,List.length_cons,List.length_nil]);omega)) [-qY,jB,qU,vf,r0,c1,c5,E,p,y,l1', -qM,vj,vk,vi];refine ⟨(.string (qb (ot b))),fun w' z=>?_, ?_⟩
   ·refine (l3 true w' (g.trans' z) hb (by simp;omega)).mono ?_;rintro _ w4 ⟨rfl,F⟩;exact ⟨rfl,z.trans' F⟩
   simp -implicitDefEqProofs (disch:=((try simp only [kh,List.length_cons,List.length_nil]);omega)) [-qY,jB,qU,vf,r0,c1, -qM,vj,vk,vi];intro w3 x;cases c<;>
   ·simp -implicitDefEqProofs (disch:=((try simp only [kh,List.length_cons,List.length_nil]);omega)) [-qY,jB,qU,vf,qjH,qjI,r2];exact g.trans' x
  |index a b ha hb=>
   obtain ⟨k1,k3⟩:=hK 0 (by simp);obtain ⟨l1,l3⟩:=hK 1 (by simp);have y:=g.cell k1;have l1':=g.cell l1;have e:xt (.mk {kind:=7} [a,b])=ot a++([91]++(xt b++[93])):=rfl;rw [v _ e (by simp)];rw [e] at l;simp at l p;have hxa:=aa a;simp -implicitDefEqProofs [r0,c5,c1,E,p,y,l1', -qM,vj,vk,vi];refine ⟨(.string (qb (ot a))),fun w' z=>?_, ?_⟩
   ·refine (k3 true w' (g.trans' z) ha (by simp;omega)).mono ?_;rintro _ w4 ⟨rfl,F⟩;exact ⟨rfl,z.trans' F⟩
   simp -implicitDefEqProofs (disch:=((try simp only [kh,List.length_cons,List.length_nil]);omega)) [-qY,jB,qU,vf,r0,c1,c5,E,p,y,l1', -qM,vj,vk,vi];refine ⟨(.string (qb (xt b))),fun w' z=>?_, ?_⟩
   ·refine (l3 false w' (g.trans' z) hb (by simp;omega)).mono ?_;rintro _ w4 ⟨rfl,F⟩;exact ⟨rfl,z.trans' F⟩
   simp -implicitDefEqProofs (disch:=((try simp only [kh,List.length_cons,List.length_nil]);omega)) [-qY,jB,qU,vf,r0,qqU, -qM,vj,vk,vi];intro w3 x;exact g.trans' x
  |field s h a ha=>
   obtain ⟨k1,k3⟩:=hK 0 (by simp);have y:=g.cell k1;have e:xt (.mk {kind:=8,name:=s} [a])=ot a++([46]++s):=rfl;rw [v _ e (by simp)];rw [e] at l;simp at l p;have hxa:=aa a;simp -implicitDefEqProofs [r0,c5,c1,E,p,y, -qM,vj,vk,vi];refine ⟨(.string (qb (ot a))),fun w' z=>?_, ?_⟩
   ·refine (k3 true w' (g.trans' z) ha (by simp;omega)).mono ?_;rintro _ w4 ⟨rfl,F⟩;exact ⟨rfl,z.trans' F⟩
   simp -implicitDefEqProofs (disch:=((try simp only [kh,List.length_cons,List.length_nil]);omega)) [-qY,jB,qU,vf,r0,c1,qqT, -qM,vj,vk,vi];intro w3 x;exact g.trans' x
  |up a ha=>
   obtain ⟨k1,k3⟩:=hK 0 (by simp);have y:=g.cell k1;have e:xt (.mk {kind:=9} [a])=[117,112,40]++(xt a++[41]):=rfl;rw [v _ e (by simp)];rw [e] at l;simp at l p;simp -implicitDefEqProofs [r0,c5,E,p,y];refine (k3 false U g ha (by simp;omega)).mono ?_;rintro _ w3 ⟨rfl,x⟩;simp -implicitDefEqProofs (disch:=((try simp only [kh,List.length_cons,List.length_nil]);omega)) [-qY,jB,qU,vf];exact g.trans' x
  |down a ha=>
   obtain ⟨k1,k3⟩:=hK 0 (by simp);have y:=g.cell k1;have e:xt (.mk {kind:=10} [a])=[100,111,119,110,40]++(xt a++[41]):=rfl;rw [v _ e (by simp)];rw [e] at l;simp at l p;simp -implicitDefEqProofs [r0,c5,E,p,y];refine (k3 false U g ha (by simp;omega)).mono ?_;rintro _ w3 ⟨rfl,x⟩;simp -implicitDefEqProofs (disch:=((try simp only [kh,List.length_cons,List.length_nil]);omega)) [-qY,jB,qU,vf];exact g.trans' x
  |_=>simp [qf] at hk
theorem qBE {w:World} {lv:Value} {xs:List NV} (o:Rd w lv xs) (j:Qd (xs.map (·.nd))) (l:∀t:T,xs.map (·.nd)=t.flat 0->t.size<=400->jE t=true->(xt t).length<=10000000000000) (x:xs.length<4611686018427387904):
  Calls Tryz.prog 29 #[lv] w fun e w'=>e=.returned (.tuple #[.string (qb (x7 (xs.map (·.nd))).1),.int .i64 (x7 (xs.map (·.nd))).2])/\qc w w':=by
 have F:=o.len;have u:=o.cells.is;refine qFF fun ρ r0=>?_;generalize k:(fun (e:Ending) (w':World)=>e=.returned (.tuple #[.string (qb (x7 (xs.map (·.nd))).1),.int .i64 (x7 (xs.map (·.nd))).2])/\qc w w')=R;simp -implicitDefEqProofs [qsq,r0];refine (qBI o j.q.1 j.q.2 x).mono ?_;rintro _ w1 ⟨rfl,g⟩;cases p:whole (xs.map (·.nd)) qf with
 |false=>
  simp -implicitDefEqProofs;rw [<-k];exact ⟨by simp [x7,p,qb],g⟩
 |true=>
  obtain ⟨t,m,z,I,c⟩:=(qes _ _).1 p;have v:=l t m z c;have B:xs.length=t.size:=by have:=congrArg List.length m;rwa [uh,T.flat_len] at this
  have E:=t.size_pos;have y:IntKind.i64.wrap ((xs.length:Int) - 1)=((t.size - 1:Nat):Int):=by rw [B,qH (by omega)];omega
  have A:xf (xs.map (·.nd)) (t.size - 1) t:=by rw [m];exact qxA t
  simp -implicitDefEqProofs [qsp,r0,u,F,y];refine (qoC o t.size t (t.size - 1) false w1 g (j1 _) c I A v).mono ?_;rintro _ J ⟨rfl,C⟩;simp -implicitDefEqProofs;rw [<-k];have H:x7 (xs.map (·.nd))=(xt t,0):=by unfold x7;rw [if_pos p,m,qhE]
  exact ⟨by rw [H],g.trans' C⟩
end
end Go.L02
namespace Go.L02
open Go.Eng
open Go.L01 (Bs Res Tok first jI jm jw jz qD qG qK qL qg qp right zC)
def jt (L:List Tok) (i:Nat) (ks:List (Nat×Bs)):Prop:=∀m (h:m<ks.length),i+m<L.length/\(tk L (i+m)).kind=(ks[m]).1/\(tk L (i+m)).text=(ks[m]).2
section
variable {L:List Tok} {i:Nat} {a b:List (Nat×Bs)}
theorem jt.left (h:jt L i (a++b)):jt L i a:=fun m c=>by
 have:=h m (by rw [kh];omega)
 rwa [List.getElem_append_left c] at this
theorem jt.right (h:jt L i (a++b)):jt L (i+a.length) b:=fun m c=>by
 have:=h (a.length+m) (by rw [kh];omega);rw [List.getElem_append_right (by omega)] at this;simp only [VN] at this;rw [uN];exact this
theorem jt.head {k:Nat} {s:Bs} (h:jt L i ((k,s)::b)):i<L.length/\(tk L i).kind=k/\(tk L i).text=s:=h 0 (by simp)
theorem jt.tail {x:Nat×Bs} (h:jt L i (x::b)):jt L (i+1) b:=(jt.right (a:=[x]) h)
theorem qdS {k:Nat} {s:Bs} {ss:List Bs} (c:(tk L i).kind=k) (g:(tk L i).text=s) (h:k=2\/k=4):qo L i ss=ss.contains s:=by
 unfold qo;rw [c,g];rcases h with rfl|rfl<;>simp
theorem xE {s:Bs} {ss:List Bs} (c:(tk L i).text=s) (h:ss.contains s=false):qo L i ss=false:=by
 unfold qo;rw [c,h,Bool.and_false]
theorem Qy {k:Nat} {ss:List Bs} (c:(tk L i).kind=k) (g:k≠2) (j:k≠4):qo L i ss=false:=by
 unfold qo;rw [c];simp [g,j]
end
def qau {j:Type} {L:List Tok} {i f:Nat} {k:Nat} {s:Bs} {m:Unit->M j} (c:(tk L i).kind=k) (g:(tk L i).text=s) (h:k=2\/k=4):bnd (needs L [s]) m i f=m () (i+1) f:=by
 have:needs L [s] i f=.ok () (i+1) f:=by
  simp [needs,qm,qdS c g h,ret]
 rw [jq this]
def yN {j:Type} {L:List Tok} {i f:Nat} {k:Nat} {s:Bs} {x y:M j} (c:(tk L i).kind=k) (g:(tk L i).text=s) (h:k=2\/k=4):qm L s x y i f=x (i+1) f:=by
 simp [qm,qdS c g h]
def vh {c:Type} {L:List Tok} {i f:Nat} {s:Bs} {x y:M c} (h:qo L i [s]=false):qm L s x y i f=y i f:=by
 simp [qm,h]
def qDy {L:List Tok} {i f:Nat} {s:Bs} (c:(tk L i).kind=1) (g:(tk L i).text=s):name L i f=.ok s (i+1) f:=by unfold name;rw [if_pos c,g]
def qav {j:Type} {L:List Tok} {i f:Nat} {s:Bs} {m:Bs->M j} (c:(tk L i).kind=1) (g:(tk L i).text=s):bnd (name L) m i f=m s (i+1) f:=by rw [jq (qDy c g)]
section
variable {ts L:List Tok} {off:Nat}
def Jj (ts L:List Tok) (off:Nat):Prop:=∀i,i<ts.length->(tk L (off+i)).kind=(tk ts i).kind/\(tk L (off+i)).text=(tk ts i).text
def xy (ts:List Tok) (off:Nat) {α:Type} (m m':M α):Prop:=∀i f a j g,i<=ts.length->m i f=.ok a j g->j<=ts.length/\∀f',∃g',m' (off+i) f'=.ok a (off+j) g'
def EF (ts:List Tok) {α:Type} (m:M α):Prop:=∀f a j g,m ts.length f≠ .ok a j g
theorem qqw (ts:List Tok) (ss:List Bs):qo ts ts.length ss=false:=by
 unfold qo;have:tk ts ts.length=⟨0,[],0⟩:=wZ (j1 _);rw [this];simp
theorem qEl (h:Jj ts L off) {i:Nat} (c:i<ts.length) (ss:List Bs):qo L (off+i) ss=qo ts i ss:=by
 unfold qo;rw [(h i c).1,(h i c).2]
theorem qcf {l:Type} (a:l):xy ts off (ret a) (ret a):=fun i f b j g c h=>by
 simp only [ret,Rs.ok.injEq] at h;obtain ⟨rfl,rfl,rfl⟩:=h;exact ⟨c,fun k=>⟨k,rfl⟩⟩
theorem Qu {t u:Type} {m l:M t} {k p:t->M u} (h:xy ts off m l) (B:∀a,xy ts off (k a) (p a)):xy ts off (bnd m k) (bnd l p):=fun i f b j g C e=>by
 cases c:m i f with
 |oof=>rw [kM c] at e;cases e
 |no g=>rw [xx c] at e;cases e
 |ok a o g1=>
  rw [jq c] at e;obtain ⟨E,x⟩:=h i f a o g1 C c;obtain ⟨y,H⟩:=B a o g1 b j g E e;refine ⟨y,fun I=>?_⟩;obtain ⟨v,A⟩:=x I;obtain ⟨F,z⟩:=H v;exact ⟨F,by rw [jq A,z]⟩
theorem Qt {H:Type} (E:Jj ts L off) {s:Bs} {x y x' C:M H} (F:xy ts off x x') (A:xy ts off y C) (l:EF ts y\/(tk L (off+ts.length)).text≠s):xy ts off (qm ts s x y) (qm L s x' C):=fun i f b j g B e=>by
 unfold qm at e;by_cases v:i<ts.length
 ·have z:=qEl E v [s];split at e
  ·rename_i p;obtain ⟨m,c⟩:=F (i+1) f b j g v e;refine ⟨m,fun o=>?_⟩;obtain ⟨k,e'⟩:=c o;exact ⟨k,by unfold qm;rw [z,p];simpa [uN] using e'⟩
  ·rename_i p;have u:qo ts i [s]=false:=by simpa using p
   obtain ⟨m,c⟩:=A i f b j g B e;refine ⟨m,fun o=>?_⟩;obtain ⟨k,e'⟩:=c o;exact ⟨k,by unfold qm;rw [z,u];simpa using e'⟩
 ·have t:i=ts.length:=by omega
  subst t;rw [qqw] at e;simp only [uf,km] at e;rcases l with l|l
  ·exact absurd e (l _ _ _ _)
  ·obtain ⟨m,c⟩:=A _ f b j g B e;refine ⟨m,fun o=>?_⟩;obtain ⟨k,e'⟩:=c o;refine ⟨k, ?_⟩;rw [vh (xE rfl (by simpa using fun e=>l e)),e']
theorem xw {c:Type} {s:Bs} {x y:M c} (h:EF ts y):EF ts (qm ts s x y):=fun f a j g e=>by
 unfold qm at e;rw [qqw] at e;exact h f a j g (by simpa using e)
theorem qJk {l o:Type} {m:M l} {k:l->M o} (h:EF ts m):EF ts (bnd m k):=fun f a j g e=>by
 cases c:m ts.length f with
 |oof=>rw [kM c] at e;cases e
 |no g=>rw [xx c] at e;cases e
 |ok a p g1=>exact h _ _ _ _ c
theorem qJj:EF ts (name ts):=fun f a j g e=>by
 have:tk ts ts.length=⟨0,[],0⟩:=wZ (j1 _);unfold name at e;rw [this] at e;simp at e
theorem qwB {c:Type}:EF ts (qaJ:M c):=fun f a j g e=>by cases e
theorem qDQ {c:Type}:xy ts off (qaJ:M c) qaJ:=fun i f a j g _ e=>by cases e
theorem qcg (c:Jj ts L off) (s:Bs):xy ts off (needs ts [s]) (needs L [s]):=Qt c (qcf ()) qDQ (.inl qwB)
theorem qJi (s:Bs):EF ts (needs ts [s]):=xw qwB
theorem qpP (k:Jj ts L off):xy ts off (name ts) (name L):=fun i f a j g m e=>by
 unfold name at e;split at e
 ·rename_i h;simp only [Rs.ok.injEq] at e;obtain ⟨rfl,rfl,rfl⟩:=e;have c:i<ts.length:=by
   by_cases c:i<ts.length
   ·exact c
   ·have:tk ts i=⟨0,[],0⟩:=wZ (by omega);rw [this] at h;cases h
  refine ⟨c,fun l=>⟨l, ?_⟩⟩;unfold name;rw [(k i c).1,(k i c).2,if_pos h];rfl
 ·cases e
theorem qDO (k:Jj ts L off):xy ts off (param ts) (param L):=fun i f a j g m e=>by
 unfold param at e;split at e
 ·rename_i h;simp only [Rs.ok.injEq] at e;obtain ⟨_,rfl,rfl⟩:=e;have c:i<ts.length:=by
   by_cases c:i<ts.length
   ·exact c
   ·have:tk ts i=⟨0,[],0⟩:=wZ (by omega);rw [this] at h;cases h.1
  refine ⟨c,fun l=>⟨l, ?_⟩⟩;unfold param;rw [(k i c).1,(k i c).2,if_pos h];rfl
 ·cases e
theorem qpQ {z A:Type} (t:Jj ts L off) {m c:M z} (y:xy ts off m c) {k p:List z->M A} (v:∀l,xy ts off (k l) (p l)) (u:∀l,EF ts (k l)):∀n o,n<=o->xy ts off (bnd (more ts m n) k) (bnd (more L c o) p)
 |0,_,_=>fun i f a j g _ e=>by cases e
 |n+1,0,h=>by omega
 |n+1,o+1,h=>by
  have C:bnd (more ts m (n+1)) k=qm ts [44] (bnd m fun x=>bnd (more ts m n) fun xs=>k (x::xs)) (k []):=by
   funext i f;show bnd (qm ts [44] (bnd m fun x=>bnd (more ts m n) fun xs=>ret (x::xs)) (ret [])) k i f=_;simp only [qeK,wv,y9]
  have B:bnd (more L c (o+1)) p=qm L [44] (bnd c fun x=>bnd (more L c o) fun xs=>p (x::xs)) (p []):=by
   funext i f;show bnd (qm L [44] (bnd c fun x=>bnd (more L c o) fun xs=>ret (x::xs)) (ret [])) p i f=_;simp only [qeK,wv,y9]
  rw [C,B];exact Qt t (Qu y fun x=>qpQ t y (fun l=>v (x::l)) (fun l=>u (x::l)) n o (by omega)) (v []) (.inl (u []))
theorem qDP {p u:Type} (A:Jj ts L off) {m c:M p} (o:xy ts off m c) {k j:List p->M u} (t:∀l,xy ts off (k l) (j l)) (z:∀l,EF ts (k l)) {n g:Nat} (h:n<=g):xy ts off (bnd (listed ts n m) k) (bnd (listed L g c) j):=by
 have v:bnd (listed ts n m) k=bnd m fun x=>bnd (more ts m n) fun xs=>k (x::xs):=by
  funext i f;show bnd (bnd m fun x=>bnd (more ts m n) fun xs=>ret (x::xs)) k i f=_;simp only [wv,y9]
 have y:bnd (listed L g c) j=bnd c fun x=>bnd (more L c g) fun xs=>j (x::xs):=by
  funext i f;show bnd (bnd c fun x=>bnd (more L c g) fun xs=>ret (x::xs)) j i f=_;simp only [wv,y9]
 rw [v,y];exact Qu o fun x=>qpQ A o (fun l=>t (x::l)) (fun l=>z (x::l)) n g h
theorem qpR (c:Jj ts L off) (p:(tk L (off+ts.length)).text≠[91]):∀n l,n<=l->xy ts off (kind ts n) (kind L l)
 |0,_,_=>fun i f a j g _ e=>by cases e
 |n+1,0,h=>by omega
 |n+1,l+1,h=>by
  have o:=qpR c p n l (by omega);have part:xy ts off (zi ts (kind ts n)) (zi L (kind L l)):=Qu (qpP c) fun _=>Qu (qcg c _) fun _=>Qu o fun _=>qcf _;have m:xy ts off (sq (needs ts [[91]]) (sq (listed ts n (zi ts (kind ts n))) (needs ts [[93]]))) (sq (needs L [[91]]) (sq (listed L l (zi L (kind L l))) (needs L [[93]]))):=
   Qu (qcg c _) fun _=>qDP c part (fun _=>qcg c _) (fun _=>qJi _) (by omega)
  have arr:xy ts off (sq (needs ts [[91]]) (sq (kind ts n) (needs ts [[93]]))) (sq (needs L [[91]]) (sq (kind L l) (needs L [[93]]))):=Qu (qcg c _) fun _=>Qu o fun _=>qcg c _;have nm:xy ts off (sq (name ts) (qm ts [91] (sq (kind ts n) (needs ts [[93]])) (ret ()))) (sq (name L) (qm L [91] (sq (kind L l) (needs L [[93]])) (ret ()))):=
   Qu (qpP c) fun _=>Qt c (Qu o fun _=>qcg c _) (qcf _) (.inr p)
  have k:EF ts (sq (name ts) (qm ts [91] (sq (kind ts n) (needs ts [[93]])) (ret ()))):=qJk qJj;unfold kind;exact Qt c (qcf _) (Qt c (qcf _) (Qt c (qcf _) (Qt c arr (Qt c m (Qt c m (Qt c (qDO c) nm (.inl k)) (.inl (xw k))) (.inl (xw (xw k)))) (.inl (xw (xw (xw k))))) (.inl (xw (xw (xw (xw k)))))) (.inl (xw (xw (xw (xw (xw k))))))) (.inl (xw (xw (xw (xw (xw (xw k)))))))
end
def ql3 {ts:List Tok} (h:∀t∈ts,right t.kind t.text=true):qJ (ts.map fun t=>⟨t.kind,t.text⟩)=ts.map vv:=by
 have g:∀t∈ts,t.kind≠0:=fun t c j=>by have:=h t c;rw [j] at this;simp [right] at this
 unfold qJ;rw [List.filter_eq_self.2 (by
  intro a k;obtain ⟨t,c,rfl⟩:=un.1 k;simpa using g t c)]
 simp [JC,Function.comp_def,vv]
def qhL {ts:List Tok} {i:Nat} (h:i<ts.length):tk ts i=ts[i]:=by unfold tk;simp [ug h]
def qmK {L:List Tok} {s:Bs} (h:qI s=true) {i n:Nat} (p:jt L i (qJ (vg s))) (o:(tk L (i+(qJ (vg s)).length)).text≠[91]) (l:(qJ (vg s)).length+3<=n) (f:Nat):∃g,xh L n i f=.ok s (i+(qJ (vg s)).length) g:=by
 obtain ⟨ts,cs,j,J,x,H,y,K,B⟩:=qez h;have C:∀t∈ts,right t.kind t.text=true:=fun t h=>Q7 x t h;have F:vg s=ts.map fun t=>⟨t.kind,t.text⟩:=by unfold vg;rw [x];rfl
 rw [F,ql3 C] at p o l⊢;rw [uh] at o l⊢;have v:Jj ts L i:=fun m c=>by
  have:=p m (by rw [uh];exact c);simp only [u6,vv] at this;rw [qhL c];exact this.2
 obtain ⟨u,A⟩:=qpR v o _ n l 0 0 () j J (uz _) y;have k:j=ts.length:=by omega
 subst k;obtain ⟨g,e⟩:=A f;refine ⟨g, ?_⟩;unfold xh;rw [Nat.add_zero] at e;rw [e];show Rs.ok _ _ _=_;congr 1;rw [<-B];have I:i+ts.length<=L.length:=by
  by_cases z:ts=[]
  ·subst z;exact absurd y (qjs _ _ _ _ _)
  ·have O:0<ts.length:=Jn.2 z;have:=(p (ts.length - 1) (by rw [uh];omega)).1;omega
 have E:(jW L i (i+ts.length)).map (·.text)=ts.map (·.text):=by
  apply VD
  ·simp [jW];omega
  ·intro m H u;have c:m<ts.length:=by simpa using u
   have:=(v m c).2;rw [qhL c,qhL (by omega)] at this;simpa [jW] using this
 unfold ja;rw [E]
def qC6 {L:List Tok} {s:Bs} (h:vx s=true) {i:Nat} (c:jt L i (qJ (kI s))) (g:(tk L (i+(qJ (kI s)).length)).text≠[95]) (f:Nat):op L i f=.ok s (i+(qJ (kI s)).length) f:=by
 unfold vx at h;unfold kI at c g⊢;by_cases o:jL.contains s=true
 ·rw [if_pos o] at c g⊢;have j:jt L i [(2,s)]:=by simpa [qJ] using c
  obtain ⟨_,l,m⟩:=j.head;have e:(qJ [⟨2,s⟩]).length=1:=by simp [qJ]
  rw [e];unfold op;rw [if_pos ⟨l,by rw [m];exact o⟩,m]
 ·rw [if_neg o] at c g⊢;have t:jL.contains s=false:=by simpa using o
  rw [t,uj] at h;cases p:kC s with
  |none=>
   rw [p] at h c g;have j:jt L i [(1,s)]:=by simpa [qJ] using c
   obtain ⟨_,l,m⟩:=j.head;have e:(qJ [⟨1,s⟩]).length=1:=by simp [qJ]
   simp only [e] at g⊢;unfold op;rw [if_neg (by rw [l];intro h;cases h.1),qav l m,vh (xE rfl (by simpa using fun e=>g e))];rfl
  |some k=>
   rw [p] at h c g;simp only [j0] at h;have j:jt L i [(1,s.take k),(4,[95]),(1,s.drop (k+1))]:=by simpa [qJ] using c
   obtain ⟨_,l,m⟩:=j.head;obtain ⟨_,v,x⟩:=j.tail.head;obtain ⟨_,y,u⟩:=j.tail.tail.head;have e:(qJ [⟨1,s.take k⟩,⟨4,[95]⟩,⟨1,s.drop (k+1)⟩]).length=3:=by simp [qJ]
   simp only [e];unfold op;rw [if_neg (by rw [l];intro h;cases h.1),qav l m,yN v x (.inr rfl),qav y u];show Rs.ok _ _ _=_;rw [show s.take k++([95]++s.drop (k+1))=s from (qwO p).symm]
def yl:Nat->List (Nat×Bs)->Option (List (Nat×Bs))
 |_,[]=>none
 |d,x::l=>if x.2=[91] then yl (d+1) l else if x.2=[93] then (match d with|0=>some l|e+1=>yl e l) else yl d l
def xo (l:List (Nat×Bs)):Prop:=∀d r,yl d (l++r)=yl d r
theorem qxr:xo []:=fun _ _=>rfl
def ww {a b:List (Nat×Bs)} (g:xo a) (c:xo b):xo (a++b):=fun d r=>by rw [uB,g,c]
def kf {x:Nat×Bs} (c:x.2≠[91]) (g:x.2≠[93]):xo [x]:=fun d r=>by simp [yl,c,g]
def kN {x:Nat×Bs} {l:List (Nat×Bs)} (c:x.2≠[91]) (g:x.2≠[93]) (h:xo l):xo (x::l):=ww (a:=[x]) (kf c g) h
def qxt {k j:Nat} {l:List (Nat×Bs)} (h:xo l):xo ((k,[91])::(l++[(j,[93])])):=fun d r=>by
 have c:yl d ((k,[91])::(l++[(j,[93])])++r)=yl (d+1) (l++((j,[93])::r)):=by simp [yl]
 rw [c,h];simp [yl]
def qxs {l r:List (Nat×Bs)} {j:Nat} (h:xo l):yl 0 (l++((j,[93])::r))=some r:=by rw [h];simp [yl]
def Dk (L:List Tok) (i:Nat):List (Nat×Bs):=(L.drop i).map vv
section
variable {L:List Tok}
theorem qaX {i:Nat} (h:i<L.length):Dk L i=vv (tk L i)::Dk L (i+1):=by
 unfold Dk;rw [u0 h,List.map_cons,kR h]
theorem qxW {i:Nat} (h:L.length<=i):Dk L i=[]:=by unfold Dk;rw [uY h];rfl
theorem jt.dk:∀{ks:List (Nat×Bs)} {i:Nat},jt L i ks->Dk L i=ks++Dk L (i+ks.length)
 |[],_,_=>rfl
 |x::ks,i,h=>by
  obtain ⟨k,s⟩:=x;obtain ⟨g,j,c⟩:=h.head;have:=h.tail.dk;rw [qaX g,this];simp [vv,j,c,Nat.add_comm,Nat.add_left_comm]
theorem jt.le {ks:List (Nat×Bs)} {i:Nat} (h:jt L i ks) (c:i<=L.length):i+ks.length<=L.length:=by
 cases ks with
 |nil=>simpa using c
 |cons x ks=>
  have:=(h ks.length (by simp)).1;simp;omega
def xI {α:Type} (L:List Tok) (m:M α):Prop:=∀i f a j g,m i f=.ok a j g->∃l,xo l/\Dk L i=l++Dk L j
theorem Jd {c:Type} (a:c):xI L (ret a):=fun i f b j g h=>by
 simp only [ret,Rs.ok.injEq] at h;obtain ⟨_,rfl,_⟩:=h;exact ⟨[],qxr,rfl⟩
theorem qJn {c:Type}:xI L (qaJ:M c):=fun i f b j g h=>by cases h
theorem qaN {l o:Type} {m:M l} {k:l->M o} (x:xI L m) (u:∀a,xI L (k a)):xI L (bnd m k):=fun i f b j g h=>by
 cases c:m i f with
 |oof=>rw [kM c] at h;cases h
 |no g=>rw [xx c] at h;cases h
 |ok a z g1=>
  rw [jq c] at h;obtain ⟨l1,t,y⟩:=x _ _ _ _ _ c;obtain ⟨v,b2,p⟩:=u a _ _ _ _ _ h;exact ⟨l1++v,ww t b2,by rw [y,p,uB]⟩
theorem Jc {A:Type} {s:Bs} {x y:M A} (u:s≠[91]) (o:s≠[93]) (v:xI L x) (t:xI L y):xI L (qm L s x y):=fun i f b j g h=>by
 unfold qm at h;split at h
 ·rename_i c;have m:=wQ c;obtain ⟨l,p,z⟩:=v _ _ _ _ _ h;have k:(tk L i).text=s:=by
   unfold qo at c;simp only [List.contains_cons,List.contains_nil,uO,j0,ur] at c;exact c.2
  exact ⟨vv (tk L i)::l,kN (by simpa [vv,k] using u) (by simpa [vv,k] using o) p,by rw [qaX m,z];rfl⟩
 ·exact t _ _ _ _ _ h
theorem qJm {s:Bs} (c:s≠[91]) (g:s≠[93]):xI L (needs L [s]):=Jc c g (Jd _) qJn
theorem wl {s:Bs} (h:qg s=true):s≠[91]/\s≠[93]:=by
 constructor
 ·rintro rfl;exact absurd h (by decide)
 ·rintro rfl;exact absurd h (by decide)
theorem qwC (m:xe L):xI L (name L):=fun i f b j g h=>by
 unfold name at h;split at h
 ·rename_i c;simp only [Rs.ok.injEq] at h;obtain ⟨rfl,rfl,rfl⟩:=h;have k:=Qw c (by decide);have o:qg (tk L i).text=true:=by
   have:=m (tk L i) (by rw [kR k];exact wz _);rw [c] at this;simpa [right] using this
  obtain ⟨l,p⟩:=wl o;exact ⟨[vv (tk L i)],kf l p,qaX k⟩
 ·cases h
theorem qJl:xI L (param L):=fun i f b j g h=>by
 unfold param at h;split at h
 ·rename_i c;simp only [Rs.ok.injEq] at h;obtain ⟨_,rfl,rfl⟩:=h;have k:=Qw c.1 (by decide);exact ⟨[vv (tk L i)],kf (by simp only [vv,c.2];decide) (by simp only [vv,c.2];decide),qaX k⟩
 ·cases h
theorem qjf {s:Bs} {i f j g:Nat} {a:Unit} (h:needs L [s] i f=.ok a j g):i<L.length/\(tk L i).text=s/\j=i+1:=by
 unfold needs qm at h;split at h
 ·rename_i c;have k:=wQ c;unfold qo at c;simp only [List.contains_cons,List.contains_nil,uO,j0,ur] at c;simp only [needs,ret,Rs.ok.injEq] at h;exact ⟨k,c.2,h.2.1.symm⟩
 ·cases h
theorem qxe {z:Type} {m:M z} (v:xI L m) {i f j g:Nat} {a:Unit} (h:sq m (needs L [[93]]) i f=.ok a j g):∃l k,xo l/\Dk L i=l++((k,[93])::Dk L j):=by
 cases c:m i f with
 |oof=>unfold sq at h;rw [kM c] at h;cases h
 |no g=>unfold sq at h;rw [xx c] at h;cases h
 |ok a x g1=>
  unfold sq at h;rw [jq c] at h;obtain ⟨l,t,y⟩:=v _ _ _ _ _ c;obtain ⟨u,o,p⟩:=qjf h;refine ⟨l,(tk L x).kind,t, ?_⟩;rw [y,qaX u,p];simp [vv,o]
theorem qgO {x:Type} {m:M x} (u:xI L m):xI L (sq (needs L [[91]]) (sq m (needs L [[93]]))):=fun i f b j g h=>by
 cases c:needs L [[91]] i f with
 |oof=>unfold sq at h;rw [kM c] at h;cases h
 |no g=>unfold sq at h;rw [xx c] at h;cases h
 |ok a y g1=>
  obtain ⟨t,o,rfl⟩:=qjf c;rw [show sq (needs L [[91]]) (sq m (needs L [[93]])) i f=sq m (needs L [[93]]) (i+1) g1 from jq c] at h;obtain ⟨l,k,p,v⟩:=qxe u h;refine ⟨((tk L i).kind,[91])::(l++[(k,[93])]),qxt p, ?_⟩;rw [qaX t,v];simp [vv,o]
theorem qwD {k:Type} {m:M k} (c:xI L m):∀n,xI L (more L m n)
 |0=>fun i f b j g h=>by cases h
 |n+1=>Jc (by decide) (by decide) (qaN c fun _=>qaN (qwD c n) fun _=>Jd _) (Jd _)
theorem qwE {g:Type} {m:M g} (c:xI L m) (n:Nat):xI L (listed L n m):=qaN c fun _=>qaN (qwD c n) fun _=>Jd _
theorem qlG (c:xe L):∀n,xI L (kind L n)
 |0=>fun i f b j g h=>by cases h
 |n+1=>by
  have k:=qlG c n;have part:xI L (zi L (kind L n)):=qaN (qwC c) fun _=>qaN (qJm (by decide) (by decide)) fun _=>qaN k fun _=>Jd _;have nm:xI L (sq (name L) (qm L [91] (sq (kind L n) (needs L [[93]])) (ret ()))):=qaN (qwC c) fun _=>by
   intro i f b j g h;unfold qm at h;split at h
   ·rename_i m;have l:=qgO k (L:=L);refine l i f b j g ?_;rw [<-h];unfold sq;rw [jq (show needs L [[91]] i f=.ok () (i+1) f by simp [needs,qm,m,ret])]
   ·exact Jd _ _ _ _ _ _ h
  unfold kind;exact Jc (by decide) (by decide) (Jd _) (Jc (by decide) (by decide) (Jd _) (Jc (by decide) (by decide) (Jd _) (Jc (by decide) (by decide) (qgO k) (Jc (by decide) (by decide) (qgO (qwE part n)) (Jc (by decide) (by decide) (qgO (qwE part n)) (Jc (by decide) (by decide) qJl nm))))))
end
def qxq {s:Bs} (h:qI s=true):xo (qJ (vg s)):=by
 obtain ⟨ts,cs,j,f,g,p,m,k,u⟩:=qez h;have c:∀t∈ts,right t.kind t.text=true:=fun t h=>Q7 g t h;have o:vg s=ts.map fun t=>⟨t.kind,t.text⟩:=by unfold vg;rw [g];rfl
 rw [o,ql3 c];obtain ⟨l,b,e⟩:=qlG (L:=ts) c _ _ _ _ _ _ m;rw [qxW k,uy] at e;unfold Dk at e;rw [List.drop_zero] at e;rw [e];exact b
def qmx {s:Bs} (h:jL.contains s=true):s≠[91]/\s≠[93]:=by
 constructor
 ·rintro rfl;exact absurd h (by decide)
 ·rintro rfl;exact absurd h (by decide)
def qKw {s:Bs} (h:vx s=true):xo (qJ (kI s)):=by
 unfold vx at h;unfold kI;by_cases c:jL.contains s=true
 ·rw [if_pos c];have e:qJ [⟨2,s⟩]=[(2,s)]:=by simp [qJ]
  rw [e];exact kf (qmx c).1 (qmx c).2
 ·rw [if_neg c];have g:jL.contains s=false:=by simpa using c
  rw [g,uj] at h;cases j:kC s with
  |none=>
   rw [j] at h;have e:qJ [⟨1,s⟩]=[(1,s)]:=by simp [qJ]
   dsimp only;rw [e];exact kf (wl h).1 (wl h).2
  |some k=>
   rw [j] at h;simp only [j0] at h;have e:qJ [⟨1,s.take k⟩,⟨4,[95]⟩,⟨1,s.drop (k+1)⟩]=[(1,s.take k),(4,[95]),(1,s.drop (k+1))]:=by simp [qJ]
   dsimp only;rw [e];exact kN (wl h.1).1 (wl h.1).2 (kN (by decide) (by decide) (kf (wl h.2).1 (wl h.2).2))
def xK (t:T):List (Nat×Bs):=qJ (xa t)
def jk (t:T):List (Nat×Bs):=if t.d.kind=6 then (4,[40])::(xK t++[(4,[41])]) else xK t
def Qz (d:D):List (Nat×Bs):=qJ (jK (xc d))
def xm:List (List (Nat×Bs))->List (Nat×Bs)
 |[]=>[]
 |[l]=>l
 |l::m::ls=>l++((4,[44])::xm (m::ls))
def Qq (s:Bs):Nat×Bs:=(if jw s then 2 else 4,s)
def kP {a:At} {l:List At}:qJ (a::l)=if a.k=0 then qJ l else (a.k,a.s)::qJ l:=by
 unfold qJ;by_cases h:a.k=0<;>simp [h]
theorem kO:qJ []=[]:=rfl
theorem k9 {p:Nat×List At} {ps:List (Nat×List At)}:jK (p::ps)=p.2++jK ps:=rfl
theorem wt:jK []=[]:=rfl
def qIJ {ps qs:List (Nat×List At)}:jK (ps++qs)=jK ps++jK qs:=by simp [jK]
def qmq:∀ks:List T,xas ks=ks.map xa
 |[]=>rfl
 |t::ts=>by simp [xas,qmq ts]
def qft (t:T):qJ (xR t.d.kind (xa t))=jk t:=by
 unfold xR jk xK;split
 ·simp [Qa,kP,kO]
 ·rfl
def qxE:∀ls:List (List At),qJ (jK (ve ls))=xm (ls.map qJ)
 |[]=>rfl
 |[l]=>by simp [ve,jK,xm]
 |l::m::ls=>by
  have c:=qxE (m::ls);simp only [ve,k9,sg,bk,Qa,kP,kO,c,List.map_cons,xm];simp
section
variable (n:Int) (s ty:Bs) (a b:T) (ks:List T)
theorem qho:xK (.mk {kind:=1,n:=n} [])=[(3,Lib.itoa n)]:=by simp [xK,xa,wA,k9,wt,wd,kP,kO]
theorem qht:xK (.mk {kind:=2,n:=0} [])=[(2,[102,97,108,115,101])]:=by simp [xK,xa,wA,k9,wt,wd,kP,kO]
theorem qhs:xK (.mk {kind:=2,n:=1} [])=[(2,[116,114,117,101])]:=by simp [xK,xa,wA,k9,wt,wd,kP,kO]
theorem qhm:xK (.mk {kind:=3} [])=[(2,[110,105,108])]:=by simp [xK,xa,wA,k9,wt,wd,kP,kO]
theorem qhj:xK (.mk {kind:=4,name:=s} [])=[(1,s)]:=by simp [xK,xa,wA,k9,wt,wd,kP,kO]
theorem qbQ (d:D) (h:d.kind=5):xK (.mk d ks)=Qz d++((4,[40])::(xm (ks.map xK)++[(4,[41])])):=by
 have e:(xas ks).map qJ=ks.map xK:=by rw [qmq,JC];rfl
 have c:wA d ks (xas ks)=xc d++(sg [40]::(ve (xas ks)++[sg [41]])):=by simp [wA,h]
 unfold xK at e⊢;simp only [xa];rw [c];simp only [qIJ,k9,wt,sg,Qa,qxE,e,Qz];simp [kP,kO]
theorem qhn:xK (.mk {kind:=6,name:=[110,111,116]} [a])=(2,[110,111,116])::jk a:=by
 simp [xK,xa,xas,wA,k9,wt,wd,bk,kP,kO,wO,wN,Qa,qft]
theorem qCY (h:jU.contains s=true):qJ (Q3 s).2=[Qq s]:=by
 simp only [jU,List.contains_cons,List.contains_nil,uO,uk,ur] at h;rcases h with rfl|rfl|rfl|rfl|rfl|rfl|rfl|rfl|rfl|rfl<;>decide
theorem qhl (h:jU.contains s=true):xK (.mk {kind:=6,name:=s} [a,b])=jk a++(Qq s::jk b):=by
 simp [xK,xa,xas,wA,k9,wt,bk,kP,kO,wO,wN,Qa,qft,qCY s h]
theorem qhp:xK (.mk {kind:=7} [a,b])=jk a++((4,[91])::(xK b++[(4,[93])])):=by
 simp [xK,xa,xas,wA,k9,wt,sg,kP,kO,wO,wN,Qa,qft]
theorem qhq:xK (.mk {kind:=8,name:=s} [a])=jk a++[(4,[46]),(1,s)]:=by
 simp [xK,xa,xas,wA,k9,wt,sg,wd,kP,kO,wO,wN,Qa,qft]
theorem qhk:xK (.mk {kind:=9} [a])=(2,[117,112])::(4,[40])::(xK a++[(4,[41])]):=by
 simp [xK,xa,xas,wA,k9,wt,sg,wd,kP,kO,wN,Qa]
theorem qhr:xK (.mk {kind:=10} [a])=(2,[100,111,119,110])::(4,[40])::(xK a++[(4,[41])]):=by
 simp [xK,xa,xas,wA,k9,wt,sg,wd,kP,kO,wN,Qa]
theorem qk4 (c:qI ty=true):Qz {kind:=5,name:=s,vr:=ty}=qJ (vg ty)++((4,[36])::qJ (kI s)):=by
 have g:ty≠[]:=by rintro rfl;rw [qfU] at c;cases c
 simp [Qz,xc,g,k9,wt,sg,Qa,kP,kO]
theorem qk7:Qz {kind:=5,name:=s}=[(1,s)]:=by simp [Qz,xc,k9,wt,wd,kP,kO]
theorem qk6 (c:qI ty=true):Qz {kind:=5,name:=s,typ:=ty}=(1,s)::(4,[123])::(qJ (vg ty)++[(4,[125])]):=by
 have g:ty≠[]:=by rintro rfl;rw [qfU] at c;cases c
 simp [Qz,xc,g,k9,wt,sg,wd,Qa,kP,kO]
end
def qxG (l:List (Nat×Bs)):∀ls:List (List (Nat×Bs)),xm (l::ls)=l++(ls.flatMap fun m=>(4,[44])::m)
 |[]=>by simp [xm]
 |m::ls=>by
  have c:=qxG m ls;simp only [xm] at c⊢;rw [c];simp
def qxu:∀ls:List (List (Nat×Bs)),(∀l∈ls,xo l)->xo (xm ls)
 |[],_=>qxr
 |[l],h=>h l (by simp)
 |l::m::ls,h=>ww (h l (by simp)) (kN (by decide) (by decide) (qxu (m::ls) fun x c=>h x (by simp [c])))
def qKx {s ty:Bs} (h:vx s=true) (c:qI ty=true):xo (Qz {kind:=5,name:=s,vr:=ty}):=by
 rw [qk4 s ty c];exact ww (qxq c) (kN (by decide) (by decide) (qKw h))
def qKy {s ty:Bs} (h:qg s=true) (c:ty=[]\/qI ty=true):xo (Qz {kind:=5,name:=s,typ:=ty}):=by
 rcases c with rfl|c
 ·rw [qk7];exact kf (wl h).1 (wl h).2
 ·rw [qk6 s ty c];exact kN (wl h).1 (wl h).2 (kN (by decide) (by decide) (ww (qxq c) (kf (by decide) (by decide))))
def qqs {n:Int} (g:0<=n) (c:n<=1000000000):Lib.itoa n≠[91]/\Lib.itoa n≠[93]:=by
 have h:=qqr g c;constructor
 ·intro e;rw [e] at h;exact absurd h (by decide)
 ·intro e;rw [e] at h;exact absurd h (by decide)
def qpm {s:Bs} (h:jU.contains s=true):s≠[91]/\s≠[93]:=by
 constructor
 ·rintro rfl;exact absurd h (by decide)
 ·rintro rfl;exact absurd h (by decide)
def qeh {t:T} (h:xo (xK t)):xo (jk t):=by
 unfold jk;split
 ·exact kN (by decide) (by decide) (ww h (kf (by decide) (by decide)))
 ·exact h
def qxp:∀(t:T),jE t=true->qf t.d.kind=true->xo (xK t)
 | .mk d ks,h,H=>by
  simp only [jE,j0] at h;obtain ⟨F,u⟩:=h;have j:∀k∈ks,qf k.d.kind=true->xo (xK k):=fun k p y=>
   have:=JY p
   qxp k (yU u k p) y
  have g:(∀k∈ks,qf k.d.kind=true)->xo (xm (ks.map xK)):=fun y=>qxu _ fun l B=>by
   obtain ⟨k,p,rfl⟩:=un.1 B;exact j k p (y k p)
  cases QM F with
  |int n A z=>rw [qho];exact kf (qqs A z).1 (qqs A z).2
  |bool n h=>
   rcases h with rfl|rfl
   ·rw [qht];exact kf (by decide) (by decide)
   ·rw [qhs];exact kf (by decide) (by decide)
  |nil=>rw [qhm];exact kf (by decide) (by decide)
  |var s h=>rw [qhj];exact kf (wl h).1 (wl h).2
  |mcall s ty x E _ C m=>
   rw [qbQ ks _ rfl];exact ww (qKy x E) (kN (by decide) (by decide) (ww (g m) (kf (by decide) (by decide))))
  |ocall s o x I _ C m=>
   rw [qbQ ks _ rfl];exact ww (qKx x I) (kN (by decide) (by decide) (ww (g m) (kf (by decide) (by decide))))
  |neg a c=>
   rw [qhn];exact kN (by decide) (by decide) (qeh (j a (by simp) c))
  |oper s h a b c v=>
   rw [qhl s a b h];exact ww (qeh (j a (by simp) c)) (kN (qpm h).1 (qpm h).2 (qeh (j b (by simp) v)))
  |index a b c v=>
   rw [qhp];exact ww (qeh (j a (by simp) c)) (qxt (j b (by simp) v))
  |field s h a c=>
   rw [qhq];exact ww (qeh (j a (by simp) c)) (kN (by decide) (by decide) (kf (wl h).1 (wl h).2))
  |up a c=>
   rw [qhk];exact kN (by decide) (by decide) (kN (by decide) (by decide) (ww (j a (by simp) c) (kf (by decide) (by decide))))
  |down a c=>
   rw [qhr];exact kN (by decide) (by decide) (kN (by decide) (by decide) (ww (j a (by simp) c) (kf (by decide) (by decide))))
  |_=>simp [T.d,qf] at H
def qaG (x:Nat×Bs):Prop:=x.1=1\/x.1=3\/((x.1=2\/x.1=4)/\[[116,114,117,101],[102,97,108,115,101],[110,105,108],[117,112],[100,111,119,110],[40],[105,110,116],[98,111,111,108],[110,117,108,108],[97,114,114,97,121],[114,101,99,111,114,100],[111,110,101,111,102],[63]].contains x.2=true)
theorem qmL {s:Bs} (h:qI s=true):∃x l,qJ (vg s)=x::l/\((x.1=1/\(l=[]\/∃k r,l=(k,[91])::r))\/((x.1=2\/x.1=4)/\[[105,110,116],[98,111,111,108],[110,117,108,108],[97,114,114,97,121],[114,101,99,111,114,100],[111,110,101,111,102],[63]].contains x.2=true)):=by
 obtain ⟨ts,cs,j,f,y,C,m,H,O⟩:=qez h;have I:∀t∈ts,right t.kind t.text=true:=fun t h=>Q7 y t h;have J:vg s=ts.map fun t=>⟨t.kind,t.text⟩:=by unfold vg;rw [y];rfl
 rw [J,ql3 I];cases ts with
 |nil=>exact absurd m (qjs _ _ _ _ _)
 |cons t c=>
  refine ⟨vv t,c.map vv,rfl, ?_⟩;have B:tk (t::c) 0=t:=rfl;by_cases p:qo (t::c) 0 [[105,110,116],[98,111,111,108],[110,117,108,108],[97,114,114,97,121],[114,101,99,111,114,100],[111,110,101,111,102],[63]]=true
  ·right;unfold qo at p;rw [B] at p;simp only [j0,uk,kr] at p;exact p
  ·left;have g:∀s∈[[105,110,116],[98,111,111,108],[110,117,108,108],[97,114,114,97,121],[114,101,99,111,114,100],[111,110,101,111,102],[63]],qo (t::c) 0 [s]=false:=fun s y=>by
    cases z:qo (t::c) 0 [s] with
    |false=>rfl
    |true=>
     exfalso;apply p;unfold qo at z⊢;simp only [List.contains_cons,List.contains_nil,uO,j0,ur] at z⊢;refine ⟨z.1, ?_⟩;rw [z.2];simp only [wh,uI,wm] at y;rcases y with rfl|rfl|rfl|rfl|rfl|rfl|rfl<;>decide
   have e:kind (t::c) ((t::c).length+3) 0 0=sq (name (t::c)) (qm (t::c) [91] (sq (kind (t::c) ((t::c).length+2)) (needs (t::c) [[93]])) (ret ())) 0 0:=by
    have A:∀n,kind (t::c) (n+1) 0 0=sq (name (t::c)) (qm (t::c) [91] (sq (kind (t::c) n) (needs (t::c) [[93]])) (ret ())) 0 0:=fun n=>by
     conv=>lhs;simp only [kind]
     rw [vh (g _ (by simp)),vh (g _ (by simp)),vh (g _ (by simp)),vh (g _ (by simp)),vh (g _ (by simp)),vh (g _ (by simp)),vh (g _ (by simp))]
    exact A _
   rw [e] at m;unfold sq at m;by_cases o:t.kind=1
   ·refine ⟨o, ?_⟩;rw [qav (by rw [B];exact o) rfl] at m;unfold qm at m;split at m
    ·rename_i v;right;have E:=wQ v;cases c with
     |nil=>simp at E
     |cons u c=>
      refine ⟨u.kind,c.map vv, ?_⟩;unfold qo at v;have C:tk (t::u::c) (0+1)=u:=rfl;rw [C] at v;simp only [List.contains_cons,List.contains_nil,uO,j0,ur] at v;simp [vv,v.2]
    ·left;simp only [ret,Rs.ok.injEq] at m;obtain ⟨_,K,_⟩:=m;cases c with
     |nil=>rfl
     |cons u c=>simp at H;omega
   ·have F:name (t::c) 0 0=.no (max 0 0):=by unfold name;rw [if_neg (by rw [B];exact o)]
    rw [xx F] at m;cases m
def qdI:∀(t:T),jE t=true->qf t.d.kind=true->(∃x l,jk t=x::l/\qaG x)/\(t.d.kind≠6->∃x l,xK t=x::l/\qaG x)
 | .mk d ks,h,I=>by
  simp only [jE,j0] at h;obtain ⟨E,u⟩:=h;have key:(d.kind≠6->∃x l,xK (.mk d ks)=x::l/\qaG x)->(∃x l,jk (.mk d ks)=x::l/\qaG x)/\(d.kind≠6->∃x l,xK (.mk d ks)=x::l/\qaG x):=fun j=>by
   refine ⟨?_,j⟩;unfold jk;split
   ·exact ⟨_,_,rfl,.inr (.inr ⟨.inr rfl,by decide⟩)⟩
   ·rename_i m;exact j m
  refine key ?_;have z:∀k∈ks,qf k.d.kind=true->∃x l,jk k=x::l/\qaG x:=fun k B H=>
   have:=JY B
   (qdI k (yU u k B) H).1
  intro m;cases QM E with
  |int n J j=>exact ⟨_,_,qho n,.inr (.inl rfl)⟩
  |bool n h=>
   rcases h with rfl|rfl
   ·exact ⟨_,_,qht,.inr (.inr ⟨.inl rfl,by decide⟩)⟩
   ·exact ⟨_,_,qhs,.inr (.inr ⟨.inl rfl,by decide⟩)⟩
  |nil=>exact ⟨_,_,qhm,.inr (.inr ⟨.inl rfl,by decide⟩)⟩
  |var s h=>exact ⟨_,_,qhj s,.inl rfl⟩
  |mcall s ty F v _ m y=>
   rw [qbQ ks _ rfl];rcases v with rfl|v
   ·rw [qk7];exact ⟨_,_,rfl,.inl rfl⟩
   ·rw [qk6 s ty v];exact ⟨_,_,rfl,.inl rfl⟩
  |ocall s o F A _ m y=>
   rw [qbQ ks _ rfl,qk4 s o A];obtain ⟨x,l,e,p⟩:=qmL A;rw [e];refine ⟨_,_,rfl, ?_⟩;rcases p with ⟨j,_⟩|⟨j,c⟩
   ·exact .inl j
   ·refine .inr (.inr ⟨j, ?_⟩);simp only [List.contains_cons,List.contains_nil,uO,uk,ur] at c;rcases c with c|c|c|c|c|c|c<;>rw [c] <;>decide
  |neg a g=>exact absurd rfl m
  |oper s h a b g C=>exact absurd rfl m
  |index a b g C=>
   obtain ⟨x,l,e,p⟩:=z a (by simp) g;rw [qhp,e];exact ⟨_,_,rfl,p⟩
  |field s h a g=>
   obtain ⟨x,l,e,p⟩:=z a (by simp) g;rw [qhq,e];exact ⟨_,_,rfl,p⟩
  |up a g=>exact ⟨_,_,qhk a,.inr (.inr ⟨.inl rfl,by decide⟩)⟩
  |down a g=>exact ⟨_,_,qhr a,.inr (.inr ⟨.inl rfl,by decide⟩)⟩
  |_=>simp [T.d,qf] at I
def qx7 {t:T} (h:jE t=true) (p:qf t.d.kind=true):∃x l,xK t=x::l/\(qaG x\/x=(2,[110,111,116])):=by
 by_cases m:t.d.kind=6
 ·obtain ⟨d,ks⟩:=t;simp only [jE,j0] at h;obtain ⟨o,c⟩:=h;have g:d.kind=6:=m;cases QM o with
  |neg a k=>exact ⟨_,_,qhn a,.inr rfl⟩
  |oper s h a b k u=>
   obtain ⟨⟨x,l,e,j⟩,_⟩:=qdI a (yU c a (by simp)) k;rw [qhl s a b h,e];exact ⟨_,_,rfl,.inl j⟩
  |_=>simp at g
 ·obtain ⟨x,l,e,j⟩:=(qdI t h p).2 m;exact ⟨x,l,e,.inl j⟩
def qDo (l:Bs) (c:UInt8):yW (l++[c])=10*yW l+((c.toNat:Int) - 48):=by simp [yW]
def qDq (u:Nat):yW (Lib.decDigits u)=(u:Int):=by
 induction u using Nat.strongRecOn with
 |_ u c=>
  by_cases h:u<10
  ·rw [Lib.decDigits,dif_pos h];have:(UInt8.ofNat (48+u)).toNat=48+u:=by simp;omega
   simp only [yW,List.foldl_cons,List.foldl_nil,this];omega
  ·rw [Lib.decDigits,dif_neg h,qDo,c (u / 10) (by omega)];have:(UInt8.ofNat (48+u%10)).toNat=48+u%10:=by simp;omega
   rw [this];omega
def qDp {n:Int} (h:0<=n):yW (Lib.itoa n)=n:=by
 rw [Lib.itoa,if_neg (by omega),qDq];omega
section
variable {L:List Tok}
structure Stop (L:List Tok) (j:Nat):Prop where
 op:qo L j jU=false
 ne:(tk L j).text≠[91]/\(tk L j).text≠[46]/\(tk L j).text≠[36]/\(tk L j).text≠[40]/\(tk L j).text≠[123]
structure zP (L:List Tok) (j:Nat):Prop where
 ne:(tk L j).text≠[36]/\(tk L j).text≠[40]/\(tk L j).text≠[123]
 br:(tk L j).text=[91]->∀x r,yl 0 (Dk L (j+1))=some (x::r)->x.2≠[36]
theorem Stop.after {j:Nat} (h:Stop L j):zP L j:=⟨⟨h.ne.2.2.1,h.ne.2.2.2.1,h.ne.2.2.2.2⟩,fun e=>absurd e h.ne.1⟩
theorem qa5 {j:Nat} {s:Bs} (c:(tk L j).text=s) (h:[[41],[93],[44],[116,104,101,110],[100,111],[58,61],[59],[101,110,100],[101,108,115,101],[101,108,115,101,105,102],[101,120,99,101,112,116],[119,104,101,110],[116,97,103]].contains s=true):Stop L j:=by
 simp only [List.contains_cons,List.contains_nil,uO,uk,ur] at h;refine ⟨xE c ?_, ?_⟩
 ·rcases h with rfl|rfl|rfl|rfl|rfl|rfl|rfl|rfl|rfl|rfl|rfl|rfl|rfl<;>decide
 ·rw [c];rcases h with rfl|rfl|rfl|rfl|rfl|rfl|rfl|rfl|rfl|rfl|rfl|rfl|rfl<;>decide
def qgC (k:Nat):Nat:=if k=5 then 1 else if k=7 then 2 else if k=8 then 3 else 0
def yJ (L:List Tok) (t:T):Prop:=∀n i f,L.length+5<=n+i->jt L i (xK t)->Stop L (i+(xK t).length)->∃g,jj L n i f=.ok t (i+(xK t).length) g
def qiS (L:List Tok) (n:Nat) (e:M T):M (T×Nat):=bnd (xi L n e) fun p=>ya L e n p.1 (if p.2 then 1 else 0)
def ki (L:List Tok) (t:T):Prop:=∀n i f,L.length+4<=n+i->jt L i (jk t)->zP L (i+(jk t).length)->
 ∃m g,L.length+4<=m+(i+(jk t).length)/\qiS L n (jj L n) i f=ya L (jj L n) m t (qgC t.d.kind) (i+(jk t).length) g
def SOk (L:List Tok) (t:T) (b:Bool) (ks:List (Nat×Bs)):Prop:=∀n i f,L.length+4<=n+i->jt L i ks->zP L (i+ks.length)->∃g,xi L n (jj L n) i f=.ok (t,b) (i+ks.length) g
theorem ki.of {t:T} {b:Bool} (h:SOk L t b (jk t)) (c:qgC t.d.kind=if b then 1 else 0):ki L t:=fun n i f j l k=>by
 obtain ⟨g,e⟩:=h n i f j l k;exact ⟨n,g,by omega,by unfold qiS;rw [jq e,c]⟩
theorem qyT {e:M T} {m:Nat} {t:T} {c j g:Nat} (k:(tk L j).text≠[91]) (l:(tk L j).text≠[46]):ya L e (m+1) t c j g=.ok (t,c) j g:=by
 show qm L [91] _ _ j g=_;rw [vh (xE rfl (by simpa using k)),vh (xE rfl (by simpa using l))];rfl
theorem qfk {t:T} (h:ki L t) (n i f:Nat) (o:L.length+4<=n+i) (k:i<=L.length) (j:jt L i (jk t)) (v:zP L (i+(jk t).length)) (l:(tk L (i+(jk t).length)).text≠[91]) (u:(tk L (i+(jk t).length)).text≠[46]):
  ∃g,wK L n (jj L n) i f=.ok (t,qgC t.d.kind) (i+(jk t).length) g:=by
 obtain ⟨m,g,x,e⟩:=h n i f o j v;have p:=j.le k;refine ⟨g, ?_⟩;show qiS L n (jj L n) i f=_;rw [e];obtain ⟨c,rfl⟩:∃c,m=c+1:=⟨m - 1,by omega⟩;exact qyT l u
theorem qk5 {x:Nat×Bs} {i:Nat} (k:qaG x) (c:(tk L i).kind=x.1) (j:(tk L i).text=x.2):qo L i [[110,111,116]]=false/\qo L i [[41]]=false:=by
 rcases k with h|h|⟨h,g⟩
 ·exact ⟨Qy (c.trans h) (by decide) (by decide),Qy (c.trans h) (by decide) (by decide)⟩
 ·exact ⟨Qy (c.trans h) (by decide) (by decide),Qy (c.trans h) (by decide) (by decide)⟩
 ·simp only [List.contains_cons,List.contains_nil,uO,uk,ur] at g;refine ⟨xE j ?_,xE j ?_⟩
  ·rcases g with h|h|h|h|h|h|h|h|h|h|h|h|h<;>rw [h] <;>decide
  ·rcases g with h|h|h|h|h|h|h|h|h|h|h|h|h<;>rw [h] <;>decide
theorem qx6 {t:T} (h:jE t=true) (m:qf t.d.kind=true) {i:Nat} (j:jt L i (xK t)):qo L i [[41]]=false:=by
 obtain ⟨x,l,e,c⟩:=qx7 h m;rw [e] at j;obtain ⟨_,o,g⟩:=j.head (k:=x.1) (s:=x.2);rcases c with c|c
 ·exact (qk5 c o g).2
 ·rw [c] at g;exact xE g (by decide)
theorem qpG {n:Nat}:∀(ks:List T) (m i f:Nat),(∀k∈ks,yJ L k)->L.length+5<=n+i->L.length+1<=m+i->i<=L.length->jt L i ((ks.map xK).flatMap (fun l=>(4,[44])::l)++[(4,[41])])->
  ∃g,more L (jj L n) m i f=.ok ks (i+((ks.map xK).flatMap (fun l=>(4,[44])::l)).length) g
 |[],m,i,f,_,_,I,F,y=>by
  obtain ⟨E,z,t⟩:=(show jt L i [(4,[41])] by simpa using y).head;obtain ⟨o,rfl⟩:∃o,m=o+1:=⟨m - 1,by omega⟩;refine ⟨f, ?_⟩;show qm L [44] _ _ i f=_;rw [vh (xE t (by decide))];simp [ret]
 |k::ks,m,i,f,A,K,I,F,y=>by
  have p:jt L i ((4,[44])::(xK k++((ks.map xK).flatMap (fun l=>(4,[44])::l)++[(4,[41])]))):=by simpa using y
  obtain ⟨E,z,t⟩:=p.head;have j:=p.tail;have c:=j.right;obtain ⟨o,rfl⟩:∃o,m=o+1:=⟨m - 1,by omega⟩;have u:Stop L (i+1+(xK k).length):=by
   cases ks with
   |nil=>exact qa5 (show jt L _ [(4,[41])] by simpa using c).head.2.2 (by decide)
   |cons k2 ks=>exact qa5 (show jt L (i+1+(xK k).length) ((4,[44])::(xK k2++((ks.map xK).flatMap (fun l=>(4,[44])::l)++[(4,[41])]))) by simpa using c).head.2.2 (by decide)
  obtain ⟨g1,J⟩:=A k (by simp) n (i+1) f (by omega) j.left u;have v:=j.left.le (by omega);obtain ⟨B,C⟩:=qpG (n:=n) ks o (i+1+(xK k).length) g1 (fun x H=>A x (by simp [H])) (by omega) (by omega) v c;refine ⟨B, ?_⟩;show qm L [44] _ _ i f=_;rw [yN z t (.inr rfl),jq J,jq C];simp [ret];omega
theorem ql0 {n:Nat} (ks:List T) (i f:Nat) (B:∀k∈ks,jE k=true/\qf k.d.kind=true/\yJ L k) (Q:L.length+4<=n+i) (R:i<=L.length) (E:jt L i ((4,[40])::(xm (ks.map xK)++[(4,[41])]))):
  ∃g,xW L n (jj L n) i f=.ok ks (i+(xm (ks.map xK)).length+2) g:=by
 obtain ⟨S,H,I⟩:=E.head;have m:=E.tail;have P:xW L n (jj L n) i f=qm L [41] (ret []) (bnd (listed L n (jj L n)) fun xs=>sq (needs L [[41]]) (ret xs)) (i+1) f:=by
  unfold xW sq;rw [qau H I (.inr rfl)]
 rw [P];cases ks with
 |nil=>
  obtain ⟨C,z,F⟩:=(show jt L (i+1) [(4,[41])] by simpa [xm] using m).head;exact ⟨f,by rw [yN z F (.inr rfl)];simp [ret,xm]⟩
 |cons k ks=>
  rw [List.map_cons,qxG] at m⊢;have c:jt L (i+1) (xK k++((ks.map xK).flatMap (fun l=>(4,[44])::l)++[(4,[41])])):=by simpa using m
  obtain ⟨p,y,o⟩:=B k (by simp);have j:=c.right;have u:Stop L (i+1+(xK k).length):=by
   cases ks with
   |nil=>exact qa5 (show jt L _ [(4,[41])] by simpa using j).head.2.2 (by decide)
   |cons k2 ks=>exact qa5 (show jt L (i+1+(xK k).length) ((4,[44])::(xK k2++((ks.map xK).flatMap (fun l=>(4,[44])::l)++[(4,[41])]))) by simpa using j).head.2.2 (by decide)
  obtain ⟨g1,O⟩:=o n (i+1) f (by omega) c.left u;have v:=c.left.le (by omega);obtain ⟨A,K⟩:=qpG (n:=n) ks n (i+1+(xK k).length) g1 (fun x t=>(B x (by simp [t])).2.2) (by omega) (by omega) v j;obtain ⟨_,C,z⟩:=j.right.head;refine ⟨A, ?_⟩;rw [vh (qx6 p y c.left)];have J:listed L n (jj L n) (i+1) f=.ok (k::ks) (i+1+(xK k).length+((ks.map xK).flatMap (fun l=>(4,[44])::l)).length) A:=by
   unfold listed;rw [jq O,jq K];rfl
  rw [jq J];unfold sq;rw [qau C z (.inr rfl)];simp [ret];omega
end
section
variable {L:List Tok}
theorem qib {n i f:Nat} {e:M T} (c:(tk L i).kind≠3) (j:qo L i [[116,114,117,101]]=false) (g:qo L i [[102,97,108,115,101]]=false) (k:qo L i [[110,105,108]]=false):
  xi L n e i f=if qo L i [[117,112],[100,111,119,110]] then vS false (Qf L e) i f else qm L [40] (vS false (qb9 L e)) (xq L n e) i f:=by
 unfold xi;rw [if_neg c,vh j,vh g,vh k]
theorem qnE {n i f:Nat} {e:M T} (c:(tk L i).kind≠3) (j:qo L i [[116,114,117,101]]=false) (g:qo L i [[102,97,108,115,101]]=false) (k:qo L i [[110,105,108]]=false) (l:qo L i [[117,112],[100,111,119,110]]=false) (m:qo L i [[40]]=false):xi L n e i f=xq L n e i f:=by
 rw [qib c j g k,if_neg (by rw [l];decide),vh m]
theorem qeU {n i f:Nat} {e:M T} (h:(tk L i).kind=1):xi L n e i f=xq L n e i f:=
 qnE (by rw [h];decide) (Qy h (by decide) (by decide)) (Qy h (by decide) (by decide)) (Qy h (by decide) (by decide)) (Qy h (by decide) (by decide)) (Qy h (by decide) (by decide))
theorem qzW {m:Int} (g:0<=m):SOk L (.mk {kind:=1,n:=m} []) false [(3,Lib.itoa m)]:=fun n i f o k p=>by
 obtain ⟨l,j,c⟩:=k.head;refine ⟨f, ?_⟩;unfold xi;rw [if_pos j,c,qDp g];rfl
theorem qin {s:Bs} {t:T} (h:(s=[116,114,117,101]/\t=.mk {kind:=2,n:=1} [])\/(s=[102,97,108,115,101]/\t=.mk {kind:=2} [])\/(s=[110,105,108]/\t=.mk {kind:=3} [])):SOk L t false [(2,s)]:=fun n i f l j m=>by
 obtain ⟨k,g,c⟩:=j.head;refine ⟨f, ?_⟩;unfold xi;rw [if_neg (by rw [g];decide)];rcases h with ⟨rfl,rfl⟩|⟨rfl,rfl⟩|⟨rfl,rfl⟩
 ·rw [yN g c (.inl rfl)];rfl
 ·rw [vh (xE c (by decide)),yN g c (.inl rfl)];rfl
 ·rw [vh (xE c (by decide)),vh (xE c (by decide)),yN g c (.inl rfl)];rfl
theorem qCS (K:xe L) {n i f:Nat} (Q:L.length+4<=n+i) (S:i<L.length) (C:(tk L i).kind=1) (I:zP L (i+1)) (A:(tk L (i+1)).text=[91]):∃g,jF L n i f=.no g:=by
 cases o:jF L n i f with
 |oof=>exact absurd o (qhI n i f (by omega))
 |no g=>exact ⟨g,rfl⟩
 |ok s j g=>
  exfalso;unfold jF at o;cases p:xh L n i f with
  |oof=>rw [kM p] at o;cases o
  |no g=>rw [xx p] at o;cases o
  |ok V P g1=>
   rw [jq p] at o;unfold sq at o;cases y:needs L [[36]] P g1 with
   |oof=>rw [kM y] at o;cases o
   |no g=>rw [xx y] at o;cases o
   |ok u U R=>
    obtain ⟨O,x,_⟩:=qjf y;unfold xh at p;cases c:kind L n i f with
    |oof=>rw [c] at p;cases p
    |no g=>rw [c] at p;cases p
    |ok F E J=>
     rw [c] at p;simp only [Rs.andThen,Rs.ok.injEq] at p;obtain ⟨_,rfl,_⟩:=p;obtain ⟨t,rfl⟩:∃t,n=t+1:=⟨n - 1,by omega⟩;have m:∀s:Bs,qo L i [s]=false:=fun s=>Qy C (by decide) (by decide);have e:kind L (t+1) i f=sq (name L) (qm L [91] (sq (kind L t) (needs L [[93]])) (ret ())) i f:=by
      conv=>lhs;simp only [kind]
      rw [vh (m _),vh (m _),vh (m _),vh (m _),vh (m _),vh (m _),vh (m _)]
     rw [e] at c;unfold sq at c;rw [qav C rfl] at c;by_cases v:qo L (i+1) [[91]]=true
     ·unfold qm at c;rw [if_pos v] at c;have z:(sq (kind L t) (needs L [[93]])) (i+1+1) f=.ok F E J:=c;obtain ⟨l,k,b,H⟩:=qxe (qlG K t) z;have B:=qxs (j:=k) (r:=Dk L E) b;rw [<-H,qaX O] at B;exact I.br A _ _ B (by simp [vv,x])
     ·unfold qm at c;rw [if_neg v] at c;simp only [ret,Rs.ok.injEq] at c;obtain ⟨_,rfl,_⟩:=c;rw [A] at x;exact absurd x (by decide)
theorem qzS (o:xe L) {s:Bs}:SOk L (.mk {kind:=4,name:=s} []) false [(1,s)]:=fun n i f p u t=>by
 obtain ⟨m,j,l⟩:=u.head;rw [qeU j];have c:zP L (i+1):=t;show∃g,xq L n (jj L n) i f=.ok _ (i+1) g;unfold xq;rw [if_neg (by rintro ⟨_,h|h⟩;exact c.ne.2.1 h;exact c.ne.2.2 h),l];by_cases k:(tk L (i+1)).text=[91]
 ·rw [if_pos ⟨j,k⟩];obtain ⟨g,e⟩:=qCS o (f:=f) p m j c k;rw [e];exact ⟨g,rfl⟩
 ·rw [if_neg (by rintro ⟨_,h⟩;exact k h),if_pos ⟨j,c.ne.1⟩];exact ⟨f,rfl⟩
theorem qzV {s ty:Bs} (u:ty=[]\/qI ty=true) {ks:List T} (A:∀k∈ks,jE k=true/\qf k.d.kind=true/\yJ L k):SOk L (.mk {kind:=5,name:=s,typ:=ty} ks) true (xK (.mk {kind:=5,name:=s,typ:=ty} ks)):=fun n i f I m K=>by
 rw [qbQ ks _ rfl] at m⊢;rcases u with rfl|u
 ·rw [qk7] at m⊢;obtain ⟨E,j,v⟩:=m.head;have c:=m.tail;obtain ⟨_,B,t⟩:=c.head;rw [qeU j];unfold xq;rw [if_pos ⟨j,.inl t⟩];obtain ⟨g,e⟩:=ql0 (n:=n) ks (i+1) f A (by omega) (by omega) c;refine ⟨g, ?_⟩;have y:wM L n (jj L n) i f=.ok (.mk {kind:=5,name:=s} ks) (i+1+(xm (ks.map xK)).length+2) g:=by
   unfold wM;rw [qav j v,vh (xE t (by decide)),jq e];rfl
  unfold vS;rw [jq y];simp [ret];omega
 ·rw [qk6 s ty u] at m⊢;have p:jt L i ((1,s)::(4,[123])::(qJ (vg ty)++((4,[125])::((4,[40])::(xm (ks.map xK)++[(4,[41])]))))):=by simpa using m
  obtain ⟨E,j,v⟩:=p.head;have c:=p.tail;obtain ⟨J,B,t⟩:=c.head;have l:=c.tail;have o:=l.right;obtain ⟨O,C,z⟩:=o.head;have x:=o.tail;have F:=l.left.le (by omega);rw [qeU j];unfold xq;rw [if_pos ⟨j,.inr t⟩];obtain ⟨g1,H⟩:=qmK u (n:=n) l.left (by rw [z];decide) (by omega) f;obtain ⟨g,e⟩:=ql0 (n:=n) ks _ g1 A (by omega) (by omega) x;refine ⟨g, ?_⟩;have y:wM L n (jj L n) i f=.ok (.mk {kind:=5,name:=s,typ:=ty} ks) (i+1+1+(qJ (vg ty)).length+1+(xm (ks.map xK)).length+2) g:=by
   unfold wM;rw [qav j v,yN B t (.inr rfl),jq H];unfold sq;rw [qau C z (.inr rfl),jq e];rfl
  unfold vS;rw [jq y];simp [ret];omega
theorem qzU {s ty:Bs} (p:vx s=true) (E:qI ty=true) {ks:List T} (V:∀k∈ks,jE k=true/\qf k.d.kind=true/\yJ L k):SOk L (.mk {kind:=5,name:=s,vr:=ty} ks) true (xK (.mk {kind:=5,name:=s,vr:=ty} ks)):=fun n i f Y K hA=>by
 rw [qbQ ks _ rfl,qk4 s ty E] at K⊢;have c:jt L i (qJ (vg ty)++((4,[36])::(qJ (kI s)++((4,[40])::(xm (ks.map xK)++[(4,[41])]))))):=by simpa using K
 have z:=c.right;obtain ⟨Z,W,P⟩:=z.head;have B:=z.tail;have u:=B.right;obtain ⟨h9,h7,S⟩:=u.head;obtain ⟨g1,X⟩:=qmK E (n:=n) c.left (by rw [P];decide) (by omega) f;have I:jF L n i f=.ok ty (i+(qJ (vg ty)).length+1) g1:=by
  unfold jF;rw [jq X];unfold sq;rw [qau W P (.inr rfl)];rfl
 have U:=qC6 p B.left (by rw [S];decide) g1;obtain ⟨g,e⟩:=ql0 (n:=n) ks _ g1 V (by omega) (by omega) u;have R:z7 L n (jj L n) ty (i+(qJ (vg ty)).length+1) g1=.ok (.mk {kind:=5,name:=s,vr:=ty} ks) (i+(qJ (vg ty)).length+1+(qJ (kI s)).length+(xm (ks.map xK)).length+2) g:=by
  unfold z7;rw [jq U,jq e];rfl
 have J:vS true (z7 L n (jj L n) ty) (i+(qJ (vg ty)).length+1) g1=.ok (.mk {kind:=5,name:=s,vr:=ty} ks,true) (i+(qJ (vg ty)).length+1+(qJ (kI s)).length+(xm (ks.map xK)).length+2) g:=by
  unfold vS;rw [jq R];rfl
 have O:vS true (bnd (jF L n) (z7 L n (jj L n))) i f=.ok (.mk {kind:=5,name:=s,vr:=ty} ks,true) (i+(qJ (vg ty)).length+1+(qJ (kI s)).length+(xm (ks.map xK)).length+2) g:=by
  unfold vS;rw [wv,jq I];exact J
 have A:∀{r:Rs (T×Bool)},r=.ok (.mk {kind:=5,name:=s,vr:=ty} ks,true) (i+(qJ (vg ty)).length+1+(qJ (kI s)).length+(xm (ks.map xK)).length+2) g->∃g,r=.ok (.mk {kind:=5,name:=s,vr:=ty} ks,true) (i+(qJ (vg ty)++((4,[36])::qJ (kI s))++((4,[40])::(xm (ks.map xK)++[(4,[41])]))).length) g:=fun h=>by
  refine ⟨g, ?_⟩;rw [h];congr 1;simp only [kh,List.length_cons,List.length_nil];omega
 obtain ⟨x,l,ex,F⟩:=qmL E;rw [ex] at c;obtain ⟨k0,k1,k2⟩:=(show jt L i ((x.1,x.2)::(l++_)) from c).head;refine A ?_;rcases F with ⟨j,Q⟩|⟨j,v⟩
 ·rw [j] at k1;rw [qeU k1];unfold xq;have y:=c.tail;rcases Q with rfl|⟨k,r,rfl⟩
  ·obtain ⟨_,m1,t⟩:=(show jt L (i+1) ((4,[36])::_) from y).head;rw [if_neg (by rw [t];rintro ⟨_,h|h⟩<;>exact absurd h (by decide)),if_neg (by rw [t];rintro ⟨_,h⟩;exact absurd h (by decide)),if_neg (by rw [t];rintro ⟨_,h⟩;exact absurd rfl h)];exact O
  ·obtain ⟨_,m1,t⟩:=(show jt L (i+1) ((k,[91])::_) from y).head;rw [if_neg (by rw [t];rintro ⟨_,h|h⟩<;>exact absurd h (by decide)),if_pos ⟨k1,t⟩,I];exact J
 ·have H:∀s:Bs,[[116,114,117,101],[102,97,108,115,101],[110,105,108],[117,112],[100,111,119,110],[40]].contains s=true->x.2≠s:=by
   intro s p e;rw [e] at v;simp only [List.contains_cons,List.contains_nil,uO,uk,ur] at p;rcases p with rfl|rfl|rfl|rfl|rfl|rfl<;>exact absurd v (by decide)
  have o:(tk L i).kind≠1:=by rw [k1];rcases j with h|h<;>rw [h] <;>decide
  have C:(tk L i).kind≠3:=by rw [k1];rcases j with h|h<;>rw [h] <;>decide
  have m:∀s:Bs,[[116,114,117,101],[102,97,108,115,101],[110,105,108],[117,112],[100,111,119,110],[40]].contains s=true->qo L i [s]=false:=fun s p=>xE k2 (by simpa using H s p);rw [qnE C (m _ (by decide)) (m _ (by decide)) (m _ (by decide)) (xE k2 (by simpa using ⟨H [117,112] (by decide),H [100,111,119,110] (by decide)⟩)) (m _ (by decide))];unfold xq;rw [if_neg (fun h=>o h.1),if_neg (fun h=>o h.1),if_neg (fun h=>o h.1)];exact O
theorem qzT {t:T} (h:yJ L t) (o:t.d.kind=6):SOk L t false (jk t):=fun n i f v k x=>by
 have u:jk t=(4,[40])::(xK t++[(4,[41])]):=by unfold jk;rw [if_pos o]
 rw [u] at k⊢;obtain ⟨y,l,c⟩:=k.head;have j:=k.tail;obtain ⟨_,p,m⟩:=j.right.head;obtain ⟨g,e⟩:=h n (i+1) f (by omega) j.left (qa5 m (by decide));refine ⟨g, ?_⟩;rw [qib (by rw [l];decide) (xE c (by decide)) (xE c (by decide)) (xE c (by decide)),if_neg (by rw [xE c (by decide)];decide),yN l c (.inr rfl)];unfold vS qb9;rw [wv,jq e];unfold sq;rw [wv,qau p m (.inr rfl)];simp [bnd,ret,Rs.andThen];omega
theorem qnV {a:T} (h:yJ L a) {s:Bs} {k:Nat} (p:(s=[117,112]/\k=9)\/(s=[100,111,119,110]/\k=10)):SOk L (.mk {kind:=k} [a]) false ((2,s)::(4,[40])::(xK a++[(4,[41])])):=fun n i f F y H=>by
 obtain ⟨I,m,o⟩:=y.head;have j:=y.tail;obtain ⟨_,z,A⟩:=j.head;have l:=j.tail;obtain ⟨_,E,x⟩:=l.right.head;obtain ⟨g,e⟩:=h n (i+1+1) f (by omega) l.left (qa5 x (by decide));refine ⟨g, ?_⟩;have c:∀u,[[116,114,117,101],[102,97,108,115,101],[110,105,108]].contains u=true->qo L i [u]=false:=fun u v=>xE o (by
  simp only [List.contains_cons,List.contains_nil,uO,uk,ur] at v;rcases p with ⟨rfl,_⟩|⟨rfl,_⟩<;>rcases v with rfl|rfl|rfl<;>decide)
 have t:qo L i [[117,112],[100,111,119,110]]=true:=by rw [qdS m o (.inl rfl)];rcases p with ⟨rfl,_⟩|⟨rfl,_⟩<;>decide
 have C:(if qo L i [[100,111,119,110]]=true then 10 else 9)=k:=by rw [qdS m o (.inl rfl)];rcases p with ⟨rfl,rfl⟩|⟨rfl,rfl⟩<;>decide
 rw [qib (by rw [m];decide) (c _ (by decide)) (c _ (by decide)) (c _ (by decide)),if_pos t];have B:Qf L (jj L n) i f=.ok (.mk {kind:=k} [a]) (i+1+1+(xK a).length+1) g:=by
  unfold Qf sq;rw [qau z A (.inr rfl),jq e,qau E x (.inr rfl),C];rfl
 unfold vS;rw [jq B];simp [ret];omega
theorem qx5 {t:T} (m:jE t=true) (z:qf t.d.kind=true) (p:t.d.kind≠6) (y:ki L t):yJ L t:=fun n i f B o k=>by
 have c:jk t=xK t:=by unfold jk;rw [if_neg p]
 obtain ⟨x,l,ex,A⟩:=(qdI t m z).2 p;obtain ⟨C,u,v⟩:=(show jt L i ((x.1,x.2)::l) by rw [ex] at o;exact o).head;obtain ⟨j,rfl⟩:∃j,n=j+1:=⟨n - 1,by omega⟩;obtain ⟨g,e⟩:=qfk y j i f (by omega) (by omega) (by rw [c];exact o) (by rw [c];exact k.after) (by rw [c];exact k.ne.1) (by rw [c];exact k.ne.2.1);rw [c] at e;refine ⟨g, ?_⟩;show wu L (wK L j (jj L j)) i f=_;unfold wu;rw [vh (qk5 A u v).1,jq e];show (if qo L _ jU=true then _ else _)=_;rw [if_neg (by rw [k.op];decide)]
theorem qC0 {s:Bs} (h:jU.contains s=true):((Qq s).1=2\/(Qq s).1=4)/\(Qq s).2=s/\s≠[91]/\s≠[46]/\s≠[36]/\s≠[40]/\s≠[123]:=by
 refine ⟨?_,rfl, ?_⟩
 ·unfold Qq;split<;>simp
 ·simp only [jU,List.contains_cons,List.contains_nil,uO,uk,ur] at h;rcases h with rfl|rfl|rfl|rfl|rfl|rfl|rfl|rfl|rfl|rfl<;>decide
theorem qxf (hg:xe L):∀(t:T),jE t=true->qf t.d.kind=true->ki L t/\yJ L t
 | .mk d ks,h,hk=>by
  have h':=h;simp only [jE,j0] at h;obtain ⟨hr,hks⟩:=h;have F:∀k∈ks,qf k.d.kind=true->jE k=true/\ki L k/\yJ L k:=fun k v he=>
   have:=JY v
   ⟨yU hks k v,qxf hg k (yU hks k v) he⟩
  have fin:d.kind≠6->ki L (.mk d ks)->ki L (.mk d ks)/\yJ L (.mk d ks):=fun c hp=>⟨hp,qx5 h' hk c hp⟩;have Q:d.kind=6->yJ L (.mk d ks)->ki L (.mk d ks)/\yJ L (.mk d ks):=fun c hx=>⟨ki.of (b:=false) (qzT hx c) (by show qgC d.kind=_;rw [c];rfl),hx⟩;have K:d.kind≠6->jk (.mk d ks)=xK (.mk d ks):=fun c=>by
   unfold jk;rw [if_neg (show¬(T.mk d ks).d.kind=6 from c)]
  cases QM hr with
  |int n h0 h1=>exact fin (by simp) (ki.of (b:=false) (by rw [K (by simp),qho];exact qzW h0) rfl)
  |bool n h=>
   rcases h with rfl|rfl
   ·exact fin (by simp) (ki.of (b:=false) (by rw [K (by simp),qht];exact qin (.inr (.inl ⟨rfl,rfl⟩))) rfl)
   ·exact fin (by simp) (ki.of (b:=false) (by rw [K (by simp),qhs];exact qin (.inl ⟨rfl,rfl⟩)) rfl)
  |nil=>exact fin (by simp) (ki.of (b:=false) (by rw [K (by simp),qhm];exact qin (.inr (.inr ⟨rfl,rfl⟩))) rfl)
  |var s h=>exact fin (by simp) (ki.of (b:=false) (by rw [K (by simp),qhj];exact qzS hg) rfl)
  |mcall s ty S ht _ c C=>
   exact fin (by simp) (ki.of (b:=true) (by rw [K (by simp)];exact qzV ht fun k v=>⟨(F k v (C k v)).1,C k v,(F k v (C k v)).2.2⟩) rfl)
  |ocall s o S ho _ c C=>
   exact fin (by simp) (ki.of (b:=true) (by rw [K (by simp)];exact qzU S ho fun k v=>⟨(F k v (C k v)).1,C k v,(F k v (C k v)).2.2⟩) rfl)
  |neg a I=>
   obtain ⟨E,u,A⟩:=F a (by simp) I;refine Q rfl fun n i f Z z J=>?_;rw [qhn] at z J⊢;obtain ⟨h1,V,O⟩:=z.head;have p:=z.tail;obtain ⟨H,rfl⟩:∃H,n=H+1:=⟨n - 1,by omega⟩;have W:i+((2,[110,111,116])::jk a).length=i+1+(jk a).length:=by simp;omega
   rw [W] at J⊢;obtain ⟨g,e⟩:=qfk u H (i+1) f (by omega) (by omega) p J.after J.ne.1 J.ne.2.1;refine ⟨g, ?_⟩;show wu L (wK L H (jj L H)) i f=_;unfold wu;rw [yN V O (.inl rfl),jq e];rfl
  |oper s S a b I hb=>
   obtain ⟨E,u,A⟩:=F a (by simp) I;obtain ⟨hbo,hbp,aa⟩:=F b (by simp) hb;obtain ⟨o1,o2,X⟩:=qC0 S;refine Q rfl fun n i f Z z J=>?_;rw [qhl s a b S] at z J⊢;obtain ⟨⟨x,l,ex,hx⟩,_⟩:=qdI a E I;obtain ⟨h1,V,O⟩:=(show jt L i ((x.1,x.2)::(l++(Qq s::jk b))) by rw [ex] at z;exact z).head;have p:=z.right;obtain ⟨h4,h5,c⟩:=(show jt L (i+(jk a).length) (((Qq s).1,(Qq s).2)::jk b) from p).head;rw [o2] at c;have B:=p.tail;obtain ⟨H,rfl⟩:∃H,n=H+1:=⟨n - 1,by omega⟩;have W:i+(jk a++(Qq s::jk b)).length=i+(jk a).length+1+(jk b).length:=by simp;omega
   rw [W] at J⊢;obtain ⟨g1,R⟩:=qfk u H i f (by omega) (by omega) z.left ⟨by rw [c];exact ⟨X.2.2.1,X.2.2.2.1,X.2.2.2.2⟩,fun e=>absurd (c.symm.trans e) X.1⟩ (by rw [c];exact X.1) (by rw [c];exact X.2.1);obtain ⟨g,e3⟩:=qfk hbp H (i+(jk a).length+1) g1 (by omega) (by omega) B J.after J.ne.1 J.ne.2.1;refine ⟨g, ?_⟩;show wu L (wK L H (jj L H)) i f=_;unfold wu;rw [vh (qk5 hx V O).1,jq R];show (if qo L _ jU=true then _ else _)=_;rw [if_pos (by rw [qdS h5 c o1];exact S)];dsimp only;rw [jq e3,c];rfl
  |index a b I hb=>
   obtain ⟨E,u,A⟩:=F a (by simp) I;obtain ⟨hbo,hbp,aa⟩:=F b (by simp) hb;refine fin (by simp) fun n i f Z z Y=>?_;rw [K (by simp),qhp] at z Y⊢;have p:=z.right;obtain ⟨h1,V,O⟩:=p.head;have B:=p.tail;obtain ⟨h4,h5,c⟩:=B.right.head;have W:i+(jk a++((4,[91])::(xK b++[(4,[93])]))).length=i+(jk a).length+1+(xK b).length+1:=by simp;omega
   rw [W] at Y⊢;have hdk:=B.dk;rw [uB] at hdk;have hcl:=qxs (j:=4) (r:=Dk L (i+(jk a).length+1+(xK b).length+1)) (qxp b hbo hb);have hAa:zP L (i+(jk a).length):=by
    refine ⟨by rw [O];decide,fun _ y r hy=>?_⟩;have R:Dk L (i+(jk a).length+1)=xK b++((4,[93])::Dk L (i+(jk a).length+1+(xK b).length+1)):=by
     rw [hdk];simp;congr 1
    rw [R,hcl] at hy;have P:=Jp hy;by_cases hlt:i+(jk a).length+1+(xK b).length+1<L.length
    ·rw [qaX hlt] at P;have:=(List.cons.inj P).1;rw [<-this];exact Y.ne.1
    ·rw [qxW (by omega)] at P;cases P
   obtain ⟨m,g1,v,R⟩:=u n i f Z z.left hAa;obtain ⟨U,rfl⟩:∃U,m=U+1:=⟨m - 1,by omega⟩;obtain ⟨g2,e3⟩:=aa n (i+(jk a).length+1) g1 (by omega) B.left (qa5 c (by decide));refine ⟨U,g2,by omega, ?_⟩;rw [R];show qm L [91] _ _ _ g1=_;rw [yN V O (.inr rfl),jq e3];unfold sq;rw [qau h5 c (.inr rfl)];rfl
  |field s S a I=>
   obtain ⟨E,u,A⟩:=F a (by simp) I;refine fin (by simp) fun n i f Z z Y=>?_;rw [K (by simp),qhq] at z Y⊢;have p:=z.right;obtain ⟨h1,V,O⟩:=p.head;have B:=p.tail;obtain ⟨h4,h5,c⟩:=B.head;have W:i+(jk a++[(4,[46]),(1,s)]).length=i+(jk a).length+1+1:=by simp;omega
   rw [W] at Y⊢;obtain ⟨m,g1,v,R⟩:=u n i f Z z.left ⟨by rw [O];decide,fun e=>by rw [O] at e;exact absurd e (by decide)⟩;obtain ⟨U,rfl⟩:∃U,m=U+1:=⟨m - 1,by omega⟩;refine ⟨U,g1,by omega, ?_⟩;rw [R];show qm L [91] _ _ _ g1=_;rw [vh (xE O (by decide)),yN V O (.inr rfl),qav h5 c];rfl
  |up a I=>
   obtain ⟨E,u,A⟩:=F a (by simp) I;exact fin (by simp) (ki.of (b:=false) (by rw [K (by simp),qhk];exact qnV A (.inl ⟨rfl,rfl⟩)) rfl)
  |down a I=>
   obtain ⟨E,u,A⟩:=F a (by simp) I;exact fin (by simp) (ki.of (b:=false) (by rw [K (by simp),qhr];exact qnV A (.inr ⟨rfl,rfl⟩)) rfl)
  |_=>simp [T.d,qf] at hk
end
def Le {α:Type} (m m':M α):Prop:=∀i f,m i f≠ .oof->m' i f=m i f
theorem le_refl {c:Type} (m:M c):Le m m:=fun _ _ _=>rfl
def Le.trans {k:Type} {a b c:M k} (h:Le a b) (j:Le b c):Le a c:=fun i f g=>by rw [j i f (by rw [h i f g];exact g),h i f g]
def jO {t v:Type} {m o:M t} {k p:t->M v} (h:Le m o) (u:∀a,Le (k a) (p a)):Le (bnd m k) (bnd o p):=fun i f l=>by
 cases c:m i f with
 |oof=>exact absurd (kM c) l
 |no g=>rw [xx c,xx ((h i f (by rw [c];simp)).trans c)]
 |ok a j g=>
  rw [jq c] at l⊢;rw [jq ((h i f (by rw [c];simp)).trans c)];exact u a j g l
def kw {l:Type} {L:List Tok} {s:Bs} {x x' y g:M l} (j:Le x x') (k:Le y g):Le (qm L s x y) (qm L s x' g):=fun i f c=>by
 unfold qm at c⊢;split
 ·rename_i h;rw [if_pos h] at c;exact j _ _ c
 ·rename_i h;rw [if_neg h] at c;exact k _ _ c
def qpY {m:Type} {c:Nat->Prop} [∀i,Decidable (c i)] {x x' y j:M m} (k:Le x x') (l:Le y j):Le (fun i f=>if c i then x i f else y i f) (fun i f=>if c i then x' i f else j i f):=fun i f g=>by
 dsimp only at g⊢;split
 ·rename_i h;rw [if_pos h] at g;exact k _ _ g
 ·rename_i h;rw [if_neg h] at g;exact l _ _ g
def qfI {g:Type} {m:M g}:Le oof m:=fun i f c=>absurd rfl c
section
variable {L:List Tok}
theorem qpW {g:Type} {m c:M g} (h:Le m c):∀n,Le (more L m n) (more L c (n+1))
 |0=>qfI
 |n+1=>kw (jO h fun _=>jO (qpW h n) fun _=>le_refl _) (le_refl _)
theorem qjp {g:Type} {m c:M g} (h:Le m c) (n:Nat):Le (listed L n m) (listed L (n+1) c):=jO h fun _=>jO (qpW h n) fun _=>le_refl _
theorem qjr {g:Type} {m c:M g} (h:Le m c) (n:Nat):Le (xW L n m) (xW L (n+1) c):=jO (le_refl _) fun _=>kw (le_refl _) (jO (qjp h n) fun _=>le_refl _)
theorem qjq:∀n,Le (kind L n) (kind L (n+1))
 |0=>qfI
 |n+1=>by
  have c:=qjq n;have part:Le (zi L (kind L n)) (zi L (kind L (n+1))):=jO (le_refl _) fun _=>jO (le_refl _) fun _=>jO c fun _=>le_refl _;exact kw (le_refl _) (kw (le_refl _) (kw (le_refl _) (kw (jO (le_refl _) fun _=>jO c fun _=>le_refl _) (kw (jO (le_refl _) fun _=>jO (qjp part n) fun _=>le_refl _) (kw (jO (le_refl _) fun _=>jO (qjp part n) fun _=>le_refl _) (kw (le_refl _) (jO (le_refl _) fun _=>kw (jO c fun _=>le_refl _) (le_refl _))))))))
theorem qpU (n:Nat):Le (xh L n) (xh L (n+1)):=fun i f k=>by
 unfold xh at k⊢;cases c:kind L n i f with
 |oof=>rw [c] at k;exact absurd rfl k
 |no g=>rw [qjq n i f (by rw [c];simp),c]
 |ok a j g=>rw [qjq n i f (by rw [c];simp),c]
theorem qjo (n:Nat):Le (jF L n) (jF L (n+1)):=jO (qpU n) fun _=>le_refl _
theorem qdO {g:Type} {b:Bool} {m c:M g} (j:Le m c):Le (vS b m) (vS b c):=jO j fun _=>le_refl _
section
variable {e e':M T} (h:Le e e') (n:Nat)
include h
theorem qD2:Le (wM L n e) (wM L (n+1) e'):=jO (le_refl _) fun _=>kw (jO (qpU n) fun _=>jO (le_refl _) fun _=>jO (qjr h n) fun _=>le_refl _) (jO (qjr h n) fun _=>le_refl _)
theorem qpV (o:Bs):Le (z7 L n e o) (z7 L (n+1) e' o):=jO (le_refl _) fun _=>jO (qjr h n) fun _=>le_refl _
theorem qD0:Le (bnd (jF L n) (z7 L n e)) (bnd (jF L (n+1)) (z7 L (n+1) e')):=jO (qjo n) fun o=>qpV h n o
theorem qD1:Le (xq L n e) (xq L (n+1) e'):=fun i f k=>by
 unfold xq at k⊢;split
 ·rename_i c;rw [if_pos c] at k;exact qdO (qD2 h n) _ _ k
 ·rename_i c;rw [if_neg c] at k;split
  ·rename_i c2;rw [if_pos c2] at k;cases l:jF L n i f with
   |oof=>rw [l] at k;exact absurd rfl k
   |no g=>rw [qjo n i f (by rw [l];simp),l]
   |ok s j g=>
    rw [l] at k;rw [qjo n i f (by rw [l];simp),l];exact qdO (qpV h n s) _ _ k
  ·rename_i c2;rw [if_neg c2] at k;split
   ·rfl
   ·rename_i c3;rw [if_neg c3] at k;exact qdO (qD0 h n) _ _ k
theorem qDW:Le (Qf L e) (Qf L e'):=fun i f c=>jO (le_refl (needs L [[40]])) (fun _=>jO h fun _=>le_refl _) _ _ c
theorem qDZ:Le (qb9 L e) (qb9 L e'):=jO h fun _=>le_refl _
theorem qDX:Le (xi L n e) (xi L (n+1) e'):=fun i f g=>by
 unfold xi at g⊢;split
 ·rfl
 ·rename_i c;rw [if_neg c] at g;refine kw (le_refl _) (kw (le_refl _) (kw (le_refl _) ?_)) i f g;exact qpY (c:=fun i=>qo L i [[117,112],[100,111,119,110]]=true) (qdO (qDW h)) (kw (qdO (qDZ h)) (qD1 h n))
theorem qjn:∀n t c,Le (ya L e n t c) (ya L e' (n+1) t c)
 |0,_,_=>qfI
 |n+1,t,c=>kw (jO h fun k=>jO (le_refl _) fun _=>qjn n _ _) (kw (jO (le_refl _) fun s=>qjn n _ _) (le_refl _))
theorem qDY:Le (wK L n e) (wK L (n+1) e'):=jO (qDX h n) fun p=>qjn h n _ _
end
theorem qD3 {p g:M (T×Nat)} (h:Le p g):Le (wu L p) (wu L g):=kw (jO h fun _=>le_refl _) (jO h fun x=>qpY (c:=fun i=>qo L i jU=true) (fun i f j=>jO h (fun _=>le_refl _) _ _ j) (le_refl _))
theorem qpZ:∀n,Le (jj L n) (jj L (n+1))
 |0=>qfI
 |n+1=>qD3 (qDY (qpZ n) n)
theorem qpX {c:Type} {m:Nat->M c} (h:∀n,Le (m n) (m (n+1))) (n:Nat):∀k,Le (m n) (m (n+k))
 |0=>le_refl _
 |k+1=>(qpX h n k).trans (h (n+k))
end
def qyO {L:List Tok} {ks:List (Nat×Bs)} (h:L.map vv=ks):jt L 0 ks:=fun m g=>by
 subst h;have c:m<L.length:=by simpa using g
 refine ⟨by omega, ?_, ?_⟩
 ·rw [ut,kR c];simp [vv]
 ·rw [ut,kR c];simp [vv]
def qzt {L:List Tok} {j:Nat} (h:L.length<=j):Stop L j:=by
 have:tk L j=⟨0,[],0⟩:=wZ h;refine ⟨?_,by rw [this];decide⟩;unfold qo;rw [this];rfl
def qIW {t:T} (j:jE t=true) (l:qf t.d.kind=true) {L:List Tok} (m:xe L) (k:L.map vv=xK t):∃g,jj L (L.length+3) 0 0=.ok t L.length g:=by
 have c:(xK t).length=L.length:=by rw [<-k,uh]
 obtain ⟨g,e⟩:=(qxf m t j l).2 (L.length+3+2) 0 0 (by omega) (qyO k) (qzt (by omega));refine ⟨g, ?_⟩;rw [qpX qpZ (L.length+3) 2 0 0 (qlg (j1 _) 0)] at e;rw [e,c,ut]
def qBY {t:T} (c:jE t=true) (k:qf t.d.kind=true) (u:t.size<=400) (z:(xt t).length<=20000):xQ (xt t)=(t.flat 0,0,0):=by
 obtain ⟨o,x⟩:=qmr t c k;obtain ⟨ts,l,v⟩:=qzN o.okAw.1 1;rw [x] at l;have j:qp (xt t)=.ok ts []:=by
  unfold qp;rw [if_neg (by omega)];exact l
 have p:=Q7 j;obtain ⟨g,e⟩:=qIW c k p v;have y:x9 ts=.ok t ts.length g:=by
  unfold x9;rw [jq e];unfold bnd fin;rw [if_neg (by omega)];rfl
 have m:whole (t.flat 0) qf=true:=(qes _ _).2 ⟨t,rfl,u,k,c⟩;unfold xQ;rw [j];dsimp only;rw [y];dsimp only;rw [if_pos m]
def qbO (x:Nd):Prop:=x.d.name.length<=40/\x.d.vr.length<=110/\x.d.typ.length<=110
def qqo:∀(ss:List Bs) (n:Nat),(∀s∈ss,True)->(jl [44,32] ss).length<=(ss.map (·.length)).sum+2*ss.length
 |[],_,_=>by simp [jl]
 |[x],_,_=>by simp [jl]
 |x::y::ys,n,_=>by
  have:=qqo (y::ys) n (fun _ _=>trivial);simp [jl] at this⊢;omega
def qKq:∀(t:T) (b c:Nat),(∀x∈t.flat b,qbO x)->∀x∈t.flat c,qbO x:=by
 intro t b c h x l;have e:(t.flat b).map (·.d)=(t.flat c).map (·.d):=by
  have g:(t.flat b).map (·.d)=(t.flat 0).map (·.d):=by
   have:=qk9 t 0 b;rw [ut] at this;rw [<-this];simp [JC,Function.comp_def,shN]
  have k:(t.flat c).map (·.d)=(t.flat 0).map (·.d):=by
   have:=qk9 t 0 c;rw [ut] at this;rw [<-this];simp [JC,Function.comp_def,shN]
  rw [g,k]
 have:x.d∈(t.flat b).map (·.d):=by rw [e];exact Vi l
 obtain ⟨y,m,j⟩:=un.1 this;have:=h y m;unfold qbO at this⊢;rw [<-j];exact this
def qmo:∀(t:T),jE t=true->(∀x∈t.flat 0,qbO x)->(xt t).length<=400*t.size
 | .mk d ks,h,m=>by
  simp only [jE,j0] at h;obtain ⟨R,B⟩:=h;have W:qbO ⟨d,qt 0 ks⟩:=m _ (by simp [T.flat]);obtain ⟨I,V,Y⟩:=W;dsimp only at I V Y;have u:∀k∈ks,(xt k).length<=400*k.size:=fun k v=>
   have:=JY v
   qmo k (yU B k v) (by
    obtain ⟨P,post,rfl⟩:=List.append_of_mem v;have:∀x∈k.flat (0+sizes P),qbO x:=fun x z=>m x (by
     simp only [T.flat,uC];left;rw [qd4];simp only [flats,uC];exact .inr (.inl z))
    exact qKq k _ 0 this)
  have A:∀k∈ks,qf k.d.kind=true->(xt k).length<=400*k.size:=fun k v _=>u k v;by_cases H:qf d.kind=true
  case neg=>
   have K:d.kind≠1/\d.kind≠2/\d.kind≠3/\d.kind≠4/\d.kind≠5/\d.kind≠6/\d.kind≠7/\d.kind≠8/\d.kind≠9:=by
    refine ⟨?_, ?_, ?_, ?_, ?_, ?_, ?_, ?_, ?_⟩<;>(intro e;rw [e] at H;exact H (by decide))
   obtain ⟨U,n2,n3,n4,n5,S,n7,n8,n9⟩:=K;have e:xt (.mk d ks)=[100,111,119,110,40]++(yE (xts ks) 0++[41]):=by simp [xt,zU,U,n2,n3,n4,n5,S,n7,n8,n9]
   rw [e];have:(yE (xts ks) 0).length<=400*sizes ks:=by
    cases ks with
    |nil=>simp [yE,xts]
    |cons k ks=>
     have:=u k (by simp);simp [yE,xts,sizes];omega
   simp [T.size];omega
  have y:∀k∈ks,qf k.d.kind=true->(ot k).length<=400*k.size+2:=fun k v C=>by
   have:=A k v C;unfold ot x8;split
   ·simp;omega
   ·omega
  have c:(∀k∈ks,qf k.d.kind=true)->ks.length<=6->(xt (.mk d ks)).length<=(zF d).length+2+2*ks.length+400*sizes ks->(xt (.mk d ks)).length<=400*(T.mk d ks).size:=fun C F z=>by
   have hc:(zF d).length<=300:=by
    unfold zF;split
    ·simp;omega
    ·split
     ·simp;omega
     ·omega
   simp only [T.size];omega
  have l:(∀k∈ks,qf k.d.kind=true)->(jl [44,32] (xts ks)).length<=400*sizes ks+2*ks.length:=fun C=>by
   have p:=qqo (xts ks) 0 (fun _ _=>trivial);have Q:((xts ks).map (·.length)).sum<=400*sizes ks:=by
    clear c m R y p H B u
    induction ks with
    |nil=>simp [xts,sizes]
    |cons k ks O=>
     have X:=O (fun x z=>A x (by simp [z])) (fun x z=>C x (by simp [z]));have h4:=A k (by simp) (C k (by simp));simp [xts,sizes];omega
   have X:(xts ks).length=ks.length:=by rw [Jk];simp
   omega
  cases QM R with
  |int n h0 p=>
   have e:Lib.itoa n=Lib.decDigits n.toNat:=by rw [Lib.itoa,if_neg (by omega)]
   have:xt (.mk {kind:=1,n:=n} [])=Lib.itoa n:=by simp [xt,zU]
   rw [this,e,Lib.decDigits_length];have:=Lib.nDigits_le20 n.toNat (by omega);simp only [T.size,sizes];omega
  |bool n h=>
   rcases h with rfl|rfl
   ·have:xt (.mk {kind:=2} [])=[102,97,108,115,101]:=by simp [xt,zU]
    rw [this];simp only [T.size,sizes];decide
   ·have:xt (.mk {kind:=2,n:=1} [])=[116,114,117,101]:=by simp [xt,zU]
    rw [this];simp only [T.size,sizes];decide
  |nil=>
   have:xt (.mk {kind:=3} [])=[110,105,108]:=by simp [xt,zU]
   rw [this];simp only [T.size,sizes];decide
  |var s h=>
   have:xt (.mk {kind:=4,name:=s} [])=s:=by simp [xt,zU]
   rw [this];simp only [T.size,sizes];have E:s.length<=40:=I;omega
  |mcall s ty Z ht _ F j=>
   refine c j F ?_;have:=l j;have e:xt (.mk {kind:=5,name:=s,typ:=ty} ks)=zF {kind:=5,name:=s,typ:=ty}++([40]++(jl [44,32] (xts ks)++[41])):=by simp [xt,zU]
   rw [e];simp only [kh,List.length_cons,List.length_nil];omega
  |ocall s o Z ho _ F j=>
   refine c j F ?_;have:=l j;have e:xt (.mk {kind:=5,name:=s,vr:=o} ks)=zF {kind:=5,name:=s,vr:=o}++([40]++(jl [44,32] (xts ks)++[41])):=by simp [xt,zU]
   rw [e];simp only [kh,List.length_cons,List.length_nil];omega
  |neg a g=>
   have:=y a (by simp) g;have e:xt (.mk {kind:=6,name:=[110,111,116]} [a])=[110,111,116,32]++ot a:=rfl;rw [e];simp [T.size,sizes];omega
  |oper s h a b g J=>
   have p:=y a (by simp) g;have Q:=y b (by simp) J;have e:xt (.mk {kind:=6,name:=s} [a,b])=ot a++([32]++(s++([32]++ot b))):=rfl;have E:s.length<=40:=I;rw [e];simp [T.size,sizes];omega
  |index a b g J=>
   have p:=y a (by simp) g;have Q:=A b (by simp) J;have e:xt (.mk {kind:=7} [a,b])=ot a++([91]++(xt b++[93])):=rfl;rw [e];simp [T.size,sizes];omega
  |field s h a g=>
   have p:=y a (by simp) g;have e:xt (.mk {kind:=8,name:=s} [a])=ot a++([46]++s):=rfl;have E:s.length<=40:=I;rw [e];simp [T.size,sizes];omega
  |up a g=>
   have p:=A a (by simp) g;have e:xt (.mk {kind:=9} [a])=[117,112,40]++(xt a++[41]):=rfl;rw [e];simp [T.size,sizes];omega
  |down a g=>
   have p:=A a (by simp) g;have e:xt (.mk {kind:=10} [a])=[100,111,119,110,40]++(xt a++[41]):=rfl;rw [e];simp [T.size,sizes];omega
  |_=>simp [T.d,qf] at H
end Go.L02
namespace Go.L02
open Go Go.Eng Go.RowKit
open Go.Proofs hiding encI
open Go.L01 (Bs Tok jh qi)
set_option maxRecDepth 100000
set_option maxHeartbeats 2000000
@[simp] theorem qNJ:qh Tryz.prog 20=true:=by kernel_rfl
section
variable {w:World} {av bv:Value} {xs ys:List NV}
theorem qpM {xs:List NV} {j:Nat} (h:j<xs.length):(xs.map (·.nd))[j]? =some xs[j].nd:=by simp [h]
theorem qB3 (hA:Rd w av xs) (hB:Rd w bv ys) (hlen:xs.length<4611686018427387904) (hlb:ys.length<4611686018427387904) (hk:∀x∈xs,x.nd.kids.length<4611686018427387904) (hkb:∀x∈ys,x.nd.kids.length<4611686018427387904):
  Calls Tryz.prog 20 #[av,bv] w fun e w'=>e=.returned (.bool (decide (xs.map (·.nd)=ys.map (·.nd))))/\qc w w':=by
 have E:=hA.len;have t:=hB.len;have O:=hA.cells.is;have aa:=hB.cells.is;generalize Z:(fun (e:Ending) (w':World)=>e=.returned (.bool (decide (xs.map (·.nd)=ys.map (·.nd))))/\qc w w')=R;refine qG2 fun ρ r0 r1=>?_;by_cases z:xs.length=ys.length
 ·simp -implicitDefEqProofs [qkv,r0,r1,O,aa,E,t,z,qtZ];obtain ⟨I,hI⟩:∃I:Nat->qa->World->Prop,∀j g w',I j g w'↔(g 0=av/\g 1=bv/\qc w w'/\(xs.take j).map (·.nd)=(ys.take j).map (·.nd)):=⟨_,fun _ _ _=>Iff.rfl⟩;refine vD 5 ys.length I (by simp) ((hI _ _ _).2 ⟨by simp [r0],by simp [r1],qO _,by simp⟩) ?_;clear r0 r1;rintro j g w' hj rj hIw;obtain ⟨r0,r1,hE,ab⟩:=(hI _ _ _).1 hIw;have hwj:IntKind.i64.wrap ((j:Int)+1)=(j:Int)+1:=qH (by omega);by_cases k:j<ys.length
  ·have m:(j:Int)<(ys.length:Int):=by omega
   have p:j<xs.length:=by omega
   have hA':=hA.ext hE;have hB':=hB.ext hE;have hra:=hA'.row p;have V:=fun (W:World) (hW:qc w' W)=>(hB'.ext hW).row k;have Q:=hA.kids xs[j] (wz _);have kB:=hB.kids ys[j] (wz _);have lA:=hk xs[j] (wz _);have lB:=hkb ys[j] (wz _);have htx:xs.take (j+1)=xs.take j++[xs[j]]:=uG p;have hty:ys.take (j+1)=ys.take j++[ys[j]]:=uG k;have hno:xs[j].nd≠ys[j].nd->¬xs.map (·.nd)=ys.map (·.nd):=fun h e=>h (by
    have o:=qpM p;rw [e,qpM k] at o;exact (Jp o).symm)
   generalize xs[j]=x at hra Q lA htx hno;generalize ys[j]=y at V kB lB hty hno;have F:=vN Q.is;have hoa:=xS Q.is;have P:=vN kB.is;have hob:=xS kB.is;have hka:ql x.kv=x.nd.kids.length:=by simpa using Q.len.symm
   have U:ql y.kv=y.nd.kids.length:=by simpa using kB.len.symm
   simp -implicitDefEqProofs [qkq,rj,r0,O,E,z,m,k,qt1,hra];refine qX qbP fun X w3 hX hE3 hb3 _=>?_;simp -implicitDefEqProofs;refine jx (B:=X) (by simp) hb3 (by simp [Value.cells,qk,F]) (by simp [Value.cells,qk,F,hoa]) (by simpa [Value.cells,qk,F] using qbW) fun w4 hO4 hb4=>?_;have hE4:qc w' w4:=hO4.ext hE3 hX;have hb4':Blk w4 X (qk x).toArray 44:=by simpa [Value.cells,qk,F] using hb4
   have hrb4:=V w4 hE4;simp -implicitDefEqProofs [rj,r1,aa,t,m,k,hrb4];refine qX qbP fun Y w5 hY hE5 hb5 _=>?_;simp -implicitDefEqProofs;refine jx (B:=Y) (by simp) hb5 (by simp [Value.cells,qk,P]) (by simp [Value.cells,qk,P,hob]) (by simpa [Value.cells,qk,P] using qbW) fun w6 hO6 hb6=>?_;have hb6':Blk w6 Y (qk y).toArray 44:=by simpa [Value.cells,qk,P] using hb6
   have hE6:qc w4 w6:=hO6.ext hE5 hY;have c:qc w w6:=hE.trans' (hE4.trans' hE6);have hbX:=hb4'.ext hE6;have cX:∀q,w6.cell? ⟨X,q,none⟩=(qk x)[q]? :=fun q=>by rw [hbX.cell];simp
   have cY:∀q,w6.cell? ⟨Y,q,none⟩=(qk y)[q]? :=fun q=>by rw [hb6'.cell];simp
   have Qj:∀(W:World),qc w W->x.nd≠y.nd->R (.returned (.bool false)) W:=fun W hW h=>by
    rw [<-Z];exact ⟨by rw [decide_eq_false (hno h)],hW⟩
   simp -implicitDefEqProofs [-qms, -qep,wa2,we2,cX,cY,qk,Q.is,kB.is,hka,U,jC];rcases JA (x.nd.d.kind=y.nd.d.kind) with o|o
   rotate_left
   ·simp -implicitDefEqProofs [o];exact Qj _ c fun e=>o (by rw [e])
   rcases JA (x.nd.d.name=y.nd.d.name) with A|A
   rotate_left
   ·simp -implicitDefEqProofs [o,A];exact Qj _ c fun e=>A (by rw [e])
   rcases JA (x.nd.d.vr=y.nd.d.vr) with H|H
   rotate_left
   ·simp -implicitDefEqProofs [o,A,H];exact Qj _ c fun e=>H (by rw [e])
   rcases JA (x.nd.d.typ=y.nd.d.typ) with S|S
   rotate_left
   ·simp -implicitDefEqProofs [o,A,H,S];exact Qj _ c fun e=>S (by rw [e])
   rcases JA (x.nd.d.n=y.nd.d.n) with h5|h5
   rotate_left
   ·simp -implicitDefEqProofs [o,A,H,S,h5];exact Qj _ c fun e=>h5 (by rw [e])
   rcases JA (x.nd.kids.length=y.nd.kids.length) with h6|h6
   rotate_left
   ·simp -implicitDefEqProofs [o,A,H,S,h5,h6];exact Qj _ c fun e=>h6 (by rw [e])
   have h6':(x.nd.kids.length:Int)=(y.nd.kids.length:Int):=by omega
   simp -implicitDefEqProofs [o,A,H,S,h5,h6,qt3];clear V hra;obtain ⟨J,hJ⟩:∃J:Nat->qa->World->Prop,∀q g w',J q g w'↔(g 0=av/\g 1=bv/\g 5=.int .i64 (j:Int)/\g 6=.pointer (some ⟨X,0,none⟩)/\g 7=.pointer (some ⟨Y,0,none⟩)/\qc w6 w'/\x.nd.kids.take q=y.nd.kids.take q):=⟨_,fun _ _ _=>Iff.rfl⟩;refine vD 8 y.nd.kids.length J (by simp) ((hJ _ _ _).2 ⟨by simp [r0],by simp [r1],by simp [rj],by simp,by simp,qO _,by simp⟩) ?_;rintro q ρ2 w7 hq rq hJw;obtain ⟨s0,s1,s5,s6,s7,C,u⟩:=(hJ _ _ _).1 hJw;have hwq:IntKind.i64.wrap ((q:Int)+1)=(q:Int)+1:=qH (by omega);have l:=c.trans' C;have d5:w7.cell? ⟨X,5,none⟩=some x.kv:=C.cell (by rw [cX];rfl);have e5:w7.cell? ⟨Y,5,none⟩=some y.kv:=C.cell (by rw [cY];rfl);by_cases K:q<y.nd.kids.length
   ·have v:(q:Int)<(y.nd.kids.length:Int):=by omega
    have hqx:q<x.nd.kids.length:=by omega
    have ca:=(Q.ext l).cell q (by simpa using hqx);have cb:=(kB.ext l).cell q (by simpa using K);simp only [u6,encI] at ca cb;simp -implicitDefEqProofs [qkr,rq,s6,d5,Q.is,hka,h6,v,K,qt4,s7,e5,kB.is,U,ca,cb];intro w8 hE8;by_cases he:x.nd.kids[q]=y.nd.kids[q]
    ·simp -implicitDefEqProofs [he,qks,qt5,rq,hwq];refine (hJ _ _ _).2 ⟨by simp [s0],by simp [s1],by simp [s5],by simp [s6],by simp [s7],C.trans' hE8, ?_⟩;rw [uG hqx,uG K,u,he]
    ·simp -implicitDefEqProofs [he,qks];exact Qj _ (l.trans' hE8) fun e=>he (by simp [e])
   ·have v:¬(q:Int)<(y.nd.kids.length:Int):=by omega
    rw [ul (by omega),ul (by omega)] at u;simp -implicitDefEqProofs [qkr,rq,s6,d5,Q.is,hka,h6,v,K,qt2,s5,hwj,k];refine (hI _ _ _).2 ⟨by simp [s0],by simp [s1],l, ?_⟩;rw [htx,hty,uP,uP,ab];have:x.nd=y.nd:=by
     have hd:x.nd.d=y.nd.d:=by
      cases hx:x.nd.d;cases hy:y.nd.d;simp only [hx,hy] at o A H S h5;subst o A H S h5;rfl
     cases hx:x.nd;cases hy:y.nd;rw [hx,hy] at hd u;simp only at hd u;rw [hd,u]
    simp [this]
  ·have m:¬(j:Int)<(ys.length:Int):=by omega
   rw [ul (by omega),ul (by omega)] at ab;simp -implicitDefEqProofs [qkq,rj,r0,O,E,z,m,k,qt0];rw [<-Z];exact ⟨by rw [Vo ab],hE⟩
 ·simp -implicitDefEqProofs [qkv,r0,r1,O,aa,E,t,z];rw [<-Z];refine ⟨?_,qO _⟩;rw [decide_eq_false];intro e;exact z (by have:=congrArg List.length e;simpa using this)
end
@[simp] theorem qNo:qh Tryz.prog 29=true:=by kernel_rfl
section
variable {w:World} {lv:Value} {xs:List NV}
theorem qIR {l:List Nd} (h:yH l=true):∀x∈l,qbO x:=fun x c=>by
 have:=qwh h x c;simp only [yi,j0,kr] at this;exact ⟨this.1.1.1,this.1.1.2,this.1.2⟩
theorem qD4 (hG:L01.G w) (hM:kF w) (X:Rd w lv xs) (p:xs.length<4611686018427387904) (hk8:∀x∈xs,x.nd.d.kind<256) (Q:∀x∈xs,x.nd.kids.length<4611686018427387904):Calls Tryz.prog 5 #[lv] w (okR w):=by
 generalize hRR:okR w=R;have rd:∀{W:World},qc w W->Calls Tryz.prog 14 #[] W fun e w'=>e=.returned (.bool true)/\qc W w':=fun {W} Y=>(qx4 (hG.ext Y) (hM.ext Y)).mono fun e w' h=>⟨h.1,h.2⟩;have fin:∀W,qc w W->R (.returned (.bool true)) W:=fun W Y=>by rw [<-hRR];exact ⟨rfl,Y⟩
 refine qE7 fun ρ r0=>?_;simp -implicitDefEqProofs [ir5,r0];refine (qCs X p Q).mono ?_;rintro _ w1 ⟨rfl,j⟩;cases hf:yH (xs.map (·.nd)) with
 |false=>
  simp -implicitDefEqProofs;refine (rd j).mono ?_;rintro _ w2 ⟨rfl,E⟩;simp -implicitDefEqProofs;exact fin _ (j.trans' E)
 |true=>
 have A:Qd (xs.map (·.nd)):=qIQ hf fun x hx=>by obtain ⟨y,hy,rfl⟩:=un.1 hx;exact hk8 y hy
 have J:=qwg hf;rw [uh] at J;have hbr:=qIR hf;have V:∀t:T,xs.map (·.nd)=t.flat 0->t.size<=400->jE t=true->(xt t).length<=10000000000000:=fun t Z H hok=>by
  have:=qmo t hok (by rw [<-Z];exact hbr);omega
 simp -implicitDefEqProofs [qrF,r0];refine (qCB (hG.ext j) (hM.ext j) (X.ext j) A V).mono ?_;rintro _ w2 ⟨rfl,E⟩;have u:=j.trans' E;simp -implicitDefEqProofs [r0];refine (qBE (X.ext u) A V (by omega)).mono ?_;rintro _ w3 ⟨rfl,hE3⟩;have c:=u.trans' hE3;obtain ⟨s,H⟩:∃s,s=(x7 (xs.map (·.nd))).1:=⟨_,rfl⟩;obtain ⟨e,I⟩:∃e,e=(x7 (xs.map (·.nd))).2:=⟨_,rfl⟩;rw [<-H,<-I];have hsn:qY .neq (qb s) (qb s)=some (.bool false):=by simp [qY]
 simp -implicitDefEqProofs [-qY,hsn];cases hw:whole (xs.map (·.nd)) qf with
 |false=>
  have P:e=21:=by rw [I];simp [x7,hw]
  simp -implicitDefEqProofs [qf4,P];refine (rd c).mono ?_;rintro _ w4 ⟨rfl,k⟩;simp -implicitDefEqProofs;exact fin _ (c.trans' k)
 |true=>
 obtain ⟨t,Z,hsz,hk,O⟩:=(qes _ _).1 hw;have hp:x7 (xs.map (·.nd))=(xt t,0):=by unfold x7;rw [if_pos hw,Z,qhE]
 rw [hp] at H I;dsimp only at H I;by_cases hlong:20000<s.length
 ·have g:(20000:Int)<(s.length:Int):=by omega
  simp -implicitDefEqProofs [qf4,I,g];refine (rd c).mono ?_;rintro _ w4 ⟨rfl,k⟩;simp -implicitDefEqProofs;exact fin _ (c.trans' k)
 ·have g:¬(20000:Int)<(s.length:Int):=by omega
  have hpe:xQ s=(t.flat 0,0,0):=by rw [H];exact qBY O hk hsz (by rw [<-H];omega)
  simp -implicitDefEqProofs [qf4,I,g,qrG];refine (qCD (hG.ext c) (hM.ext c) s (by omega)).mono ?_;rintro _ w4 ⟨v,rfl,hv,k⟩;rw [hpe] at hv⊢;obtain ⟨ys,l,hRy⟩:=hv;dsimp only at l;have S:=c.trans' k;simp -implicitDefEqProofs [qgD];refine qX z26 fun B w5 hB hE5 hb5 _=>?_;simp -implicitDefEqProofs;refine jx (B:=B) (by simp) hb5 (by simp [Value.cells]) (by simp [Value.cells]) (by simpa [Value.cells] using qbX) fun w6 hO6 U=>?_;simp -implicitDefEqProofs [Value.cells] at U;have z:qc w4 w6:=hO6.ext hE5 hB;have m:=S.trans' z;simp -implicitDefEqProofs;refine (rd m).mono ?_;rintro _ w7 ⟨rfl,C⟩;have o:=m.trans' C;have K:Eng.jG w7 ⟨B,0,none⟩ 0 2=some [.int .i64 0,.int .i64 0]:=yD (U.ext C);simp -implicitDefEqProofs [K,qxd];refine qwr (xs:=#[.int .i64 0,.int .i64 0]) (ys:=#[.int .i64 0,.int .i64 0]) (by simp) (by simp) g26 (qwn 0 0 0 0 _) ?_;have hyl:ys.length=t.size:=by have:=congrArg List.length l;rwa [uh,T.flat_len] at this
  simp -implicitDefEqProofs [r0];refine (qB3 ((hRy.ext z).ext C) (X.ext o) (by omega) p (fun y hy=>?_) Q).mono ?_
  ·have h1:=qjt t 0 y.nd (by rw [<-l];exact Vi hy);omega
  rintro _ w8 ⟨rfl,hE8⟩;have F:decide (ys.map (·.nd)=xs.map (·.nd))=true:=by rw [l,Z];simp
  rw [F];simp -implicitDefEqProofs;exact fin _ (o.trans' hE8)
end
end Go.L02
