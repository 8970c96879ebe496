/- Lemmas for a claim about layer 2 (tree). No conditions but those they state. -/
import Derived.Test.YtbcmiempigoooaaGreatDoorNas
import Derived.Laws.Runes
set_option linter.all false
namespace Go.L02
open Go Go.Eng Go.RowKit
open Go.Proofs hiding encI
open Go.L01 (Bd Bs Tok qM qe vt)
set_option maxRecDepth 100000
set_option maxHeartbeats 4000000
def Kp (b:Nat) (w w':World):Prop:=∀k cs T,T≠5→k≠b→Blk w k cs T→Blk w' k cs T
section
variable {P:Program} {Q:Ks} {d:Option Nat} {ty:TypeId} {K:qa→World→Prop} {ρ:qa} {w:World}
end
section
variable {w:World} {lv:Value} {xs:List NV}
end
section
variable {P:Program} {Q:Ks} {d:Option Nat} {ty:TypeId} {K:qa→World→Prop} {ρ:qa} {w:World}
end
theorem qzf {b B:Nat} {w W:World} {v:Value} {ks:List Int} {q:Nat} {z:Int} {cur:Array Value} (h:Own b 3 1 w v (ks.map encI)) (u:Only B w W) (x:w.heap[B]? =some (.cells cur 3 (0,0))) (t:W.heap[B]? =some (.cells (cur.setIfInBounds q (encI z)) 3 (0,0))):
  ∃e:List Int,e.length=ks.length∧Own b 3 1 W v (e.map encI):=by
 rcases h with ⟨rfl,A⟩|⟨g,off,n,cap,i,rfl,p,o,s,c,l,a,m⟩
 ·have:ks=[]:=by simpa using A
  exact ⟨[],by rw [this], .inl ⟨rfl,rfl⟩⟩
 ·by_cases j:g=B
  ·subst j;rw [x] at o;cases o;have k:ks.length=n:=by simpa using s
   by_cases y:q<off
   ·refine ⟨ks,rfl, .inr ⟨g,off,n,cap,_,rfl,p,t,s,c,l,by simpa using a, ?_⟩⟩;rw [Array.toList_setIfInBounds,List.drop_set_of_lt y];exact m
   ·refine ⟨ks.set (q - off) z,by simp, .inr ⟨g,off,n,cap,_,rfl,p,t,by simpa using k,c,l,by simpa using a, ?_⟩⟩;rw [Array.toList_setIfInBounds,show q=off+(q - off) by omega,←List.set_drop,List.take_set,m,List.map_set];congr 1;omega
  ·exact ⟨ks,rfl, .inr ⟨g,off,n,cap,i,rfl,p,(u.block g j).trans o,s,c,l,a,m⟩⟩
def qcA (base:Nat) (W:World) (v:Value) (N:Nat) (kvs:List Value):Prop:=∃zs:List NV,OwnN base W v zs∧zs.length=N∧zs.map (·.kv)=kvs∧∀z∈zs,z.nd.kids.length≤1000000
theorem qcA.store {base B:Nat} {w W:World} {v:Value} {N q:Nat} {z:Int} {j:List Value} {cur:Array Value} (h:qcA base w v N j) (E:Only B w W) (F:w.heap[B]? =some (.cells cur 3 (0,0))) (J:W.heap[B]? =some (.cells (cur.setIfInBounds q (encI z)) 3 (0,0))):qcA base W v N j:=by
 obtain ⟨zs,t,R,m,L⟩:=h;have l:Own base 44 6 W v (je zs):=L01.Own.same t.own fun k m=>E.block k fun e=>by
  obtain ⟨c,g⟩:=Own.row t.own m;rw [e,F] at g;cases g
 have key:∀zs:List NV,(∀y∈zs,Own base 3 1 w y.kv (y.nd.kids.map encI))→(∀y∈zs,y.nd.kids.length≤1000000)→∃ys:List NV,je ys=je zs∧ys.length=zs.length∧ys.map (·.kv)=zs.map (·.kv)∧(∀y∈ys,Own base 3 1 W y.kv (y.nd.kids.map encI))∧∀y∈ys,y.nd.kids.length≤1000000:=by
  intro zs
  induction zs with
  |nil=>exact fun _ _=>⟨[],rfl,rfl,rfl,fun y b=>(by cases b),fun y b=>(by cases b)⟩
  |cons y zs O=>
   intro C I;obtain ⟨ys,A,H,s,n,p⟩:=O (fun y b=>C y (by simp [b])) fun y b=>I y (by simp [b]);obtain ⟨i,o,u⟩:=qzf (C y (by simp)) E F J;refine ⟨⟨⟨y.nd.d,i⟩,y.kv⟩::ys, ?_,by simp [H],by simp [s],fun x a=> ?_,fun x a=> ?_⟩
   ·show qi _++je ys=qi y++je zs;rw [A];rfl
   ·rcases List.mem_cons.1 a with rfl|a
    ·exact u
    ·exact n x a
   ·rcases List.mem_cons.1 a with rfl|a
    ·show i.length≤_;rw [o];exact I y (by simp)
    ·exact p x a
 obtain ⟨ys,A,H,s,n,p⟩:=key zs t.kid L;exact ⟨ys,⟨by rw [A];exact l,n⟩,by omega,by rw [s,m],p⟩
def QV:NV:=⟨⟨{kind:=0},[]⟩, .slice none 0 0⟩
theorem qcA.zero {base B:Nat} {w W:World} {v:Value} {N j:Nat} {zs:List NV} (h:OwnN base w v zs) (n:zs.length=N) (p:∀z∈zs,z.nd.kids.length≤1000000) (u:j<N) (m:v.ownBlock=some B) (o:Only B w W)
  (l:Own base 44 6 W v ((je zs).take (j*6)++qi QV++(je zs).drop (j*6+6))):∃i,qcA base W v N i:=by
 refine ⟨(zs.set j QV).map (·.kv),zs.set j QV,⟨?_,fun y a=> ?_⟩,by simpa using n,rfl,fun y a=> ?_⟩
 ·have e:je (zs.set j QV)=(je zs).take (j*6)++qi QV++(je zs).drop (j*6+6):=by
   rw [qmc,show j*6+6=(j+1)*6 by omega,qme,List.set_eq_take_append_cons_drop,if_pos (by omega),qmf];show _++(qi QV++je _)=_;simp
  rw [e];exact l
 ·rcases List.mem_or_eq_of_mem_set a with a|rfl
  ·refine L01.Own.same (h.kid y a) fun k g=>o.block k fun e=> ?_;obtain ⟨c,s⟩:=Own.row h.own m;obtain ⟨t,b⟩:=Own.row (h.kid y a) g;rw [e,s] at b;cases b
  ·exact Own.nil _ _ _ _
 ·rcases List.mem_or_eq_of_mem_set a with a|rfl
  ·exact p y a
  ·simp [QV]
@[simp] theorem qI4:qf Tryz.prog 45=true:=by kernel_rfl
@[simp] theorem qI3:qf Tryz.prog 46=true:=by kernel_rfl
@[simp] theorem qI2:qf Tryz.prog 47=true:=by kernel_rfl
@[simp] theorem qI1:qf Tryz.prog 48=true:=by kernel_rfl
@[simp] theorem qI0:qf Tryz.prog 49=true:=by kernel_rfl
theorem quP (l:List Nd):(kM l).length≤l.length*40001:=by
 unfold kM;have key:∀(ds:List D) (a:List Bs),(ds.foldl vh a).length≤a.length+ds.length*40001:=by
  intro ds
  induction ds with
  |nil=>intro a;simp
  |cons d ds b=>
   intro a;have c:=b (vh a d);have e:=qjP a d;simp only [List.foldl_cons,List.length_cons];omega
 have:=key (l.map (·.d)) [];simpa using this
section
variable {w:World} {lv:Value} {xs:List NV}
theorem qzZ (i:Int) (hG:L01.G w) (hM:vY w) (A:Rd w lv xs) (c:xs.length<4611686018427387904) (hk8:∀x∈xs,x.nd.d.kind<256) (hkl:∀x∈xs,x.nd.kids.length<4611686018427387904):Calls Tryz.prog 12 #[lv, .int .i64 i] w (okR w):=by
 generalize hRR:okR w=R;have rd:∀{W:World},qb w W→Calls Tryz.prog 14 #[] W fun e w'=>e= .returned (.bool true)∧qb W w':=fun {W} hE=>(quz (hG.ext hE) (hM.ext hE)).mono fun e w' h=>⟨h.1,h.2⟩;have fin:∀W,qb w W→R (.returned (.bool true)) W:=fun W hE=>by rw [←hRR];exact ⟨rfl,hE⟩
 refine qD6 fun ρ r0 r1=> ?_;simp -implicitDefEqProofs [qsg,r0];refine (qyO A c hkl).mono ?_;rintro _ w1 ⟨rfl,o⟩;cases hf:wo (xs.map (·.nd)) with
 |false=>
  simp -implicitDefEqProofs;refine (rd o).mono ?_;rintro _ w2 ⟨rfl,S⟩;simp -implicitDefEqProofs;exact fin _ (o.trans' S)
 |true=>
 have a:z8 (xs.map (·.nd)):=qET hf fun x hx=>by obtain ⟨y,hy,rfl⟩:=List.mem_map.1 hx;exact hk8 y hy
 have h410:=qs7 hf;rw [List.length_map] at h410;simp -implicitDefEqProofs [qsd,r0,r1];refine (qyY (hG.ext o) (hM.ext o) (A.ext o) a i).mono ?_;rintro _ w2 ⟨⟨n,rfl,hn0,hn1⟩,S⟩;have J:=o.trans' S;simp -implicitDefEqProofs [r0,r1];refine (qx3 (A.ext J) a c i).mono ?_;rintro _ w3 ⟨⟨n',rfl,hm0,hm1⟩,hE3⟩;have j:=J.trans' hE3;have hnn:n'=n:=by
  by_cases v:jm (xs.map (·.nd)) i=0
  ·obtain ⟨_,_,_,_,t,u,_,_,_,X⟩:=qcr v;rw [hn1 v u X,hm1 v u X]
  ·rw [hn0 v,hm0 v]
 subst hnn;simp -implicitDefEqProofs [r0,r1];refine (qyZ (hG.ext j) (hM.ext j) (A.ext j) a).mono ?_;rintro _ w4 ⟨pv,rfl,hpv,hE4⟩;have E:=j.trans' hE4;simp -implicitDefEqProofs [r0,r1];refine (qx4 (A.ext E) a c).mono ?_;rintro _ w5 ⟨jL,rfl,Z,hE5⟩;have g:=E.trans' hE5;simp -implicitDefEqProofs [r0,r1];refine (qyX (hG.ext g) (hM.ext g) (A.ext g) a i).mono ?_;rintro _ w6 ⟨sv,ss,rfl,hss,hE6,hs0,hs1⟩;have I:=g.trans' hE6;simp -implicitDefEqProofs [r0,r1];refine (qx2 (A.ext I) a c i).mono ?_;rintro _ w7 ⟨sv2,B,rfl,Y,U,ht0,ht1⟩;have m:=I.trans' U;have V:ss.map (·.nd)=B.map (·.nd)∧ss.length≤410∧B.length≤410∧(∀z∈ss,z.nd.kids.length<4611686018427387904)∧∀z∈B,z.nd.kids.length<4611686018427387904:=by
  by_cases v:jm (xs.map (·.nd)) i=0
  ·obtain ⟨_,_,_,_,t,u,ht,_,_,X⟩:=qcr v;have h1:=hs1 v u X;have h2:=ht1 v u X;have hul:u.size≤410:=by have:=X.le;have:=X.lt;rw [List.length_map] at this;omega
   have hk:∀{zs:List NV},zs.map (·.nd)=u.flat 0→zs.length≤410∧∀z∈zs,z.nd.kids.length<4611686018427387904:=fun {zs} hz=>by
    refine ⟨by have:=congrArg List.length hz;rw [List.length_map,T.flat_len] at this;omega,fun z hz2=> ?_⟩;have:=qmF u 0 z.nd (by rw [←hz];exact List.mem_map_of_mem hz2);omega
   exact ⟨by rw [h1,h2],(hk h1).1,(hk h2).1,(hk h1).2,(hk h2).2⟩
  ·rw [hs0 v,ht0 v];exact ⟨rfl,by simp,by simp,by simp,by simp⟩
 simp -implicitDefEqProofs [r0,r1];refine (qyW (hG.ext m) (hM.ext m) (A.ext m) a).mono ?_;rintro _ w8 ⟨uv,rfl,huv,hE8⟩;have H:=m.trans' hE8;simp -implicitDefEqProofs [r0,r1];refine (qx1 (A.ext H) a c).mono ?_;rintro _ w9 ⟨uv2,rfl,huv2,O⟩;have F:=H.trans' O;simp -implicitDefEqProofs;refine (rd F).mono ?_;rintro _ L ⟨rfl,k⟩;have hEa:=F.trans' k;have s:qb w7 L:=(hE8.trans' O).trans' k;have C:qb w5 L:=(hE6.trans' U).trans' s;have e410:qb w4 L:=hE5.trans' C;have hpl:∀{l:List Int},l=(if jI (xs.map (·.nd)) then wG (xs.map (·.nd)) else [])→l.length<4611686018427387904:=fun {l} h=>by
  rw [h];split
  ·unfold wG;rw [qdo];simp;omega
  ·simp
 have hul:(if jI (xs.map (·.nd)) then kM (xs.map (·.nd)) else []).length<4611686018427387904:=by
  split
  ·have:=quP (xs.map (·.nd));rw [List.length_map] at this;omega
  ·simp
 have b1:((n':Int)==(n':Int))=true:=by simp
 have b2:(jm (xs.map (·.nd)) i==jm (xs.map (·.nd)) i)=true:=by simp
 have b3:(wQ (jI (xs.map (·.nd)))==wQ (jI (xs.map (·.nd))))=true:=by simp
 simp -implicitDefEqProofs [b1,b2];refine (ql0 (hpv.ext e410) (Z.ext C) (hpl rfl)).mono ?_;rintro _ w11 ⟨rfl,b⟩;simp -implicitDefEqProofs [b3];refine (qyt (hss.rd.ext ((U.trans' s).trans' b)) (Y.rd.ext (s.trans' b)) (by omega) (by omega) V.2.2.2.1 V.2.2.2.2).mono ?_;rintro _ w12 ⟨rfl,p⟩;have hd:decide (ss.map (·.nd)=B.map (·.nd))=true:=decide_eq_true V.1;simp -implicitDefEqProofs [hd,b2];refine (qyP (huv.ext (((O.trans' k).trans' b).trans' p)) (huv2.ext ((k.trans' b).trans' p)) hul).mono ?_;rintro _ w13 ⟨rfl,hE13⟩;simp -implicitDefEqProofs [b3];exact fin _ (((hEa.trans' b).trans' p).trans' hE13)
end
end Go.L02
