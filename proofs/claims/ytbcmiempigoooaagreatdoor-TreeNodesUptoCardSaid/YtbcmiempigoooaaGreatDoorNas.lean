/- Lemmas for a claim about layer 2 (tree). No conditions but those they state. -/
import Derived.Test.YtbcmiempigoooaaGreatDoorNar
set_option linter.all false
namespace Go.L02
open Go Go.Eng Go.RowKit
open Go.Proofs hiding encI
open Go.L01 (Bs Qo SlK Tok qB qM qe qh ql)
set_option maxRecDepth 100000
set_option maxHeartbeats 2000000
@[simp] theorem qJu:qf Tryz.prog 112=true:=by kernel_rfl
@[simp] theorem qJt:qf Tryz.prog 113=true:=by kernel_rfl
theorem qcv:∀(a:Bs),Op.bytesLess a a=false
 |[]=>rfl
 |x::a=>by simp [Op.bytesLess,qcv a]
theorem qcu:∀{a b c:Bs},Op.bytesLess a b=true→Op.bytesLess b c=true→Op.bytesLess a c=true
 |[],[],_,h,_=>by cases h
 |[],_::_,[],_,h=>by cases h
 |[],_::_,_::_,_,_=>rfl
 |_::_,[],_,h,_=>by cases h
 |_::_,_::_,[],_,h=>by cases h
 |x::a,y::b,z::c,g,e=>by
  simp only [Op.bytesLess,Bool.or_eq_true,decide_eq_true_eq,Bool.and_eq_true,beq_iff_eq] at*;rcases g with g|⟨rfl,g⟩
  ·rcases e with e|⟨rfl,e⟩
   ·exact .inl (UInt8.lt_trans g e)
   ·exact .inl g
  ·rcases e with e|⟨rfl,e⟩
   ·exact .inl e
   ·exact .inr ⟨rfl,qcu g e⟩
theorem qe6:∀(a b:Bs),Op.bytesLess a b=true∨a=b∨Op.bytesLess b a=true
 |[],[]=> .inr (.inl rfl)
 |[],_::_=> .inl rfl
 |_::_,[]=> .inr (.inr rfl)
 |x::a,y::b=>by
  simp only [Op.bytesLess,Bool.or_eq_true,decide_eq_true_eq,Bool.and_eq_true,beq_iff_eq,List.cons.injEq];rcases Nat.lt_trichotomy x.toNat y.toNat with h|h|h
  ·exact .inl (.inl h)
  ·have:x=y:=UInt8.toNat_inj.1 h;subst this;rcases qe6 a b with h|h|h
   ·exact .inl (.inr ⟨rfl,h⟩)
   ·exact .inr (.inl ⟨rfl,h⟩)
   ·exact .inr (.inr (.inr ⟨rfl,h⟩))
  ·exact .inr (.inr (.inl h))
def xW (l:List Bs):Prop:=l.Pairwise fun a b=>Op.bytesLess a b=true
theorem quf:∀{l m:List Bs},xW l→xW m→(∀x,x∈l↔x∈m)→l=m
 |[],[],_,_,_=>rfl
 |[],y::m,_,_,h=>by have:=(h y).2 (by simp);cases this
 |x::l,[],_,_,h=>by have:=(h x).1 (by simp);cases this
 |x::l,y::m,o,n,h=>by
  have b:=List.pairwise_cons.1 o;have g:=List.pairwise_cons.1 n;have e:x=y:=by
   have i:=(h x).1 (by simp);have j:=(h y).2 (by simp);rcases List.mem_cons.1 i with i|i
   ·exact i
   ·rcases List.mem_cons.1 j with j|j
    ·exact j.symm
    ·have p:=g.1 x i;have s:=b.1 y j;have:=qcu p s;rw [qcv] at this;cases this
  subst e;congr 1;refine quf b.2 g.2 fun z=> ?_;have k:=h z;simp only [List.mem_cons] at k;constructor
  ·intro a;rcases k.1 (.inr a) with e|c
   ·subst e;have:=b.1 z a;rw [qcv] at this;cases this
   ·exact c
  ·intro a;rcases k.2 (.inr a) with e|c
   ·subst e;have:=g.1 z a;rw [qcv] at this;cases this
   ·exact c
def jg (l:List Bs) (s:Bs):Nat:=(l.takeWhile fun x=>Op.bytesLess x s).length
def vI (l:List Bs) (s:Bs):List Bs:=if l[jg l s]? =some s then l else l.take (jg l s)++[s]++l.drop (jg l s)
theorem qe7 (l:List Bs) (s:Bs):jg l s≤l.length:=by
 unfold jg
 induction l with
 |nil=>simp
 |cons x l a=>simp only [List.takeWhile_cons];split<;>simp;omega
theorem qt5 {l:List Bs} {s:Bs} {i:Nat} (h:i<jg l s):∃c:i<l.length,Op.bytesLess l[i] s=true:=by
 have e:=qe7 l s;refine ⟨by omega, ?_⟩;unfold jg at h
 induction l generalizing i with
 |nil=>simp at h
 |cons x l b=>
  simp only [List.takeWhile_cons] at h;split at h
  ·rename_i a;cases i with
   |zero=>exact a
   |succ i=>simp at h⊢;exact b h (qe7 l s)
  ·simp at h
theorem qt6 {l:List Bs} {s:Bs} (h:jg l s<l.length):Op.bytesLess l[jg l s] s=false:=by
 unfold jg at*
 induction l with
 |nil=>simp at h
 |cons x l b=>
  simp only [List.takeWhile_cons] at h⊢;by_cases a:Op.bytesLess x s=true
  ·simp only [a,if_true,List.length_cons,List.getElem_cons_succ] at h⊢;exact b (by omega)
  ·simp only [a,if_false,List.length_nil,List.getElem_cons_zero];simpa using a
theorem qmt {l:List Bs} {s x:Bs}:x∈vI l s↔x=s∨x∈l:=by
 unfold vI;split
 ·rename_i h;have:s∈l:=List.mem_of_getElem? h;constructor
  ·exact fun h=> .inr h
  ·rintro (rfl|h)
   ·exact this
   ·exact h
 ·have e:x∈l↔(x∈l.take (jg l s)∨x∈l.drop (jg l s)):=by rw [←List.mem_append,List.take_append_drop]
  rw [e];simp only [List.mem_append,List.mem_singleton];constructor
  ·rintro ((h|h)|h)
   ·exact .inr (.inl h)
   ·exact .inl h
   ·exact .inr (.inr h)
  ·rintro (h|h|h)
   ·exact .inl (.inr h)
   ·exact .inl (.inl h)
   ·exact .inr h
theorem qjx {l:List Bs} {s:Bs} (h:xW l):xW (vI l s):=by
 unfold vI;split
 ·exact h
 ·rename_i j;have p:xW (l.take (jg l s)++l.drop (jg l s)):=by rw [List.take_append_drop];exact h
  have k:=List.pairwise_append.1 p;have u:∀x∈l.take (jg l s),Op.bytesLess x s=true:=fun x c=>by
   obtain ⟨i,t,rfl⟩:=List.mem_iff_getElem.1 c;rw [List.length_take] at t;obtain ⟨g,e⟩:=qt5 (l:=l) (s:=s) (i:=i) (by omega);rw [List.getElem_take];exact e
  have v:∀x∈l.drop (jg l s),Op.bytesLess s x=true:=fun x c=>by
   by_cases m:jg l s<l.length
   ·rw [List.getElem?_eq_getElem m] at j;have n:=qt6 m;have o:Op.bytesLess s l[jg l s]=true:=by
     rcases qe6 s l[jg l s] with h|h|h
     ·exact h
     ·exact absurd (congrArg some h.symm) j
     ·rw [h] at n;cases n
    rw [List.drop_eq_getElem_cons m] at c k;rcases List.mem_cons.1 c with c|c
    ·rw [c];exact o
    ·exact qcu o ((List.pairwise_cons.1 k.2.1).1 x c)
   ·rw [List.drop_eq_nil_of_le (by omega)] at c;cases c
  unfold xW;rw [List.append_assoc];refine List.pairwise_append.2 ⟨k.1,List.pairwise_append.2 ⟨List.pairwise_singleton _ _,k.2.1,fun a g b e=>by rw [List.mem_singleton.1 g];exact v b e⟩,fun a g b e=> ?_⟩;rcases List.mem_append.1 e with e|e
  ·rw [List.mem_singleton.1 e];exact u a g
  ·exact k.2.2 a g b e
theorem qgs (l:List Bs) (s:Bs):(vI l s).length≤l.length+1:=by
 unfold vI;split
 ·omega
 ·simp only [List.length_append,List.length_take,List.length_drop,List.length_singleton];have:=qe7 l s;omega
def jp (ts:List Tok) (i:Nat):Bool:=decide ((tk ts i).kind=1)&& !(decide (i+1<ts.length)&&decide ((tk ts (i+1)).text=[58]))&& !(decide (0<i)&&decide ((tk ts (i - 1)).text=[63]))
def xL (ts:List Tok) (n:Nat) (l:List Bs):List Bs:=(List.range n).foldl (fun l i=>if jp ts i then vI l (tk ts i).text else l) l
theorem qdz (a:List Tok) (n:Nat) (l:List Bs):xL a (n+1) l=if jp a n then vI (xL a n l) (tk a n).text else xL a n l:=by
 unfold xL;rw [List.range_succ,List.foldl_append];rfl
theorem qgU (a:List Tok):∀(n:Nat) (l:List Bs),(xL a n l).length≤l.length+n
 |0,l=>by simp [xL]
 |n+1,l=>by
  have h:=qgU a n l;have b:=qgs (xL a n l) (tk a n).text;rw [qdz];split<;>omega
theorem Qk (a:List Tok) {l:List Bs} (h:xW l):∀n:Nat,xW (xL a n l)
 |0=>h
 |n+1=>by
  rw [qdz];split
  ·exact qjx (Qk a h n)
  ·exact Qk a h n
theorem qmu (g:List Tok) (l:List Bs) (x:Bs):∀n:Nat,x∈xL g n l↔x∈l∨∃i,i<n∧jp g i=true∧(tk g i).text=x
 |0=>by simp [xL]
 |n+1=>by
  have j:=qmu g l x n;rw [qdz];split
  ·rename_i h;rw [qmt,j];constructor
   ·rintro (rfl|a|⟨i,a,c,b⟩)
    ·exact .inr ⟨n,by omega,h,rfl⟩
    ·exact .inl a
    ·exact .inr ⟨i,by omega,c,b⟩
   ·rintro (a|⟨i,a,c,b⟩)
    ·exact .inr (.inl a)
    ·by_cases e:i=n
     ·subst e;exact .inl b.symm
     ·exact .inr (.inr ⟨i,by omega,c,b⟩)
  ·rename_i h;rw [j];constructor
   ·rintro (a|⟨i,a,c,b⟩)
    ·exact .inl a
    ·exact .inr ⟨i,by omega,c,b⟩
   ·rintro (a|⟨i,a,c,b⟩)
    ·exact .inl a
    ·by_cases e:i=n
     ·subst e;exact absurd c h
     ·exact .inr ⟨i,by omega,c,b⟩
def zG (s:Bs) (l:List Bs):List Bs:=xL (ql s).toks (ql s).toks.length l
def vh (l:List Bs) (d:D):List Bs:=
 let a:=if d.kind=5∧d.vr=[] then vI l d.name else l
 let b:=if d.kind=5 then zG d.vr a else a
 zG d.typ b
def kM (l:List Nd):List Bs:=(l.map (·.d)).foldl vh []
theorem qwc:(ql ([]:Bs)).toks=[]:=by decide+kernel
section
variable {w:World}
theorem yX (W:World) (sz:Nat):Cells W (.slice none 0 0) sz []:=⟨rfl,by simp [qk],fun j a=>absurd a (by simp)⟩
theorem qbB {lv:Value} {l:List Bs} (i:Cells w lv 1 (l.map qe)) (hlen:l.length≤100000000) (s:Bs):Calls Tryz.prog 112 #[lv, .string (qc s)] w fun e w'=>∃v,e= .returned v∧Cells w' v 1 ((vI l s).map qe)∧qb w w':=by
 have g:qk lv=l.length:=by simpa using i.len.symm
 have hcap:=y9 i.is;generalize p:(fun (e:Ending) (w':World)=>∃v,e= .returned v∧Cells w' v 1 ((vI l s).map qe)∧qb w w')=R;have U:=qe7 l s;have tail:∀(h:qa) (w2:World),h 0=lv→h 1= .string (qc s)→h 5= .int .i64 ((jg l s:Nat):Int)→qb w w2→vI l s=l.take (jg l s)++[s]++l.drop (jg l s)→qiF.wp ⟨Tryz.prog,47,qss,[]⟩ (qw [.tmp 4] R) (qF [.tmp 4] R) h w2:=by
  intro h w2 h0 h1 h5 L t;have Q:=i.ext L;have K:=Q.sub (l:=0) (r:=jg l s) (m:=qv lv) (Nat.zero_le _) (by simp;omega) (by omega) (Nat.le_refl _);have V:=Q.sub (l:=jg l s) (r:=l.length) (m:=qv lv) U (by simp) (by omega) (Nat.le_refl _);simp only [Nat.mul_one,Nat.zero_mul,List.drop_zero,←List.map_take,←List.map_drop,List.take_length] at K V;have aa:((jg l s:Nat):Int)≤(qv lv:Int):=by omega
  have hb2:jg l s≤qv lv:=by omega
  have hb3:((jg l s:Nat):Int)≤(l.length:Int):=by omega
  have y:(l.take (jg l s)).length≤100000000:=by rw [List.length_take];omega
  have hld:(l.drop (jg l s)).length≤100000000:=by rw [List.length_drop];omega
  have H:∀(m:List Bs),∀u∈m.map qe,u.oneCell'=true:=fun m u hu=>by obtain ⟨b,_,rfl⟩:=List.mem_map.1 hu;rfl
  simp -implicitDefEqProofs [qiF];refine jN kP (by decide) (by decide) (by simp) fun B4 W4 Z F C _=> ?_;simp at C;simp -implicitDefEqProofs [h0,h5,i.is,aa,hb2];refine kF qao F (by rfl) (by rfl) (Own.lit (n:=0) (sz:=1) C (by simp) Z (by decide)) (K.ext F) (H _) (by simp;omega) (by simp;omega) fun u5 W5 hE5 Y _ _=> ?_;simp -implicitDefEqProofs [h1];refine jN kP (by decide) (by decide) (by simp [Value.cells]) fun B6 W6 hB6 P E _=> ?_;simp [Value.cells] at E;simp -implicitDefEqProofs;refine kF qao (hE5.trans' P) (by rfl) (by rfl) (Y.ext P) (Blk.cells (cs:=[qe s]) E (by simp [qe])) (by simp [qe,Value.oneCell']) (by simp;omega) (by simp;omega) fun u7 W7 O ho7 _ _=> ?_;simp -implicitDefEqProofs [h0,h5,i.is,g,hb3,U];refine kF qao O (by rfl) (by rfl) ho7 (V.ext O) (H _) (by simp;omega) (by simp;omega) fun u8 W8 hE8 ab _ _=> ?_;simp -implicitDefEqProofs;rw [←p,t];exact ⟨u8,rfl,by simpa using L01.jM ab,L.trans' hE8⟩
 refine qEk fun ρ r0 r1=> ?_;simp -implicitDefEqProofs [qst];obtain ⟨I,hI⟩:∃I:Nat→qa→World→Prop,∀j o w',I j o w'↔(o 0=lv∧o 1= .string (qc s)∧qb w w'):=⟨_,fun _ _ _=>Iff.rfl⟩;refine jj 5 (jg l s) I (by simp) ((hI _ _ _).2 ⟨by simp [r0],by simp [r1],qz _⟩) ?_;clear r0 r1;rintro j o w' hj B hIw;obtain ⟨r0,r1,J⟩:=(hI _ _ _).1 hIw;have hwj:IntKind.i64.wrap ((j:Int)+1)=(j:Int)+1:=qp (by omega);have z:=i.ext J;by_cases y:j<jg l s
 ·obtain ⟨c,X⟩:=qt5 y;have a:(j:Int)<(l.length:Int):=by omega
  have A:=z.cell j (by simpa using c);simp only [List.getElem_map,qe] at A;simp -implicitDefEqProofs [qcg,B,r0,r1,i.is,g,a,c,A,X,qsr,hwj,y];exact (hI _ _ _).2 ⟨by simp [r0],by simp [r1],J⟩
 ·obtain rfl:j=jg l s:=by omega
  by_cases c:jg l s<l.length
  ·have a:((jg l s:Nat):Int)<(l.length:Int):=by omega
   have A:=z.cell (jg l s) (by simpa using c);simp only [List.getElem_map,qe] at A;have X:=qt6 c;have hg:l[jg l s]? =some l[jg l s]:=List.getElem?_eq_getElem c;by_cases k:l[jg l s]=s
   ·have t:vI l s=l:=by unfold vI;rw [if_pos (by rw [hg,k])]
    rw [t] at p;have x:decide (qc l[jg l s]=qc s)=true:=by rw [k];simp
    simp -implicitDefEqProofs [qcg,B,r0,r1,i.is,g,a,c,A,X,qez,x];rw [←p];exact ⟨lv,rfl,z,J⟩
   ·have t:vI l s=l.take (jg l s)++[s]++l.drop (jg l s):=by unfold vI;rw [if_neg (by rw [hg];exact fun e=>k (Option.some.inj e))]
    rw [t] at p;have x:decide (qc l[jg l s]=qc s)=false:=by simpa [qJ] using k
    simp -implicitDefEqProofs [qcg,B,r0,r1,i.is,g,a,c,A,X,qez,x];exact tail _ _ (by simp [r0]) (by simp [r1]) (by simp [B]) J t
  ·have a:¬((jg l s:Nat):Int)<(l.length:Int):=by omega
   have t:vI l s=l.take (jg l s)++[s]++l.drop (jg l s):=by unfold vI;rw [if_neg (by rw [List.getElem?_eq_none (by omega)];exact fun e=>by cases e)]
   simp -implicitDefEqProofs [qcg,B,r0,r1,i.is,g,a,c,qez];exact tail _ _ (by simp [r0]) (by simp [r1]) (by simp [B]) J t
theorem qgo {lv:Value} {l:List Bs} (hl:Cells w lv 1 (l.map qe)) (hlen:l.length≤50000000) (s:Bs) (hs:s.length<4611686018427387904):Calls Tryz.prog 113 #[lv, .string (qc s)] w fun e w'=>∃v,e= .returned v∧Cells w' v 1 ((zG s l).map qe)∧qb w w':=by
 generalize hRR:(fun (e:Ending) (w':World)=>∃v,e= .returned v∧Cells w' v 1 ((zG s l).map qe)∧qb w w')=R;have P:(⟨#[58]⟩:ByteArray)=qc [58]:=rfl;have O:(⟨#[63]⟩:ByteArray)=qc [63]:=rfl;refine qEj fun ρ r0 r1=> ?_;simp -implicitDefEqProofs [qsq,r1];refine (L01.qlu s hs).mono ?_;rintro _ w1 ⟨tv,rfl,htv,hE1⟩;have hts:=(L01.QD s).1;have hT:=SlK.own htv (by omega);simp -implicitDefEqProofs [L01.fV];refine qR L01.z31 fun F J hF g hb2 _=> ?_;simp -implicitDefEqProofs;refine jl (B:=F) (by simp) hb2 (by simp [Value.cells]) (by simp [Value.cells]) (by simpa [Value.cells] using L01.x4) fun w3 hO3 hb3=> ?_;have ab:qb w1 w3:=hO3.ext g hF;have Q:=hE1.trans' ab;have ac:=hT.ext ab;obtain ⟨L,aa⟩:∃L,L=(ql s).toks:=⟨_,rfl⟩;have hns:zG s l=xL L L.length l:=by unfold zG;rw [aa]
 rw [hns] at hRR;rw [←aa] at ac hts;simp -implicitDefEqProofs;obtain ⟨I,hI⟩:∃I:Nat→qa→World→Prop,∀j z w',I j z w'↔(z 5=tv∧qb w3 w'∧Cells w' (z 0) 1 ((xL L j l).map qe)):=⟨_,fun _ _ _=>Iff.rfl⟩;refine jj 7 L.length I (by simp) ((hI _ _ _).2 ⟨by simp,qz _,by simpa [xL,r0] using hl.ext Q⟩) ?_;clear r0 r1;rintro j z w' hj x hIw;obtain ⟨r5,hE,U⟩:=(hI _ _ _).1 hIw;have A:IntKind.i64.wrap ((j:Int)+1)=(j:Int)+1:=qp (by omega);have a:=ac.ext hE;generalize k:z 0=cv at U;by_cases u:j<L.length
 ·have n:(j:Int)<(L.length:Int):=by omega
  obtain ⟨c0,c1,_⟩:=a.cell j u;have y:tk L j=L[j]:=zr u;have hnl:=qgU L j l;have ad:0<j→IntKind.i64.wrap ((j:Int) - 1)=((j - 1:Nat):Int):=fun h=>by rw [qp (by omega)];omega
  have hkd:((L[j].kind:Int)==1)=decide (L[j].kind=1):=by rw [Bool.eq_iff_iff];simp;omega
  have b:=qdz L j l;rw [y] at b;have fin:∀(i:qa) (J:World) (v:Value),i 5=tv→i 7= .int .i64 (j:Int)→i 0=v→qb w' J→Cells J v 1 ((xL L (j+1) l).map qe)→qey.wp ⟨Tryz.prog,68,qcf,[]⟩ (fun o V=>o 7= .int .i64 ((j:Int)+1)∧I (j+1) o V) ((qF [.tmp 4] R).blk 0 (qex.wp ⟨Tryz.prog,68,qcf,[]⟩ (qw [.tmp 4] R) (qF [.tmp 4] R))) i J:=by
   intro i J v h5 h7 h0 g hc2;simp -implicitDefEqProofs [qey,h7,A];exact (hI _ _ _).2 ⟨by simp [h5],hE.trans' g,by simpa [h0] using hc2⟩
  have t:jp L j=false→∀i:qa,i 5=tv→i 7= .int .i64 (j:Int)→i 0=cv→qey.wp ⟨Tryz.prog,68,qcf,[]⟩ (fun o V=>o 7= .int .i64 ((j:Int)+1)∧I (j+1) o V) ((qF [.tmp 4] R).blk 0 (qex.wp ⟨Tryz.prog,68,qcf,[]⟩ (qw [.tmp 4] R) (qF [.tmp 4] R))) i w':=fun K i h5 h7 h0=>by
   rw [K,if_neg (by decide)] at b;exact fin _ _ cv h5 h7 h0 (qz _) (by rw [b];exact U)
  have c0':=c0;by_cases H:j+1<L.length
  ·obtain ⟨_,c8,_⟩:=a.cell (j+1) H;have Z:tk L (j+1)=L[j+1]:=zr H;by_cases C:0<j
   ·have p:j - 1<L.length:=by omega
    have E:((j - 1:Nat):Int)<(L.length:Int):=by omega
    obtain ⟨_,c9,_⟩:=a.cell (j - 1) p;have Y:tk L (j - 1)=L[j - 1]:=zr p;have c:jp L j=(decide (L[j].kind=1)&& !decide (L[j+1].text=[58])&& !decide (L[j - 1].text=[63])):=by unfold jp;rw [y,Z,Y];simp [H,C]
    simp -implicitDefEqProofs [qaH,x,r5,a.is,a.len,n,u,qce,H,C,A,c0,c1,ad C,E,p,c8,c9,P,O,qJ,k];split
    ·rename_i m;have K:jp L j=true:=by
      rw [c];simp only [Bool.and_eq_true,decide_eq_true_eq,Bool.not_eq_true',decide_eq_false_iff_not];have h1:=m.1.1;exact ⟨⟨by omega,m.1.2⟩,m.2⟩
     rw [K,if_pos rfl] at b;refine (qbB U (by omega) L[j].text).mono ?_;rintro _ J ⟨v,rfl,X,g⟩;simp -implicitDefEqProofs;exact fin _ _ v (by simp [r5]) (by simp [x]) (by simp) g (by rw [b];exact X)
    ·rename_i m;refine t ?_ _ (by simp [r5]) (by simp [x]) (by simp [k]);rw [c,←Bool.not_eq_true];simp only [Bool.and_eq_true,decide_eq_true_eq,Bool.not_eq_true',decide_eq_false_iff_not];exact fun h=>m (by have h1:=h.1.1;exact ⟨⟨by omega,h.1.2⟩,h.2⟩)
   ·have c:jp L j=(decide (L[j].kind=1)&& !decide (L[j+1].text=[58])):=by unfold jp;rw [y,Z];simp [H,C]
    simp -implicitDefEqProofs [qaH,x,r5,a.is,a.len,n,u,qce,H,C,A,c0,c1,c8,P,O,qJ,k];split
    ·rename_i m;have K:jp L j=true:=by
      rw [c];simp only [Bool.and_eq_true,decide_eq_true_eq,Bool.not_eq_true',decide_eq_false_iff_not];have h1:=m.1;exact ⟨by omega,m.2⟩
     rw [K,if_pos rfl] at b;refine (qbB U (by omega) L[j].text).mono ?_;rintro _ J ⟨v,rfl,X,g⟩;simp -implicitDefEqProofs;exact fin _ _ v (by simp [r5]) (by simp [x]) (by simp) g (by rw [b];exact X)
    ·rename_i m;refine t ?_ _ (by simp [r5]) (by simp [x]) (by simp [k]);rw [c,←Bool.not_eq_true];simp only [Bool.and_eq_true,decide_eq_true_eq,Bool.not_eq_true',decide_eq_false_iff_not];exact fun h=>m (by have h1:=h.1;exact ⟨by omega,h.2⟩)
  ·by_cases C:0<j
   ·have p:j - 1<L.length:=by omega
    have E:((j - 1:Nat):Int)<(L.length:Int):=by omega
    obtain ⟨_,c9,_⟩:=a.cell (j - 1) p;have Y:tk L (j - 1)=L[j - 1]:=zr p;have c:jp L j=(decide (L[j].kind=1)&& !decide (L[j - 1].text=[63])):=by unfold jp;rw [y,Y];simp [H,C]
    simp -implicitDefEqProofs [qaH,x,r5,a.is,a.len,n,u,qce,H,C,A,c0,c1,ad C,E,p,c9,P,O,qJ,k];split
    ·rename_i m;have K:jp L j=true:=by
      rw [c];simp only [Bool.and_eq_true,decide_eq_true_eq,Bool.not_eq_true',decide_eq_false_iff_not];have h1:=m.1;exact ⟨by omega,m.2⟩
     rw [K,if_pos rfl] at b;refine (qbB U (by omega) L[j].text).mono ?_;rintro _ J ⟨v,rfl,X,g⟩;simp -implicitDefEqProofs;exact fin _ _ v (by simp [r5]) (by simp [x]) (by simp) g (by rw [b];exact X)
    ·rename_i m;refine t ?_ _ (by simp [r5]) (by simp [x]) (by simp [k]);rw [c,←Bool.not_eq_true];simp only [Bool.and_eq_true,decide_eq_true_eq,Bool.not_eq_true',decide_eq_false_iff_not];exact fun h=>m (by have h1:=h.1;exact ⟨by omega,h.2⟩)
   ·have c:jp L j=decide (L[j].kind=1):=by unfold jp;rw [y];simp [H,C]
    simp -implicitDefEqProofs [qaH,x,r5,a.is,a.len,n,u,qce,H,C,A,c0,c1,P,O,qJ,k];split
    ·rename_i m;have K:jp L j=true:=by
      rw [c];simp only [Bool.and_eq_true,decide_eq_true_eq,Bool.not_eq_true',decide_eq_false_iff_not];omega
     rw [K,if_pos rfl] at b;refine (qbB U (by omega) L[j].text).mono ?_;rintro _ J ⟨v,rfl,X,g⟩;simp -implicitDefEqProofs;exact fin _ _ v (by simp [r5]) (by simp [x]) (by simp) g (by rw [b];exact X)
    ·rename_i m;refine t ?_ _ (by simp [r5]) (by simp [x]) (by simp [k]);rw [c,←Bool.not_eq_true];simp only [Bool.and_eq_true,decide_eq_true_eq,Bool.not_eq_true',decide_eq_false_iff_not];exact fun h=>m (by omega)
 ·have n:¬(j:Int)<(L.length:Int):=by omega
  obtain rfl:j=L.length:=by omega
  simp -implicitDefEqProofs [qaH,x,r5,a.is,a.len,qex,k];rw [←hRR];exact ⟨cv,rfl,U,Q.trans' hE⟩
theorem qgW (s:Bs) (l:List Bs):(zG s l).length≤l.length+20000:=by
 have b:=qgU (ql s).toks (ql s).toks.length l;have a:=(L01.QD s).1;unfold zG;omega
theorem qgV (l:List Bs):zG [] l=l:=by unfold zG;rw [qwc];rfl
theorem qjP (l:List Bs) (d:D):(vh l d).length≤l.length+40001:=by
 unfold vh;have e:=qgs l d.name;have b:∀a:List Bs,(zG d.typ a).length≤a.length+20000:=qgW _;have c:∀a:List Bs,(zG d.vr a).length≤a.length+20000:=qgW _;simp only;split<;>split<;>(have:=b l;have:=b (vI l d.name);have:=c l;have:=c (vI l d.name);have:=b (zG d.vr l);have:=b (zG d.vr (vI l d.name));omega)
theorem qx1 {lv:Value} {xs:List NV} (Y:Rd w lv xs) (F:z8 (xs.map (·.nd))) (V:xs.length<4611686018427387904):Calls Tryz.prog 49 #[lv] w fun e w'=>∃v,e= .returned (.tuple #[v, .int .i64 (wQ (jI (xs.map (·.nd))))])∧Cells w' v 1 ((if jI (xs.map (·.nd)) then kM (xs.map (·.nd)) else []).map qe)∧qb w w':=by
 have hl:=Y.len;have his:=Y.cells.is;generalize hRR:(fun (e:Ending) (w':World)=>∃v,e= .returned (.tuple #[v, .int .i64 (wQ (jI (xs.map (·.nd))))])∧Cells w' v 1 ((if jI (xs.map (·.nd)) then kM (xs.map (·.nd)) else []).map qe)∧qb w w')=R;refine qA3 fun ρ r0=> ?_;simp -implicitDefEqProofs [qon,r0];refine (qgp Y F.q.1 F.q.2 V).mono ?_;rintro _ w2 ⟨rfl,hE⟩;cases hc:jI (xs.map (·.nd)) with
 |false=>
  simp -implicitDefEqProofs;rw [←hRR,hc];exact ⟨.slice none 0 0,rfl,yX _ _,hE⟩
 |true=>
  obtain ⟨t,ht,h400⟩:=Ji hc;have hlt0:xs.length=t.size:=by rw [←T.flat_len t 0,←ht,List.length_map]
  simp -implicitDefEqProofs [qol];obtain ⟨I,hI⟩:∃I:Nat→qa→World→Prop,∀j h w',I j h w'↔(h 0=lv∧qb w w'∧∃m:List Bs,m=((xs.take j).map (·.nd.d)).foldl vh []∧m.length≤j*40001∧Cells w' (h 5) 1 (m.map qe)):=⟨_,fun _ _ _=>Iff.rfl⟩;refine jj 6 xs.length I (by simp) ((hI _ _ _).2 ⟨by simp [r0],hE,[],by simp,by simp,by simpa using yX _ _⟩) ?_;clear r0;rintro j h w' hj rj hIw;obtain ⟨r0,z,m,hm,hml,i⟩:=(hI _ _ _).1 hIw;have hwj:IntKind.i64.wrap ((j:Int)+1)=(j:Int)+1:=qp (by omega);generalize u:h 5=mv at i;by_cases p:j<xs.length
  ·have k:(j:Int)<(xs.length:Int):=by omega
   have E:=(Y.ext z).row p;have hk:=(Y.ext z).kids xs[j] (List.getElem_mem _);have hd:=F.1 _ (List.mem_map_of_mem (List.getElem_mem p));have htk:(xs.take (j+1)).map (·.nd.d)=(xs.take j).map (·.nd.d)++[xs[j].nd.d]:=by rw [List.take_succ_eq_append_getElem p,List.map_append];rfl
   have L:((xs.take (j+1)).map (·.nd.d)).foldl vh []=vh m xs[j].nd.d:=by rw [htk,List.foldl_append,←hm];rfl
   generalize xs[j]=x at E hk hd L;have C:=vl hk.is;have hko:=vU hk.is;simp -implicitDefEqProofs [qhn,rj,r0,his,hl,k,p,qom,E];refine qR ww fun X w3 hX hE3 hb3 _=> ?_;simp -implicitDefEqProofs;refine jl (B:=X) (by simp) hb3 (by simp [Value.cells,qi,C]) (by simp [Value.cells,qi,C,hko]) (by simpa [Value.cells,qi,C] using wE) fun Q hO4 hb4=> ?_;have y:qb w' Q:=hO4.ext hE3 hX;have Z:Blk Q X (qi x).toArray 44:=by simpa [Value.cells,qi,C] using hb4
   have cX:∀W,qb Q W→W.cell? ⟨X,0,none⟩=some (.int .u8 (x.nd.d.kind:Int))∧W.cell? ⟨X,1,none⟩=some (.string (qc x.nd.d.name))∧W.cell? ⟨X,2,none⟩=some (.string (qc x.nd.d.vr))∧W.cell? ⟨X,3,none⟩=some (.string (qc x.nd.d.typ)):=fun W hW=>by
    have:=Z.ext hW;refine ⟨?_, ?_, ?_, ?_⟩<;>(rw [this.cell];rfl)
   have hlv:x.nd.d.vr.length<4611686018427387904:=by have:=hd.vr;omega
   have U:x.nd.d.typ.length<4611686018427387904:=by have:=hd.typ;omega
   have e0:(⟨#[]⟩:ByteArray)=qc []:=rfl;have n:∀(g:qa) (W:World) (bv:Value) (b:List Bs),g 0=lv→g 6= .int .i64 (j:Int)→g 7= .pointer (some ⟨X,0,none⟩)→g 5=bv→qb Q W→Cells W bv 1 (b.map qe)→b.length≤49999999→vh m x.nd.d=zG x.nd.d.typ b→
     qho.wp ⟨Tryz.prog,47,Q0,[]⟩ (qdZ.wp ⟨Tryz.prog,47,Q0,[]⟩ (fun c K=>c 6= .int .i64 ((j:Int)+1)∧I (j+1) c K) ((qF [.tmp 2, .tmp 3] R).blk 0 (qb3.wp ⟨Tryz.prog,47,Q0,[]⟩ (qw [.tmp 2, .tmp 3] R) (qF [.tmp 2, .tmp 3] R))))
      (((qF [.tmp 2, .tmp 3] R).blk 0 (qb3.wp ⟨Tryz.prog,47,Q0,[]⟩ (qw [.tmp 2, .tmp 3] R) (qF [.tmp 2, .tmp 3] R))).blk 1 (qdZ.wp ⟨Tryz.prog,47,Q0,[]⟩ (fun c K=>c 6= .int .i64 ((j:Int)+1)∧I (j+1) c K) ((qF [.tmp 2, .tmp 3] R).blk 0 (qb3.wp ⟨Tryz.prog,47,Q0,[]⟩ (qw [.tmp 2, .tmp 3] R) (qF [.tmp 2, .tmp 3] R))))) g W:=by
    intro g W bv b h0 h6 h7 h5 hW hb hbl P;obtain ⟨_,_,_,c3⟩:=cX W hW;simp -implicitDefEqProofs [qho,h5,h7,c3];refine (qgo hb (by omega) x.nd.d.typ U).mono ?_;rintro _ W2 ⟨v,rfl,O,A⟩;simp -implicitDefEqProofs [qdZ,h6,hwj];refine (hI _ _ _).2 ⟨by simp [h0],((z.trans' y).trans' hW).trans' A,_,rfl, ?_, ?_⟩
    ·rw [L];have:=qjP m x.nd.d;omega
    ·rw [L,P];simpa using O
   obtain ⟨c0,c1,c2,c3⟩:=cX Q (qz _);by_cases s:x.nd.d.kind=5
   ·have a:((x.nd.d.kind:Int)==5)=true:=by rw [s];rfl
    by_cases O:x.nd.d.vr=[]
    ·have P:vh m x.nd.d=zG x.nd.d.typ (vI m x.nd.d.name):=by unfold vh;simp [s,O,qgV]
     have H:decide (qc x.nd.d.vr=qc [])=true:=by rw [O];simp
     simp -implicitDefEqProofs [c0,c2,a,e0,H,u,c1];refine (qbB (i.ext y) (by omega) x.nd.d.name).mono ?_;rintro _ w5 ⟨v,rfl,hv5,A⟩;obtain ⟨d0,d1,d2,d3⟩:=cX w5 A;have hpl:=qgs m x.nd.d.name;simp -implicitDefEqProofs [qd0,d0,a,d2];rw [O];refine (qgo hv5 (by omega) [] (by simp)).mono ?_;rintro _ w6 ⟨v6,rfl,o,J⟩;rw [qgV] at o;simp -implicitDefEqProofs;exact n _ w6 v6 _ (by simp [r0]) (by simp [rj]) (by simp) (by simp) (A.trans' J) o (by omega) P
    ·have P:vh m x.nd.d=zG x.nd.d.typ (zG x.nd.d.vr m):=by unfold vh;simp [s,O]
     have H:decide (qc x.nd.d.vr=qc [])=false:=by simpa [qJ] using O
     have hnl:=qgW x.nd.d.vr m;simp -implicitDefEqProofs [c0,c2,a,e0,H,qd0,u];refine (qgo (i.ext y) (by omega) x.nd.d.vr hlv).mono ?_;rintro _ w6 ⟨v6,rfl,o,J⟩;simp -implicitDefEqProofs;exact n _ w6 v6 _ (by simp [r0]) (by simp [rj]) (by simp) (by simp) J o (by omega) P
   ·have a:((x.nd.d.kind:Int)==5)=false:=beq_false_of_ne (by omega);have P:vh m x.nd.d=zG x.nd.d.typ m:=by unfold vh;simp [s]
    simp -implicitDefEqProofs [c0,a,qd0];exact n _ Q mv _ (by simp [r0]) (by simp [rj]) (by simp) (by simp [u]) (qz _) (i.ext y) (by omega) P
  ·have k:¬(j:Int)<(xs.length:Int):=by omega
   rw [List.take_of_length_le (by omega)] at hm;simp -implicitDefEqProofs [qhn,rj,r0,his,hl,k,qb3,u];rw [←hRR,hc];refine ⟨mv,rfl, ?_,z⟩;rw [if_pos rfl];have:kM (xs.map (·.nd))=m:=by unfold kM;rw [hm,List.map_map];rfl
   rw [this];exact i
end
@[simp] theorem qFS:qf Tryz.prog 196=true:=by kernel_rfl
@[simp] theorem qKh:qf Tryz.prog 194=true:=by kernel_rfl
@[simp] theorem qJ3:qf Tryz.prog 260=true:=by kernel_rfl
@[simp] theorem qKD:qf Tryz.prog 110=true:=by kernel_rfl
@[simp] theorem qKC:qf Tryz.prog 111=true:=by kernel_rfl
@[simp] theorem qFT:qf Tryz.prog 195=true:=by kernel_rfl
theorem quZ:Tryz.prog.underlying 144=some (.map 9 4):=by kernel_rfl
theorem qas {base e sz:Nat} {w:World} {v:Value} {xs:List Value} (h:Own base e sz w v xs):v.cells= #[v]∧v.oneCell=true:=by
 rcases h with ⟨rfl,_⟩|⟨g,off,n,cap,cur,rfl,_⟩<;>exact ⟨rfl,rfl⟩
theorem qgQ:∀(l U:List ByteArray),l.Nodup→(∀x,x∈l→x∈U)→l.length≤U.length
 |[],_,_,_=>by simp
 |a::l,U,g,c=>by
  have b:=List.nodup_cons.1 g;have i:=qgQ l (U.filter fun x=>decide (x≠a)) b.2 fun x e=>by
   rw [List.mem_filter];refine ⟨c x (by simp [e]), ?_⟩;simp only [ne_eq,decide_not,Bool.not_eq_true',decide_eq_false_iff_not];rintro rfl;exact b.1 e
  have h:(U.filter fun x=>decide (x≠a)).length<U.length:=by
   refine List.length_filter_lt_length_iff_exists.2 ⟨a,c a (by simp),by simp⟩
  simp only [List.length_cons];omega
def qfk (w:World) (ps:List (ByteArray×Value)):Ending→World→Prop:=fun e w'=>∃(x:Value) (ks:List ByteArray),e= .returned x∧Own w.heap.size 9 1 w' x (ks.map Value.string)∧ks.Nodup∧(∀k,k∈ks↔k∈ps.map (·.1))∧qb w w'
structure CJ (w:World) (keep:Nat→Prop) (W1:World) (S l Db:Nat) (rec:Loop) (lv:Value) (xs:List ByteArray) (W:World):Prop where
 ext:qb w W
 lp:LoopB W l Db rec
 bl:Blk W S #[lv] 51
 own:Own w.heap.size 9 1 W lv (xs.map Value.string)
 ne:∀k,lv.ownBlock=some k→k≠S∧k≠l∧k≠Db∧¬keep k
 kept:∀k,keep k→W.heap[k]? =W1.heap[k]?
 size:W1.heap.size≤W.heap.size
structure CF (w:World) (keep:Nat→Prop) (W1:World) (S l Db:Nat):Prop where
 lo:w.heap.size≤S∧w.heap.size≤l∧w.heap.size≤Db
 ne:S≠l∧S≠Db∧l≠Db
 nk:¬keep S∧¬keep l∧¬keep Db
 lt:∀k,keep k→k<W1.heap.size
section
variable {w W1 W W' W2 W3 W4:World} {keep:Nat→Prop} {S l Db:Nat} {rec rec':Loop} {lv lv':Value} {xs ys:List ByteArray}
theorem CJ.round (h:CJ w keep W1 S l Db rec lv xs W) (f:CF w keep W1 S l Db) (a:Only l W W') (c:LoopB W' l Db rec'):CJ w keep W1 S l Db rec' lv xs W':=
 ⟨a.ext h.ext f.lo.2.1,c,a.blk h.bl f.ne.1,L01.Own.same h.own fun k b=>a.block k (h.ne k b).2.1,h.ne,fun k b=>(a.block k (fun e=>f.nk.2.1 (e▸b))).trans (h.kept k b),by rw [a.size];exact h.size⟩
theorem CJ.new (h:CJ w keep W1 S l Db rec lv xs W) (f:CF w keep W1 S l Db) (a:qb W W'):CJ w keep W1 S l Db rec lv xs W':=
 ⟨h.ext.trans' a,h.lp.ext a,h.bl.ext a,h.own.ext a,h.ne,fun k b=>(a.block k (by have:=f.lt k b;have:=h.size;omega)).trans (h.kept k b),Nat.le_trans h.size a.size⟩
theorem CJ.app (h:CJ w keep W1 S l Db rec lv xs W) (f:CF w keep W1 S l Db) (v:qb W W2) (j:W2.grownBy W3 lv.ownBlock) (o:Own w.heap.size 9 1 W3 lv' (ys.map Value.string)) (u:lv'.ownBlock=lv.ownBlock∨lv'.ownBlock=some W2.heap.size)
  (g:Only S W3 W4) (s:Blk W4 S #[lv'] 51):CJ w keep W1 S l Db rec lv' ys W4:=by
 have c:=h.new f v;have lt:=c.lp.lt;have x:=c.bl.lt;have y:=c.size;have b:∀k,k<W2.heap.size→k≠S→lv.ownBlock≠some k→W4.heap[k]? =W2.heap[k]? :=fun k a p i=>(g.block k p).trans (j.block k a (Ne.symm i));have n:w.heap.size≤W2.heap.size:=c.ext.size;have m:qb w W3:=c.ext.grown j n fun k a=>(c.own.blk k a).1;have zg:=j.size;have nl:lv.ownBlock≠some l:=fun e=>(h.ne l e).2.1 rfl;have t:lv.ownBlock≠some Db:=fun e=>(h.ne Db e).2.2.1 rfl;have nn:∀k,lv'.ownBlock=some k→k≠S∧k≠l∧k≠Db∧¬keep k:=by
  intro k a;rcases u with e|e
  ·exact h.ne k (by rw [←e];exact a)
  ·rw [e] at a;cases a;exact ⟨by omega,by omega,by omega,fun a=>by have:=f.lt _ a;omega⟩
 refine ⟨g.ext m f.lo.1,c.lp.keep (b l lt.1 (Ne.symm f.ne.1) nl) (b Db lt.2 (Ne.symm f.ne.2.1) t),s,L01.Own.same o fun k a=>g.block k (nn k a).1,nn,fun k a=> ?_, ?_⟩
 ·exact (b k (by have:=f.lt k a;omega) (fun e=>f.nk.1 (e▸a)) (fun e=>(h.ne k e).2.2.2 a)).trans (c.kept k a)
 ·rw [g.size];omega
end
theorem qvt {w:World} {Bm M:Nat} {ps:List (ByteArray×Value)} (hb:Blk w Bm #[.map (some M)] 144) (hm:MapB w M ps) (hlen:ps.length≤100000000):
  Calls Tryz.prog 260 #[.slice none 0 0, .func (.func 196) #[] #[.pointer (some ⟨Bm,0,none⟩)]] w (qfk w ps):=by
 obtain ⟨R0,A⟩:∃R0,R0=qfk w ps:=⟨_,rfl⟩;rw [←A];refine qB0 fun ρ r0 r1 rg=> ?_;have rg':ρ 1000000000= .tuple #[]:=rg;simp [qhK,r0];refine vv fun S W1 hS ad P hs1=> ?_;simp [r0,Value.cells] at P;simp [r1];obtain ⟨bA,bB,hrf,hpA,hpB⟩:=qBY;rw [hrf];have lS:=P.lt;have z1:=ad.size;refine qgg (gf:=196) (lb:= #[.pointer (some ⟨Bm,0,none⟩)]) (by simp [z6]) (by simp) (by decide) qFS fun a rec W2 hag hrt hrp hra hrb K H aa hsz2 hL2=> ?_;have o:=ad.trans' aa;have hb2:=hb.ext o;have hm2:=hm.ext o;simp;refine qCY fun ρ2 s0 s1=> ?_;simp [qqY,s1,hb2.cell];refine qtg (kt:=9) (et:=4) (B:=M) quZ (by simp) hm2 fun R W3 A L hr=> ?_;subst A;have I:CF w (fun k=>k=W2.heap.size) W3 S (W1.heap.size+1) W1.heap.size:=⟨⟨by omega,by omega,by omega⟩,⟨by omega,by omega,by omega⟩,⟨by omega,by omega,by omega⟩,fun k U=>by rw [U];exact hr.lt.2⟩;have lM:=hm.lt;simp;obtain ⟨J,hJ⟩:∃J:Nat→qa→World→Prop,∀n u W,J n u W↔(u 0= .func (.yield (W1.heap.size+1)) #[] #[]∧u 5= .pointer (some ⟨W2.heap.size,0,none⟩)∧∃c cur lv,RangeB W W2.heap.size M ps c cur∧c.Nodup∧(∀k∈c,k∈ps.map (·.1))∧CJ w (fun k=>k=W2.heap.size) W S (W1.heap.size+1) W1.heap.size rec lv c.reverse W∧W3.heap.size≤W.heap.size∧n+c.length=ps.length):=⟨_,fun _ _ _=>Iff.rfl⟩;refine qg0 J ps.length ((hJ _ _ _).2 ⟨by simp [s0],by simp,[],none, .slice none 0 0,hr,List.nodup_nil,fun _ h=>(by cases h),⟨o.trans' L,hL2.ext L,(P.ext aa).ext L,Own.nil _ _ _ _,by simp [Value.ownBlock],fun _ _=>rfl,Nat.le_refl _⟩,Nat.le_refl _,by simp⟩) ?_;intro n u W hj;obtain ⟨q0,q5,c,cur,lv,hr,ab,hin,p,hsz,hn⟩:=(hJ _ _ _).1 hj;simp [qqW];refine qth (R:=W2.heap.size) (B:=M) (by simpa using q5) hr (fun O=> ?_) (fun k v W4 hkp hkv j Q=> ?_)
 ·simp;refine ⟨.ready,none,by simp,p.lp.ready' K H,fun W7 hO7 Z=> ?_⟩;have hF':CF w (fun k=>k=W2.heap.size) W S (W1.heap.size+1) W1.heap.size:=⟨I.lo,I.ne,I.nk,fun k U=>by rw [U];exact hr.lt.2⟩;have h7:=p.round hF' hO7 Z;simp [qpA,h7.bl.cell];refine qE5 (Db:=W1.heap.size) (by simp [gS,rg']) Z.col fun w8 z=> ?_;simp;rw [A];exact ⟨_,c.reverse,rfl,L01.Own.same h7.own fun k U=>z.block k (h7.ne k U).2.2.1,(List.reverse_perm c).nodup_iff.2 ab,fun k=>by rw [List.mem_reverse];exact ⟨hin k,O k⟩,z.ext h7.ext I.lo.2.2⟩
 ·have Y:k∈ps.map (·.1):=List.mem_map.2 ⟨_,hkp,rfl⟩;have E:(k::c).Nodup:=List.nodup_cons.2 ⟨hkv,ab⟩;have F:∀x∈k::c,x∈ps.map (·.1):=fun x X=>by
   rcases List.mem_cons.1 X with rfl|X
   ·exact Y
   ·exact hin x X
  have g:(k::c).length≤ps.length:=by
   have:=qgQ _ (ps.map (·.1)) E F;simpa using this
  have hlt4:=Q.lt;have sz4:=j.size;have lW1:=p.lp.lt;simp [qqX,q5];refine qto (R:=W2.heap.size) (B:=M) (by simpa using q5) Q ?_;simp [q0];have t:CJ w (fun k=>k=W2.heap.size) W4 S (W1.heap.size+1) W1.heap.size rec lv c.reverse W4:=
   ⟨j.ext p.ext (by omega),p.lp.keep (j.block _ (by omega)) (j.block _ (by omega)),j.blk p.bl (by omega),L01.Own.same p.own fun x X=>j.block x (p.ne x X).2.2.2,p.ne,fun _ _=>rfl,Nat.le_refl _⟩
  have s:CF w (fun k=>k=W2.heap.size) W4 S (W1.heap.size+1) W1.heap.size:=⟨I.lo,I.ne,I.nk,fun k U=>by rw [U];exact hlt4.2⟩;refine qiS (l:=W1.heap.size+1) (by simp) (by simp) ?_;simp;have key:Ql Tryz.prog (W1.heap.size+1) #[.string k] W4 fun e W'=>e= .returned (.bool true)∧∃lv',CJ w (fun k=>k=W2.heap.size) W4 S (W1.heap.size+1) W1.heap.size rec lv' (c.reverse++[k]) W':=by
   refine qcE t.lp K hag hrt hrp (by rfl) (by decide) (by rw [hra];exact hpA) (by rw [hrb];exact hpB) ?_;simp [QQ,qpC];refine ⟨t.lp,fun W5 hO5 hL5=> ?_⟩;have m:=t.round s hO5 hL5;simp [qpB,m.bl.cell];refine jN kP (by decide) (by decide) (by simp [Value.cells]) fun B9 W6 hB9 hE6 ac _=> ?_;simp [Value.cells] at ac;have V:=m.new s hE6;have hO9:Own w.heap.size 9 1 W6 (.slice (some ⟨B9,0,none⟩) 1 1) [.string k]:=Own.lit ac rfl (by have:=m.ext.size;omega) (by decide);simp;refine qtq qao V.ext.size (by simp) (by simp) V.own (L01.jM hO9) (by simp;rfl) (by simp at g⊢;omega) (by simp at g⊢;omega) fun lv' W7 ho7 hg7 hf7=> ?_;have C:=qas ho7;have hbl7:Blk W7 S #[lv] 51:=⟨(hg7.block S V.bl.lt (fun e=>(V.ne S e.symm).1 rfl)).trans V.bl.heap⟩;simp;refine qK (B:=S) (i:=0) (by simp) hbl7 (by simp) (by simpa using C.1) (by simpa using C.2) qvx fun W8 z hb8=> ?_;simp at hb8;have h8:=V.app (ys:=c.reverse++[k]) s (qz _) hg7 (by simpa [] using ho7) hf7 z hb8;simp [qbt];refine ⟨h8.lp,fun W9 hO9' hL9=> ?_⟩;exact ⟨lv',h8.round s hO9' (hL9.ready K H)⟩
  refine key.mono ?_;rintro _ W5 ⟨rfl,lv',m⟩;have hM5:W5.heap[M]? =W4.heap[M]? :=by
   have e1:=m.ext.block M lM;have e2:=t.ext.block M lM;rw [e1,e2]
  simp;refine ⟨n - 1,by simp at g;omega,(hJ _ _ _).2 ⟨by simp [q0],by simp [q5],k::c,some (k,v),lv',Q.block hM5 (m.kept _ rfl),E,F, ?_,by have:=m.size;omega,by simp at g⊢;omega⟩⟩;exact ⟨m.ext,m.lp,m.bl,by simpa using m.own,m.ne,fun _ _=>rfl,Nat.le_refl _⟩theorem bl_lt:∀(a b:Bs),Op.bytesLess a b=true↔a<b
 |[],[]=>by simp [Op.bytesLess]
 |[],_::_=>by simp [Op.bytesLess]
 |_::_,[]=>by simp [Op.bytesLess]
 |x::a,y::b=>by
  have ih:=bl_lt a b;simp only [Op.bytesLess,Bool.or_eq_true,Bool.and_eq_true,decide_eq_true_eq,beq_iff_eq,List.cons_lt_cons_iff,ih]
def yG (ks:List Bs):List Bs:=ks.mergeSort fun x y=>decide (x≤y)
theorem qkx (ks:List Bs):(yG ks).length=ks.length:=by simp [yG]
theorem qzK {ks:List Bs} {s:Bs}:s∈yG ks↔s∈ks:=List.mem_mergeSort
theorem qGs {ks:List Bs} (m:ks.Nodup):xW (yG ks):=by
 have g:∀a b:List UInt8,decide (a≤b)=true↔¬Op.bytesLess b a=true:=fun a b=>by rw [decide_eq_true_eq,bl_lt];exact Iff.rfl
 have n:=List.pairwise_mergeSort (le:=fun x y:List UInt8=>decide (x≤y)) (fun a b c j i=>by
  rw [g] at*;intro h;rcases qe6 b a with e|e|e
  ·exact j e
  ·subst e;exact i h
  ·exact i (qcu h e)) (fun a b=>by
  rw [Bool.or_eq_true,g,g];by_cases h:Op.bytesLess b a=true
  ·right;intro i;have:=qcu h i;rw [qcv] at this;cases this
  ·exact .inl h) ks
 have k:(ks.mergeSort fun x y=>decide (x≤y)).Nodup:=by
  rw [(List.mergeSort_perm _ _).nodup_iff];exact m
 unfold xW yG;refine (n.and k).imp fun {a b} h=> ?_;obtain ⟨j,i⟩:=h;rw [g] at j;rcases qe6 a b with e|e|e
 ·exact e
 ·exact absurd e i
 ·exact absurd e j
theorem qtf (b:Bs):encStr b=qe b:=rfl
theorem qyr {w:World} {base:Nat} {v:Value} {ks:List Bs} (O:Own base 9 1 w v (ks.map qe)) (u:base≤w.heap.size) (L:ks.length<4611686018427387904):
  Calls Tryz.prog 195 #[v] w fun e w'=>e= .returned (.tuple #[])∧Cells w' v 1 ((yG ks).map qe)∧Below base w w':=by
 rcases O with ⟨rfl,t⟩|⟨g,off,n,cap,cur,rfl,P,p,E,h,J,z,K⟩
 ·have:ks=[]:=by simpa using t
  subst this;refine (Any.slices_Sort_string_none Tryz.lays190 none 0 w).mono ?_;rintro _ _ ⟨rfl,rfl⟩;exact ⟨rfl,by simpa [yG] using yX _ _,Below.refl _ _⟩
 ·have a:n=ks.length:=by simp at E⊢;omega
  have A:=L01.jM (.inr ⟨g,off,n,cap,cur,rfl,P,p,E,h,J,z,K⟩:Own base 9 1 w _ (ks.map qe));have o:g<w.heap.size:=(Array.getElem?_eq_some_iff.1 p).1;have H:Sort.Holds encStr w g off ks.toArray:=by
   intro j Q;have c:j<ks.length:=by simpa using Q
   have:=A.cell j (by simpa using c);simp only [qD,vM] at this;refine ⟨?_,by simp [World.frozen?,p]⟩;rw [this];simp [c,qtf]
  have C:=Tryz.sort_some g off cap ks w H o L;rw [←a] at C;refine C.mono ?_;rintro _ _ ⟨rfl,m,os,rfl⟩;have F:(ks.mergeSort fun x y=>decide (x≤y)).length=n:=by simp [a]
  have b:(Sort.grow (Sort.putRow encStr (Sort.ahead w m) g off (ks.mergeSort fun x y=>decide (x≤y)).toArray) os).heap[g]? =some (.cells (Sort.putCells encStr off (ks.mergeSort fun x y=>decide (x≤y)).toArray cur) 9 (0,0)):=by
   rw [Sort.heap_grow_old _ _ (by simpa [Sort.putRow,Sort.mapBlock] using o)];simp [Sort.putRow,Sort.mapBlock,Sort.ahead,Array.getElem?_modify,p,Sort.onCells]
  refine ⟨rfl,⟨by simp [qo,h],by simp [qk,qkx,a],fun i B=> ?_⟩, ?_⟩
  ·rw [List.length_map,qkx] at B;have I:i<n:=by omega
   simp only [qD,vM,World.cell?,b];have s:off+i<cur.size:=by omega
   simp [Sort.putCells,s,B,yG,qtf]
  ·refine ⟨rfl,rfl,rfl,by simp [Sort.grow,Sort.putRow,Sort.mapBlock,Sort.ahead],fun k R=> ?_⟩;rw [Sort.heap_grow_old _ _ (by simp [Sort.putRow,Sort.mapBlock,Sort.ahead];omega)];have:g≠k:=by omega
   simp [Sort.putRow,Sort.mapBlock,Sort.ahead,Array.getElem?_modify,this]
theorem qyD {w:World} {M:Nat} {ps:List (ByteArray×Value)} (h:MapB w M ps) (b:ps.length≤100000000):
  Calls Tryz.prog 111 #[.map (some M)] w fun e w'=>∃Bm,e= .returned (.func (.func 196) #[] #[.pointer (some ⟨Bm,0,none⟩)])∧Blk w' Bm #[.map (some M)] 144∧qb w w':=by
 refine qEl fun ρ r0=> ?_;simp -implicitDefEqProofs [qsu,r0];refine vv fun B W g c a _=> ?_;simp [r0,Value.cells] at a;simp -implicitDefEqProofs;exact ⟨a,c⟩
theorem qyq {w:World} {Bm M:Nat} {ps:List (ByteArray×Value)} (B:Blk w Bm #[.map (some M)] 144) (A:MapB w M ps) (j:ps.length≤100000000):
  Calls Tryz.prog 110 #[.func (.func 196) #[] #[.pointer (some ⟨Bm,0,none⟩)]] w fun e w'=>∃x ss,e= .returned x∧Cells w' x 1 (ss.map qe)∧xW ss∧(∀s,s∈ss↔qc s∈ps.map (·.1))∧qb w w':=by
 refine qEn fun ρ r0=> ?_;simp -implicitDefEqProofs [qsv,r0];have i:Calls Tryz.prog 194 #[.func (.func 196) #[] #[.pointer (some ⟨Bm,0,none⟩)]] w (qfk w ps):=by
  obtain ⟨R0,g⟩:∃R0,R0=qfk w ps:=⟨_,rfl⟩;rw [←g];refine qC0 fun H E=> ?_;simp -implicitDefEqProofs [qqZ,E];refine (qvt B A j).mono ?_;rintro _ w' ⟨x,ks,rfl,o,n,m,p⟩;simp -implicitDefEqProofs;rw [g];exact ⟨x,ks,rfl,o,n,m,p⟩
 refine i.mono ?_;rintro _ J ⟨x,ks,rfl,o,n,m,p⟩;have z:ks.length≤100000000:=by
  have:=qgQ ks (ps.map (·.1)) n fun k u=>(m k).1 u;simp at this;omega
 have F:ks.map Value.string=(ks.map fun k=>k.data.toList).map qe:=by
  rw [List.map_map];exact List.map_congr_left fun k _=>by simp [qe,qdA]
 rw [F] at o;have t:(ks.map fun k=>k.data.toList).Nodup:=by
  rw [List.Nodup,List.pairwise_map];exact n.imp fun {a b} h e=>h (by rw [←qdA a,e,qdA])
 simp -implicitDefEqProofs;refine (qyr o p.size (by simp;omega)).mono ?_;rintro _ I ⟨rfl,C,v⟩;simp -implicitDefEqProofs;refine ⟨_,C,qGs t,fun s=> ?_,Below.trans p v⟩;have c:=m (qc s);simp at c;rw [qzK,←c,List.mem_map];constructor
 ·rintro ⟨k,y,rfl⟩;rw [qdA];exact y
 ·intro h;exact ⟨_,h,rfl⟩
@[simp] theorem qKE:qf Tryz.prog 109=true:=by kernel_rfl
@[simp] theorem qKi:qf Tryz.prog 193=true:=by kernel_rfl
structure UpW (b:Nat) (W W':World):Prop where
 size:W.heap.size≤W'.heap.size
 block:∀q,b≤q→q<W.heap.size→W'.heap[q]? =W.heap[q]?
theorem UpW.of {b:Nat} {W W':World} (h:qb W W'):UpW b W W':=⟨h.size,fun q _ a=>h.block q a⟩
theorem UpW.trans {b:Nat} {W W1 W2:World} (h:UpW b W W1) (c:UpW b W1 W2):UpW b W W2:=⟨Nat.le_trans h.size c.size,fun q a e=>(c.block q a (by have:=h.size;omega)).trans (h.block q a e)⟩
theorem qlW {w:World} (s:Bs):Calls Tryz.prog 109 #[.string (qc s)] w fun e w'=>∃B,e= .returned (.func (.func 193) #[] #[.pointer (some ⟨B,0,none⟩)])∧w.heap.size≤B∧Blk w' B #[.string (qc s)] 9∧qb w w':=by
 refine qEp fun ρ r0=> ?_;simp -implicitDefEqProofs [qsw,r0];refine vv fun B W b c a _=> ?_;simp [r0,Value.cells] at a;simp -implicitDefEqProofs;exact ⟨b,a,c⟩
theorem qmT {W0:World} {B l:Nat} {s:Bs} (hs:s.length<4611686018427387904) (J:Nat→World→Prop) (hG:L01.G W0) (hB:Blk W0 B #[.string (qc s)] 9) (hJ:∀k W W',J k W→qb W W'→J k W')
  (p:∀k W,J k W→jp (ql s).toks k=false→J (k+1) W)
  (hY:∀k (_:k<(ql s).toks.length) W,W0.heap.size≤W.heap.size→jp (ql s).toks k=true→J k W→Ql Tryz.prog l #[.string (qc (tk (ql s).toks k).text)] W fun e W'=>e= .returned (.bool true)∧J (k+1) W'∧UpW W0.heap.size W W') (h0:J 0 W0):
  Calls Tryz.prog 193 #[.func (.yield l) #[] #[], .pointer (some ⟨B,0,none⟩)] W0 fun e W'=>(∃v,e= .returned v)∧J (ql s).toks.length W':=by
 have e58:(⟨#[58]⟩:ByteArray)=qc [58]:=rfl;have e63:(⟨#[63]⟩:ByteArray)=qc [63]:=rfl;have cB:W0.cell? ⟨B,0,none⟩=some (.string (qc s)):=by rw [hB.cell];rfl
 refine qC3 fun ρ r0 r1=> ?_;simp -implicitDefEqProofs [qib,r1,cB];refine (L01.qfC hG s hs).mono ?_;rintro _ w1 ⟨tv,rfl,htv,hE1⟩;have hts:=(L01.QD s).1;simp -implicitDefEqProofs [L01.fV];refine qR L01.z31 fun F w2 hF hE2 hb2 _=> ?_;simp -implicitDefEqProofs;refine jl (B:=F) (by simp) hb2 (by simp [Value.cells]) (by simp [Value.cells]) (by simpa [Value.cells] using L01.x4) fun w3 hO3 hb3=> ?_;have hE3:qb w1 w3:=hO3.ext hE2 hF;have hE03:=hE1.trans' hE3;have P:=htv.ext hE3;have hj3:=hJ _ _ _ h0 hE03;generalize hLL:(ql s).toks=L at*;simp -implicitDefEqProofs;refine qgh ?_;have hT3:=SlK.own P (by omega);simp -implicitDefEqProofs [qq0,hT3.is,hT3.len];obtain ⟨I,hI⟩:∃I:Nat→qa→World→Prop,∀j K w',I j K w'↔(K 0= .func (.yield l) #[] #[]∧K 3=tv∧K 12=tv∧K 13= .int .i64 (L.length:Int)∧UpW W0.heap.size w3 w'∧J j w'):=⟨_,fun _ _ _=>Iff.rfl⟩;refine jj 14 L.length I (by simp) ((hI _ _ _).2 ⟨by simp [r0],by simp,by simp,by simp,UpW.of (qz _),hj3⟩) ?_;clear r0 r1;rintro j K w' hj V hIw;obtain ⟨r0,r3,u,n,hU,hjw⟩:=(hI _ _ _).1 hIw;have z:IntKind.i64.wrap ((j:Int)+1)=(j:Int)+1:=qp (by omega);have htv':Own W0.heap.size 53 3 w' tv (qB L):=L01.Own.same P fun k O=>by
  have h1:=P.blk k O;exact hU.block k h1.1 h1.2
 have hT':=SlK.own htv' (by omega);have hsz3:=hE03.size;by_cases Z:j<L.length
 ·have hlt':(j:Int)<(L.length:Int):=by omega
  obtain ⟨c0,c1,c2⟩:=hT'.cell j Z;have o:tk L j=L[j]:=zr Z;have hrow:Eng.jq w' (qD tv (j*3)) 0 3=some [.int .u8 (L[j].kind:Int), .string (qc L[j].text), .int .i64 L[j].line]:=by
   have:=yM (w:=w') (a:=qD tv (j*3)) (l:=[.int .u8 (L[j].kind:Int), .string (qc L[j].text), .int .i64 L[j].line]) (i:=0) fun q hq=>by
    rw [qcX,Nat.zero_add]
    match q,hq with
    |0,_=>exact c0
    |1,_=>exact c1
    |2,_=>exact c2
   exact this
  simp -implicitDefEqProofs [qh9,V,n,hlt',Z,qq1,u,hT'.is,hT'.len,hrow];refine qR z53 fun X w4 hX hE4 hb4 _=> ?_;simp -implicitDefEqProofs;refine jl (B:=X) (by simp) hb4 (by simp [Value.cells]) (by simp [Value.cells]) (by simpa [Value.cells] using Qy) fun w5 hO5 hb5=> ?_;simp [Value.cells] at hb5;have hE5:qb w' w5:=hO5.ext hE4 hX;have d0:w5.cell? ⟨X,0,none⟩=some (.int .u8 (L[j].kind:Int)):=by rw [hb5.cell];rfl
  have d1:w5.cell? ⟨X,1,none⟩=some (.string (qc L[j].text)):=by rw [hb5.cell];rfl
  have b:=SlK.own (htv'.ext hE5) (by omega);have Q:=hJ _ _ _ hjw hE5;have H:UpW W0.heap.size w3 w5:=hU.trans (UpW.of hE5);have hs5:W0.heap.size≤w5.heap.size:=by have:=H.size;omega
  have hwm:0<j→IntKind.i64.wrap ((j:Int) - 1)=((j - 1:Nat):Int):=fun h=>by rw [qp (by omega)];omega
  have next:∀(c:qa) (w2:World),c 0= .func (.yield l) #[] #[]→c 3=tv→c 12=tv→c 13= .int .i64 (L.length:Int)→c 14= .int .i64 (j:Int)→UpW W0.heap.size w3 w2→J (j+1) w2→qcb.wp ⟨Tryz.prog,56,Q6,[]⟩ (fun g R=>g 14= .int .i64 ((j:Int)+1)∧I (j+1) g R) ((qF [] fun e W'=>(∃v,e= .returned v)∧J L.length W').blk 0 (qw [] fun e W'=>(∃v,e= .returned v)∧J L.length W')) c w2:=by
   intro c w2 h0 h3 h12 h13 h14 hU2 hj2;simp -implicitDefEqProofs [qcb,h14,z];exact (hI _ _ _).2 ⟨by simp [h0],by simp [h3],by simp [h12],by simp [h13],hU2,hj2⟩
  have hkd:((L[j].kind:Int)==1)=decide (L[j].kind=1):=by rw [Bool.eq_iff_iff];simp;omega
  have hkn:((L[j].kind:Int) !=1)= !decide (L[j].kind=1):=by rw [bne,hkd]
  by_cases O:L[j].kind=1
  ·have x:((L[j].kind:Int) !=1)=false:=by rw [hkn];simp [O]
   have m:jp L j=true→∀c:qa,c 0= .func (.yield l) #[] #[]→c 3=tv→c 6= .pointer (some ⟨X,0,none⟩)→c 12=tv→c 13= .int .i64 (L.length:Int)→c 14= .int .i64 (j:Int)→
     qia.wp ⟨Tryz.prog,56,Q6,[]⟩ (qcb.wp ⟨Tryz.prog,56,Q6,[]⟩ (fun g R=>g 14= .int .i64 ((j:Int)+1)∧I (j+1) g R) ((qF [] fun e W'=>(∃v,e= .returned v)∧J L.length W').blk 0 (qw [] fun e W'=>(∃v,e= .returned v)∧J L.length W')))
      (((qF [] fun e W'=>(∃v,e= .returned v)∧J L.length W').blk 0 (qw [] fun e W'=>(∃v,e= .returned v)∧J L.length W')).blk 1 (qcb.wp ⟨Tryz.prog,56,Q6,[]⟩ (fun g R=>g 14= .int .i64 ((j:Int)+1)∧I (j+1) g R) ((qF [] fun e W'=>(∃v,e= .returned v)∧J L.length W').blk 0 (qw [] fun e W'=>(∃v,e= .returned v)∧J L.length W')))) c w5:=by
    intro y c h0 h3 h6 h12 h13 h14;simp -implicitDefEqProofs [qia,h0,h6,d1];refine qiS (l:=l) (by simp) (by simp) ?_;simp -implicitDefEqProofs;have hy:=hY j Z w5 hs5 y Q;rw [o] at hy;refine hy.mono ?_;rintro _ w6 ⟨rfl,hj6,hU6⟩;simp -implicitDefEqProofs;exact next _ _ (by simp [h0]) (by simp [h3]) (by simp [h12]) (by simp [h13]) (by simp [h14]) (H.trans hU6) hj6
   have tail:jp L j= !(decide (0<j)&&decide ((tk L (j - 1)).text=[63]))→∀b1:Bool,b1=false→True:=fun _ _ _=>trivial;by_cases E:j+1<L.length
   ·obtain ⟨_,c8,_⟩:=b.cell (j+1) E;have Y:tk L (j+1)=L[j+1]:=zr E;by_cases h8:L[j+1].text=[58]
    ·have y:jp L j=false:=by unfold jp;rw [o,Y];simp [O,E,h8]
     simp -implicitDefEqProofs [d0,x,r3,b.is,b.len,z,E,c8,e58,qJ,h8];exact next _ _ (by simp [r0]) (by simp [r3]) (by simp [u]) (by simp [n]) (by simp [V]) H (p _ _ Q y)
    by_cases A:0<j
    ·have t:j - 1<L.length:=by omega
     have C:((j - 1:Nat):Int)<(L.length:Int):=by omega
     obtain ⟨_,c9,_⟩:=b.cell (j - 1) t;have U:tk L (j - 1)=L[j - 1]:=zr t;by_cases h9:L[j - 1].text=[63]
     ·have y:jp L j=false:=by unfold jp;rw [o,Y,U];simp [O,E,h8,A,h9]
      simp -implicitDefEqProofs [d0,x,r3,b.is,b.len,z,E,c8,e58,e63,qJ,h8,A,hwm A,C,t,c9,h9];exact next _ _ (by simp [r0]) (by simp [r3]) (by simp [u]) (by simp [n]) (by simp [V]) H (p _ _ Q y)
     ·have y:jp L j=true:=by unfold jp;rw [o,Y,U];simp [O,E,h8,A,h9]
      simp -implicitDefEqProofs [d0,x,r3,b.is,b.len,z,E,c8,e58,e63,qJ,h8,A,hwm A,C,t,c9,h9];exact m y _ (by simp [r0]) (by simp [r3]) (by simp) (by simp [u]) (by simp [n]) (by simp [V])
    ·have y:jp L j=true:=by unfold jp;rw [o,Y];simp [O,E,h8,A]
     simp -implicitDefEqProofs [d0,x,r3,b.is,b.len,z,E,c8,e58,qJ,h8,A];exact m y _ (by simp [r0]) (by simp [r3]) (by simp) (by simp [u]) (by simp [n]) (by simp [V])
   ·by_cases A:0<j
    ·have t:j - 1<L.length:=by omega
     have C:((j - 1:Nat):Int)<(L.length:Int):=by omega
     obtain ⟨_,c9,_⟩:=b.cell (j - 1) t;have U:tk L (j - 1)=L[j - 1]:=zr t;by_cases h9:L[j - 1].text=[63]
     ·have y:jp L j=false:=by unfold jp;rw [o,U];simp [O,E,A,h9]
      simp -implicitDefEqProofs [d0,x,r3,b.is,b.len,z,E,e63,qJ,A,hwm A,C,t,c9,h9];exact next _ _ (by simp [r0]) (by simp [r3]) (by simp [u]) (by simp [n]) (by simp [V]) H (p _ _ Q y)
     ·have y:jp L j=true:=by unfold jp;rw [o,U];simp [O,E,A,h9]
      simp -implicitDefEqProofs [d0,x,r3,b.is,b.len,z,E,e63,qJ,A,hwm A,C,t,c9,h9];exact m y _ (by simp [r0]) (by simp [r3]) (by simp) (by simp [u]) (by simp [n]) (by simp [V])
    ·have y:jp L j=true:=by unfold jp;rw [o];simp [O,E,A]
     simp -implicitDefEqProofs [d0,x,r3,b.is,b.len,z,E,A];exact m y _ (by simp [r0]) (by simp [r3]) (by simp) (by simp [u]) (by simp [n]) (by simp [V])
  ·have x:((L[j].kind:Int) !=1)=true:=by rw [hkn];simp [O]
   have y:jp L j=false:=by unfold jp;rw [o];simp [O]
   simp -implicitDefEqProofs [d0,x];exact next _ _ (by simp [r0]) (by simp [r3]) (by simp [u]) (by simp [n]) (by simp [V]) H (p _ _ Q y)
 ·have hlt':¬(j:Int)<(L.length:Int):=by omega
  obtain rfl:j=L.length:=by omega
  simp -implicitDefEqProofs [qh9,V,n];exact hjw
theorem qkM (k:ByteArray) (v:Value):∀l:List (ByteArray×Value),(jB l k v).length≤l.length+1
 |[]=>by simp [jB]
 |p::l=>by
  have:=qkM k v l;unfold jB;split<;>simp<;>omega
theorem qms {k:ByteArray} {v:Value} {x:ByteArray×Value}:∀{l:List (ByteArray×Value)},x∈jB l k v→x=(k,v)∨x∈l
 |[],h=>by simp [jB] at h;exact .inl h
 |p::l,h=>by
  unfold jB at h;split at h
  ·rcases List.mem_cons.1 h with h|h
   ·exact .inl h
   ·exact .inr (by simp [h])
  ·rcases List.mem_cons.1 h with h|h
   ·exact .inr (by simp [h])
   ·rcases qms h with h|h
    ·exact .inl h
    ·exact .inr (by simp [h])
structure SetB (W:World) (B:Nat) (S:List ByteArray) (m:Nat):Prop where
 ex:∃ps,MapB W B ps∧((∀s,s∈S→jx ps s=some (.bool true))∧∀s,s∉S→jx ps s=none)∧ps.length≤m∧∀p∈ps,p.1.size≤maxLen
theorem SetB.block {W W':World} {B m:Nat} {S:List ByteArray} (h:SetB W B S m) (b:W'.heap[B]? =W.heap[B]?):SetB W' B S m:=by
 obtain ⟨ps,a,c⟩:=h.ex;exact ⟨ps,a.block b,c⟩
theorem SetB.lt {W:World} {B m:Nat} {S:List ByteArray} (h:SetB W B S m):B<W.heap.size:=by
 obtain ⟨ps,a,_⟩:=h.ex;exact a.lt
theorem SetB.ext {W W':World} {B m:Nat} {S:List ByteArray} (h:SetB W B S m) (a:qb W W'):SetB W' B S m:=h.block (a.block B h.lt)
theorem SetB.nil {W:World} {B:Nat} (h:MapB W B []):SetB W B [] 0:=⟨[],h,by simp,by simp,by simp⟩
theorem SetB.le {W:World} {B m a:Nat} {S:List ByteArray} (h:SetB W B S m) (i:m≤a):SetB W B S a:=by
 obtain ⟨ps,c,e,g,b⟩:=h.ex;exact ⟨ps,c,e,by omega,b⟩
theorem SetB.put {W':World} {B m:Nat} {S:List ByteArray} {ps:List (ByteArray×Value)} {s:ByteArray} (b:(∀s,s∈S→jx ps s=some (.bool true))∧∀s,s∉S→jx ps s=none) (n:ps.length≤m) (g:∀p∈ps,p.1.size≤maxLen)
  (i:s.size≤maxLen) (j:MapB W' B (jB ps s (.bool true))):SetB W' B (s::S) (m+1):=by
 refine ⟨_,j,⟨fun t a=> ?_,fun t a=> ?_⟩,by have:=qkM s (.bool true) ps;omega,fun p k=> ?_⟩
 ·rw [qax];by_cases h:s=t
  ·simp [h]
  ·have:¬t=s:=fun e=>h e.symm;simp only [h,if_false];exact b.1 t (by simpa [this] using a)
 ·rw [qax];have h:¬s=t:=by rintro rfl;exact a (by simp)
  simp only [h,if_false];exact b.2 t fun c=>a (by simp [c])
 ·rcases qms k with rfl|h
  ·exact i
  ·exact g p h
structure UpM (M:Nat) (W W':World):Prop where
 os:W'.os=W.os
 tape:W'.tape=W.tape
 output:W'.output=W.output
 size:W.heap.size≤W'.heap.size
 block:∀q,q<W.heap.size→q≠M→W'.heap[q]? =W.heap[q]?
theorem UpM.of {M:Nat} {W W':World} (h:qb W W'):UpM M W W':=⟨h.os,h.tape,h.output,h.size,fun q a _=>h.block q a⟩
theorem UpM.skip {M l:Nat} {W X Y:World} (h:UpM M W X) (a:Only l X Y) (e:W.heap.size≤l∨l=M):UpM M W Y:=
 ⟨a.os.trans h.os,a.tape.trans h.tape,a.output.trans h.output,by rw [a.size];exact h.size,fun q c b=>(a.block q (by omega)).trans (h.block q c b)⟩
theorem UpM.trans {M:Nat} {W W1 W2:World} (h:UpM M W W1) (a:UpM M W1 W2):UpM M W W2:=⟨a.os.trans h.os,a.tape.trans h.tape,a.output.trans h.output,Nat.le_trans h.size a.size,fun q c b=>(a.block q (by have:=h.size;omega) b).trans (h.block q c b)⟩
theorem UpM.ext {M:Nat} {w W W':World} (h:UpM M W W') (a:qb w W) (c:w.heap.size≤M):qb w W':=⟨h.os.trans a.os,h.tape.trans a.tape,h.output.trans a.output,Nat.le_trans a.size h.size,fun q b=>(h.block q (by have:=a.size;omega) (by omega)).trans (a.block q b)⟩
def qaJ (s x:Bs):Prop:=∃i,i<(ql s).toks.length∧jp (ql s).toks i=true∧(tk (ql s).toks i).text=x
theorem qkP (s:Bs):wt (ql s).toks:=by
 cases h:ql s with
 |ok e cs=>exact qfP (qeD h)
 |bad a b=>intro t c;cases c
theorem qaw {W:World} {M:Nat} {ps:List (ByteArray×Value)} (h:MapB W M ps) {cs:Array Value} {T:TypeId} (c:Blk W M cs T):False:=by
 obtain ⟨es,a,b,_⟩:=h.ex;rw [c.heap] at b;cases b
theorem quO {K:qa→World→Prop} {Q:Ks} {ρ:qa} {w W:World} {B P M m:Nat} {S:List ByteArray} {s:Bs} (h5:ρ 5= .pointer (some ⟨P,0,none⟩)) (hg:ρ 24= .func (.func 193) #[] #[.pointer (some ⟨B,0,none⟩)])
  (hE:qb w W) (hG:L01.G w) (hM:w.heap.size≤M) (Z:Blk W B #[.string (qc s)] 9) (O:Blk W P #[.map (some M)] 144) (I:SetB W M S m) (hs:s.length<4611686018427387904)
  (h:∀(W':World) (S':List ByteArray) (b:Nat),UpM M W W'→SetB W' M S' b→b≤m+20000→(∀x:Bs,qc x∈S'↔qc x∈S∨qaJ s x)→W.heap.size<W'.heap.size→W'.heap[W.heap.size]? =some (.deferred (some []))→K (qu ρ gS (xS (xM W.heap.size) (ρ gS))) W'):
  (IR.raw qb5).wp ⟨Tryz.prog,54,wl,z6⟩ K Q ρ W:=by
 obtain ⟨bA,bB,hrf,hpA,ab⟩:=qA5;rw [hrf];have lM:=I.lt;have lP:=O.lt;have lB:=Z.lt;have hMP:M≠P:=by
  rintro rfl;obtain ⟨ps,F,_⟩:=I.ex;exact qaw F O
 have hMB:M≠B:=by
  rintro rfl;obtain ⟨ps,F,_⟩:=I.ex;exact qaw F Z
 refine qgg (gf:=193) (lb:= #[.pointer (some ⟨B,0,none⟩)]) (by simp [z6]) (by simp [hg]) (by decide) (by simp) fun a rec W1 hag V hrp hra hrb E u n hsz1 hL1=> ?_;have hts:=(L01.QD s).1;have R:∀k,(tk (ql s).toks k).text.length≤20:=fun k=>by
  by_cases hk:k<(ql s).toks.length
  ·rw [zr hk];exact qkP _ _ (List.getElem_mem _)
  ·unfold tk;rw [List.getD_eq_getElem?_getD,List.getElem?_eq_none (by omega)];simp
 simp;refine (qmT (s:=s) hs (fun k X=>W1.heap.size≤X.heap.size∧UpM M W X∧LoopB X (W.heap.size+1) W.heap.size rec∧∃S' b,SetB X M S' b∧b≤m+k∧∀x:Bs,qc x∈S'↔qc x∈S∨∃i,i<k∧jp (ql s).toks i=true∧(tk (ql s).toks i).text=x)
  (hG.ext (hE.trans' n)) (Z.ext n) ?_ ?_ ?_ ?_).mono ?_
 ·rintro k X X' ⟨H,t,y,S',b,C,J,A⟩ L;exact ⟨Nat.le_trans H L.size,t.trans (UpM.of L),y.ext L,S',b,C.ext L,J,A⟩
 ·rintro k X ⟨H,t,y,S',b,C,J,A⟩ hn;refine ⟨H,t,y,S',b,C,by omega,fun x=> ?_⟩;rw [A x];constructor
  ·rintro (h|⟨i,F,o,p⟩)
   ·exact .inl h
   ·exact .inr ⟨i,by omega,o,p⟩
  ·rintro (h|⟨i,F,o,p⟩)
   ·exact .inl h
   ·by_cases e:i=k
    ·subst e;rw [hn] at o;cases o
    ·exact .inr ⟨i,by omega,o,p⟩
 ·rintro k hk X hX0 hn ⟨H,t,y,S',b,C,J,A⟩;refine qcE y E hag V hrp (by rfl) (by decide) (by rw [hra];exact hpA) (by rw [hrb];exact ab) ?_;simp [QQ,qou,qos];refine ⟨y,fun W2 g hL2=> ?_⟩;have hP2:Blk W2 P #[.map (some M)] 144:=⟨(g.block P (by omega)).trans ((t.block P lP (Ne.symm hMP)).trans O.heap)⟩;have hm2:SetB W2 M S' b:=C.block (g.block M (by omega));obtain ⟨ps,U,aa,Y,hp4⟩:=hm2.ex;simp [h5,hP2.cell];refine qaP (s:=qc (tk (ql s).toks k).text) (kt:=9) (et:=4) (by kernel_rfl) (by kernel_rfl) (by simp) (by simp) U fun W6 c hm6=> ?_;simp [qbt];have s2:=g.size;have s6:=c.size;refine ⟨hL2.keep (c.block _ (by omega)) (c.block _ (by omega)),fun W7 j hL7=> ?_⟩;have s7:=j.size;refine ⟨⟨by omega,((t.skip g (by omega)).skip c (by omega)).skip j (by omega),hL7.ready E u,_,b+1,SetB.block (SetB.put aa Y hp4 (show (qc (tk (ql s).toks k).text).size≤maxLen from Nat.le_trans (R k) (by decide)) (by simpa using hm6)) (j.block M (by omega)),by omega,fun x=> ?_⟩,⟨by omega,fun q hq hqx=> ?_⟩⟩
  ·rw [List.mem_cons,A x,qJ];constructor
   ·rintro (h|h|⟨i,F,o,p⟩)
    ·exact .inr ⟨k,by omega,hn,h.symm⟩
    ·exact .inl h
    ·exact .inr ⟨i,by omega,o,p⟩
   ·rintro (h|⟨i,F,o,p⟩)
    ·exact .inr (.inl h)
    ·by_cases e:i=k
     ·subst e;exact .inl p.symm
     ·exact .inr (.inr ⟨i,by omega,o,p⟩)
  ·rw [j.block q (by omega),c.block q (by omega),g.block q (by omega)]
 ·exact ⟨Nat.le_refl _,UpM.of n,hL1,S,m,I.ext n,by omega,fun x=>by simp⟩
 ·rintro e W3 ⟨⟨v,rfl⟩,H,t,y,S',b,C,J,A⟩;refine ⟨.ready,none,by simp,y.ready' E u,fun W4 z hL4=> ?_⟩;have s4:=z.size;refine h W4 S' b (t.skip z (by omega)) (C.block (z.block M (by omega))) (by omega) (fun x=>A x) (by omega) hL4.col
theorem quN {K:qa→World→Prop} {Q:Ks} {ρ:qa} {w W:World} {B P M m:Nat} {S:List ByteArray} {s:Bs} (h5:ρ 5= .pointer (some ⟨P,0,none⟩)) (hg:ρ 46= .func (.func 193) #[] #[.pointer (some ⟨B,0,none⟩)])
  (hE:qb w W) (hG:L01.G w) (hM:w.heap.size≤M) (Z:Blk W B #[.string (qc s)] 9) (O:Blk W P #[.map (some M)] 144) (I:SetB W M S m) (hs:s.length<4611686018427387904)
  (h:∀(W':World) (S':List ByteArray) (b:Nat),UpM M W W'→SetB W' M S' b→b≤m+20000→(∀x:Bs,qc x∈S'↔qc x∈S∨qaJ s x)→W.heap.size<W'.heap.size→W'.heap[W.heap.size]? =some (.deferred (some []))→K (qu ρ gS (xS (xM W.heap.size) (ρ gS))) W'):
  (IR.raw qb4).wp ⟨Tryz.prog,54,wl,z6⟩ K Q ρ W:=by
 obtain ⟨bA,bB,hrf,hpA,ab⟩:=qA4;rw [hrf];have lM:=I.lt;have lP:=O.lt;have lB:=Z.lt;have hMP:M≠P:=by
  rintro rfl;obtain ⟨ps,F,_⟩:=I.ex;exact qaw F O
 have hMB:M≠B:=by
  rintro rfl;obtain ⟨ps,F,_⟩:=I.ex;exact qaw F Z
 refine qgg (gf:=193) (lb:= #[.pointer (some ⟨B,0,none⟩)]) (by simp [z6]) (by simp [hg]) (by decide) (by simp) fun a rec W1 hag V hrp hra hrb E u n hsz1 hL1=> ?_;have hts:=(L01.QD s).1;have R:∀k,(tk (ql s).toks k).text.length≤20:=fun k=>by
  by_cases hk:k<(ql s).toks.length
  ·rw [zr hk];exact qkP _ _ (List.getElem_mem _)
  ·unfold tk;rw [List.getD_eq_getElem?_getD,List.getElem?_eq_none (by omega)];simp
 simp;refine (qmT (s:=s) hs (fun k X=>W1.heap.size≤X.heap.size∧UpM M W X∧LoopB X (W.heap.size+1) W.heap.size rec∧∃S' b,SetB X M S' b∧b≤m+k∧∀x:Bs,qc x∈S'↔qc x∈S∨∃i,i<k∧jp (ql s).toks i=true∧(tk (ql s).toks i).text=x)
  (hG.ext (hE.trans' n)) (Z.ext n) ?_ ?_ ?_ ?_).mono ?_
 ·rintro k X X' ⟨H,t,y,S',b,C,J,A⟩ L;exact ⟨Nat.le_trans H L.size,t.trans (UpM.of L),y.ext L,S',b,C.ext L,J,A⟩
 ·rintro k X ⟨H,t,y,S',b,C,J,A⟩ hn;refine ⟨H,t,y,S',b,C,by omega,fun x=> ?_⟩;rw [A x];constructor
  ·rintro (h|⟨i,F,o,p⟩)
   ·exact .inl h
   ·exact .inr ⟨i,by omega,o,p⟩
  ·rintro (h|⟨i,F,o,p⟩)
   ·exact .inl h
   ·by_cases e:i=k
    ·subst e;rw [hn] at o;cases o
    ·exact .inr ⟨i,by omega,o,p⟩
 ·rintro k hk X hX0 hn ⟨H,t,y,S',b,C,J,A⟩;refine qcE y E hag V hrp (by rfl) (by decide) (by rw [hra];exact hpA) (by rw [hrb];exact ab) ?_;simp [QQ,qot,qor];refine ⟨y,fun W2 g hL2=> ?_⟩;have hP2:Blk W2 P #[.map (some M)] 144:=⟨(g.block P (by omega)).trans ((t.block P lP (Ne.symm hMP)).trans O.heap)⟩;have hm2:SetB W2 M S' b:=C.block (g.block M (by omega));obtain ⟨ps,U,aa,Y,hp4⟩:=hm2.ex;simp [h5,hP2.cell];refine qaP (s:=qc (tk (ql s).toks k).text) (kt:=9) (et:=4) (by kernel_rfl) (by kernel_rfl) (by simp) (by simp) U fun W6 c hm6=> ?_;simp [qbt];have s2:=g.size;have s6:=c.size;refine ⟨hL2.keep (c.block _ (by omega)) (c.block _ (by omega)),fun W7 j hL7=> ?_⟩;have s7:=j.size;refine ⟨⟨by omega,((t.skip g (by omega)).skip c (by omega)).skip j (by omega),hL7.ready E u,_,b+1,SetB.block (SetB.put aa Y hp4 (show (qc (tk (ql s).toks k).text).size≤maxLen from Nat.le_trans (R k) (by decide)) (by simpa using hm6)) (j.block M (by omega)),by omega,fun x=> ?_⟩,⟨by omega,fun q hq hqx=> ?_⟩⟩
  ·rw [List.mem_cons,A x,qJ];constructor
   ·rintro (h|h|⟨i,F,o,p⟩)
    ·exact .inr ⟨k,by omega,hn,h.symm⟩
    ·exact .inl h
    ·exact .inr ⟨i,by omega,o,p⟩
   ·rintro (h|⟨i,F,o,p⟩)
    ·exact .inr (.inl h)
    ·by_cases e:i=k
     ·subst e;exact .inl p.symm
     ·exact .inr (.inr ⟨i,by omega,o,p⟩)
  ·rw [j.block q (by omega),c.block q (by omega),g.block q (by omega)]
 ·exact ⟨Nat.le_refl _,UpM.of n,hL1,S,m,I.ext n,by omega,fun x=>by simp⟩
 ·rintro e W3 ⟨⟨v,rfl⟩,H,t,y,S',b,C,J,A⟩;refine ⟨.ready,none,by simp,y.ready' E u,fun W4 z hL4=> ?_⟩;have s4:=z.size;refine h W4 S' b (t.skip z (by omega)) (C.block (z.block M (by omega))) (by omega) (fun x=>A x) (by omega) hL4.col
theorem qdB {s x:Bs} {l:List Bs}:x∈zG s l↔x∈l∨qaJ s x:=qmu _ _ _ _
theorem qgX {l:List Bs} {d:D} {x:Bs}:x∈vh l d↔x∈l∨(d.kind=5∧d.vr=[]∧x=d.name)∨(d.kind=5∧d.vr≠[]∧qaJ d.vr x)∨qaJ d.typ x:=by
 unfold vh;simp only;by_cases b:d.kind=5
 ·by_cases a:d.vr=[]
  ·simp only [b,a,and_self,if_true,qgV];rw [qdB,qmt];simp;constructor
   ·rintro ((h|h)|h)
    ·exact .inr (.inl h)
    ·exact .inl h
    ·exact .inr (.inr h)
   ·rintro (h|h|h)
    ·exact .inl (.inr h)
    ·exact .inl (.inl h)
    ·exact .inr h
  ·simp only [b,a,and_false,if_false,if_true];rw [qdB,qdB];simp;constructor
   ·rintro ((h|h)|h)
    ·exact .inl h
    ·exact .inr (.inl ⟨a,h⟩)
    ·exact .inr (.inr h)
   ·rintro (h|h|h)
    ·exact .inl (.inl h)
    ·exact .inl (.inr h.2)
    ·exact .inr h
 ·simp only [b,false_and,if_false];rw [qdB];simp
theorem qGr {l:List Bs} (h:xW l) (d:D):xW (vh l d):=by
 unfold vh;simp only;split<;>split<;>first|exact Qk _ (Qk _ (qjx h) _) _|exact Qk _ (qjx h) _|exact Qk _ (Qk _ h _) _|exact Qk _ h _
theorem que:∀(ds:List D) (l:List Bs),xW l→xW (ds.foldl vh l)
 |[],_,h=>h
 |d::ds,l,h=>que ds _ (qGr h d)
structure FrD (ds:List Nat) (w w':World):Prop where
 os:w'.os=w.os
 tape:w'.tape=w.tape
 output:w'.output=w.output
 size:w.heap.size≤w'.heap.size
 block:∀k,k<w.heap.size→k∉ds→w'.heap[k]? =w.heap[k]?
theorem qmB {P:Program} {rs:List RV} {R:Ending→World→Prop} {ρ:qa} {u:FrameMode} (g:u≠ .run):∀{ds:List Nat} {w:World},ds.Nodup→(∀d∈ds,w.heap[d]? =some (.deferred (some [])))→
  (∀w',FrD ds w w'→jP P rs R ρ [] u w')→jP P rs R ρ (ds.map fun d:Nat=>Value.int .i64 (d:Int)) u w
 |[],w,_,_,h=>h w ⟨rfl,rfl,rfl,Nat.le_refl _,fun _ _ _=>rfl⟩
 |d::ds,w,o,j,h=>by
  obtain ⟨n,p⟩:=List.nodup_cons.1 o;refine qdG g (j d (by simp)) fun t a=>qmB g p (fun x i=> ?_) fun m c=> ?_
  ·rw [a.block x (fun e=>n (e▸i))];exact j x (by simp [i])
  ·refine h m ⟨c.os.trans a.os,c.tape.trans a.tape,c.output.trans a.output,by have:=a.size;have:=c.size;omega,fun k s b=> ?_⟩;rw [List.mem_cons,not_or] at b;exact (c.block k (by have:=a.size;omega) b.2).trans (a.block k b.1)
theorem qE4 {P:Program} {rs:List RV} {R:Ending→World→Prop} {ρ:qa} {w:World} {ds:List Nat} (a:ρ gS= .tuple (ds.map fun d:Nat=>Value.int .i64 (d:Int)).toArray) (e:ds.Nodup) (b:∀d∈ds,w.heap[d]? =some (.deferred (some []))) (h:∀w',FrD ds w w'→qw rs R ρ w'):jD P rs R .returning ρ w:=by
 simp only [jD,a];exact qmB (by simp) e b fun w' c=>h w' c
theorem qFL {ds:List Nat} {w w':World} {v:Value} {sz:Nat} {xs:List Value} (a:Cells w v sz xs) (e:∀d∈ds,w.heap[d]? =some (.deferred (some []))) (g:FrD ds w w'):Cells w' v sz xs:=
 ⟨a.is,a.len,fun j k=>by
  have b:=a.cell j k;have i:=World.block_lt_of_cell? w _ b;refine (World.cell?_of_block (g.block _ i fun h=> ?_)).trans b;have c:=e _ h;simp [World.cell?,c] at b⟩
theorem quw:vG Tryz.prog 144=some #[.map none]:=by kernel_rfl
theorem qvD:jA Tryz.prog 144 1=true:=by kernel_rfl
section
variable {w:World} {lv:Value} {xs:List NV}
theorem qyW (hG:L01.G w) (hM:vY w) (hR:Rd w lv xs) (hok:z8 (xs.map (·.nd))):Calls Tryz.prog 48 #[lv] w fun e w'=>∃v,e= .returned (.tuple #[v, .int .i64 (wQ (jI (xs.map (·.nd))))])∧Cells w' v 1 ((if jI (xs.map (·.nd)) then kM (xs.map (·.nd)) else []).map qe)∧qb w w':=by
 have hl:=hR.len;have his:=hR.cells.is;generalize hRR:(fun (e:Ending) (w':World)=>∃v,e= .returned (.tuple #[v, .int .i64 (wQ (jI (xs.map (·.nd))))])∧Cells w' v 1 ((if jI (xs.map (·.nd)) then kM (xs.map (·.nd)) else []).map qe)∧qb w w')=R;refine qA7 fun ρ r0 rg=> ?_;simp -implicitDefEqProofs [qhs,r0];refine (qgE hG hM hR (hok.ds rfl) (hok.kl rfl)).mono ?_;rintro _ w1 ⟨rfl,hE⟩;cases hc:jI (xs.map (·.nd)) with
 |false=>
  simp -implicitDefEqProofs;refine qtd (by simp [rg]) ?_;simp -implicitDefEqProofs;rw [←hRR,hc];exact ⟨.slice none 0 0,rfl,yX _ _,hE⟩
 |true=>
  obtain ⟨t,ht,h400⟩:=Ji hc;have hlt0:xs.length=t.size:=by rw [←T.flat_len t 0,←ht,List.length_map]
  simp -implicitDefEqProofs [qoo];refine qeL fun M w2 hMb hE2 hm2 _=> ?_;simp -implicitDefEqProofs;refine qR quw fun P w3 hP hE3 hb3 _=> ?_;simp -implicitDefEqProofs;refine qK (B:=P) (i:=0) (by simp) hb3 (by simp) (by simp [Value.cells]) rfl qvD fun w4 hO4 hb4=> ?_;have hP4:Blk w4 P #[.map (some M)] 144:=xn hb4 (by simp);have hE4:qb w2 w4:=hO4.ext hE3 hP;have hE04:qb w w4:=(hE.trans' hE2).trans' hE4;have hm4:=SetB.nil (hm2.ext hE4);have ab:w.heap.size≤M:=by have:=hE.size;omega
  simp -implicitDefEqProofs [r0,his,hl];obtain ⟨I,hI⟩:∃I:Nat→qa→World→Prop,∀j u w',I j u w'↔(u 5= .pointer (some ⟨P,0,none⟩)∧u 16=lv∧u 17= .int .i64 (xs.length:Int)∧qb w w'∧Blk w' P #[.map (some M)] 144∧
   (∃ds:List Nat,u gS= .tuple (ds.map fun d:Nat=>Value.int .i64 (d:Int)).toArray∧ds.Nodup∧∀d∈ds,w.heap.size≤d∧w'.heap[d]? =some (.deferred (some [])))∧
   ∃S m,SetB w' M S m∧m≤j*40001∧∀x:Bs,qc x∈S↔x∈((xs.take j).map (·.nd.d)).foldl vh []):=⟨_,fun _ _ _=>Iff.rfl⟩
  refine jj 18 xs.length I (by simp) ((hI _ _ _).2 ⟨by simp,by simp,by simp,hE04,hP4,⟨[],by simp [rg],List.nodup_nil,by simp⟩,[],0,hm4,by simp,by simp⟩) ?_;clear r0 hm4 hP4 hb4;rintro j u w' hj rj hIw;obtain ⟨r5,r16,ac,aa,L,⟨ds,hds,hdn,C⟩,S,m,hS,hmj,hSx⟩:=(hI _ _ _).1 hIw;have hwj:IntKind.i64.wrap ((j:Int)+1)=(j:Int)+1:=qp (by omega);have notM:∀{W:World} {d:Nat} {S:List ByteArray} {m:Nat},SetB W M S m→W.heap[d]? =some (.deferred (some []))→d≠M:=fun hS hd e=>by
   obtain ⟨ps,h1,_⟩:=hS.ex;obtain ⟨es,clock,h2,_⟩:=h1.ex;rw [e,h2] at hd;cases hd
  have n:∀{W:World} {d:Nat},W.heap[d]? =some (.deferred (some []))→d<W.heap.size:=fun hd=>(Array.getElem?_eq_some_iff.1 hd).1;by_cases ag:j<xs.length
  ·have ad:(j:Int)<(xs.length:Int):=by omega
   have hrow:=(hR.ext aa).row ag;have hk:=(hR.ext aa).kids xs[j] (List.getElem_mem _);have hd:=hok.1 _ (List.mem_map_of_mem (List.getElem_mem ag));have htk:(xs.take (j+1)).map (·.nd.d)=(xs.take j).map (·.nd.d)++[xs[j].nd.d]:=by rw [List.take_succ_eq_append_getElem ag,List.map_append];rfl
   generalize hfold:((xs.take j).map (·.nd.d)).foldl vh []=U at hSx;have hm2:((xs.take (j+1)).map (·.nd.d)).foldl vh []=vh U xs[j].nd.d:=by rw [htk,List.foldl_append,hfold];rfl
   generalize xs[j]=x at hrow hk hd hm2;have hkc:=vl hk.is;have hko:=vU hk.is;simp -implicitDefEqProofs [qhp,rj,ac,ad,ag,qop,r16,his,hl,hrow];refine qR ww fun X w5 hX hE5 hb5 _=> ?_;simp -implicitDefEqProofs;refine jl (B:=X) (by simp) hb5 (by simp [Value.cells,qi,hkc]) (by simp [Value.cells,qi,hkc,hko]) (by simpa [Value.cells,qi,hkc] using wE) fun w6 hO6 hb6=> ?_;have hE6:qb w' w6:=hO6.ext hE5 hX;have Z:Blk w6 X (qi x).toArray 44:=by simpa [Value.cells,qi,hkc] using hb6
   have lX:=Z.lt;have cX:∀W:World,W.heap[X]? =w6.heap[X]? →W.cell? ⟨X,0,none⟩=some (.int .u8 (x.nd.d.kind:Int))∧W.cell? ⟨X,1,none⟩=some (.string (qc x.nd.d.name))∧W.cell? ⟨X,2,none⟩=some (.string (qc x.nd.d.vr))∧W.cell? ⟨X,3,none⟩=some (.string (qc x.nd.d.typ)):=fun W hW=>by
    have:Blk W X (qi x).toArray 44:=⟨hW.trans Z.heap⟩;refine ⟨?_, ?_, ?_, ?_⟩<;>(rw [this.cell];rfl)
   have hXM:X≠M:=fun e=>by
    obtain ⟨ps,h1,_⟩:=(hS.ext hE6).ex;exact qaw h1 (e▸Z)
   have hPM:P≠M:=fun e=>by
    obtain ⟨ps,h1,_⟩:=hS.ex;exact qaw h1 (e▸L)
   have hlv:x.nd.d.vr.length<4611686018427387904:=by have:=hd.vr;omega
   have hln:x.nd.d.name.length<4294967281:=hd.name;have hlt2:x.nd.d.typ.length<4611686018427387904:=by have:=hd.typ;omega
   have e0:(⟨#[]⟩:ByteArray)=qc []:=rfl;obtain ⟨c0,c1,c2,c3⟩:=cX w6 rfl;simp -implicitDefEqProofs [c3];refine (qlW x.nd.d.typ).mono ?_;rintro _ w7 ⟨B7,rfl,hB7,hbB7,hE7⟩;have b:=hE6.trans' hE7;simp -implicitDefEqProofs;refine quO (w:=w) (B:=B7) (P:=P) (M:=M) (S:=S) (m:=m) (s:=x.nd.d.typ) (by simp [r5]) (by simp) (aa.trans' b) hG ab hbB7 (L.ext b) (hS.ext b) hlt2 fun W8 S8 m8 hU8 E hm8 hSx8 hsz8 hD8=> ?_;have hE7':qb w w7:=aa.trans' b;have hE8:qb w W8:=hU8.ext hE7' ab;have lX7:X<w7.heap.size:=by have:=hE7.size;omega
   have lP7:P<w7.heap.size:=by have:=L.lt;have:=b.size;omega
   have hX8:W8.heap[X]? =w6.heap[X]? :=(hU8.block X lX7 hXM).trans (hE7.block X lX);have p:Blk W8 P #[.map (some M)] 144:=⟨(hU8.block P lP7 hPM).trans (L.ext b).heap⟩;have Q:∀d∈ds,w.heap.size≤d∧d<w7.heap.size∧W8.heap[d]? =some (.deferred (some [])):=fun d a=>by
    obtain ⟨h1,h2⟩:=C d a;have h3:=n h2;have h4:w7.heap[d]? =some (.deferred (some [])):=(b.block d h3).trans h2;have h5:=n h4;exact ⟨h1,h5,(hU8.block d h5 (notM (hS.ext b) h4)).trans h4⟩
   obtain ⟨k,J⟩:∃k,k=w7.heap.size::ds:=⟨_,rfl⟩;have V:k.Nodup:=by rw [J];exact List.nodup_cons.2 ⟨fun H=>by have:=(Q _ H).2.1;omega,hdn⟩
   have c:∀d∈k,w.heap.size≤d∧W8.heap[d]? =some (.deferred (some [])):=fun d a=>by
    rw [J] at a;rcases List.mem_cons.1 a with rfl|a
    ·exact ⟨hE7'.size,hD8⟩
    ·exact ⟨(Q d a).1,(Q d a).2.2⟩
   have Y:xS (xM w7.heap.size) (u gS)= .tuple (k.map fun d:Nat=>Value.int .i64 (d:Int)).toArray:=by rw [hds,J];rfl
   have ae:∀(z:qa) (W:World) (es:List Nat) (S':List ByteArray) (m':Nat),z 5= .pointer (some ⟨P,0,none⟩)→z 16=lv→z 17= .int .i64 (xs.length:Int)→z 18= .int .i64 (j:Int)→z gS= .tuple (es.map fun d:Nat=>Value.int .i64 (d:Int)).toArray→es.Nodup→(∀d∈es,w.heap.size≤d∧W.heap[d]? =some (.deferred (some [])))→qb w W→Blk W P #[.map (some M)] 144→SetB W M S' m'→m'≤(j+1)*40001→(∀y:Bs,qc y∈S'↔y∈vh U x.nd.d)→
     qhr.wp ⟨Tryz.prog,54,wl,z6⟩ (fun ρ'' w''=>ρ'' 18= .int .i64 ((j:Int)+1)∧I (j+1) ρ'' w'') ((vC Tryz.prog [.tmp 2, .tmp 3] R).blk 0 (qhq.wp ⟨Tryz.prog,54,wl,z6⟩ (jD Tryz.prog [.tmp 2, .tmp 3] R .returning) (vC Tryz.prog [.tmp 2, .tmp 3] R))) z W:=by
    intro z W es S' m' h5 h16 h17 h18 hgs hn hb hEW hPW hSW hm hSx';simp -implicitDefEqProofs [qhr,h18,hwj];refine (hI _ _ _).2 ⟨by simp [h5],by simp [h16],by simp [h17],hEW,hPW,⟨es,by simp [hgs],hn,hb⟩,S',m',hSW,hm,fun y=> ?_⟩;rw [hm2];exact hSx' y
   obtain ⟨c80,c81,c82,c83⟩:=cX W8 hX8;have hmt:∀y:Bs,qc y∈S8↔y∈U∨qaJ x.nd.d.typ y:=fun y=>by rw [hSx8 y,hSx y]
   by_cases O:x.nd.d.kind=5
   ·have A:((x.nd.d.kind:Int)==5)=true:=by rw [O];rfl
    by_cases hv:x.nd.d.vr=[]
    ·have hvd:decide (qc x.nd.d.vr=qc [])=true:=by rw [hv];simp
     have cP8:W8.cell? ⟨P,0,none⟩=some (.map (some M)):=by rw [p.cell];rfl
     obtain ⟨ps,af,hp2,hp3,hp4⟩:=E.ex;simp -implicitDefEqProofs [qd1,c80,c82,A,e0,hvd,r5,cP8,c81];refine qaP (s:=qc x.nd.d.name) (kt:=9) (et:=4) (by kernel_rfl) (by kernel_rfl) (by simp) (by simp) af fun W9 hO9 hm9=> ?_;simp -implicitDefEqProofs;have hU9:=(UpM.of (M:=M) (qz W8)).skip hO9 (.inr rfl);refine ae _ W9 k (qc x.nd.d.name::S8) (m8+1) (by simp [r5]) (by simp [r16]) (by simp [ac]) (by simp [rj]) (by simp [Y]) V (fun d a=>⟨(c d a).1,(hU9.block d (n (c d a).2) (notM E (c d a).2)).trans (c d a).2⟩) (hU9.ext hE8 ab) ⟨(hU9.block P p.lt hPM).trans p.heap⟩ (SetB.put hp2 hp3 hp4 (show (qc x.nd.d.name).size≤maxLen from Nat.le_trans (Nat.le_of_lt hln) (by decide)) (by simpa using hm9)) (by omega) fun y=> ?_;rw [List.mem_cons,qJ,hmt y,qgX];constructor
     ·rintro (h|h|h)
      ·exact .inr (.inl ⟨O,hv,h⟩)
      ·exact .inl h
      ·exact .inr (.inr (.inr h))
     ·rintro (h|h|h|h)
      ·exact .inr (.inl h)
      ·exact .inl h.2.2
      ·exact absurd hv h.2.1
      ·exact .inr (.inr h)
    ·have hvd:decide (qc x.nd.d.vr=qc [])=false:=by simpa [qJ] using hv
     simp -implicitDefEqProofs [qd1,c80,c82,A,e0,hvd];refine (qlW x.nd.d.vr).mono ?_;rintro _ W9 ⟨B9,rfl,hB9,hbB9,o⟩;simp -implicitDefEqProofs;refine quN (w:=w) (B:=B9) (P:=P) (M:=M) (S:=S8) (m:=m8) (s:=x.nd.d.vr) (by simp [r5]) (by simp) (hE8.trans' o) hG ab hbB9 (p.ext o) (E.ext o) hlv fun W10 S10 m10 F hS10 hm10 hSx10 hsz10 hD10=> ?_;simp -implicitDefEqProofs;have hE9':qb w W9:=hE8.trans' o;have hD9:∀d∈k,w.heap.size≤d∧d<W9.heap.size∧W10.heap[d]? =some (.deferred (some [])):=fun d a=>by
      obtain ⟨h1,h2⟩:=c d a;have h4:W9.heap[d]? =some (.deferred (some [])):=(o.block d (n h2)).trans h2;exact ⟨h1,n h4,(F.block d (n h4) (notM (E.ext o) h4)).trans h4⟩
     refine ae _ W10 (W9.heap.size::k) S10 m10 (by simp [r5]) (by simp [r16]) (by simp [ac]) (by simp [rj]) (by simp [Y]) (List.nodup_cons.2 ⟨fun H=>by have:=(hD9 _ H).2.1;omega,V⟩) (fun d a=> ?_) (F.ext hE9' ab) ⟨(F.block P (p.ext o).lt hPM).trans (p.ext o).heap⟩ hS10 (by omega) fun y=> ?_
     ·rcases List.mem_cons.1 a with rfl|a
      ·exact ⟨hE9'.size,hD10⟩
      ·exact ⟨(hD9 d a).1,(hD9 d a).2.2⟩
     ·rw [hSx10 y,hmt y,qgX];constructor
      ·rintro ((h|h)|h)
       ·exact .inl h
       ·exact .inr (.inr (.inr h))
       ·exact .inr (.inr (.inl ⟨O,hv,h⟩))
      ·rintro (h|h|h|h)
       ·exact .inl (.inl h)
       ·exact absurd h.2.1 hv
       ·exact .inr h.2.2
       ·exact .inl (.inr h)
   ·have A:((x.nd.d.kind:Int)==5)=false:=beq_false_of_ne (by omega);simp -implicitDefEqProofs [qd1,c80,A];refine ae _ W8 k S8 m8 (by simp [r5]) (by simp [r16]) (by simp [ac]) (by simp [rj]) (by simp [Y]) V c hE8 p E (by omega) fun y=> ?_;rw [hmt y,qgX];constructor
    ·rintro (h|h)
     ·exact .inl h
     ·exact .inr (.inr (.inr h))
    ·rintro (h|h|h|h)
     ·exact .inl h
     ·exact absurd h.1 O
     ·exact absurd h.1 O
     ·exact .inr h
  ·have ad:¬(j:Int)<(xs.length:Int):=by omega
   rw [List.take_of_length_le (by omega)] at hSx;have cP:w'.cell? ⟨P,0,none⟩=some (.map (some M)):=by rw [L.cell];rfl
   obtain ⟨ps,af,hp2,hp3,hp4⟩:=hS.ex;have hml:m≤400*40001:=by
    have:j≤400:=by omega
    exact Nat.le_trans hmj (Nat.mul_le_mul_right _ this)
   simp -implicitDefEqProofs [qhp,rj,ac,ad,qhq,r5,cP];refine (qyD af (by omega)).mono ?_;rintro _ w5 ⟨Bm,rfl,hBm,hE5⟩;simp -implicitDefEqProofs;refine (qyq hBm (af.ext hE5) (by omega)).mono ?_;rintro _ w6 ⟨v,ss,rfl,hv,hasc,hss,hE6⟩;have K:=hE5.trans' hE6;simp -implicitDefEqProofs;refine qE4 (ds:=ds) (by simp [hds]) hdn (fun d a=>(K.block d (n (C d a).2)).trans (C d a).2) fun W' hF=> ?_;have hb6:∀d∈ds,w6.heap[d]? =some (.deferred (some [])):=fun d a=>(K.block d (n (C d a).2)).trans (C d a).2;have g:qb w w6:=aa.trans' K;have heq:ss=kM (xs.map (·.nd)):=by
    refine quf hasc (que _ _ List.Pairwise.nil) fun y=> ?_;rw [hss y,qdC];have hy:=hSx y;rw [show kM (xs.map (·.nd))=(xs.map (·.nd.d)).foldl vh [] by unfold kM;rw [List.map_map];rfl,←hy];constructor
    ·intro h;apply Classical.byContradiction;intro hn;rw [hp2.2 _ hn] at h;cases h
    ·intro h;rw [hp2.1 _ h];rfl
   simp -implicitDefEqProofs;rw [←hRR,hc];refine ⟨v,rfl, ?_,⟨hF.os.trans g.os,hF.tape.trans g.tape,hF.output.trans g.output,Nat.le_trans g.size hF.size,fun q hq=> ?_⟩⟩
   ·rw [if_pos rfl,←heq];exact qFL hv hb6 hF
   ·rw [hF.block q (by have:=g.size;omega) (fun hm=>by have:=(C q hm).1;omega)];exact g.block q hq
end
structure RdT (w:World) (v:Value) (ts:List T) (vs:List Value):Prop where
 cells:Cells w v 1 vs
 len:vs.length=ts.length
 rd:∀j (h:j<ts.length),∃xs:List NV,Rd w (vs[j]'(by omega)) xs∧xs.map (·.nd)=ts[j].flat 0
theorem RdT.ext {w w':World} {v:Value} {a:List T} {vs:List Value} (h:RdT w v a vs) (b:qb w w'):RdT w' v a vs:=⟨h.cells.ext b,h.len,fun j g=>by obtain ⟨xs,c,e⟩:=h.rd j g;exact ⟨xs,c.ext b,e⟩⟩
section
variable {w:World}
end
def wr (b:Nat) (bv:Value) (bs:List NV) (W:World) (v:Value) (t:T):Prop:=∃ys,(OwnN b W v ys∨(v=bv∧ys=bs))∧ys.map (·.nd)=t.flat 0
theorem wr.ext {b:Nat} {bv:Value} {bs:List NV} {W W':World} {v:Value} {t:T} (h:wr b bv bs W v t) (c:qb W W'):wr b bv bs W' v t:=by
 obtain ⟨ys,a,e⟩:=h;exact ⟨ys,a.imp (fun h=>h.ext c) id,e⟩
theorem wr.kept {b c:Nat} {bv:Value} {bs:List NV} {W W':World} {v kv:Value} {t:T} {vs:List Value} (h:wr b bv bs W v t) (e:Own c 99 1 W kv vs) (a:W.grownBy W' kv.ownBlock):wr b bv bs W' v t:=by
 obtain ⟨ys,i,j⟩:=h;exact ⟨ys,i.imp (fun h=>⟨Own.kept h.own a (qat h.own e (by decide)),fun y g=>Own.kept (h.kid y g) a (qat (h.kid y g) e (by decide))⟩) id,j⟩
theorem wr.le {b c:Nat} {bv:Value} {bs:List NV} {W:World} {v:Value} {t:T} (h:wr c bv bs W v t) (a:b≤c):wr b bv bs W v t:=by
 obtain ⟨ys,e,g⟩:=h;exact ⟨ys,e.imp (fun h=>h.le a) id,g⟩
section
variable {w:World} {lv bv:Value} {xs bs:List NV}
theorem wr.rd {b:Nat} {W:World} {v:Value} {t:T} (h:wr b bv bs W v t) (e:Rd W bv bs):∃ys,Rd W v ys∧ys.map (·.nd)=t.flat 0:=by
 obtain ⟨ys,a,c⟩:=h;rcases a with a|⟨rfl,rfl⟩
 ·exact ⟨ys,a.rd,c⟩
 ·exact ⟨_,e,c⟩
end
@[simp] theorem qJA:qf Tryz.prog 20=true:=by kernel_rfl
section
variable {w:World} {av bv:Value} {xs ys:List NV}
theorem qmy {xs:List NV} {j:Nat} (h:j<xs.length):(xs.map (·.nd))[j]? =some xs[j].nd:=by simp [h]
theorem qyt (hA:Rd w av xs) (hB:Rd w bv ys) (hlen:xs.length<4611686018427387904) (hlb:ys.length<4611686018427387904) (hk:∀x∈xs,x.nd.kids.length<4611686018427387904) (hkb:∀x∈ys,x.nd.kids.length<4611686018427387904):
  Calls Tryz.prog 20 #[av,bv] w fun e w'=>e= .returned (.bool (decide (xs.map (·.nd)=ys.map (·.nd))))∧qb w w':=by
 have E:=hA.len;have t:=hB.len;have H:=hA.cells.is;have Q:=hB.cells.is;generalize hRR:(fun (e:Ending) (w':World)=>e= .returned (.bool (decide (xs.map (·.nd)=ys.map (·.nd))))∧qb w w')=R;refine qCU fun ρ r0 r1=> ?_;by_cases s:xs.length=ys.length
 ·simp -implicitDefEqProofs [qh8,r0,r1,H,Q,E,t,s,qqM];obtain ⟨I,hI⟩:∃I:Nat→qa→World→Prop,∀j a w',I j a w'↔(a 0=av∧a 1=bv∧qb w w'∧(xs.take j).map (·.nd)=(ys.take j).map (·.nd)):=⟨_,fun _ _ _=>Iff.rfl⟩;refine jj 5 ys.length I (by simp) ((hI _ _ _).2 ⟨by simp [r0],by simp [r1],qz _,by simp⟩) ?_;clear r0 r1;rintro j a w' hj rj hIw;obtain ⟨r0,r1,hE,U⟩:=(hI _ _ _).1 hIw;have hwj:IntKind.i64.wrap ((j:Int)+1)=(j:Int)+1:=qp (by omega);by_cases c:j<ys.length
  ·have k:(j:Int)<(ys.length:Int):=by omega
   have p:j<xs.length:=by omega
   have hA':=hA.ext hE;have hB':=hB.ext hE;have Z:=hA'.row p;have hrb:=fun (W:World) (hW:qb w' W)=>(hB'.ext hW).row c;have L:=hA.kids xs[j] (List.getElem_mem _);have kB:=hB.kids ys[j] (List.getElem_mem _);have lA:=hk xs[j] (List.getElem_mem _);have lB:=hkb ys[j] (List.getElem_mem _);have htx:xs.take (j+1)=xs.take j++[xs[j]]:=List.take_succ_eq_append_getElem p;have hty:ys.take (j+1)=ys.take j++[ys[j]]:=List.take_succ_eq_append_getElem c;have hno:xs[j].nd≠ys[j].nd→¬xs.map (·.nd)=ys.map (·.nd):=fun h e=>h (by
    have i:=qmy p;rw [e,qmy c] at i;exact (Option.some.inj i).symm)
   generalize xs[j]=x at Z L lA htx hno;generalize ys[j]=y at hrb kB lB hty hno;have v:=vl L.is;have hoa:=vU L.is;have z:=vl kB.is;have hob:=vU kB.is;have V:qk x.kv=x.nd.kids.length:=by simpa using L.len.symm
   have O:qk y.kv=y.nd.kids.length:=by simpa using kB.len.symm
   simp -implicitDefEqProofs [qh3,rj,r0,H,E,s,k,c,qqO,Z];refine qR ww fun X w3 hX hE3 hb3 _=> ?_;simp -implicitDefEqProofs;refine jl (B:=X) (by simp) hb3 (by simp [Value.cells,qi,v]) (by simp [Value.cells,qi,v,hoa]) (by simpa [Value.cells,qi,v] using wE) fun w4 hO4 hb4=> ?_;have hE4:qb w' w4:=hO4.ext hE3 hX;have hb4':Blk w4 X (qi x).toArray 44:=by simpa [Value.cells,qi,v] using hb4
   have hrb4:=hrb w4 hE4;simp -implicitDefEqProofs [rj,r1,Q,t,k,c,hrb4];refine qR ww fun Y w5 hY hE5 hb5 _=> ?_;simp -implicitDefEqProofs;refine jl (B:=Y) (by simp) hb5 (by simp [Value.cells,qi,z]) (by simp [Value.cells,qi,z,hob]) (by simpa [Value.cells,qi,z] using wE) fun w6 hO6 hb6=> ?_;have hb6':Blk w6 Y (qi y).toArray 44:=by simpa [Value.cells,qi,z] using hb6
   have hE6:qb w4 w6:=hO6.ext hE5 hY;have b:qb w w6:=hE.trans' (hE4.trans' hE6);have hbX:=hb4'.ext hE6;have cX:∀q,w6.cell? ⟨X,q,none⟩=(qi x)[q]? :=fun q=>by rw [hbX.cell];simp
   have cY:∀q,w6.cell? ⟨Y,q,none⟩=(qi y)[q]? :=fun q=>by rw [hb6'.cell];simp
   have wF:∀(W:World),qb w W→x.nd≠y.nd→R (.returned (.bool false)) W:=fun W hW h=>by
    rw [←hRR];exact ⟨by rw [decide_eq_false (hno h)],hW⟩
   simp -implicitDefEqProofs [-quE, -qfl,wa2,we2,cX,cY,qi,L.is,kB.is,V,O,qJ];rcases Classical.em (x.nd.d.kind=y.nd.d.kind) with i|i
   rotate_left
   ·simp -implicitDefEqProofs [i];exact wF _ b fun e=>i (by rw [e])
   rcases Classical.em (x.nd.d.name=y.nd.d.name) with u|u
   rotate_left
   ·simp -implicitDefEqProofs [i,u];exact wF _ b fun e=>u (by rw [e])
   rcases Classical.em (x.nd.d.vr=y.nd.d.vr) with F|F
   rotate_left
   ·simp -implicitDefEqProofs [i,u,F];exact wF _ b fun e=>F (by rw [e])
   rcases Classical.em (x.nd.d.typ=y.nd.d.typ) with K|K
   rotate_left
   ·simp -implicitDefEqProofs [i,u,F,K];exact wF _ b fun e=>K (by rw [e])
   rcases Classical.em (x.nd.d.n=y.nd.d.n) with P|P
   rotate_left
   ·simp -implicitDefEqProofs [i,u,F,K,P];exact wF _ b fun e=>P (by rw [e])
   rcases Classical.em (x.nd.kids.length=y.nd.kids.length) with h6|h6
   rotate_left
   ·simp -implicitDefEqProofs [i,u,F,K,P,h6];exact wF _ b fun e=>h6 (by rw [e])
   have h6':(x.nd.kids.length:Int)=(y.nd.kids.length:Int):=by omega
   simp -implicitDefEqProofs [i,u,F,K,P,h6,qqQ];clear hrb Z;obtain ⟨J,hJ⟩:∃J:Nat→qa→World→Prop,∀q a w',J q a w'↔(a 0=av∧a 1=bv∧a 5= .int .i64 (j:Int)∧a 6= .pointer (some ⟨X,0,none⟩)∧a 7= .pointer (some ⟨Y,0,none⟩)∧qb w6 w'∧x.nd.kids.take q=y.nd.kids.take q):=⟨_,fun _ _ _=>Iff.rfl⟩;refine jj 8 y.nd.kids.length J (by simp) ((hJ _ _ _).2 ⟨by simp [r0],by simp [r1],by simp [rj],by simp,by simp,qz _,by simp⟩) ?_;rintro q ρ2 w7 hq rq hJw;obtain ⟨s0,s1,s5,s6,s7,C,o⟩:=(hJ _ _ _).1 hJw;have hwq:IntKind.i64.wrap ((q:Int)+1)=(q:Int)+1:=qp (by omega);have g:=b.trans' C;have d5:w7.cell? ⟨X,5,none⟩=some x.kv:=C.cell (by rw [cX];rfl);have e5:w7.cell? ⟨Y,5,none⟩=some y.kv:=C.cell (by rw [cY];rfl);by_cases A:q<y.nd.kids.length
   ·have m:(q:Int)<(y.nd.kids.length:Int):=by omega
    have hqx:q<x.nd.kids.length:=by omega
    have ca:=(L.ext g).cell q (by simpa using hqx);have cb:=(kB.ext g).cell q (by simpa using A);simp only [List.getElem_map,encI] at ca cb;simp -implicitDefEqProofs [qh4,rq,s6,d5,L.is,V,h6,m,A,qqR,s7,e5,kB.is,O,ca,cb];intro w8 hE8;by_cases he:x.nd.kids[q]=y.nd.kids[q]
    ·simp -implicitDefEqProofs [he,qh5,qqS,rq,hwq];refine (hJ _ _ _).2 ⟨by simp [s0],by simp [s1],by simp [s5],by simp [s6],by simp [s7],C.trans' hE8, ?_⟩;rw [List.take_succ_eq_append_getElem hqx,List.take_succ_eq_append_getElem A,o,he]
    ·simp -implicitDefEqProofs [he,qh5];exact wF _ (g.trans' hE8) fun e=>he (by simp [e])
   ·have m:¬(q:Int)<(y.nd.kids.length:Int):=by omega
    rw [List.take_of_length_le (by omega),List.take_of_length_le (by omega)] at o;simp -implicitDefEqProofs [qh4,rq,s6,d5,L.is,V,h6,m,A,qqP,s5,hwj,c];refine (hI _ _ _).2 ⟨by simp [s0],by simp [s1],g, ?_⟩;rw [htx,hty,List.map_append,List.map_append,U];have:x.nd=y.nd:=by
     have hd:x.nd.d=y.nd.d:=by
      cases hx:x.nd.d;cases hy:y.nd.d;simp only [hx,hy] at i u F K P;subst i u F K P;rfl
     cases hx:x.nd;cases hy:y.nd;rw [hx,hy] at hd o;simp only at hd o;rw [hd,o]
    simp [this]
  ·have k:¬(j:Int)<(ys.length:Int):=by omega
   rw [List.take_of_length_le (by omega),List.take_of_length_le (by omega)] at U;simp -implicitDefEqProofs [qh3,rj,r0,H,E,s,k,c,qqN];rw [←hRR];exact ⟨by rw [decide_eq_true U],hE⟩
 ·simp -implicitDefEqProofs [qh8,r0,r1,H,Q,E,t,s];rw [←hRR];refine ⟨?_,qz _⟩;rw [decide_eq_false];intro e;exact s (by have:=congrArg List.length e;simpa using this)
end
end Go.L02
