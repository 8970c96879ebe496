/- Lemmas for a claim about layer 2 (tree). No conditions but those they state. -/
import Derived.Test.YtbcmiempigoooaaGreatDoorNao
import Derived.Lib.AtoiAll
import Derived.Lib.ItoaNum
import Derived.Test.YtbcmiempigoooaaGreatDoorProg
import Derived.KernelRfl
set_option linter.all false
namespace Go.L01
open Go.Eng Go.Lib
def zj (a:Nat) (l:Bs):Nat:=l.foldl (fun a c=>a*10+(c.toNat - 48)) a
theorem qcI (a:Nat) (c:UInt8) (l:Bs):zj a (c::l)=zj (a*10+(c.toNat - 48)) l:=by unfold zj;rw [List.foldl_cons]
theorem qfp:∀(l:Bs) (a:Nat),a≤zj a l
 |[],a=>Nat.le_refl _
 |c::l,a=>by rw [qcI];have:=qfp l (a*10+(c.toNat - 48));omega
theorem qjO:∀(l:Bs) (a:Nat),(∀c∈l,qO c=true)→zj a l<(a+1)*10^l.length
 |[],a,_=>by simp [zj]
 |c::l,a,h=>by
  have b:=h c (by simp);simp [qO] at b;rw [qcI];have:=qjO l (a*10+(c.toNat - 48)) fun x e=>h x (by simp [e]);refine Nat.lt_of_lt_of_le this ?_;rw [List.length_cons,Nat.pow_succ,Nat.mul_comm (10^l.length) 10,←Nat.mul_assoc];exact Nat.mul_le_mul_right _ (by omega)
theorem quM (a:Nat) (l:Bs) (c:UInt8):zj a (l++[c])=zj a l*10+(c.toNat - 48):=by simp [zj]
theorem qlU:∀(l:Bs) (a:Nat),(∀c∈l,qO c=true)→zj a l<10000000000→parseUint10 a l= .ok (zj a l)
 |[],a,_,_=>rfl
 |c::l,a,h,e=>by
  have b:=h c (by simp);simp [qO] at b;rw [qcI] at e⊢;have o:=qfp l (a*10+(c.toNat - 48));rw [parseUint10,if_pos b,if_neg (by omega),if_neg (by omega)];exact qlU l _ (fun x t=>h x (by simp [t])) e
theorem qmb {c:UInt8} (h:qO c=true):UInt8.ofNat (48+(c.toNat - 48))=c:=by
 simp [qO] at h;have:48+(c.toNat - 48)=c.toNat:=by omega
 rw [this];simp
theorem qtA:∀(n:Nat) (l:Bs),l.length=n→l≠[]→(∀c∈l,qO c=true)→(l.length=1∨l.getD 0 0≠48)→decDigits (zj 0 l)=l:=by
 intro n
 induction n with
 |zero=>intro l o E;exact absurd (List.length_eq_zero_iff.1 o) E
 |succ n W=>
  intro l o E F U;rcases List.eq_nil_or_concat l with rfl|⟨t,c,rfl⟩
  ·exact absurd rfl E
  rw [List.concat_eq_append] at*;have u:qO c=true:=F c (by simp);rw [quM];have z:=u;simp [qO] at z;by_cases H:t=[]
  ·subst H;simp only [zj,List.foldl_nil,List.nil_append];rw [decDigits,dif_pos (by omega),Nat.zero_mul,Nat.zero_add,qmb u]
  ·obtain ⟨a,b,rfl⟩:∃a b,t=a::b:=by cases t with|nil=>exact absurd rfl H|cons a b=>exact ⟨a,b,rfl⟩
   have J:a≠48:=by
    rcases U with h|h
    ·simp at h
    ·simpa using h
   have y:=F a (by simp);simp [qO] at y;have Z:a.toNat≠48:=fun e=>J (UInt8.toNat_inj.1 e);have hv:1≤zj 0 (a::b):=by
    rw [qcI];have:=qfp b (0*10+(a.toNat - 48));omega
   have S:=W (a::b) (by simp at o⊢;omega) (by simp) (fun x I=>F x (by simp at I⊢;rcases I with h|h<;>simp [h])) (.inr (by simpa using J));rw [decDigits,dif_neg (by omega)];have Y:(zj 0 (a::b)*10+(c.toNat - 48)) / 10=zj 0 (a::b):=by omega
   have V:(zj 0 (a::b)*10+(c.toNat - 48))%10=c.toNat - 48:=by omega
   rw [Y,V,S,qmb u]
theorem qFr (u:Nat):∀c∈decDigits u,qO c=true:=by
 induction u using Nat.strongRecOn with
 |_ u b=>
  have one:∀d,d<10→qO (UInt8.ofNat (48+d))=true:=by decide
  rw [decDigits];split
  ·intro c a;rw [List.mem_singleton] at a;subst a;exact one u (by omega)
  ·intro c a;simp only [List.mem_append,List.mem_singleton] at a;rcases a with a|a
   ·exact b (u / 10) (by omega) c a
   ·subst a;exact one _ (by omega)
theorem qFq (u:Nat) (h:0<u):decDigits u≠[]∧(decDigits u).getD 0 0≠48:=by
 induction u using Nat.strongRecOn with
 |_ u y=>
  have one:∀d,0<d→d<10→UInt8.ofNat (48+d)≠48:=by
   intro d e b
   match d,e,b with
   |1,_,_|2,_,_|3,_,_|4,_,_|5,_,_|6,_,_|7,_,_|8,_,_|9,_,_=>decide
  rw [decDigits];split
  ·rename_i c;exact ⟨by simp,one u h c⟩
  ·obtain ⟨e,b⟩:=y (u / 10) (by omega) (by omega);cases o:decDigits (u / 10) with
   |nil=>exact absurd o e
   |cons a t=>
    rw [o] at b;exact ⟨by simp,by simpa using b⟩
theorem qtB (u:Nat):(decDigits u).length=nDigits u:=by rw [decDigits_eq];simp
theorem qFp {u:Nat} (h:u≤1000000000):(decDigits u).length≤10∧((decDigits u).length<10∨u=1000000000):=by
 rw [qtB];have y:=nDigits_pos u;by_cases t:u=1000000000
 ·have:nDigits u=9+1:=nDigits_unique 9 u (by omega) (by omega);omega
 ·have:nDigits u<10:=by
   rcases Nat.lt_or_ge (nDigits u) 10 with c|c
   ·exact c
   ·exfalso;have key:∀(n u:Nat),nDigits u=n+1→(n=0∨10^n≤u):=by
     intro n
     induction n with
     |zero=>intro u _;exact .inl rfl
     |succ n o=>
      intro u e;right;have a:¬u<10:=fun h=>by rw [nDigits_small h] at e;omega
      rw [nDigits_big a] at e;rcases o (u / 10) (by omega) with b|b
      ·subst b;simpa using a
      ·rw [Nat.pow_succ];omega
    rcases key (nDigits u - 1) u (by omega) with b|b
    ·omega
    ·have:(10:Nat)^9≤10^(nDigits u - 1):=Nat.pow_le_pow_right (by decide) (by omega);omega
  omega
theorem qty {s:Bs}:jO s=s.length↔∀c∈s,qO c=true:=by
 unfold jO;constructor
 ·intro h c a;have b:s.takeWhile qO=s:=(List.takeWhile_prefix qO).eq_of_length h;have e:c∈s.takeWhile qO:=by rw [b];exact a
  exact List.all_eq_true.1 (List.all_takeWhile (p:=qO) (l:=s)) c e
 ·intro h;have:s.takeWhile qO=s:=by
   have:=List.takeWhile_append_of_pos (p:=qO) (l₁:=s) (l₂:=[]) h;simpa using this
  rw [this]
def qbS (s:Bs):Bool:=match atoiAll s with
 | .ok v=>decide (0≤v)&&decide (v≤1000000000)&&decide (itoa v=s)
 |_=>false
theorem qzE:decDigits 1000000000=most:=by
 have:zj 0 most=1000000000:=by decide
 rw [←this];exact qtA 10 most rfl (by decide) (by decide) (.inr (by decide))
theorem qmh (s:Bs):qbS s=jz s:=by
 rw [Bool.eq_iff_iff];constructor
 ·intro h;unfold qbS at h;split at h
  ·rename_i v Y;simp only [Bool.and_eq_true,decide_eq_true_eq] at h;obtain ⟨⟨J,y⟩,b⟩:=h;rw [itoa,if_neg (by omega)] at b;have z:=qFr v.toNat;have H:=qFp (u:=v.toNat) (by omega);rw [b] at z H;have I:0<s.length:=by rw [←b,qtB];exact nDigits_pos _
   have S:=qty.2 z;have F:1<s.length→s.getD 0 0≠48:=by
    intro y;rw [←b];refine (qFq v.toNat ?_).2;rcases Nat.eq_zero_or_pos v.toNat with h|h
    ·rw [←b,h,decDigits] at y;simp at y
    ·exact h
   have E:s.length<10∨s=most:=by
    rcases H.2 with h|h
    ·exact .inl h
    ·right;rw [←b,h,qzE]
   unfold jz;simp only [Bool.and_eq_true,Bool.not_eq_true',Bool.or_eq_false_iff,Bool.and_eq_false_iff,decide_eq_false_iff_not,Bool.or_eq_true,decide_eq_true_eq];exact ⟨⟨⟨⟨by omega,by omega⟩,by omega⟩,(Nat.lt_or_ge 1 s.length).elim (fun h=> .inr (F h)) fun h=> .inl (by omega)⟩,E⟩
  ·cases h
 ·intro h;unfold jz at h;simp only [Bool.and_eq_true,Bool.not_eq_true',Bool.or_eq_false_iff,Bool.and_eq_false_iff,decide_eq_false_iff_not,Bool.or_eq_true,decide_eq_true_eq] at h;obtain ⟨⟨⟨⟨J,W⟩,z⟩,F⟩,E⟩:=h;have a:=qty.1 (Decidable.of_not_not z);have Y:zj 0 s≤1000000000:=by
   rcases E with h|h
   ·have y:=qjO s 0 a;have b:(10:Nat)^s.length≤10^9:=Nat.pow_le_pow_right (by decide) (by omega);omega
   ·rw [h];decide
  have o:s≠[]:=fun e=>J (by rw [e];rfl);have t:=qtA s.length s rfl o a (by
   rcases F with h|h
   ·left;omega
   ·exact .inr h)
  obtain ⟨c,r,rfl⟩:∃c r,s=c::r:=by cases s with|nil=>exact absurd rfl o|cons c r=>exact ⟨c,r,rfl⟩
  have U:=a c (by simp);simp [qO] at U;have V:atoiAll (c::r)= .ok (zj 0 (c::r):Int):=by
   unfold atoiAll;simp only [];rw [if_neg (by omega),parseMag,if_neg (by simp),qlU _ 0 a (by omega)];simp only [];rw [if_neg (by omega),if_neg (by omega),if_neg (by omega)]
  unfold qbS;rw [V];simp only [Bool.and_eq_true,decide_eq_true_eq];refine ⟨⟨by omega,by omega⟩, ?_⟩;rw [itoa,if_neg (by omega)];exact t
end Go.L01
namespace Go.L01
open Go Go.Eng Go.Proofs Go.RowKit
set_option maxRecDepth 100000
set_option maxHeartbeats 2000000
theorem qvb (l:List Bs) (k:Nat) (h:k<l.length) (s:Bs):(l.take (k+1)).contains s=((l.take k).contains s||decide (l[k]=s)):=by
 rw [List.take_add_one,List.getElem?_eq_getElem h,Bool.eq_iff_iff];simp only [Option.toList_some,List.contains_eq_mem,List.mem_append,List.mem_singleton,decide_eq_true_eq,Bool.or_eq_true];exact or_congr Iff.rfl ⟨fun h=>h.symm,fun h=>h.symm⟩
theorem qvm {w:World} (hG:G w):Calls Tryz.prog 233 #[] w fun e w'=>∃B ps,e= .returned (.map (some B))∧qb w w'∧MapB w' B ps∧∀s,jx ps (qc s)=if jV s then some (.bool true) else none:=by
 refine qCq fun ρ=> ?_;simp [qqf];refine qeL fun B W hB hE hm hsz=> ?_;simp;refine (qvi (hG.ext hE)).mono ?_;rintro _ W2 ⟨v,rfl,hO,c⟩;have hl:=Own.sl (enc:=qe) (xs:=vO) hO (by decide);simp [hl.is,hl.len];refine jj 7 46 (fun k b w'=>qb w w'∧B<w'.heap.size∧b 1= .map (some B)∧b 5=v∧b 6= .int .i64 46∧Own W.heap.size 9 1 w' v (vO.map qe)∧∃ps,MapB w' B ps∧∀s,jx ps (qc s)=if (vO.take k).contains s then some (.bool true) else none)
  (by simp) ⟨hE.trans' c,by have:=c.size;omega,by simp,by simp,by simp [quH],hO,[],hm.ext c,by simp⟩ ?_
 rintro k b w' hk V ⟨J,ab,U,h5,Y,E,ps,F,o⟩;have t:=Own.sl (enc:=qe) (xs:=vO) E (by decide);by_cases I:k<46
 ·have a:k<vO.length:=I;have z:(k:Int)<46:=by omega
  simp [z,qhY,qqd,U,h5,Y,V,I,t.is,t.len,a,t.cell k a,qe];refine qaP (s:=qc vO[k]) (kt:=9) (et:=4) (by kernel_rfl) (by kernel_rfl) (by simp) (by simp) F fun W6 u H=> ?_;simp at H;simp [qqe,U,h5,Y,V,qp (n:=(k:Int)+1) (by omega)];refine ⟨u.ext J hB,by rw [u.size];exact ab,by simpa [qe] using E.only u (by omega),_,H,fun s=> ?_⟩;have Z:=qvb vO k a s;simp only [List.contains_eq_mem] at Z o;rw [qax,o];by_cases S:vO[k]=s
  ·simp [S];have:s∈List.take (k+1) vO:=by simpa [S] using Z
   exact this
  ·have:¬qc vO[k]=qc s:=fun h=>S (qJ.1 h);simp [this];have y:(s∈List.take (k+1) vO)↔s∈List.take k vO:=by simpa [S] using Z
   simp [y]
 ·have aa:k=46:=by omega
  subst aa;simp [qhY,Y,V,qqc,U];exact ⟨J,ps,F,o⟩
@[simp] theorem qKe:qf Tryz.prog 229=true:=by kernel_rfl
@[simp] theorem qFU:qf Tryz.prog 160=true:=by kernel_rfl
@[simp] theorem qKq:qf Tryz.prog 165=true:=by kernel_rfl
@[simp] theorem qKd:qf Tryz.prog 231=true:=by kernel_rfl
@[simp] theorem qKr:qf Tryz.prog 163=true:=by kernel_rfl
@[simp] theorem qKn:qf Tryz.prog 168=true:=by kernel_rfl
@[simp] theorem qJL:qf Tryz.prog 77=true:=by kernel_rfl
@[simp] theorem qJK:qf Tryz.prog 79=true:=by kernel_rfl
@[simp] theorem qJT:qf Tryz.prog 309=true:=by kernel_rfl
@[simp] theorem qJ6:qf Tryz.prog 245=true:=by kernel_rfl
@[simp] theorem qJ7:qf Tryz.prog 244=true:=by kernel_rfl
@[simp] theorem qFR:qf Tryz.prog 273=true:=by kernel_rfl
@[simp] theorem qKl:qf Tryz.prog 171=true:=by kernel_rfl
theorem qke {w:World} (o:G w) (s:Bs):Calls Tryz.prog 166 #[.string (qc s)] w fun e w'=>e= .returned (.bool (jV s))∧qb w w':=by
 refine qDi fun ρ b=> ?_;simp [qrl];refine (qvm o).mono ?_;rintro _ w1 ⟨B,ps,rfl,c,h,a⟩;simp [b];refine qiV (s:=qc s) (kt:=9) (et:=4) (z:= .bool false) (by kernel_rfl) (by kernel_rfl) (by kernel_rfl) (by simp) (by simp) h false ?_;simp [a];cases t:jV s<;>simp [c]
theorem qls {w:World} (s:Bs):Calls Tryz.prog 169 #[.string (qc s)] w fun e w'=>e= .returned (.bool (jV s))∧qb w w':=by
 refine qDc fun ρ b=> ?_;simp [qri];refine qxG.mono ?_;rintro _ w1 ⟨v,rfl,a⟩;simp [b];refine (qgk s (a.sl (by decide))).mono ?_;rintro _ w2 ⟨rfl,rfl⟩;simp;exact ⟨by rw [jV,List.contains_eq_mem],a.2⟩
theorem qwj {w:World} {v:Value} {l:List Bs} (s:Bs) (o:qS w v l):Calls Tryz.prog 229 #[v, .string (qc s)] w fun e w'=>∃n:Int,e= .returned (.int .i64 n)∧(0≤n↔l.contains s=true)∧w'=w:=by
 have S:=o.bd;refine qqn fun ρ u z=> ?_;simp [qei,u,o.is,o.len];refine jj 8 l.length (fun k a w'=>w'=w∧a 0=v∧a 1= .string (qc s)∧a 7= .int .i64 l.length∧∀j (y:j<l.length),j<k→l[j]≠s) (by simp) ⟨rfl,by simp [u],by simp [z],by simp,by simp⟩ ?_;rintro k a w' V F ⟨rfl,u,z,E,b⟩;by_cases t:k<l.length
 ·simp [qca,qeg,F,E,u,z,o.is,o.len,t,o.cell k t,qe,qJ];by_cases H:l[k]=s
  ·have c:s=l[k]:=H.symm;simp [c]
  ·have c:¬s=l[k]:=fun h=>H h.symm;simp [c,qeh,F,qp (n:=(k:Int)+1) (by omega),u,z,E];intro j y U;by_cases e:j=k
   ·subst e;exact H
   ·exact b j y (by omega)
 ·have I:k=l.length:=by omega
  subst I;simp [qca,F,E,qef];intro J;obtain ⟨j,y,rfl⟩:=List.getElem_of_mem J;exact b j y y rfl
theorem qfW {w:World} {v:Value} {l:List Bs} (s:Bs) (h:qS w v l):Calls Tryz.prog 160 #[v, .string (qc s)] w fun e w'=>e= .returned (.bool (l.contains s))∧w'=w:=by
 refine qrq fun ρ a b=> ?_;simp [qep,a,b];refine (qwj s h).mono ?_;rintro _ _ ⟨n,rfl,c,rfl⟩;simp;simpa using c
theorem qu0 (c:UInt8):IntKind.u8.wrap (c.toNat:Int)=c.toNat:=by
 have a:=c.toNat_lt;exact u8w (by omega)
theorem qvp (c:UInt8) (w:World):Calls Tryz.prog 164 #[.int .i32 (c.toNat:Int)] w fun e w'=>e= .returned (.bool (!part c))∧w'=w:=by
 refine qrn fun ρ o=> ?_;by_cases h:c.toNat≤126
 ·have b:(c.toNat:Int)≤126:=by omega
  have a:¬126<(c.toNat:Int):=by omega
  simp [qeo,o,b,a,qu0];refine (qkd c w).mono ?_;rintro _ _ ⟨rfl,rfl⟩;simp [a]
 ·have b:¬(c.toNat:Int)≤126:=by omega
  have a:126<(c.toNat:Int):=by omega
  simp [qeo,o,b,a,part,ve,qO];omega
theorem qvo {r:Int} (c:126<r) (w:World):Calls Tryz.prog 164 #[.int .i32 r] w fun e w'=>e= .returned (.bool true)∧w'=w:=by
 refine qrn fun ρ a=> ?_;have b:¬r≤126:=by omega
 simp [qeo,a,b,c]
def qgv (w:World) (B:Nat):Nat:=match w.heap[B]? with
 |some (.stringIter _ k)=>k
 |_=>0
theorem qlR {w:World} {B k:Nat} {s:ByteArray} (h:w.heap[B]? =some (.stringIter s k)):qgv w B=k:=by simp [qgv,h]
theorem qwi {w:World} (s:Bs):Calls Tryz.prog 231 #[.string (qc s), .func (.func 164) #[] #[], .bool true] w fun e w'=>∃n:Int,e= .returned (.int .i64 n)∧(n<0↔s.all part=true)∧qb w w':=by
 have c:(qc s).size=s.length:=rfl;refine qCu fun ρ h0 J F=> ?_;simp [qqk,h0];refine qE7 (s:=qc s) (by kernel_rfl) (by simp) fun B W U hE hit=> ?_;simp;refine yZ (fun t w'=>∃k,k≤s.length∧qb w w'∧t 1= .func (.func 164) #[] #[]∧t 2= .bool true∧t 10= .pointer (some ⟨B,0,none⟩)∧w'.heap[B]? =some (.stringIter (qc s) k)∧∀j (S:j<s.length),j<k→part s[j]=true)
  (fun _ w'=>s.length - qgv w' B) ⟨0,Nat.zero_le _,hE,by simp [J],by simp [F],by simp,hit,by simp⟩ ?_
 rintro t w' ⟨k,hk,u,J,F,I,hit,z⟩;have H:=qlR hit;simp [qqh];refine qE8 (s:=qc s) (by simpa using I) hit (fun b W2 V o=> ?_) (fun b=> ?_)
 ·rw [c] at b;have a:(qc s)[k]'(by rw [c];exact b)=s[k]:=by
   show (qc s).data[k]=_;simp [qc]
  simp [qqj,J,F];refine kp (f:=164) (by kernel_rfl) (fs:= #[]) (caps:= #[]) (by simp) ?_;simp;by_cases ha:s[k].toNat<128
  ·have Z:=decode_ascii (qc s) k (by rw [c];exact b) (by rw [a];exact ha);rw [a] at Z;rw [Z] at o⊢;refine (qvp s[k] W2).mono ?_;rintro _ _ ⟨rfl,rfl⟩;cases y:part s[k] with
   |true=>
    simp [y,F,H];refine ⟨⟨k+1,by omega,V.ext u U,J,I,o, ?_⟩, ?_⟩
    ·intro j S hjk;by_cases e:j=k
     ·subst e;exact y
     ·exact z j S (by omega)
    ·rw [qlR o];omega
   |false=>
    simp [y,F];have E:¬∀x∈s,part x=true:=fun h=>by
     rw [h s[k] (List.getElem_mem _)] at y;cases y
    refine ⟨by simpa using E,V.ext u U⟩
  ·obtain ⟨Y,hw⟩:=decode_high (qc s) k (by rw [c];exact b) (by rw [a];omega);refine (qvo (r:=((Utf8.decode (qc s) k).1:Int)) (by omega) W2).mono ?_;rintro _ _ ⟨rfl,rfl⟩;simp [F];have y:part s[k]=false:=by simp [part,ve,qO];omega
   have E:¬∀x∈s,part x=true:=fun h=>by
    rw [h s[k] (List.getElem_mem _)] at y;cases y
   refine ⟨by simpa using E,V.ext u U⟩
 ·rw [c] at b;simp [qqi];refine ⟨fun x hx=> ?_,u⟩;obtain ⟨j,S,rfl⟩:=List.getElem_of_mem hx;exact z j S (by omega)
theorem qwl {w:World} (s:Bs):Calls Tryz.prog 163 #[.string (qc s), .func (.func 164) #[] #[]] w fun e w'=>∃n:Int,e= .returned (.int .i64 n)∧(n<0↔s.all part=true)∧qb w w':=by
 refine qDn fun ρ a b=> ?_;simp [qro,a,b];refine (qwi s).mono ?_;rintro _ w' ⟨n,rfl,c,h⟩;simp;exact ⟨by simpa using c,h⟩
theorem qwQ {s:Bs}:qP s=s.length↔s.all part=true:=by
 unfold qP;rw [List.all_eq_true];constructor
 ·intro h c a;have b:s.takeWhile part=s:=(List.takeWhile_prefix part).eq_of_length h;have e:c∈s.takeWhile part:=by rw [b];exact a
  exact List.all_eq_true.1 (List.all_takeWhile (p:=part) (l:=s)) c e
 ·intro h;have:s.takeWhile part=s:=by
   have:=List.takeWhile_append_of_pos (p:=part) (l₁:=s) (l₂:=[]) h;simpa using this
  rw [this]
theorem Qx {w:World} (S:G w) (s:Bs):Calls Tryz.prog 77 #[.string (qc s)] w fun e w'=>e= .returned (.bool (qh s))∧qb w w':=by
 refine qAE fun ρ u=> ?_;by_cases H:0<s.length∧s.length≤12
 ·obtain ⟨o,y⟩:=H;have a:0<(s.length:Int):=by omega
  have c:(s.length:Int)≤12:=by omega
  have I:s.getD 0 0=s[0]:=by simp [List.getD_eq_getElem?_getD,o]
  simp [qdX,u,o,y,a,c];refine (qfz s[0] w).mono ?_;rintro _ _ ⟨rfl,rfl⟩;cases J:ve s[0] with
  |false=>
   have t:qh s=false:=by unfold qh;rw [I,J];simp
   simp [t];exact qz _
  |true=>
   simp [u];refine (qwl s).mono ?_;rintro _ w1 ⟨n,rfl,t,E⟩;have F:(n<0)↔qP s=s.length:=t.trans qwQ.symm;by_cases b:n<0
   ·simp [b,u];refine (qke (S.ext E) s).mono ?_;rintro _ w2 ⟨rfl,z⟩;simp [qh,o,y,I,J,F.1 b];exact E.trans' z
   ·have:¬qP s=s.length:=fun h=>b (F.2 h);simp [b,qh,this];exact E
 ·have t:qh s=false:=by
   unfold qh;rcases Nat.eq_zero_or_pos s.length with h|h
   ·simp [h]
   ·have:¬s.length≤12:=fun y=>H ⟨h,y⟩;simp [this]
  by_cases o:0<s.length
  ·have a:0<(s.length:Int):=by omega
   have c:¬(s.length:Int)≤12:=by omega
   simp [qdX,u,o,a,c,t];exact qz _
  ·have a:¬0<(s.length:Int):=by omega
   simp [qdX,u,o,a,t];exact qz _
theorem qdd {w:World} (s:Bs):Calls Tryz.prog 79 #[.string (qc s)] w fun e w'=>e= .returned (.bool (qh s))∧qb w w':=by
 refine qAA fun ρ t=> ?_;by_cases F:0<s.length∧s.length≤12
 ·obtain ⟨o,z⟩:=F;have a:0<(s.length:Int):=by omega
  have b:(s.length:Int)≤12:=by omega
  have H:s.getD 0 0=s[0]:=by simp [List.getD_eq_getElem?_getD,o]
  simp [qdW,t,o,z,a,b];refine (qgj s[0] w).mono ?_;rintro _ _ ⟨rfl,rfl⟩;cases I:ve s[0] with
  |false=>
   have y:qh s=false:=by unfold qh;rw [H,I];simp
   simp [y];exact qz _
  |true=>
   simp [t];refine (qlr s (by omega) _).mono ?_;rintro _ _ ⟨rfl,rfl⟩;by_cases c:qP s=s.length
   ·simp [c,t];refine (qls s).mono ?_;rintro _ w2 ⟨rfl,E⟩;simp [qh,o,z,H,I,c];exact E
   ·have u:¬(qP s:Int)=(s.length:Int):=by omega
    simp [c,u,t,qh];exact qz _
 ·have y:qh s=false:=by
   unfold qh;rcases Nat.eq_zero_or_pos s.length with h|h
   ·simp [h]
   ·have:¬s.length≤12:=fun z=>F ⟨h,z⟩;simp [this]
  by_cases o:0<s.length
  ·have a:0<(s.length:Int):=by omega
   have b:¬(s.length:Int)≤12:=by omega
   simp [qdW,t,o,a,b,y];exact qz _
  ·have a:¬0<(s.length:Int):=by omega
   simp [qdW,t,o,a,y];exact qz _
theorem qwk {w:World} (z:G w) (s:Bs) (y:s.length≤281474976710656):Calls Tryz.prog 273 #[.string (qc s)] w fun e w'=>qb w w'∧∃(n:Int) (x:Value),e= .returned (.tuple #[.int .i64 n,x])∧
  ((Lib.atoiAll s= .ok n∧x= .nilIface)∨((∀v,Lib.atoiAll s≠ .ok v)∧∃u p,x= .iface u p)):=by
 cases c:Lib.atoiAll s
 ·rename_i v;refine (Tryz.atoi_ok (qc s) (by show s.length≤_;omega) v c w).mono ?_;rintro _ w' ⟨rfl,F⟩;refine ⟨?_,v,_,rfl, .inl ⟨rfl,rfl⟩⟩;rcases F with rfl|⟨t,rfl⟩
  ·exact qz _
  ·exact ⟨rfl,rfl,rfl,by rw [Lib.bytesWorld_size];omega,fun k E=>Lib.bytesWorld_at_old _ _ _ _ E⟩
 ·obtain ⟨h,b,o⟩:=z.es;refine (Tryz.atoi_syntax (qc s) y c _ w o (.inr ⟨h,b,rfl⟩)).mono ?_;rintro _ w' ⟨N,rfl,_,_,a⟩;exact ⟨a,_,_,rfl, .inr ⟨by simp,_,_,rfl⟩⟩
 ·obtain ⟨h,b,o⟩:=z.er;refine (Tryz.atoi_range (qc s) y c _ w o (.inr ⟨h,b,rfl⟩)).mono ?_;rintro _ w' ⟨N,rfl,_,_,a⟩;exact ⟨a,_,_,rfl, .inr ⟨by simp,_,_,rfl⟩⟩
theorem qwh {w:World} (b:G w) {n:Int} (h:0≤n) (a:n≤9223372036854775807):Calls Tryz.prog 171 #[.int .i64 n] w fun e w'=>e= .returned (.string (qc (Lib.itoa n)))∧qb w w':=by
 refine (Tryz.itoa n (by omega) a w b.pow).mono ?_;rintro _ w' ⟨rfl,k,os,rfl⟩;refine ⟨rfl,rfl,rfl,rfl,by simp [Sort.grow,World.drewN],fun j c=> ?_⟩;rw [Sort.heap_grow_old _ _ (by simpa [World.drewN] using c)];rfl
theorem qvr {w:World} (z:G w) (s:Bs) (F:s.length≤281474976710656):Calls Tryz.prog 309 #[.string (qc s)] w fun e w'=>e= .returned (.bool (jz s))∧qb w w':=by
 refine qBq fun ρ E=> ?_;simp [qo3,E];refine (qwk z s F).mono ?_;rintro _ w1 ⟨c,n,x,rfl,⟨t,rfl⟩|⟨t,u,p,rfl⟩⟩
 ·have b:jz s=(decide (0≤n)&&decide (n≤1000000000)&&decide (Lib.itoa n=s)):=by
   rw [←qmh,qbS,t]
  simp;refine qtl (by kernel_rfl) (by simp) ?_;by_cases a:0≤n
  ·by_cases y:n≤1000000000
   ·simp [a,y];refine (qwh (z.ext c) a (by omega)).mono ?_;rintro _ w2 ⟨rfl,o⟩;simp [E,b,a,y,qJ];exact c.trans' o
   ·simp [a,y,b];exact c
  ·simp [a,b];exact c
 ·have b:jz s=false:=by
   rw [←qmh,qbS];cases h:Lib.atoiAll s with
   |ok v=>exact absurd h (t v)
   |_=>rfl
  simp;refine qtk (by kernel_rfl) (by simp;exact ⟨rfl,rfl⟩) ?_;simp [b];exact c
theorem qxI (s:Bs) (Z:s.length<4611686018427387904) (w:World):Calls Tryz.prog 245 #[.string (qc s)] w fun e w'=>e= .returned (.bool (jz s))∧w'=w:=by
 refine qB7 fun ρ a=> ?_;have g0:(s.length=0)=((s.length:Int)=0):=by rw [eq_iff_iff];omega
 by_cases z:s.length=0∨10<s.length
 ·have W:jz s=false:=by
   unfold jz;rcases z with h|h<;>simp [h]
  rcases z with h|h
  ·have h':s=[]:=List.length_eq_zero_iff.1 h;subst h';simp [qd9,a,W]
  ·have I:(10:Int)<s.length:=by omega
   have F:s≠[]:=fun e=>by subst e;simp at h
   simp [qd9,a,W,I,F]
 ·have I:¬s.length=0:=fun h=>z (.inl h);have F:¬10<s.length:=fun h=>z (.inr h);have y:s≠[]:=fun e=>I (by rw [e];rfl);have H:¬(10:Int)<s.length:=by omega
  have u:0<s.length:=by omega
  simp [qd9,a,y,H];refine (qlt s Z w).mono ?_;rintro _ w2 ⟨rfl,rfl⟩;have Y:s[0]? =some s[0]:=List.getElem?_eq_getElem u;have hg:s.getD 0 0=s[0]:=by simp [List.getD_eq_getElem?_getD,u]
  have hb:jz s=(!(decide (jO s≠s.length)||(decide (1<s.length)&&decide (s[0]=48)))&&(decide (s.length<10)||decide (s=most))):=by
   unfold jz;rw [hg];simp [y,F]
  rw [hb];by_cases E:jO s=s.length
  ·have U:=xX s[0] 48 (by decide);have S:∀ρ:qa,ρ 0= .string (qc s)→qd8.wp ⟨Tryz.prog,35,qpN,[]⟩ (qw [.tmp 2] fun e w'=>e= .returned (.bool (decide (s.length<10)||decide (s=most)))∧w'=w2) (qF [.tmp 2] fun e w'=>e= .returned (.bool (decide (s.length<10)||decide (s=most)))∧w'=w2) ρ w2:=by
    intro ρ a;by_cases V:s.length<10
    ·have t:(s.length:Int)<10:=by omega
     simp [qd8,a,V,t]
    ·have t:¬(s.length:Int)<10:=by omega
     have e:(⟨#[49,48,48,48,48,48,48,48,48,48]⟩:ByteArray)=qc most:=rfl;simp [qd8,a,V,t,e,qJ]
   by_cases o:1<s.length
   ·have c:(1:Int)<s.length:=by omega
    by_cases b:s[0]=48
    ·have:(s[0].toNat:Int)=48:=U.2 b;simp [E,a,o,c,b,this,Y]
    ·have:¬(s[0].toNat:Int)=48:=fun h=>b (U.1 h);simp [E,a,o,c,b,this,Y];exact S _ (by simp [a])
   ·have c:¬(1:Int)<s.length:=by omega
    simp [E,a,o,c];exact S _ (by simp [a])
  ·have J:¬(jO s:Int)=s.length:=by omega
   simp [a,E,J]
def qaN (t:Tok):Value:= .agg #[.int .u8 (t.kind:Int), .string (qc t.text), .int .i64 t.line]
@[simp] theorem qJW:qf Tryz.prog 306=true:=by kernel_rfl
@[simp] theorem qJY:qf Tryz.prog 304=true:=by kernel_rfl
@[simp] theorem qJV:qf Tryz.prog 307=true:=by kernel_rfl
@[simp] theorem qJZ:qf Tryz.prog 303=true:=by kernel_rfl
@[simp] theorem qJX:qf Tryz.prog 305=true:=by kernel_rfl
@[simp] theorem qJU:qf Tryz.prog 308=true:=by kernel_rfl
@[simp] theorem qJR:qf Tryz.prog 311=true:=by kernel_rfl
@[simp] theorem qKg:qf Tryz.prog 198=true:=by kernel_rfl
abbrev kR (s:Bs) (at' line:Int) (cv:Value):Array Value:= #[.string (qc s), .int .i64 at', .int .i64 line,cv]
theorem zz:jA Tryz.prog 3 1=true:=by kernel_rfl
theorem qcm (s:Bs) (k:Nat):(qc s).extract k s.length=qc (s.drop k):=by
 apply ByteArray.ext;apply Array.ext';show ((qc s).extract k s.length).data.toList=_;simp [qc];exact List.take_of_length_le (by simp)
theorem Jf (s:Bs) (k n:Nat):(qc s).extract k (k+n)=qc ((s.drop k).take n):=by
 apply ByteArray.ext;apply Array.ext';show ((qc s).extract k (k+n)).data.toList=_;simp [qc]
theorem qai {w:World} {B k:Nat} {s:Bs} {line:Int} {cv:Value} (a:Blk w B (kR s k line cv) 217) (c:k≤s.length):
  Calls Tryz.prog 306 #[.pointer (some ⟨B,0,none⟩)] w fun e w'=>e= .returned (.string (qc (s.drop k)))∧qb w w':=by
 refine qBw fun ρ b=> ?_;simp [qpa,b,a.cell,c,qo9,qcm]
theorem qvn {w:World} {B k n:Nat} {s:Bs} {line:Int} {cv:Value} (E:Blk w B (kR s k line cv) 217) (V:k+n≤s.length) (W:s.length<4611686018427387904) (Y:0≤line∧line≤4611686018427387904):
  Calls Tryz.prog 304 #[.pointer (some ⟨B,0,none⟩), .int .i64 (n:Int)] w fun e w'=>e= .returned (.string (qc ((s.drop k).take n)))∧Blk w' B (kR s ((k:Int)+(n:Int)) (line+((((s.drop k).take n).count 10:Nat):Int)) cv) 217∧w.grownBy w' (some B):=by
 have H:(k:Int)+(n:Int)≤s.length:=by omega
 have t:(0:Int)≤(k:Int)+(n:Int):=by omega
 have z:(k:Int)≤(k:Int)+(n:Int):=by omega
 have S:((k:Int)+(n:Int)).toNat=k+n:=by omega
 refine qBz fun ρ u I=> ?_;simp [qpg,u,I,E.cell,qp (n:=(k:Int)+(n:Int)) (by omega),H,t,z,S,Jf];intro w1 b;simp [qpc];refine vH qBy (qb w1) fun w2 a _=>⟨a, ?_⟩;have U:∀w',qb w1 w'→∀i,w'.cell? ⟨B,i,none⟩=(kR s k line cv)[i]? :=fun w' h=>((E.ext b).ext h).cell;simp+contextual [qpb,u,U,a];refine (Tryz.count_one (qc ((s.drop k).take n)) 10 w2).mono ?_;rintro _ _ ⟨rfl,rfl⟩;have J:((s.drop k).take n).count 10≤s.length:=by
  refine Nat.le_trans List.count_le_length ?_;simp;omega
 simp+contextual [Lib.countByte,u,a,qp (n:=line+((((s.drop k).take n).count 10:Nat):Int)) (by omega)];refine qK (B:=B) (i:=2) (by simp) ((E.ext b).ext a) (by simp) rfl rfl zz fun W3 F c=> ?_;simp at c;simp [qpd,u,I,c.cell,qp (n:=(k:Int)+(n:Int)) (by omega)];refine qK (B:=B) (i:=1) (by simp) c (by simp) rfl rfl zz fun W4 y o=> ?_;simp at o⊢;exact ⟨o,qsS (qsS (qsT (qsT (qEJ _ w) b) a) F) y⟩
def qjE (f:Value) (p:UInt8→Bool):Prop:=∃i,f= .func (.func i) #[] #[]∧qf Tryz.prog i=true∧∀c w,Calls Tryz.prog i #[jk c] w fun e w'=>e= .returned (.bool (p c))∧w'=w
theorem qFH:qjE (.func (.func 165) #[] #[]) part:=⟨165,rfl,by kernel_rfl,qkd⟩
theorem qFI:qjE (.func (.func 232) #[] #[]) qO:=⟨232,rfl,by kernel_rfl,qfB⟩
theorem qkc {w:World} {B k:Nat} {s:Bs} {line:Int} {cv f:Value} {p:UInt8→Bool} (W:Blk w B (kR s k line cv) 217) (J:k≤s.length) (hs:s.length<4611686018427387904) (Y:qjE f p):
  Calls Tryz.prog 307 #[.pointer (some ⟨B,0,none⟩),f] w fun e w'=>e= .returned (.int .i64 (((s.drop k).takeWhile p).length:Int))∧qb w w':=by
 obtain ⟨i,rfl,F,y⟩:=Y;refine qBu fun ρ h0 u=> ?_;simp [qo8,h0];refine (qai W J).mono ?_;rintro _ w1 ⟨rfl,U⟩;simp;generalize z:s.drop k=r;have V:r.length≤s.length:=by rw [←z];simp
 refine jj 11 r.length (fun k b w'=>w'=w1∧b 1= .func (.func i) #[] #[]∧b 5= .string (qc r)∧b 10= .int .i64 r.length∧∀j (t:j<r.length),j<k→p r[j]=true) (by simp) ⟨rfl,by simp [u],by simp [z],by simp [←z],by simp⟩ ?_;rintro k b w' J c ⟨rfl,u,E,o,a⟩;by_cases I:k<r.length
 ·simp [qhz,qo6,c,o,E,u,I];refine kp (f:=i) F (fs:= #[]) (caps:= #[]) (by simp) ?_;simp;refine (y r[k] _).mono ?_;rintro _ _ ⟨rfl,rfl⟩;cases S:p r[k] with
  |true=>
   simp [qo7,c,u,E,o,qp (n:=(k:Int)+1) (by omega)];intro j t Z;by_cases e:j=k
   ·subst e;exact S
   ·exact a j t (by omega)
  |false=>
   simp;exact ⟨(wY r k (by omega) (fun j t h=>a j t h) fun _=>S).symm,U⟩
 ·have H:k=r.length:=by omega
  subst H;simp [qhz,c,o,E,qo5];exact ⟨(wY r r.length (Nat.le_refl _) (fun j t h=>a j t h) fun h=>by omega).symm,U⟩
theorem qM {t n B:Nat} {ρ:qa} {w:World} {cs:Array Value} {T:TypeId} {R:Ending→World→Prop} (c:ρ t= .pointer (some ⟨B,0,none⟩)) (a:Blk w B cs T) (b:cs.size=n) (h:R (.returned (.agg cs)) w):qw [.cellN t n] R ρ w:=by
 subst b;simp only [qw,vE,RV.val,c,qbH,kT a,Option.map_some,Option.bind_some];exact h
theorem qjI:vG Tryz.prog 289=some #[.nilFunc, .nilFunc, .nilFunc]:=by kernel_rfl
theorem qGg:Tryz.prog.built 289 [(0, .func (.func 165) #[] #[]),(1, .func (.func 232) #[] #[]),(2, .func (.func 346) #[] #[])]=some #[.func (.func 165) #[] #[], .func (.func 232) #[] #[], .func (.func 346) #[] #[]]:=by kernel_rfl
theorem qkh:jA Tryz.prog 289 3=true:=by kernel_rfl
theorem qjt (a b:Int):Tryz.prog.built 26 [(0, .int .i64 a),(1, .int .i64 b)]=some #[.int .i64 a, .int .i64 b]:=by kernel_rfl
theorem qGa (a b:Int):Tryz.prog.built 212 [(0, .agg #[.int .i64 a, .int .i64 b])]=some #[.int .i64 a, .int .i64 b]:=by kernel_rfl
theorem qkf {w:World}:Calls Tryz.prog 303 #[] w fun e w'=>e= .returned (.agg #[.func (.func 165) #[] #[], .func (.func 232) #[] #[], .func (.func 346) #[] #[]])∧qb w w':=by
 refine qBA fun ρ=> ?_;simp [qph];refine qR qjI fun B W h o c _=> ?_;simp [qGg];refine jl (B:=B) (by simp) c (by simp [Value.cells]) (by simp [Value.cells];decide) (by simpa [Value.cells] using qkh) fun W2 b a=> ?_;simp [Value.cells] at a;simp;refine qM (by simp) a rfl ?_;exact ⟨rfl,b.ext o h⟩
theorem qfA {w:World} {B:Nat} {s:Bs} {a line e:Int} {cv:Value} (b:Blk w B (kR s a line cv) 217):
  Calls Tryz.prog 308 #[.pointer (some ⟨B,0,none⟩), .int .i64 e] w fun c w'=>c= .panicked [{v:= .iface 212 (.agg #[.int .i64 e, .int .i64 line]),recovered:=false}]∧w'=w:=by
 refine qBs fun ρ h o=> ?_;simp [qo4,h,o,b.cell,qjt,qGa];refine qiT (by simp;exact ⟨rfl,rfl⟩) ?_;simp
structure Sc (base B:Nat) (W:World) (s:Bs) (k:Nat) (line:Int) (coms:List Bs) (cv:Value):Prop where
 blk:Blk W B (kR s k line cv) 217
 own:Own base 9 1 W cv (coms.map qe)
 ne:cv.ownBlock≠some B
 bB:base≤B
 bW:base≤W.heap.size
 kl:k≤s.length
 sl:s.length≤20000
 l0:1≤line
 l1:line≤(k:Int)+1
 cl:coms.length≤k
structure Tn (B:Nat) (cv cv':Value) (W W':World):Prop where
 os:W'.os=W.os
 tape:W'.tape=W.tape
 output:W'.output=W.output
 size:W.heap.size≤W'.heap.size
 block:∀k,k<W.heap.size→k≠B→cv.ownBlock≠some k→W'.heap[k]? =W.heap[k]?
 own:cv'.ownBlock=cv.ownBlock∨∀k,cv'.ownBlock=some k→W.heap.size≤k
theorem Tn.refl (B:Nat) (cv:Value) (W:World):Tn B cv cv W W:=⟨rfl,rfl,rfl,Nat.le_refl _,fun _ _ _ _=>rfl, .inl rfl⟩
theorem Tn.trans {B:Nat} {a b c:Value} {U V W:World} (h:Tn B a b U V) (k:Tn B b c V W):Tn B a c U W:=by
 refine ⟨k.os.trans h.os,k.tape.trans h.tape,k.output.trans h.output,Nat.le_trans h.size k.size,fun i t y z=> ?_, ?_⟩
 ·rw [k.block i (Nat.lt_of_lt_of_le t h.size) y ?_,h.block i t y z];rcases h.own with o|o
  ·rw [o];exact z
  ·intro e;have:=o i e;omega
 ·rcases k.own with u|u
  ·rcases h.own with o|o
   ·exact .inl (u.trans o)
   ·exact .inr fun i t=>o i (u▸t)
  ·exact .inr fun i t=>Nat.le_trans h.size (u i t)
theorem Tn.ext {B:Nat} {a:Value} {U V:World} (h:qb U V):Tn B a a U V:=⟨h.os,h.tape,h.output,h.size,fun k b _ _=>h.block k b, .inl rfl⟩
theorem Tn.gb {B:Nat} {a:Value} {U V:World} (h:U.grownBy V (some B)):Tn B a a U V:=⟨h.os,h.tape,h.output,h.size,fun k b c _=>h.block k b (by simpa using c), .inl rfl⟩
theorem Sc.ext {base B:Nat} {W W':World} {s:Bs} {k:Nat} {line:Int} {coms:List Bs} {cv:Value} (h:Sc base B W s k line coms cv) (a:qb W W'):Sc base B W' s k line coms cv:=
 ⟨h.blk.ext a,h.own.ext a,h.ne,h.bB,Nat.le_trans h.bW a.size,h.kl,h.sl,h.l0,h.l1,h.cl⟩
theorem Sc.line {base B:Nat} {W:World} {s:Bs} {k:Nat} {line:Int} {coms:List Bs} {cv:Value} (h:Sc base B W s k line coms cv):0≤line∧line≤4611686018427387904:=by
 have:=h.l0;have:=h.l1;have:=h.kl;have:=h.sl;omega
theorem Sc.short {base B:Nat} {W:World} {s:Bs} {k:Nat} {line:Int} {coms:List Bs} {cv:Value} (h:Sc base B W s k line coms cv):s.length<4611686018427387904:=by
 have:=h.sl;omega
theorem qfU {base B:Nat} {W:World} {s:Bs} {k n:Nat} {line:Int} {coms:List Bs} {cv:Value} (h:Sc base B W s k line coms cv) (b:k+n≤s.length):
  Calls Tryz.prog 304 #[.pointer (some ⟨B,0,none⟩), .int .i64 (n:Int)] W fun e w'=>e= .returned (.string (qc ((s.drop k).take n)))∧Sc base B w' s (k+n) (line+((((s.drop k).take n).count 10:Nat):Int)) coms cv∧Tn B cv cv W w':=by
 refine (qvn h.blk b h.short h.line).mono ?_;rintro _ w' ⟨rfl,c,a⟩;have o:((s.drop k).take n).count 10≤n:=by
  refine Nat.le_trans List.count_le_length ?_;simp;omega
 have:=h.l0;have:=h.l1;have:=h.cl;have:=h.bW;have:=a.size;refine ⟨rfl,⟨by simpa using c,h.own.kept a (.inr h.ne),h.ne,h.bB,by omega,b,h.sl,by omega,by simp;omega,by omega⟩,Tn.gb a⟩
def atOf (w:World) (B:Nat):Nat:=match w.cell? ⟨B,1,none⟩ with
 |some (.int _ n)=>n.toNat
 |_=>0
theorem Sc.at {base B:Nat} {W:World} {s:Bs} {k:Nat} {line:Int} {coms:List Bs} {cv:Value} (h:Sc base B W s k line coms cv):atOf W B=k:=by
 simp [atOf,h.blk.cell]
structure Skipped (base B:Nat) (w0 w:World) (s:Bs) (k0:Nat) (l0:Int) (c0:List Bs) (v0:Value) (k:Nat) (l:Int) (new:List Bs) (v:Value):Prop where
 sc:Sc base B w s k l (c0++new) v
 tn:Tn B v0 v w0 w
 le:k0≤k
 eq:qX (s.drop k0) l0=(qX (s.drop k) l).add [] new
def wF (s:Bs) (k:Nat):Prop:=∀h:k<s.length,yp s[k]=false∧s[k]≠37
theorem kG {s:Bs} {k:Nat} (h:k<s.length):s.drop k=s[k]::s.drop (k+1):=List.drop_eq_getElem_cons h
theorem qwe {c:UInt8} {r:Bs} {l:Int} (h:yp c=true):qX (c::r) l=qX r (l+(((c::r).take 1).count 10:Nat)):=by
 simp only [yp,Bool.or_eq_true,decide_eq_true_eq] at h;by_cases a:c=10
 ·subst a;rw [qbo];simp
 ·have b:c=32∨c=9:=by
   rcases h with (h|h)|h
   ·exact .inl h
   ·exact .inr h
   ·exact absurd h a
  rw [qbn r l b];have:((c::r).take 1).count 10=0:=by simp [a]
  rw [this];simp
section
variable {P:Program} {Q:Ks} {d:Option Nat} {ty:TypeId} {K:qa→World→Prop} {ρ:qa} {w:World}
theorem qeN {t e sz bytes:Nat} (U:ke P t=some (e,sz,bytes)) {base:Nat} (b:base≤w.heap.size) {s x:Operand} {sv xv:Value} (H:qd ρ s=sv) (V:qd ρ x=xv) {xs news:List Value}
  (y:Own base e sz w sv xs) (o:Cells w xv sz news) (I:∀u∈news,u.oneCell'=true)
  (z:xs.length+news.length<4611686018427387904) (a:(xs.length+news.length)*bytes≤140737488355328*sz)
  (h:∀c W,Own base e sz W c (xs++news)→w.grownBy W sv.ownBlock→(c.ownBlock=sv.ownBlock∨c.ownBlock=some w.heap.size)→K (qm ρ d c) W):qr P Q d (.call {callee:= .builtin .append,args:= #[s,x],argTypes:= #[t,t]}) ty K ρ w:=by
 subst H;subst V;obtain ⟨c,W,J,F,S,E⟩:=qc5 (P:=P) (ty:=ty) U y o I z a b;refine jf (v:=c) (w':=W) ?_ (h c W F S E);simp only [execOp,qA,resolve,invoke,builtin,Sem.run_bind,Sem.run_pure,Result.andThen_ok,List.map_toArray,List.map_cons,List.map_nil,J]
end
theorem qas {base e sz:Nat} {w:World} {v:Value} {xs:List Value} (h:Own base e sz w v xs):v.cells= #[v]∧v.oneCell=true:=by
 rcases h with ⟨rfl,_⟩|⟨g,off,n,cap,cur,rfl,_⟩<;>exact ⟨rfl,rfl⟩
theorem jM {base e sz:Nat} {w:World} {v:Value} {xs:List Value} (h:Own base e sz w v xs):Cells w v sz xs:=by
 have a:=h.isl;rcases h with ⟨rfl,rfl⟩|⟨g,off,n,cap,cur,rfl,E,u,t,F,z,y,o⟩
 ·exact ⟨rfl,by simp [qk],fun j b=>by simp at b⟩
 ·refine ⟨a,t,fun j b=> ?_⟩;have c:((cur.toList.drop off).take (n*sz))[j]? =xs[j]? :=by rw [o]
  rw [List.getElem?_take,if_pos (by omega),List.getElem?_drop] at c;simp only [qD,vM,World.cell?,u];simpa [b] using c
theorem qln:ke Tryz.prog 51=some (9,1,16):=by kernel_rfl
theorem qcQ:jA Tryz.prog 51 1=true:=by kernel_rfl
theorem qsO:∀l:Bs,(Lib.indexByte l 10= -1∧jb l=l.length)∨(Lib.indexByte l 10=jb l)
 |[]=> .inl ⟨rfl,rfl⟩
 |c::l=>by
  by_cases h:c=10
  ·subst h;right;simp [Lib.indexByte,jb]
  ·have b:jb (c::l)=jb l+1:=by simp [jb,List.takeWhile_cons,h]
   rcases qsO l with ⟨a,e⟩|a
   ·left;refine ⟨?_,by rw [b,e];rfl⟩;simp [Lib.indexByte,h,a]
   ·right;rw [b];have:¬(jb l:Int)= -1:=by omega
    simp [Lib.indexByte,h,this,a]
theorem qFE (s:Bs):((s.take (jb s)).count 10)=0:=by
 rw [List.count_eq_zero];intro h;rw [jb,qj9] at h;have:=List.all_eq_true.1 (List.all_takeWhile (p:=fun c=>decide (c≠10)) (l:=s)) 10 h;simp at this
theorem qwd {r t:Bs} {l:Int} (h:r=37::t):qX r l=(qX (r.drop (jb r)) l).add [] [r.take (jb r)]:=by
 subst h;rw [yJ,if_neg (by decide),if_neg (by decide),if_pos rfl]
def qff (base B:Nat) (w:World) (s:Bs) (k0:Nat) (l0:Int) (c0:List Bs) (v0:Value):Ending→World→Prop:=
 fun e w'=>e= .returned (.tuple #[])∧∃k l new v,Skipped base B w w' s k0 l0 c0 v0 k l new v∧wF s k
def qfg (base B:Nat) (w:World) (s:Bs) (k0:Nat) (l0:Int) (c0:List Bs) (v0:Value):qa→World→Prop:=
 fun ρ' w'=>ρ' 0= .pointer (some ⟨B,0,none⟩)∧ρ' 2= .func (.func 346) #[] #[]∧∃k l new v,Skipped base B w w' s k0 l0 c0 v0 k l new v
theorem qkb {base B:Nat} {w:World} {s:Bs} {Y:Nat} {l0:Int} {c0:List Bs} {v0:Value} (h:Sc base B w s Y l0 c0 v0):
  Calls Tryz.prog 266 #[.pointer (some ⟨B,0,none⟩)] w (qff base B w s Y l0 c0 v0):=by
 refine qBX fun ρ z=> ?_;simp [qhJ];refine qkf.mono ?_;rintro _ w1 ⟨rfl,hE1⟩;simp;refine qFd (n:=3) (k:=2) (e:=288) (v:= .func (.func 346) #[] #[]) (cs:= #[.func (.func 165) #[] #[], .func (.func 232) #[] #[], .func (.func 346) #[] #[]]) (inf:=_) (by kernel_rfl) rfl (by kernel_rfl) (by simp) (by simp;rfl) (by decide) rfl (by kernel_rfl) ?_;simp;refine qgh ?_;simp [qpy];refine yZ (qfg base B w s Y l0 c0 v0) (fun _ w'=>s.length - atOf w' B) ⟨by simp [z],by simp,Y,l0,[],v0,⟨by simpa using h.ext hE1,Tn.ext hE1,Nat.le_refl _,by simp⟩⟩ ?_;rintro ρ' w' ⟨z,h2,k,l,new,v,E⟩;have hat:=E.sc.at
 have hb:=E.sc.blk;by_cases b:k<s.length
 ·simp [qhF,z,hb.cell,b];intro w2 H;have hb2:=hb.ext H;have hS2:=E.sc.ext H;have hT2:=E.tn.trans (Tn.ext H);simp [qhG,qpz];refine vH qBW (qb w2) fun w3 S _=>⟨S, ?_⟩;have hc:∀w',qb w2 w'→∀i,w'.cell? ⟨B,i,none⟩=(kR s k l v)[i]? :=fun w' h=>(hb2.ext h).cell;simp+contextual [qpx,z,h2,hc,S,b,qbb b];refine kp (f:=346) (by kernel_rfl) (fs:= #[]) (caps:= #[]) (by simp) ?_;simp;refine (qvs s[k] w3).mono ?_;rintro _ w3 ⟨rfl,rfl⟩;have hS3:=hS2.ext S;have hT3:=hT2.trans (Tn.ext S);cases hbl:yp s[k] with
  |true=>
   simp [qd3,z];refine (qfU (n:=1) hS3 (by omega)).mono ?_;rintro _ w4 ⟨rfl,F,aj⟩;simp;refine ⟨⟨by simp [z],by simp [h2],k+1,_,new,v,F,hT3.trans aj,by have:=E.le;omega, ?_⟩, ?_⟩
   ·rw [E.eq,kG b,qwe hbl]
   ·rw [F.at,hat];omega
  |false=>
   have hu:=xX s[k] 37 (by decide);have hc3:=hc w3 S;have hst:∀w4,qb w3 w4→qff base B w s Y l0 c0 v0 (Ending.returned (Value.tuple #[])) w4∨s[k]=37:=by
    intro w4 y;by_cases t:s[k]=37
    ·exact .inr t
    ·exact .inl ⟨rfl,k,l,new,v,⟨hS3.ext y,hT3.trans (Tn.ext y),E.le,E.eq⟩,fun _=>⟨hbl,t⟩⟩
   by_cases t:s[k]=37
   ·have I:(s[k].toNat:Int)=37:=hu.2 t;simp [qd3,z,hc3,b,qbb b,I,qhH];intro w4 y;have F:=hS3.ext y;have aj:=hT3.trans (Tn.ext y);refine (qai F.blk F.kl).mono ?_;rintro _ w5 ⟨rfl,hE5⟩;have hS5:=F.ext hE5;have hT5:=aj.trans (Tn.ext hE5);simp;refine (Tryz.indexByte (qc (s.drop k)) 10 w5).mono ?_;rintro _ w5 ⟨rfl,rfl⟩;have hix:Lib.indexByte (qc (s.drop k)).data.toList (Int.toNat 10).toUInt8=Lib.indexByte (s.drop k) 10:=rfl;rw [hix];have hn1:1≤jb (s.drop k):=by rw [kG b,t];exact qeT _
    have hn2:jb (s.drop k)≤s.length - k:=by have:=qtI (s.drop k);simpa using this
    have J:∀(V:qa) (w6:World),V 0= .pointer (some ⟨B,0,none⟩)→V 2= .func (.func 346) #[] #[]→V 3= .int .i64 (jb (s.drop k):Int)→qb w5 w6→
     qhI.wp ⟨Tryz.prog,75,qaC,[]⟩ (fun u o=>qfg base B w s Y l0 c0 v0 u o∧s.length - atOf o B<s.length - atOf w' B) (((((qF [] (qff base B w s Y l0 c0 v0)).blk 0 (qw [] (qff base B w s Y l0 c0 v0))).blk 1 (fun u o=>qfg base B w s Y l0 c0 v0 u o∧s.length - atOf o B<s.length - atOf w' B)).blk 2 (fun u o=>qfg base B w s Y l0 c0 v0 u o∧s.length - atOf o B<s.length - atOf w' B))) V w6:=by
     intro V w6 z h2 h3 ac;have Z:=hS5.ext ac;have hT6:=hT5.trans (Tn.ext ac);simp only [qhI];refine vH qBV (fun W=>W.cell? ⟨B,3,none⟩=some v) fun w7 hE7 _=> ?_;have hS7:=Z.ext hE7;have hT7:=hT6.trans (Tn.ext hE7);refine ⟨by simp [hS7.blk.cell], ?_⟩;simp+contextual [qpw,z,h3,hS7.blk.cell];refine (qfU (n:=jb (s.drop k)) hS7 (by omega)).mono ?_;rintro _ w8 ⟨rfl,aa,hT8⟩;rw [qFE] at aa;simp [aa.blk.cell];refine jN qcY (by decide) (by decide) (by simp [Value.cells]) fun B9 W9 hB9 hE9 hb9 _=> ?_;have a:=aa.ext hE9;simp [Value.cells] at hb9;simp [a.blk.cell];have hcl:=a.cl;have hO9:Own base 9 1 W9 (.slice (some ⟨B9,0,none⟩) 1 1) [qe ((s.drop k).take (jb (s.drop k)))]:=Own.lit (cs:=[qe ((s.drop k).take (jb (s.drop k)))]) hb9 rfl (Nat.le_trans aa.bW hB9) (by decide);have hnew:Cells W9 (.slice (some ⟨B9,0,none⟩) 1 1) 1 [qe ((s.drop k).take (jb (s.drop k)))]:=jM hO9;have hk9:=a.kl;have hs9:=a.sl;refine qeN qln a.bW (by simp) (by simp) a.own hnew (by simp [qe];rfl) (by simp at hcl⊢;omega) (by simp at hcl⊢;omega) fun v' W10 ad c ai=> ?_;have ah:Blk W10 B _ 217:=⟨(c.block B a.blk.lt (fun e=>a.ne e.symm)).trans a.blk.heap⟩;simp [ah.cell];have h1:=qas ad;refine qK (B:=B) (i:=3) (by simp) ah (by simp) (by simpa using h1.1) (by simpa using h1.2) qcQ fun W11 U af=> ?_;simp at af;have ag:v'.ownBlock≠some B:=by
      rcases ai with e|e
      ·rw [e];exact a.ne
      ·rw [e];have:=a.blk.lt;intro h;cases h;omega
     have ab:Own base 9 1 W11 v' ((c0++(new++[(s.drop k).take (jb (s.drop k))])).map qe):=by
      have:=ad.kept (qdt U) (.inr ag);simpa using this
     have hsz10:=c.size;have ae:Sc base B W11 s (k+jb (s.drop k)) l (c0++(new++[(s.drop k).take (jb (s.drop k))])) v':=
      ⟨by simpa using af,ab,ag,a.bB,by have:=a.bW;rw [U.size];omega,hk9,hs9,Z.l0,by have:=Z.l1;omega,by have:=Z.cl;simp at this⊢;omega⟩
     have hT10:Tn B v v' W9 W10:=⟨c.os,c.tape,c.output,c.size,fun k hk _ hv=>c.block k hk (fun e=>hv e.symm),by
      rcases ai with e|e
      ·exact .inl e
      ·exact .inr fun i hi=>by rw [e] at hi;cases hi;exact Nat.le_refl _⟩
     have hT11:Tn B v0 v' w W11:=(((hT7.trans hT8).trans (Tn.ext hE9)).trans hT10).trans (Tn.gb (qdt U));simp;refine ⟨⟨by simp [z],by simp [h2],_,_,_,_,ae,hT11,by have:=E.le;omega, ?_⟩, ?_⟩
     ·rw [E.eq];have:qX (s.drop k) l=(qX (s.drop (k+jb (s.drop k))) l).add [] [(s.drop k).take (jb (s.drop k))]:=by
       rw [←List.drop_drop];exact qwd (by rw [kG b,t])
      rw [this,Res.add_add];rfl
     ·rw [ae.at,hat];omega
    rcases qsO (s.drop k) with ⟨e1,e2⟩|e1
    ·rw [e1];simp [z];refine (qai hS5.blk hS5.kl).mono ?_;rintro _ w6 ⟨rfl,ac⟩;simp;exact J _ _ (by simp [z]) (by simp [h2]) (by simp [e2]) ac
    ·rw [e1];simp;exact J _ _ (by simp [z]) (by simp [h2]) (by simp) (qz _)
   ·have I:¬(s[k].toNat:Int)=37:=fun h=>t (hu.1 h);simp [qd3,z,hc3,b,qbb b,I,qhH];intro w4 y;rcases hst w4 y with h|h
    ·exact h
    ·exact absurd h t
 ·simp [qhF,z,hb.cell,b,qhG];intro w2 H;exact ⟨rfl,k,l,new,v,⟨E.sc.ext H,E.tn.trans (Tn.ext H),E.le,E.eq⟩,fun h=>absurd h b⟩
theorem z38:vG Tryz.prog 53=some #[.int .u8 0, .string ⟨#[]⟩, .int .i64 0]:=by kernel_rfl
theorem qGc (l:Int):Tryz.prog.built 53 [(2, .int .i64 l)]=some #[.int .u8 0, .string ⟨#[]⟩, .int .i64 l]:=by kernel_rfl
theorem qfE:jA Tryz.prog 53 3=true:=by kernel_rfl
theorem sz5:jA Tryz.prog 5 1=true:=by kernel_rfl
theorem sz9:jA Tryz.prog 9 1=true:=by kernel_rfl
def clV:Array Value:= #[.func (.func 165) #[] #[], .func (.func 232) #[] #[], .func (.func 346) #[] #[]]
def brk (e l:Int):Ending:= .panicked [{v:= .iface 212 (.agg #[.int .i64 e, .int .i64 l]),recovered:=false}]
def yr (base B:Nat) (w:World) (s:Bs) (k:Nat) (l:Int) (coms:List Bs) (cv:Value):Ending→World→Prop:=fun e w'=>
 Tn B cv cv w w'∧
 (((first (s.drop k)).2.2=0∧e= .returned (qaN ⟨(first (s.drop k)).1,(s.drop k).take (first (s.drop k)).2.1,l⟩)∧Sc base B w' s (k+(first (s.drop k)).2.1) l coms cv)∨
  ((first (s.drop k)).2.2≠0∧e=brk (first (s.drop k)).2.2 l))
theorem Tn.blk {B C:Nat} {cv a:Value} {W W':World} {cs:Array Value} {t:TypeId} (h:Tn B cv a W W') (b:Blk W C cs t) (c:C≠B) (e:cv.ownBlock≠some C):Blk W' C cs t:=⟨(h.block C b.lt c e).trans b.heap⟩
theorem Sc.off {base B:Nat} {W:World} {s:Bs} {k:Nat} {line:Int} {coms:List Bs} {cv:Value} (h:Sc base B W s k line coms cv) {C:Nat} (a:W.heap.size≤C):C≠B∧cv.ownBlock≠some C:=by
 refine ⟨?_, ?_⟩
 ·have:=h.blk.lt;omega
 ·intro e;have:=(h.own.blk C e).2;omega
theorem Sc.only {base B C:Nat} {W W':World} {s:Bs} {k:Nat} {line:Int} {coms:List Bs} {cv:Value} (h:Sc base B W s k line coms cv) (a:Only C W W') (b:C≠B) (c:cv.ownBlock≠some C):Sc base B W' s k line coms cv:=
 ⟨a.blk h.blk (Ne.symm b),h.own.kept (qdt a) (.inr c),h.ne,h.bB,by rw [a.size];exact h.bW,h.kl,h.sl,h.l0,h.l1,h.cl⟩
theorem Tn.new {B C:Nat} {a b:Value} {U V W:World} (h:Tn B a b U V) (c:Only C V W) (u:U.heap.size≤C):Tn B a b U W:=
 ⟨c.os.trans h.os,c.tape.trans h.tape,c.output.trans h.output,by rw [c.size];exact h.size,fun k e o t=>(c.block k (by omega)).trans (h.block k e o t),h.own⟩
section
variable {base B:Nat} {w:World} {s:Bs} {k:Nat} {l:Int} {coms:List Bs} {cv:Value}
theorem qzu {ρ:qa} {W:World} {B2 B3:Nat} {z:Array Value} {c:Int} {tx:Bs} {Q:Ks} {R:Ending→World→Prop} (t:ρ 2= .pointer (some ⟨B2,0,none⟩)) (u:ρ 3= .pointer (some ⟨B3,0,none⟩)) (b:Blk W B2 z 53) (e:z.size=3)
  (a:Blk W B3 #[.int .u8 c, .string (qc tx), .int .i64 l] 53) (E:∀ρ w,Q.rt ρ w=qw [.cellN 2 3] R ρ w) (h:∀W',Only B2 W W'→R (.returned (.agg #[.int .u8 c, .string (qc tx), .int .i64 l])) W') {KK:qa→World→Prop}:
  Q3.wp ⟨Tryz.prog,114,xA,[]⟩ KK Q ρ W:=by
 simp [Q3,u,a.cell];refine jl (B:=B2) (by simpa using t) b (by simp [Value.cells,e]) (by simp [Value.cells]) (by rw [e];exact qfE) fun W2 y o=> ?_;simp [Value.cells] at o;simp [E];refine qM (by simpa using t) o rfl ?_;exact h W2 y
theorem qeF (a:k<s.length):(s.drop k).getD 0 0=s[k]:=by rw [kG a];rfl
theorem qva {a n:Nat} {r:Bs} (h:right a (r.take n)=true):(r.take n).count 10=0:=by
 rw [List.count_eq_zero];intro b;exact (qbv h 10 b).1 rfl
structure Nx (base B:Nat) (w:World) (s:Bs) (k:Nat) (l:Int) (coms:List Bs) (cv:Value) (B2 B3 B4:Nat) (kd:Int) (ρ:qa) (W:World):Prop where
 r0:ρ 0= .pointer (some ⟨B,0,none⟩)
 r2:ρ 2= .pointer (some ⟨B2,0,none⟩)
 r3:ρ 3= .pointer (some ⟨B3,0,none⟩)
 r4:ρ 4= .pointer (some ⟨B4,0,none⟩)
 sc:Sc base B W s k l coms cv
 b2:Blk W B2 #[.int .u8 0, .string ⟨#[]⟩, .int .i64 0] 53
 b3:Blk W B3 #[.int .u8 kd, .string ⟨#[]⟩, .int .i64 l] 53
 b4:Blk W B4 clV 289
 tn:Tn B cv cv w W
 n2:w.heap.size≤B2∧B2<B3∧B3<B4
 n3:B3≠B∧B2≠B
 n4:cv.ownBlock≠some B3∧cv.ownBlock≠some B2
 g:G W
 gw:G w
theorem Nx.env {B2 B3 B4:Nat} {b:Int} {ρ a:qa} {W:World} (h:Nx base B w s k l coms cv B2 B3 B4 b ρ W) (o:a 0=ρ 0) (t:a 2=ρ 2) (c:a 3=ρ 3) (e:a 4=ρ 4):Nx base B w s k l coms cv B2 B3 B4 b a W:=
 ⟨o.trans h.r0,t.trans h.r2,c.trans h.r3,e.trans h.r4,h.sc,h.b2,h.b3,h.b4,h.tn,h.n2,h.n3,h.n4,h.g,h.gw⟩
theorem Nx.ext {B2 B3 B4:Nat} {b:Int} {ρ:qa} {W W':World} (h:Nx base B w s k l coms cv B2 B3 B4 b ρ W) (a:qb W W'):Nx base B w s k l coms cv B2 B3 B4 b ρ W':=
 ⟨h.r0,h.r2,h.r3,h.r4,h.sc.ext a,h.b2.ext a,h.b3.ext a,h.b4.ext a,h.tn.trans (Tn.ext a),h.n2,h.n3,h.n4,h.g.ext a,h.gw⟩
theorem Nx.kind {B2 B3 B4:Nat} {y e:Int} {ρ:qa} {W W':World} (h:Nx base B w s k l coms cv B2 B3 B4 y ρ W) (z:qb w W) (o:Only B3 W W') (u:Blk W' B3 #[.int .u8 e, .string ⟨#[]⟩, .int .i64 l] 53) (t:G W'):Nx base B w s k l coms cv B2 B3 B4 e ρ W':=by
 obtain ⟨a,b,c⟩:=h.n2;exact ⟨h.r0,h.r2,h.r3,h.r4,h.sc.only o h.n3.1 h.n4.1,o.blk h.b2 (by omega),u,o.blk h.b4 (by omega),h.tn.new o (by omega),h.n2,h.n3,h.n4,t,h.gw⟩
theorem qdw {B2 B3 B4 n kd:Nat} {ρ:qa} {W:World} (h:Nx base B w s k l coms cv B2 B3 B4 (kd:Int) ρ W) (u:first (s.drop k)=(kd,n,0)) (y:s.drop k≠[]) {t S V Z vn:Nat} (hvn:ρ vn= .int .i64 (n:Int))
  (hd:5≤t∧5≤S∧5≤V∧5≤Z∧t≠vn∧t≠S∧V≠Z) {KK:qa→World→Prop} {Q:Ks} (hK:∀ρ W,KK ρ W=Q3.wp ⟨Tryz.prog,114,xA,[]⟩ (qw [.cellN 2 3] (yr base B w s k l coms cv)) (qF [.cellN 2 3] (yr base B w s k l coms cv)) ρ W):
  (IR.reg [.asg none t (.op1 (.fadr 0) (.op1 .nilc (.var 0))), .asg none S (.var vn),
   .eff none (some V) (.call {callee:= .value (.func 304),args:= #[(.tmp t),(.tmp S)],argTypes:= #[215,3]}) 9,
   .asg none Z (.op1 (.fadr 1) (.var 3)), .eff none none (.store 9 (.tmp Z) (.tmp V)) 0]).wp ⟨Tryz.prog,114,xA,[]⟩ KK Q ρ W:=by
 have c:=qaM (s:=s.drop k) (by rw [u]) y;have a:=(qs3 y (by rw [u])).1;rw [u] at c a;simp only [List.length_drop] at c;have hkl:=h.sc.kl;obtain ⟨e1,e2,e3,e4,e5,e6,Y⟩:=hd;have z:=qva a;have f0:(0:Nat)≠t:=by omega
 have b:∀d,5≤d→(3:Nat)≠d:=by omega
 have U:∀d,5≤d→(2:Nat)≠d:=by omega
 simp [h.r0,hvn,f0,e5,e6,Y,Ne.symm e5];refine (qfU (n:=n) h.sc (by omega)).mono ?_;rintro _ W1 ⟨rfl,F,e⟩;rw [z] at F;have E:=e.blk h.b3 h.n3.1 h.n4.1;have I:=e.blk h.b2 h.n3.2 h.n4.2;simp [h.r3,b _ e1,b _ e2,b _ e3,b _ e4];refine qK (B:=B3) (i:=1) (by simp) E (by simp) (by simp [Y];rfl) (by simp [Y]) sz9 fun W2 o J=> ?_;simp [Y] at J;show KK _ _;rw [hK];obtain ⟨n1,n2,n3⟩:=h.n2;refine qzu (by simp [U _ e1,U _ e2,U _ e3,U _ e4,h.r2]) (by simp [b _ e1,b _ e2,b _ e3,b _ e4,h.r3]) (o.blk I (by omega)) rfl J (fun _ _=>rfl) fun W3 H=> ?_;have hS3:=(F.only o h.n3.1 h.n4.1).only H h.n3.2 h.n4.2;have hT3:=((h.tn.trans e).new o (by omega)).new H n1;refine ⟨hT3, .inl ⟨by rw [u], ?_, ?_⟩⟩
 ·rw [u];simp [qaN]
 ·rw [u];simpa using hS3
theorem Nx.brk {B2 B3 B4:Nat} {b:Int} {ρ:qa} {W:World} (h:Nx base B w s k l coms cv B2 B3 B4 b ρ W) {e:Int} (a:(first (s.drop k)).2.2=e) (c:e≠0):yr base B w s k l coms cv (brk e l) W:=
 ⟨h.tn, .inr ⟨by rw [a];exact c,by rw [a]⟩⟩
abbrev nxR (base B:Nat) (w:World) (s:Bs) (k:Nat) (l:Int) (coms:List Bs) (cv:Value):qa→World→Prop:=qw [.cellN 2 3] (yr base B w s k l coms cv)
abbrev nxQ (base B:Nat) (w:World) (s:Bs) (k:Nat) (l:Int) (coms:List Bs) (cv:Value):Ks:=qF [.cellN 2 3] (yr base B w s k l coms cv)
theorem qzt {B2 B3 B4:Nat} {ρ:qa} {W:World} (h:Nx base B w s k l coms cv B2 B3 B4 0 ρ W) (hE:qb w W) (ab:k<s.length) (hc:ve s[k]=true) {Q:Ks} (hQ:∀ρ c w',Q.pn ρ c w'=yr base B w s k l coms cv (.panicked c) w') {KK:qa→World→Prop} (hK:∀ρ W,KK ρ W=Q3.wp (Cx.mk Tryz.prog 114 xA []) (nxR base B w s k l coms cv) (nxQ base B w s k l coms cv) ρ W):
  (IR.raw (qN qaB 16)).wp (Cx.mk Tryz.prog 114 xA []) (qhE.wp (Cx.mk Tryz.prog 114 xA []) KK Q) Q ρ W:=by
 have J:s.drop k≠[]:=by rw [kG ab];exact List.cons_ne_nil _ _
 have a:first (s.drop k)=if jV ((s.drop k).take (qP (s.drop k))) then (2,qP (s.drop k),0) else if 12<qP (s.drop k) then (0,0,12) else (1,qP (s.drop k),0):=by
  unfold first
  rw [if_pos (by rw [qeF ab];exact hc)]
 have H:=h.sc.kl;refine vH qBR (qb W) (fun w3 o _=>⟨o, ?_⟩) (fun _ _ ρ v c w h=>by rw [hQ] at h⊢;exact h);have h3:=h.ext o;have hc4:∀w',qb W w'→∀i,w'.cell? ⟨B4,i,none⟩=clV[i]? :=fun w' hh=>(h.b4.ext hh).cell;simp -implicitDefEqProofs [qpq,h.r0];refine qeM (n:=3) (k:=0) (e:=288) (inf:=_) (by kernel_rfl) rfl (by kernel_rfl) (by simp;exact h.r4) (by simp;rfl) (by decide) ?_;simp+contextual -implicitDefEqProofs [hc4,o,clV];refine (qkc h3.sc.blk H h3.sc.short qFH).mono ?_;rintro _ W4 ⟨rfl,V⟩;have h4:=h3.ext V;have Y:=(hE.trans' o).trans' V;have ae:((s.drop k).takeWhile part).length=qP (s.drop k):=rfl;simp [ae,qhE,h.r0];refine (qai h4.sc.blk H).mono ?_;rintro _ W5 ⟨rfl,E⟩;have h5:=h4.ext E;have t:=Y.trans' E;have hrl:qP (s.drop k)≤s.length - k:=by have:=yB part (s.drop k);simpa [qP] using this
 have S:(qc (s.drop k)).extract 0 (qP (s.drop k))=qc ((s.drop k).take (qP (s.drop k))):=by
  have:=Jf (s.drop k) 0 (qP (s.drop k));simpa using this
 simp [h.r3,hrl,S];refine qK (B:=B3) (i:=0) (by simp) h5.b3 (by simp) rfl rfl sz5 fun W6 U af=> ?_;simp at af;obtain ⟨n1,n2,n3⟩:=h.n2;have y:qb w W6:=U.ext t (by omega);have z:G W6:=h.gw.ext y;have h6:Nx base B w s k l coms cv B2 B3 B4 ((1:Nat):Int) ρ W6:=h5.kind t U af z;simp;refine (qke z _).mono ?_;rintro _ W7 ⟨rfl,F⟩;have I:=h6.ext F;have u:=y.trans' F;cases hw:jV ((s.drop k).take (qP (s.drop k))) with
 |true=>
  rw [hw,if_pos rfl] at a;simp [h.r3];refine qK (B:=B3) (i:=0) (by simp) I.b3 (by simp) rfl rfl sz5 fun W8 ad ac=> ?_;simp at ac⊢;have Z:qb w W8:=ad.ext u (by omega);have h8:Nx base B w s k l coms cv B2 B3 B4 ((2:Nat):Int) ρ W8:=I.kind u ad ac (h.gw.ext Z);exact qdw (h8.env (by simp) (by simp) (by simp) (by simp)) a J (by simp) (by omega) hK
 |false=>
  rw [hw,if_neg (by simp)] at a;by_cases aa:12<qP (s.drop k)
  ·rw [if_pos aa] at a;have b:(12:Int)<(qP (s.drop k):Int):=by omega
   simp [b,h.r0];refine (qfA I.sc.blk).mono ?_;rintro _ _ ⟨rfl,rfl⟩;simp [hQ];exact I.brk (by rw [a]) (by decide)
  ·rw [if_neg aa] at a;have b:¬(12:Int)<(qP (s.drop k):Int):=by omega
   simp [b];exact qdw (I.env (by simp) (by simp) (by simp) (by simp)) a J (by simp) (by omega) hK
theorem qzv {B2 B3 B4:Nat} {ρ:qa} {W:World} (h:Nx base B w s k l coms cv B2 B3 B4 0 ρ W) (hE:qb w W) (J:k<s.length) (hl:ve s[k]=false) (hc:qO s[k]=true) {Q:Ks} (hQ:∀ρ c w',Q.pn ρ c w'=yr base B w s k l coms cv (.panicked c) w') {KK:qa→World→Prop} (hK:∀ρ W,KK ρ W=Q3.wp (Cx.mk Tryz.prog 114 xA []) (nxR base B w s k l coms cv) (nxQ base B w s k l coms cv) ρ W):
  (IR.raw (qN qaB 25)).wp (Cx.mk Tryz.prog 114 xA []) (qhD.wp (Cx.mk Tryz.prog 114 xA []) KK Q) Q ρ W:=by
 have aa:s.drop k≠[]:=by rw [kG J];exact List.cons_ne_nil _ _
 have a:first (s.drop k)=if jz ((s.drop k).take (jO (s.drop k))) then (3,jO (s.drop k),0) else (0,0,11):=by
  unfold first
  rw [qeF J,if_neg (by rw [hl];simp),if_pos hc]
 have y:=h.sc.kl;refine vH qBQ (qb W) (fun w3 b _=>⟨b, ?_⟩) (fun _ _ ρ v c w h=>by rw [hQ] at h⊢;exact h);have Z:=h.ext b;have ac:∀w',qb W w'→∀i,w'.cell? ⟨B4,i,none⟩=clV[i]? :=fun w' hh=>(h.b4.ext hh).cell;simp -implicitDefEqProofs [qpp,h.r0];refine qeM (n:=3) (k:=1) (e:=288) (inf:=_) (by kernel_rfl) rfl (by kernel_rfl) (by simp;exact h.r4) (by simp;rfl) (by decide) ?_;simp+contextual -implicitDefEqProofs [ac,b,clV];refine (qkc Z.sc.blk y Z.sc.short qFI).mono ?_;rintro _ W4 ⟨rfl,E⟩;have h4:=Z.ext E;have H:=(hE.trans' b).trans' E;have V:((s.drop k).takeWhile qO).length=jO (s.drop k):=rfl;simp [V,qhD,h.r0];refine (qai h4.sc.blk y).mono ?_;rintro _ W5 ⟨rfl,u⟩;have h5:=h4.ext u;have o:=H.trans' u;have ab:jO (s.drop k)≤s.length - k:=by have:=yB qO (s.drop k);simpa [jO] using this
 have z:(qc (s.drop k)).extract 0 (jO (s.drop k))=qc ((s.drop k).take (jO (s.drop k))):=by
  have:=Jf (s.drop k) 0 (jO (s.drop k));simpa using this
 simp [ab,z];have hs20:=h.sc.sl;refine (qvr (h.gw.ext o) _ (by simp;omega)).mono ?_;rintro _ W6 ⟨rfl,F⟩;have Y:=h5.ext F;have t:=o.trans' F;obtain ⟨n1,n2,n3⟩:=h.n2;cases hw:jz ((s.drop k).take (jO (s.drop k))) with
 |false=>
  rw [hw,if_neg (by simp)] at a;simp [h.r0];refine (qfA Y.sc.blk).mono ?_;rintro _ _ ⟨rfl,rfl⟩;simp [hQ];exact Y.brk (by rw [a]) (by decide)
 |true=>
  rw [hw,if_pos rfl] at a;simp [qpt,h.r3];refine qK (B:=B3) (i:=0) (by simp) Y.b3 (by simp) rfl rfl sz5 fun W8 U S=> ?_;simp at S;have I:qb w W8:=U.ext t (by omega);have h8:Nx base B w s k l coms cv B2 B3 B4 ((3:Nat):Int) ρ W8:=Y.kind t U S (h.gw.ext I);exact qdw (h8.env (by simp) (by simp) (by simp) (by simp)) a aa (vn:=8) (by simp) (by omega) hK
def vd (s:Bs):List Bs→Nat
 |[]=>0
 |g::l=>if Lib.hasPrefix s g then max (vd s l) g.length else vd s l
theorem qmw (s:Bs) (g:Bs):∀l,vd s (l++[g])=if Lib.hasPrefix s g then max (vd s l) g.length else vd s l
 |[]=>by simp [vd]
 |a::l=>by
  have b:=qmw s g l;simp only [List.cons_append,vd,b];split<;>split<;>omega
theorem qmv (s:Bs):∀l:List Bs,(∀g∈l,g.length=1∨g.length=2)→(vd s l=2↔∃g∈l,g.length=2∧Lib.hasPrefix s g=true)∧(vd s l=0↔∀g∈l,Lib.hasPrefix s g=false)∧vd s l≤2
 |[],_=>by simp [vd]
 |a::l,h=>by
  obtain ⟨o,E,u⟩:=qmv s l fun g b=>h g (by simp [b]);have F:=h a (by simp);simp only [vd];cases e:Lib.hasPrefix s a with
  |false=>
   simp only [Bool.false_eq_true,if_false];refine ⟨o.trans ⟨fun ⟨g,b,x⟩=>⟨g,by simp [b],x⟩, ?_⟩,E.trans ⟨fun c g b=> ?_,fun c g b=>c g (by simp [b])⟩,u⟩
   ·rintro ⟨g,b,x,y⟩;rcases List.mem_cons.1 b with rfl|b
    ·rw [e] at y;cases y
    ·exact ⟨g,b,x,y⟩
   ·rcases List.mem_cons.1 b with rfl|b
    ·exact e
    ·exact c g b
  |true=>
   simp only [if_true];refine ⟨⟨fun z=> ?_, ?_⟩,⟨fun z=>by omega,fun c=> ?_⟩,by omega⟩
   ·by_cases t:a.length=2
    ·exact ⟨a,by simp,t,e⟩
    ·obtain ⟨g,b,x⟩:=o.1 (by omega);exact ⟨g,by simp [b],x⟩
   ·rintro ⟨g,b,x,y⟩;rcases List.mem_cons.1 b with rfl|b
    ·omega
    ·have:=o.2 ⟨g,b,x,y⟩;omega
   ·have:=c a (by simp);rw [e] at this;cases this
theorem qdk {s g:Bs}:Lib.hasPrefix s g=true↔g.length≤s.length∧s.take g.length=g:=by
 unfold Lib.hasPrefix;rw [List.isPrefixOf_iff_prefix];constructor
 ·intro h;exact ⟨h.length_le,(List.prefix_iff_eq_take.1 h).symm⟩
 ·rintro ⟨_,h⟩;rw [←h];exact List.take_prefix _ _
theorem qkF {g:Bs} (h:g∈qW):g.length=1∨g.length=2:=(qbi g h).1
theorem qzL {s:Bs} (U:s≠[]):vd s qW=if 1<s.length∧js (s.take 2)=true then 2 else if js (s.take 1) then 1 else 0:=by
 have W:0<s.length:=List.length_pos_iff.2 U;obtain ⟨o,z,V⟩:=qmv s qW fun g b=>qkF b;have F:(∃g∈qW,g.length=2∧Lib.hasPrefix s g=true)↔(1<s.length∧js (s.take 2)=true):=by
  constructor
  ·rintro ⟨g,b,x,y⟩;obtain ⟨H,e⟩:=qdk.1 y;rw [x] at H e;exact ⟨by omega,by rw [e];simpa [js] using b⟩
  ·rintro ⟨x,y⟩;have a:(s.take 2).length=2:=by rw [List.length_take];omega
   exact ⟨s.take 2,by simpa [js] using y,a,qdk.2 ⟨by omega,by rw [a]⟩⟩
 have S:js (s.take 1)=true→vd s qW≠0:=by
  intro c J;have a:(s.take 1).length=1:=by rw [List.length_take];omega
  have:=z.1 J (s.take 1) (by simpa [js] using c);rw [qdk.2 ⟨by omega,by rw [a]⟩] at this;cases this
 split
 ·rename_i h;exact o.2 (F.2 h)
 ·rename_i h;have u:vd s qW≠2:=fun I=>h (F.1 (o.1 I));split
  ·rename_i c;have:=S c;omega
  ·rename_i c;refine z.2 fun g b=> ?_;cases E:Lib.hasPrefix s g with
   |false=>rfl
   |true=>
    obtain ⟨H,e⟩:=qdk.1 E;rcases qkF b with t|t
    ·rw [t] at e;exact absurd (by rw [e];simpa [js] using b) c
    ·exact absurd (o.2 ⟨g,b,t,E⟩) u
theorem qzs {B2 B3 B4:Nat} {ρ:qa} {W:World} (h:Nx base B w s k l coms cv B2 B3 B4 0 ρ W) (hE:qb w W) (ac:k<s.length) (hl:ve s[k]=false) (hc:qO s[k]=false) {Q:Ks} (hQ:∀ρ c w',Q.pn ρ c w'=yr base B w s k l coms cv (.panicked c) w') {KK:qa→World→Prop} (hK:∀ρ W,KK ρ W=Q3.wp (Cx.mk Tryz.prog 114 xA []) (nxR base B w s k l coms cv) (nxQ base B w s k l coms cv) ρ W):
  (IR.reg [.asg none 9 (.const (.int .i64 0)),
      .eff none (some 30) (.call {callee:= .value (.func 310),args:= #[],argTypes:= #[]}) 51,
      .asg none 31 (.op1 .lenS (.var 30)),
      .asg none 32 (.const (.int .i64 0))]).wp (Cx.mk Tryz.prog 114 xA []) ((IR.block 1 (.loop qb6)).wp (Cx.mk Tryz.prog 114 xA []) (qd2.wp (Cx.mk Tryz.prog 114 xA []) KK Q) Q) Q ρ W:=by
 have Y:s.drop k≠[]:=by rw [kG ac];exact List.cons_ne_nil _ _
 have hfr:first (s.drop k)=if 1<(s.drop k).length∧js ((s.drop k).take 2)=true then (4,2,0) else if js ((s.drop k).take 1) then (4,1,0) else (0,0,10):=by
  unfold first
  rw [qeF ac,if_neg (by rw [hl];simp),if_neg (by rw [hc];simp)]
 have hkl:=h.sc.kl;simp;refine (qvk (h.gw.ext hE)).mono ?_;rintro _ W1 ⟨v,rfl,hO,Z⟩;have I:=Own.sl (enc:=qe) (xs:=qW) hO (by decide);simp [I.is,I.len];refine jj 32 21 (fun j e W'=>qb W1 W'∧e 0=ρ 0∧e 2=ρ 2∧e 3=ρ 3∧e 4=ρ 4∧e 30=v∧e 31= .int .i64 21∧e 9= .int .i64 (vd (s.drop k) (qW.take j):Nat)) (by simp) ⟨qz _,by simp,by simp,by simp,by simp,by simp,by simp [qv0],by simp [vd]⟩ ?_;rintro j e W' hj E ⟨z,h0,h2,h3,h4,J,t,S⟩;have H:=(h.ext (Z.trans' z)).env h0 h2 h3 h4;by_cases F:j<21
 ·have ab:(j:Int)<21:=by omega
  have u:j<qW.length:=F;have U:=I.ext z;simp [qb6,qps,t,E,ab,F,J,U.is,U.len,u,U.cell j u,qe,H.r0];refine (qai H.sc.blk hkl).mono ?_;rintro _ W2 ⟨rfl,V⟩;simp;refine (Tryz.hasPrefix (qc (s.drop k)) (qc qW[j]) W2).mono ?_;rintro _ W2 ⟨rfl,rfl⟩;have o:vd (s.drop k) (qW.take (j+1))=if Lib.hasPrefix (s.drop k) qW[j] then max (vd (s.drop k) (qW.take j)) qW[j].length else vd (s.drop k) (qW.take j):=by
   rw [List.take_add_one,List.getElem?_eq_getElem u];exact qmw _ _ _
  cases hp:Lib.hasPrefix (s.drop k) qW[j] with
  |true=>
   rw [hp,if_pos rfl] at o;simp [hp,S];refine qeK (a:=(vd (s.drop k) (qW.take j):Nat)) (b:=(qW[j].length:Nat)) (k:= .i64) (by simp) (by simp) ?_;simp [qhC,E,qp (n:=(j:Int)+1) (by omega),h0,h2,h3,h4,J,t];refine ⟨z.trans' V, ?_⟩;rw [o];split<;>omega
  |false=>
   rw [hp,if_neg (by simp)] at o;simp [hp,qhC,E,qp (n:=(j:Int)+1) (by omega),h0,h2,h3,h4,J,t,S,o];exact z.trans' V
 ·have hj':j=21:=by omega
  subst hj';have o:vd (s.drop k) (qW.take 21)=vd (s.drop k) qW:=rfl;rw [o] at S;have y:(vd (s.drop k) qW=0∧first (s.drop k)=(0,0,10))∨(vd (s.drop k) qW≠0∧first (s.drop k)=(4,vd (s.drop k) qW,0)):=by
   rw [hfr,qzL Y];split
   ·exact .inr ⟨by decide,rfl⟩
   ·split
    ·exact .inr ⟨by decide,rfl⟩
    ·exact .inl ⟨rfl,rfl⟩
  generalize vd (s.drop k) qW=m at S y;rcases y with ⟨rfl,hf⟩|⟨hm,hf⟩
  ·simp [qb6,t,E,qd2,S,H.r0];refine (qfA H.sc.blk).mono ?_;rintro _ _ ⟨rfl,rfl⟩;simp [hQ];exact H.brk (by rw [hf]) (by decide)
  ·simp [qb6,t,E,qd2,S,hm,qpr,H.r3];obtain ⟨n1,n2,n3⟩:=h.n2;have ad:qb w W':=(hE.trans' Z).trans' z;refine qK (B:=B3) (i:=0) (by simp) H.b3 (by simp) rfl rfl sz5 fun W8 af ae=> ?_;simp at ae;have aa:qb w W8:=af.ext ad (by omega);have h8:Nx base B w s k l coms cv B2 B3 B4 ((4:Nat):Int) e W8:=H.kind ad af ae (h.gw.ext aa);exact qdw (h8.env (by simp) (by simp) (by simp) (by simp)) hf Y (vn:=9) (by simp [S]) (by omega) hK
theorem qvq (hG:G w) (h:Sc base B w s k l coms cv) (b:k<s.length):Calls Tryz.prog 267 #[.pointer (some ⟨B,0,none⟩)] w (yr base B w s k l coms cv):=by
 have hs64:=h.short;have hs20:=h.sl;have hfk:=qeF b;have hne:s.drop k≠[]:=by rw [kG b];exact List.cons_ne_nil _ _
 refine qBT fun ρ h0=> ?_;simp [qpv];refine qR z38 fun B2 W2 V a ac _=> ?_;have S:=h.ext a;simp [h0,S.blk.cell,qGc];refine qR z38 fun B3 W3 hB3 E hb3 _=> ?_;have hS3:=S.ext E;have U:=ac.ext E;simp;refine jl (B:=B3) (by simp) hb3 (by simp [Value.cells]) (by simp [Value.cells]) (by simpa [Value.cells] using qfE) fun W4 z I=> ?_;have Z:B2<B3:=by have:=ac.lt;omega
 have o3:=S.off hB3;have o2:=h.off V;have hS4:=hS3.only z o3.1 o3.2;have Y:=z.blk U (by omega);have hT4:Tn B cv cv w W4:=(Tn.ext (a.trans' E)).new z (by have:=a.size;omega);simp [Value.cells] at I;simp;refine qkf.mono ?_;rintro _ W5 ⟨rfl,o⟩;simp;refine qR qjI fun B4 W6 hB4 u aa _=> ?_;simp;have F:=I.ext o;have hl4:B3<B4:=by have:=F.lt;omega
 refine jl (B:=B4) (by simp) aa (by simp [Value.cells]) (by simp [Value.cells];decide) (by simpa [Value.cells] using qkh) fun W7 t H=> ?_;have hS5:=hS4.ext o;have o4:=hS5.off hB4;have ab:=(hS5.ext u).only t o4.1 o4.2;have hb37:=t.blk (F.ext u) (by omega);have W:=t.blk ((Y.ext o).ext u) (by omega);have hT7:Tn B cv cv w W7:=((hT4.trans (Tn.ext o)).trans (Tn.ext u)).new t (by have:=a.size;omega);have J:qb w W7:=by
  have e4:qb w W4:=z.ext (a.trans' E) (by have:=a.size;omega);exact t.ext ((e4.trans' o).trans' u) (by have:=a.size;omega)
 simp [Value.cells] at H;simp [h0,ab.blk.cell,b,qbb b];intro W8 c;have hN:∀e:qa,e 0= .pointer (some ⟨B,0,none⟩)→e 2= .pointer (some ⟨B2,0,none⟩)→e 3= .pointer (some ⟨B3,0,none⟩)→e 4= .pointer (some ⟨B4,0,none⟩)→Nx base B w s k l coms cv B2 B3 B4 0 e W8:=fun e a0 a2 a3 a4=>
  ⟨a0,a2,a3,a4,ab.ext c,W.ext c,hb37.ext c,H.ext c,hT7.trans (Tn.ext c),⟨V,Z,hl4⟩,⟨o3.1,o2.1⟩,⟨o3.2,o2.2⟩,hG.ext (J.trans' c),hG⟩
 have y:=J.trans' c;simp [qpu];refine (qfz s[k] W8).mono ?_;rintro _ W8 ⟨rfl,rfl⟩;cases hl:ve s[k] with
 |true=>
  simp;refine qzt (hN _ (by simp [h0]) (by simp) (by simp) (by simp)) y b hl (fun _ _ _=>rfl) fun _ _=>rfl
 |false=>
  simp;refine (qfB s[k] W8).mono ?_;rintro _ W8 ⟨rfl,rfl⟩;cases hc:qO s[k] with
  |true=>
   simp;refine qzv (hN _ (by simp [h0]) (by simp) (by simp) (by simp)) y b hl hc (fun _ _ _=>rfl) fun _ _=>rfl
  |false=>
   simp only [xT];refine qzs (hN _ (by simp [h0]) (by simp) (by simp) (by simp)) y b hl hc (fun _ _ _=>rfl) fun _ _=>rfl
end
end Go.L01
namespace Go.L01
open Go Go.Eng Go.Proofs
set_option maxRecDepth 100000
noncomputable def qmQ:Code:=(Tryz.f200.body).getD .skip
noncomputable def qdP (v:Value):IR:=zq [za 6 (.const v)] <| .block 0 (zq [zE 8 (.binOp .eql 20 (zt 6) (.const .nilIface) 20) 4] <| .cond (zv 8) (.reg [zm 3 6]) (zq [zE 9 (.typeAssert (zt 6) 20 212 true) 0,za 10 (ze 1 (zv 9)),za 11 (ze 0 (zv 9))] <| .cond (zv 10) (zq [zA 4 212,zw 212 (zt 4) (zt 11)] <| .raw (qN qmQ 7)) (.reg [zm 5 6,zm 7 5, .eff none none (.panic (zt 7)) 0])))
def qdO:List Nat:=zV 14 []
theorem qz6 (v:Value):(qT Tryz.prog Tryz.f200.ntmps qdO [7] (Qz v (Tryz.f200.body.getD .skip))).map IR.norm=some (qdP v):=by kernel_rfl
theorem qmP {v0 b a:Value} {u:FrameMode} {w:World} {R:Ending→FrameMode→World→Prop} (h:∀ρ:qa,ρ 0=v0→ρ 1=b→ρ 2=a→(qdP (vQ u)).wp ⟨Tryz.prog,14,qdO,[]⟩ (yN [] (zD u) R) (qap [] (zD u) R) ρ w):
  CallsDIn Fence.wide 0 Tryz.prog 200 #[v0,b,a] u w R:=by
 obtain ⟨e,o,t⟩:=Option.map_eq_some_iff.1 (qz6 (vQ u));exact qtN (args:= #[v0,b,a]) Tryz.func200 (c:=Tryz.f200.body.getD .skip) rfl (by kernel_rfl) o t (by kernel_rfl) (show vc Tryz.prog qdO Tryz.f200.results.toList=some [] by kernel_rfl) (Nat.le_of_ble_eq_true rfl) (h _ rfl rfl rfl)
noncomputable def qmO:OT:=zy 12 (zf 0 (zv 4))<|zy 13 (zM 2 (zv 12))<| .step (zw 48 (zt 0) (.const (.slice none 0 0))) true<| .step (zw 51 (zt 1) (.const (.slice none 0 0))) true<| .step (zw 26 (zt 2) (zt 13)) false<| .done
theorem qz7:vF Tryz.prog 14 qdO 4 (qN qmQ 7)=some qmO:=by kernel_rfl
end Go.L01
namespace Go.L01
open Go Go.Eng Go.Proofs Go.RowKit
set_option maxRecDepth 100000
set_option maxHeartbeats 2000000
@[simp] theorem qJ2:qf Tryz.prog 266=true:=by kernel_rfl
@[simp] theorem qJ1:qf Tryz.prog 267=true:=by kernel_rfl
theorem qxC {cx:Cx} {g:Operand} {ps:Array Tmp} {assign body:Code} {gf:FuncId} {fs lb:Array Value} {K:qa→World→Prop} {Q:Ks} {ρ:qa} {w:World} (hD:cx.D≠[]) (hg:qd ρ g= .func (.func gf) fs lb) (J:vu cx.V g=false)
  (o:qf cx.P gf=true)
  (h:∀(a:Act) (r:Loop) (W1:World),Agree cx.n cx.V ρ a→r.tmps=a.tmps→r.params=ps→r.assign=assign→r.body=body→r.state= .ready→r.pending=none→qb w W1→W1.heap.size=w.heap.size+2→LoopB W1 (w.heap.size+1) w.heap.size r→
   Calls cx.P gf (fs++ #[.func (.yield (w.heap.size+1)) #[] #[]]++lb) W1 (qmz cx (w.heap.size+1) w.heap.size r K Q (qu ρ gS (xS (xM w.heap.size) (ρ gS))))):
  (IR.raw (.rangeFunc g ps assign body)).wp cx K Q ρ w:=by
 intro a Z hDa hdf;refine (wpIn_wide (n:=0)).1 (wpIn_rangeFunc fun fn _=> ?_);obtain ⟨rec,b⟩:∃rec:Loop,rec={state:= .ready,pending:=none,fn,tmps:=a.tmps,params:=ps,assign,body,defers:=w.heap.size}:=⟨_,rfl⟩;obtain ⟨W1,u⟩:∃W1,(w.alloc (.deferred (some []))).alloc (.loop rec)=W1:=⟨_,rfl⟩;have hE:qb w W1:=by rw [←u];exact (kj _ _).trans' (kj _ _)
 have I:W1.heap.size=w.heap.size+2:=by rw [←u];simp
 have hL:LoopB W1 (w.heap.size+1) w.heap.size rec:=by
  rw [←u];refine ⟨?_, ?_⟩
  ·have:=World.alloc_heap_new (w.alloc (.deferred (some []))) (.loop rec);rwa [World.size_alloc] at this
  ·exact (Below.heap_alloc _ _ _ (by simp)).trans (World.alloc_heap_new w _)
 have W:a.eval g= .func (.func gf) fs lb:=by
  rw [←hg];cases g with
  |tmp t=>
   have ht:t∈cx.V:=by simpa [vu] using J
   simp [Act.eval,qd,Z.at ht]
  |const v=>rfl
  |global v=>rfl
  |func v=>rfl
 refine ⟨w.heap.size+1,[xM w.heap.size],W1,{target:= .fn (.func gf) lb,args:=fs++ #[.func (.yield (w.heap.size+1)) #[] #[]]},W1,gf,fs++ #[.func (.yield (w.heap.size+1)) #[] #[]]++lb,W1, ?_, ?_,fun _ _=>trivial, ?_,fun h0=>(by cases h0), ?_⟩
 ·rw [←u,b];exact run_enterLoop_outer _ _ _ _ _
 ·simp only [resolve,W];simp [Deferred.ofValue,Act.eval]
 ·unfold qf at o;split at o
  ·rename_i f2 U;simp only [Bool.and_eq_true,Bool.not_eq_true',beq_eq_false_iff_ne,ne_eq] at o;cases hb:f2.body with
   |none=>simp [hb] at o
   |some c=>simp [invoke,callFunc,U,o.1,hb]
  ·cases o
 ·refine (callsIn_wide (n:=0 - 1)).2 ((h a rec W1 Z (by rw [b]) (by rw [b]) (by rw [b]) (by rw [b]) (by rw [b]) (by rw [b]) hE I hL).mono ?_);have z:=Z.defer (xM w.heap.size);have y:jT cx {a with defers:=[xM w.heap.size]++a.defers}:=fun e=>absurd e hD;intro e W3 S;cases e with
  |returned v=>
   obtain ⟨st,E,Y,H,F⟩:=S;have F:=F _ (QT _ _ _) (H.put _);refine ⟨E,_,run_endLoop H.rcd Y, ?_⟩;cases E with
   |none=>exact ⟨y,_,z,F⟩
   |some c=>
    cases c<;>first|exact F.elim|skip
    ·exact wpIn_exit ⟨y,_,z,F⟩
    ·exact wpIn_ret ⟨y,_,z,F⟩
  |panicked c=>exact ⟨y,_,z,S⟩
  |outgrown=>exact qbX S
def qGC (base B:Nat) (s:Bs) (J:List Tok→Value→World→Prop):Ending→World→Prop:=fun e W'=>
 (∃v ts coms cv line,e= .returned v∧qX s 1= .ok ts coms∧J ts cv W'∧Sc base B W' s s.length line coms cv)∨
 (∃er line ts cv,e=brk er line∧qX s 1= .bad er line∧J ts cv W')
def qGD (base B l:Nat) (s:Bs) (J:List Tok→Value→World→Prop) (ρ':qa) (W':World):Prop:=
 ρ' 0= .pointer (some ⟨B,0,none⟩)∧ρ' 1= .func (.yield l) #[] #[]∧∃ts k line coms cv,Sc base B W' s k line coms cv∧J ts cv W'∧wF s k∧qX s 1=(qX (s.drop k) line).add ts coms∧ts.length≤k
theorem qAa {W:World} {base B l:Nat} {s:Bs} {cv0:Value} (J:List Tok→Value→World→Prop) (hg:∀b cv W,J b cv W→G W) (I:∀b cv U W W',J b cv W→Tn B cv U W W'→J b U W')
  (hY:∀b cv t W k line coms,J b cv W→Sc base B W s k line coms cv→b.length≤20000→Ql Tryz.prog l #[qaN t] W fun e W'=>e= .returned (.bool true)∧J (b++[t]) cv W'∧Sc base B W' s k line coms cv)
  (h0:J [] cv0 W) (y:Sc base B W s 0 1 [] cv0):
  Calls Tryz.prog 201 #[.pointer (some ⟨B,0,none⟩), .func (.yield l) #[] #[]] W (qGC base B s J):=by
 refine qCW fun ρ r0 r1=> ?_;simp [qqV,r0];refine (qkb y).mono ?_;rintro _ W1 ⟨rfl,k,line,new,cv,Z,z⟩;simp;refine yZ (qGD base B l s J) (fun _ w'=>s.length - atOf w' B) ⟨by simp [r0],by simp [r1],[],k,line,new,cv,by simpa using Z.sc,I _ _ _ _ _ h0 Z.tn,z,by simpa using Z.eq,by simp⟩ ?_;clear Z z;rintro ρ' W' ⟨r0,r1,b,k,line,coms,cv,y,hj,z,E,hlen⟩;have hat:=y.at
 by_cases o:k<s.length
 ·simp [qh6,r0,y.blk.cell,o];intro W2 c;have hS2:=y.ext c;have F:=I _ _ _ _ _ hj (Tn.ext c);obtain ⟨hbl,h37⟩:=z o;have V:=hbl;simp only [yp,Bool.or_eq_false_iff,decide_eq_false_iff_not] at V;obtain ⟨⟨b1,b2⟩,b3⟩:=V;have u:=yJ s[k] (s.drop (k+1)) line;rw [←kG o,if_neg b3,if_neg (by rintro (h|h)<;>contradiction),if_neg h37] at u;simp [qh7,qqT,r0,r1];refine (qvq (hg _ _ _ F) hS2 o).mono ?_;rintro e W3 ⟨Y,⟨hf,rfl,hS3⟩|⟨hf,rfl⟩⟩
  ·rw [if_neg (by simpa using hf)] at u;have hj3:=I _ _ _ _ _ F Y;simp;refine qiS (l:=l) (by simp) (by simp) ?_;simp;refine (hY b cv _ W3 _ _ _ hj3 hS3 (by have:=y.kl;have:=y.sl;omega)).mono ?_;rintro _ W4 ⟨rfl,hj4,hS4⟩;simp [qqU,r0];refine (qkb hS4).mono ?_;rintro _ W5 ⟨rfl,k5,H,new5,cv5,a,S⟩;have hpos:=qaM hf (by rw [kG o];exact List.cons_ne_nil _ _);simp;refine ⟨⟨by simp [r0],by simp [r1],_,k5,H,_,cv5,a.sc,I _ _ _ _ _ hj4 a.tn,S, ?_, ?_⟩, ?_⟩
   ·rw [E,u,List.drop_drop,a.eq,Res.add_add,Res.add_add];simp
   ·have:=a.le;simp;omega
   ·rw [a.sc.at,hat];have:=a.le;omega
  ·rw [if_pos hf] at u;simp [brk];exact .inr ⟨_,_,b,cv,rfl,by rw [E,u];rfl,I _ _ _ _ _ F Y⟩
 ·have hk:k=s.length:=by have:=y.kl;omega
  subst hk;simp [qh6,r0,y.blk.cell,qh7];intro W2 c;refine .inl ⟨_,b,coms,cv,line,rfl, ?_,I _ _ _ _ _ hj (Tn.ext c),y.ext c⟩;rw [E,List.drop_length,qc2];simp [Res.add]
theorem vt:Tryz.prog.underlying 20=some (.interface (Tryz.prog.methodsAt 20)):=by kernel_rfl
def vp:Option TypeDesc→Bool|some (.struct _)=>true|_=>false
theorem quX:∃ds,Tryz.prog.underlying 212=some ds∧∀m,ds≠ .interface m:=by
 have h:vp (Tryz.prog.underlying 212)=true:=by kernel_rfl
 unfold vp at h;split at h
 ·rename_i fs a;exact ⟨_,a,fun m b=>by cases b⟩
 ·cases h
theorem z84:vG Tryz.prog 212=some #[.int .i64 0, .int .i64 0]:=by kernel_rfl
theorem qvv:jA Tryz.prog 212 2=true:=by kernel_rfl
theorem x4:jA Tryz.prog 26 2=true:=by kernel_rfl
theorem qcP:jA Tryz.prog 48 1=true:=by kernel_rfl
def qju (e l:Int):List PanicEntry:=[{v:= .iface 212 (.agg #[.int .i64 e, .int .i64 l]),recovered:=false}]
theorem qFu {v0 b a:Value} {w:World}:CallsDIn Fence.wide 0 Tryz.prog 200 #[v0,b,a] .returning w fun e c w'=>(∃v,e= .returned v)∧c= .returning∧w'=w:=by
 refine qmP fun ρ o t h=> ?_;simp [qdP,vQ,zD];refine qtl vt (by simp) ?_;simp
theorem qFv {w:World} {L C F:Nat} {x y:Value} {f:Array Value} {er ln:Int} (U:Blk w L #[x] 48) (hC:Blk w C #[y] 51) (hF:Blk w F f 26) (hf:f.size=2) (h1:L≠C) (h2:L≠F) (h3:C≠F):
  CallsDIn Fence.wide 0 Tryz.prog 200 #[.pointer (some ⟨L,0,none⟩), .pointer (some ⟨C,0,none⟩), .pointer (some ⟨F,0,none⟩)] (.panicking (qju er ln)) w fun e u' w'=>(∃v,e= .returned v)∧settle u'= .returning∧
   (∃W,qb w W∧∃W2,Only L W W2∧∃W3,Only C W2 W3∧Only F W3 w')∧Blk w' L #[.slice none 0 0] 48∧Blk w' C #[.slice none 0 0] 51∧Blk w' F #[.int .i64 er, .int .i64 ln] 26:=by
 obtain ⟨ds,hu,hd⟩:=quX;refine qmP fun ρ r0 r1 r2=> ?_;simp [qdP,vQ,zD,qju];refine qtk (u:=212) (v:= .agg #[.int .i64 er, .int .i64 ln]) vt (by simp) ?_;simp;refine qtp (a:=212) (v:= .agg #[.int .i64 er, .int .i64 ln]) hu hd (by simp) ?_;simp;refine qR z84 fun B W hB V hb _=> ?_;simp;refine jl (B:=B) (by simp) hb (by simp [Value.cells]) (by simp [Value.cells]) (by simpa [Value.cells] using qvv) fun W1 t S=> ?_;simp [Value.cells] at S;have Y:=t.blk (U.ext V) (by have:=U.lt;omega);have hC1:=t.blk (hC.ext V) (by have:=hC.lt;omega);have aa:=t.blk (hF.ext V) (by have:=hF.lt;omega);simp;refine vH qz7 (fun W=>Blk W B #[.int .i64 er, .int .i64 ln] 212) fun W2 b _=> ?_;have z:=S.ext b;refine ⟨z, ?_⟩;have hb':∀w',Blk w' B #[.int .i64 er, .int .i64 ln] 212→∀i,w'.cell? ⟨B,i,none⟩= #[Value.int .i64 er, .int .i64 ln][i]? :=fun w' h=>h.cell;simp+contextual -implicitDefEqProofs [qmO,z.cell,hb'];refine qK (B:=L) (i:=0) (by simp [r0]) (Y.ext b) (by simp) rfl rfl qcP fun W3 c I=> ?_;refine ⟨c.blk z (by have:=U.lt;omega), ?_⟩;simp;have Z:=c.blk (hC1.ext b) (Ne.symm h1);refine qK (B:=C) (i:=0) (by simp [r1]) Z (by simp) rfl rfl qcQ fun W4 o J=> ?_;refine ⟨o.blk (c.blk z (by have:=U.lt;omega)) (by have:=hC.lt;omega), ?_⟩;simp;have hF4:=o.blk (c.blk (aa.ext b) (Ne.symm h2)) (Ne.symm h3);refine jl (B:=F) (by simp [r2]) hF4 (by simp [Value.cells,hf]) (by simp [Value.cells]) (by rw [hf];exact x4) fun W5 E H=> ?_;simp [Value.cells] at I J H⊢;refine ⟨by rfl,⟨W2,(t.ext V hB).trans' b,W3,c,W4,o,E⟩,E.blk (o.blk I h1) h2,E.blk J h3,H⟩
def qB (ts:List Tok):List Value:=ts.flatMap fun t=>[.int .u8 (t.kind:Int), .string (qc t.text), .int .i64 t.line]
@[simp] theorem qGR:qB []=[]:=rfl
theorem qj8 (a:List Tok) (t:Tok):qB (a++[t])=qB a++[.int .u8 (t.kind:Int), .string (qc t.text), .int .i64 t.line]:=by simp [qB]
theorem jo (a:List Tok):(qB a).length=a.length*3:=by
 induction a with
 |nil=>rfl
 |cons t a b=>
  have:qB (t::a)=[.int .u8 (t.kind:Int), .string (qc t.text), .int .i64 t.line]++qB a:=rfl;rw [this,List.length_append,b];simp;omega
theorem Own.same {base e sz:Nat} {w w':World} {v:Value} {xs:List Value} (h:Own base e sz w v xs) (c:∀k,v.ownBlock=some k→w'.heap[k]? =w.heap[k]?):Own base e sz w' v xs:=by
 rcases h with h|⟨g,off,n,cap,cur,rfl,a,b,r⟩
 ·exact .inl h
 ·exact .inr ⟨g,off,n,cap,cur,rfl,a,(c g rfl).trans b,r⟩
structure SJ (w:World) (B L C F l Db:Nat) (rec:Loop) (ts:List Tok) (cv:Value) (lv:Value) (W:World):Prop where
 ext:qb w W
 lp:LoopB W l Db rec
 bl:Blk W L #[lv] 48
 bc:Blk W C #[.slice none 0 0] 51
 bf:Blk W F #[.int .i64 0, .int .i64 0] 26
 own:Own w.heap.size 53 3 W lv (qB ts)
 ne:∀X∈[B,L,C,F,l,Db],lv.ownBlock≠some X
 nc:∀X∈[L,C,F,l,Db],cv.ownBlock≠some X∧X≠B
 nn:∀k,lv.ownBlock=some k→cv.ownBlock≠some k
theorem SJ.turn {w:World} {B L C F l Db:Nat} {rec:Loop} {z:List Tok} {cv o E:Value} {W W':World} (h:SJ w B L C F l Db rec z cv E W) (b:Tn B cv o W W') (V:w.heap.size≤B) (U:∀k,cv.ownBlock=some k→w.heap.size≤k):SJ w B L C F l Db rec z o E W':=by
 have t:=h.lp.lt;have keep:∀X∈[L,C,F,l,Db],X<W.heap.size→W'.heap[X]? =W.heap[X]? :=fun X c J=>b.block X J (h.nc X c).2 (h.nc X c).1;have S:=h.bl.lt;have I:=h.bc.lt;have H:=h.bf.lt;refine ⟨⟨b.os.trans h.ext.os,b.tape.trans h.ext.tape,b.output.trans h.ext.output,Nat.le_trans h.ext.size b.size,fun k a=>(b.block k (Nat.lt_of_lt_of_le a h.ext.size) (by omega) fun e=>by have:=U k e;omega).trans (h.ext.block k a)⟩,
  h.lp.keep (keep l (by simp) t.1) (keep Db (by simp) t.2),⟨(keep L (by simp) S).trans h.bl.heap⟩,⟨(keep C (by simp) I).trans h.bc.heap⟩,⟨(keep F (by simp) H).trans h.bf.heap⟩, ?_,h.ne, ?_, ?_⟩
 ·refine Own.same h.own fun k a=> ?_;have u:=(h.own.blk k a).2;exact b.block k u (fun e=>h.ne B (by simp) (by rw [a,e])) (h.nn k a)
 ·intro X c;refine ⟨?_,(h.nc X c).2⟩;rcases b.own with e|e
  ·rw [e];exact (h.nc X c).1
  ·intro y;have:=e X y;simp only [List.mem_cons,List.mem_nil_iff,or_false] at c;rcases c with rfl|rfl|rfl|rfl|rfl<;>omega
 ·intro k a;rcases b.own with e|e
  ·rw [e];exact h.nn k a
  ·intro y;have Y:=e k y;have Z:=(h.own.blk k a).2;omega
theorem SJ.round {w:World} {B L C F l Db:Nat} {rec a:Loop} {o:List Tok} {cv t:Value} {W W':World} (h:SJ w B L C F l Db rec o cv t W) (b:Only l W W') (y:w.heap.size≤l) (c:L≠l∧C≠l∧F≠l) (z:LoopB W' l Db a):SJ w B L C F l Db a o cv t W':=
 ⟨b.ext h.ext y,z,b.blk h.bl c.1,b.blk h.bc c.2.1,b.blk h.bf c.2.2,Own.same h.own fun k u=>b.block k (fun e=>h.ne l (by simp) (by rw [u,e])),h.ne,h.nc,h.nn⟩
theorem SJ.app {w:World} {B L C F l Db:Nat} {rec:Loop} {ts u:List Tok} {cv H a:Value} {W W1 W':World} (h:SJ w B L C F l Db rec ts cv H W) (Y:W.grownBy W1 H.ownBlock) (ho:Own w.heap.size 53 3 W1 a (qB u)) (Z:a.ownBlock=H.ownBlock∨a.ownBlock=some W.heap.size)
  (I:Only L W1 W') (hb:Blk W' L #[a] 48) (z:C≠L∧F≠L∧l≠L∧Db≠L) (hB:B<W.heap.size) (hc:∀k,cv.ownBlock=some k→k<W.heap.size) (S:w.heap.size≤L):SJ w B L C F l Db rec u cv a W':=by
 have b:=h.lp.lt;have hL:=h.bl.lt;have V:=h.bc.lt;have U:=h.bf.lt;have keep:∀X∈[C,F,l,Db],X<W.heap.size→X≠L→W'.heap[X]? =W.heap[X]? :=by
  intro X o hl E;rw [I.block X E];refine Y.block X hl fun e=>h.ne X ?_ e.symm;simp only [List.mem_cons,List.mem_nil_iff,or_false] at o⊢;rcases o with rfl|rfl|rfl|rfl<;>simp
 have y:∀X∈[B,L,C,F,l,Db],X<W.heap.size:=by
  intro X o;simp only [List.mem_cons,List.mem_nil_iff,or_false] at o;rcases o with rfl|rfl|rfl|rfl|rfl|rfl
  ·exact hB
  ·exact hL
  ·exact V
  ·exact U
  ·exact b.1
  ·exact b.2
 have c:∀X∈[B,L,C,F,l,Db],a.ownBlock≠some X:=by
  intro X o;rcases Z with e|e
  ·rw [e];exact h.ne X o
  ·rw [e];intro J;cases J;have:=y _ o;omega
 refine ⟨?_,h.lp.keep (keep l (by simp) b.1 z.2.2.1) (keep Db (by simp) b.2 z.2.2.2),hb,⟨(keep C (by simp) V z.1).trans h.bc.heap⟩,⟨(keep F (by simp) U z.2.1).trans h.bf.heap⟩, ?_,c,h.nc, ?_⟩
 ·exact I.ext (h.ext.grown Y h.ext.size fun k t=>(h.own.blk k t).1) S
 ·exact Own.same ho fun k t=>I.block k fun e=>c L (by simp) (by rw [t,e])
 ·intro k t;rcases Z with e|e
  ·exact h.nn k (e▸t)
  ·rw [e] at t;cases t;intro J;have:=hc _ J;omega
theorem Sc.gb {base B:Nat} {W W':World} {s:Bs} {k:Nat} {line:Int} {coms:List Bs} {cv:Value} {row:Option Nat} (h:Sc base B W s k line coms cv) (a:W.grownBy W' row) (b:row≠some B) (c:cv.ownBlock=none∨cv.ownBlock≠row):Sc base B W' s k line coms cv:=
 ⟨⟨(a.block B h.blk.lt (fun e=>b e.symm)).trans h.blk.heap⟩,h.own.kept a c,h.ne,h.bB,Nat.le_trans h.bW a.size,h.kl,h.sl,h.l0,h.l1,h.cl⟩
theorem qlm:∃b,ke Tryz.prog 48=some (53,3,b)∧b≤64:=by
 have h:(match ke Tryz.prog 48 with|some (e,s,b)=>decide (e=53)&&decide (s=3)&&decide (b≤64)|none=>false)=true:=by kernel_rfl
 split at h
 ·rename_i e s b c;simp only [Bool.and_eq_true,decide_eq_true_eq] at h;obtain ⟨⟨rfl,rfl⟩,a⟩:=h;exact ⟨b,c,a⟩
 ·cases h
theorem qkG:xG Tryz.prog 48=some (53,3):=by kernel_rfl
theorem qtU:Tryz.prog.built 26 [(0, .int .i64 2)]=some #[.int .i64 2, .int .i64 0]:=by kernel_rfl
theorem qe0:Tryz.prog.built 26 []=some #[.int .i64 0, .int .i64 0]:=by kernel_rfl
theorem qF8 (s:Bs):Tryz.prog.built 215 [(0, .string (qc s)),(2, .int .i64 1)]=some #[.string (qc s), .int .i64 0, .int .i64 1]:=by kernel_rfl
theorem qF7 (s:Bs):Tryz.prog.built 217 [(0, .agg #[.string (qc s), .int .i64 0, .int .i64 1])]=some #[.string (qc s), .int .i64 0, .int .i64 1, .slice none 0 0]:=by kernel_rfl
theorem z28:vG Tryz.prog 48=some #[.slice none 0 0]:=by kernel_rfl
theorem z25:vG Tryz.prog 51=some #[.slice none 0 0]:=by kernel_rfl
theorem z31:vG Tryz.prog 26=some #[.int .i64 0, .int .i64 0]:=by kernel_rfl
@[simp] theorem qtK:qf Tryz.prog 200=true:=by kernel_rfl
@[simp] theorem qKf:qf Tryz.prog 201=true:=by kernel_rfl
def qaa (w:World) (src:Bs):Ending→World→Prop:=fun e w'=>∃v c,e= .returned (.tuple #[v,c, .agg #[.int .i64 (ql src).err, .int .i64 (ql src).at]])∧
 Own w.heap.size 53 3 w' v (qB (ql src).toks)∧Own w.heap.size 9 1 w' c ((ql src).coms.map qe)∧qb w w'
theorem qge {t u z A B C:Nat} {x y:Value} {cs:Array Value} {T U V:TypeId} {R:Ending→World→Prop} {ρ:qa} {w:World} (c:ρ t= .pointer (some ⟨A,0,none⟩)) (o:Blk w A #[x] T) (H:ρ u= .pointer (some ⟨B,0,none⟩)) (E:Blk w B #[y] U)
  (e:ρ z= .pointer (some ⟨C,0,none⟩)) (I:Blk w C cs V) (F:cs.size=2) (h:R (.returned (.tuple #[x,y, .agg cs])) w):qw [.cell1 t, .cell1 u, .cellN z 2] R ρ w:=by
 have b:w.cell? ⟨A,0,none⟩=some x:=by rw [o.cell];rfl
 have J:w.cell? ⟨B,0,none⟩=some y:=by rw [E.cell];rfl
 have a:qU w (.loadN 2) (.pointer (some ⟨C,0,none⟩))=some (.agg cs):=by rw [qbH,←F,kT I];rfl
 simp only [qw,vE,RV.val,c,H,e,qya,b,J,a,Option.map_some,Option.bind_some];exact h
theorem jZ {P:Program} {rs:List RV} {R:Ending→World→Prop} {ρ:qa} {w:World} {f:FuncId} {caps:Array Value} {u:FrameMode} (t:u≠ .run) (a:qf P f=true)
  (h:CallsDIn Fence.wide 0 P f caps u w fun
   | .returned _,e,w'=>jP P rs R ρ [] (settle e) w'
   | .panicked b,e,w'=>jP P rs R ρ [] (raised e b) w'
   | .outgrown,_,w'=>R .outgrown w'):jP P rs R ρ [.func (.func f) #[] caps] u w:=by
 refine ⟨t,f,caps, ?_,h⟩;unfold qf at a;split at a
 ·rename_i fn y;simp only [Bool.and_eq_true,Bool.not_eq_true',beq_eq_false_iff_ne,ne_eq] at a;cases o:fn.body with
  |none=>simp [o] at a
  |some c=>simp [invoke,callFunc,y,a.1,o]
 ·cases a
theorem qwf {R:Ending→World→Prop} {l:List Nat} (t:∀d∈l,d≠gS∧d≠2∧d≠3∧d≠4):∀d∈l,∀ρ v c w,(vC Tryz.prog [.cell1 2, .cell1 3, .cellN 4 2] R).pn (qu ρ d v) c w→(vC Tryz.prog [.cell1 2, .cell1 3, .cellN 4 2] R).pn ρ c w:=by
 intro d o ρ v c w h;obtain ⟨e,u,a,b⟩:=t d o;refine qte e (fun w=> ?_) h;simp [vE,RV.val,Ne.symm u,Ne.symm a,Ne.symm b]
theorem qvl {w:World} (hG:G w) (src:Bs) (hs:src.length<4611686018427387904):Calls Tryz.prog 115 #[.string (qc src)] w (qaa w src):=by
 refine qEi fun ρ r0 rg=> ?_;have rg':ρ 1000000000= .tuple #[]:=rg;simp [qiE,r0];refine qR z28 fun L W1 hL hE1 hbL hs1=> ?_;simp;refine qR z25 fun C W2 hC hE2 hbC hs2=> ?_;simp;refine qR z31 fun F W3 hF hE3 hbF hs3=> ?_;have hE13:=(hE1.trans' hE2).trans' hE3;have hbL3:=(hbL.ext hE2).ext hE3;have hbC3:=hbC.ext hE3;have z1:=hE1.size;have z2:=hE2.size;have z3:=hE3.size;by_cases hlen:20000<src.length
 ·have hlI:(20000:Int)<src.length:=by omega
  have Z:ql src= .bad 2 0:=by rw [ql,if_pos hlen]
  simp [hlI,qtU,r0];refine qK (B:=L) (i:=0) (by simp) hbL3 (by simp) rfl rfl qcP fun W4 hO4 hb4=> ?_;simp;refine qK (B:=C) (i:=0) (by simp) (hO4.blk hbC3 (by omega)) (by simp) rfl rfl qcQ fun W5 hO5 hb5=> ?_;simp;refine jl (B:=F) (by simp) (hO5.blk (hO4.blk hbF (by omega)) (by omega)) (by simp [Value.cells]) (by simp [Value.cells]) (by simpa [Value.cells] using x4) fun W6 hO6 hb6=> ?_;simp [Value.cells] at hb4 hb5 hb6⊢;refine qtd (by simp [gS,rg']) ?_;refine qge (by simp) (hO6.blk (hO5.blk hb4 (by omega)) (by omega)) (by simp) (hO6.blk hb5 (by omega)) (by simp) hb6 rfl ?_;refine ⟨_,_,by rw [Z];rfl,by rw [Z];exact Own.nil _ _ _ _,by rw [Z];exact Own.nil _ _ _ _, ?_⟩;exact hO6.ext (hO5.ext (hO4.ext hE13 hL) (by omega)) (by omega)
 ·have hlI:¬(20000:Int)<src.length:=by omega
  have Z:ql src=qX src 1:=by rw [ql,if_neg hlen]
  simp [hlI,r0,qsm];refine qiW (f:=200) (caps:= #[.pointer (some ⟨L,0,none⟩), .pointer (some ⟨C,0,none⟩), .pointer (some ⟨F,0,none⟩)]) (by simp) trivial ?_;simp [gS,rg',r0,qF8,qF7];refine vv fun B W4 hB hE4 hbB hs4=> ?_;simp [Value.cells] at hbB⊢;have E:=hE13.trans' hE4;have hbL4:=hbL3.ext hE4;have hbC4:=hbC3.ext hE4;have hbF4:=hbF.ext hE4;have hS4:Sc w.heap.size B W4 src 0 1 [] (.slice none 0 0):=⟨by simpa using hbB,Own.nil _ _ _ _,by simp [Value.ownBlock],by omega,E.size,Nat.zero_le _,by omega,by omega,by omega,by simp⟩;obtain ⟨Q,hQ⟩:∃Q,Q=vC Tryz.prog [.cell1 2, .cell1 3, .cellN 4 2] (qaa w src):=⟨_,rfl⟩;have hQrt:Q.rt=jD Tryz.prog [.cell1 2, .cell1 3, .cellN 4 2] (qaa w src) .returning:=by rw [hQ];rfl
  have hQpn:∀ρ c w',Q.pn ρ c w'=jD Tryz.prog [.cell1 2, .cell1 3, .cellN 4 2] (qaa w src) (.panicking c) ρ w':=by rw [hQ];intros;rfl
  have key:∀o:qa,o 2= .pointer (some ⟨L,0,none⟩)→o 3= .pointer (some ⟨C,0,none⟩)→o 4= .pointer (some ⟨F,0,none⟩)→o 5= .pointer (some ⟨B,0,none⟩)→o 17= .func (.func 201) #[.pointer (some ⟨B,0,none⟩)] #[]→
    o gS= .tuple #[.func (.func 200) #[] #[.pointer (some ⟨L,0,none⟩), .pointer (some ⟨C,0,none⟩), .pointer (some ⟨F,0,none⟩)]]→
    (IR.raw qcd).wp ⟨Tryz.prog,29,yj,z6⟩ (qew.wp ⟨Tryz.prog,29,yj,z6⟩ (jD Tryz.prog [.cell1 2, .cell1 3, .cellN 4 2] (qaa w src) .returning) Q) (Q.blk 0 (qew.wp ⟨Tryz.prog,29,yj,z6⟩ (jD Tryz.prog [.cell1 2, .cell1 3, .cellN 4 2] (qaa w src) .returning) Q)) o W4:=by
   intro o e2 e3 e4 e5 e17 eg;obtain ⟨bA,bB,hrf,hpA,hpB⟩:=qEf;rw [hrf];refine qxC (gf:=201) (fs:= #[.pointer (some ⟨B,0,none⟩)]) (lb:= #[]) (by simp [z6]) (by simpa using e17) (by decide) (by simp) fun a rec W5 hag hrt hrp hra hrb hrs hrpd hE5 hsz5 hL5=> ?_;have hJ0:SJ w B L C F (W4.heap.size+1) W4.heap.size rec [] (.slice none 0 0) (.slice none 0 0) W5:=
    ⟨E.trans' hE5,hL5,hbL4.ext hE5,hbC4.ext hE5,hbF4.ext hE5,Own.nil _ _ _ _,by simp [Value.ownBlock],by simp [Value.ownBlock];omega,by simp [Value.ownBlock]⟩
   simp only [List.append_toArray,List.cons_append,List.nil_append,Array.append_empty];refine (qAa (base:=w.heap.size) (B:=B) (l:=W4.heap.size+1) (s:=src) (cv0:= .slice none 0 0) (fun ts cv W=>(∃y,SJ w B L C F (W4.heap.size+1) W4.heap.size rec ts cv y W)∧∀k,cv.ownBlock=some k→w.heap.size≤k) (fun ts cv W h=> ?_) (fun ts cv cv' W W' h hT=> ?_) (fun ts cv t W k line coms hJ hS hlen'=> ?_) ⟨⟨_,hJ0⟩,by simp [Value.ownBlock]⟩ (hS4.ext hE5)).mono ?_
   ·obtain ⟨⟨y,h⟩,_⟩:=h;exact hG.ext h.ext
   ·obtain ⟨⟨y,h⟩,hc⟩:=h;refine ⟨⟨y,h.turn hT (by omega) hc⟩,fun k H=> ?_⟩;rcases hT.own with e|e
    ·exact hc k (e▸H)
    ·have:=e k H;have:=h.ext.size;omega
   ·obtain ⟨⟨y,h⟩,hc⟩:=hJ;refine qcE h.lp hrs hag hrt hrp (by rfl) (by decide) (by rw [hra];exact hpA) (by rw [hrb];exact hpB) ?_;simp [QQ,qsp];refine qR z38 fun Bt W6 hBt hE6 hbt _=> ?_;simp;refine jl (B:=Bt) (by simp) hbt (by simp [Value.cells,qaN]) (by simp [Value.cells,qaN]) (by simpa [Value.cells] using qfE) fun W7 hO7 hb7=> ?_;simp [Value.cells,qaN] at hb7;have off:=hS.off hBt;have hS7:=(hS.ext hE6).only hO7 off.1 off.2;have h7:SJ w B L C F (W4.heap.size+1) W4.heap.size rec ts cv y W7:=h.turn ((Tn.ext hE6).new hO7 hBt) (by omega) hc;simp;refine ⟨h7.lp,fun W8 hO8 hL8=> ?_⟩;have h4s:=h7.nc (W4.heap.size+1) (by simp);have z:SJ w B L C F (W4.heap.size+1) W4.heap.size _ ts cv y W8:=h7.round hO8 (by have:=E.size;omega) ⟨by omega,by omega,by omega⟩ hL8;have J:=hS7.only hO8 h4s.2 h4s.1;have hltl:=h7.lp.lt;have hb8:=hO8.blk hb7 (by have:=h.lp.lt;omega);simp [qso,e2,z.bl.cell,hb8.cell];refine jN qkG (by decide) (by decide) (by simp [Value.cells]) fun B9 W9 hB9 hE9 hb9 _=> ?_;simp [Value.cells] at hb9;have h9:=z.turn (Tn.ext hE9) (by omega) hc;have hS9:=J.ext hE9;have u:Own w.heap.size 53 3 W9 (.slice (some ⟨B9,0,none⟩) 1 1) [.int .u8 (t.kind:Int), .string (qc t.text), .int .i64 t.line]:=Own.lit hb9 rfl (by have:=z.ext.size;omega) (by decide);obtain ⟨bb,ri,hbb⟩:=qlm;simp;refine qeN ri h9.ext.size (by simp) (by simp) h9.own (jM u) (by simp;exact ⟨rfl,rfl,rfl⟩) (by rw [jo];simp;omega) (by
     rw [jo];have:(ts.length*3+3)*bb≤(ts.length*3+3)*64:=Nat.mul_le_mul_left _ hbb;simp;omega) fun lv' W10 ho10 hg10 hf10=> ?_
    have hbl10:Blk W10 L #[y] 48:=⟨(hg10.block L h9.bl.lt (fun e=>h9.ne L (by simp) e.symm)).trans h9.bl.heap⟩;have S:=qas ho10;simp [e2];refine qK (B:=L) (i:=0) (by simp [e2]) hbl10 (by simp) (by simpa using S.1) (by simpa using S.2) qcP fun W11 hO11 hb11=> ?_;simp at hb11;have h11:SJ w B L C F (W4.heap.size+1) W4.heap.size _ (ts++[t]) cv lv' W11:=h9.app hg10 (by rw [qj8];exact ho10) hf10 hO11 hb11 ⟨by omega,by omega,by omega,by omega⟩ hS9.blk.lt (fun k H=>(hS9.own.blk k H).2) hL;have hcl:cv.ownBlock=none∨cv.ownBlock≠y.ownBlock:=by
     cases H:cv.ownBlock with
     |none=>exact .inl rfl
     |some k=>exact .inr fun e=>h9.nn k e.symm H
    have hnL:=h9.nc L (by simp);have hS11:=(hS9.gb hg10 (h9.ne B (by simp)) hcl).only hO11 hnL.2 hnL.1;simp [qbt];refine ⟨h11.lp,fun W12 hO12 hL12=> ?_⟩;exact ⟨⟨⟨lv',h11.round hO12 (by have:=E.size;omega) ⟨by omega,by omega,by omega⟩ (hL12.ready hrs hrpd)⟩,hc⟩,hS11.only hO12 h4s.2 h4s.1⟩
   ·rintro e W6 (⟨v,ts,coms,cv,line,rfl,hsc',⟨⟨y,h⟩,hc⟩,hS6⟩|⟨er,line,ts,cv,rfl,hsc',⟨⟨y,h⟩,hc⟩⟩)
    ·refine ⟨.ready,none,by simp,h.lp.ready' hrs hrpd,fun W7 hO7 hL7=> ?_⟩;have hl4:=h.nc (W4.heap.size+1) (by simp);have h7:=h.round hO7 (by have:=E.size;omega) ⟨by omega,by omega,by omega⟩ hL7;have hS7:=hS6.only hO7 hl4.2 hl4.1;have nB:=(h7.nc L (by simp)).2;have nC:=(h7.nc C (by simp)).2;simp only [qew,qsn,qfm];refine vH qEh (fun W=>Blk W L #[y] 48∧Blk W B (kR src src.length line cv) 217) (fun W8 hE8 _=> ?_) (by rw [hQ];exact qwf (by simp [OT.takes,qiC,gS]));have z:=h7.turn (Tn.ext hE8) (by omega) hc;have J:=hS7.ext hE8;refine ⟨⟨z.bl,J.blk⟩, ?_⟩;have cL:∀W,Blk W L #[y] 48→W.cell? ⟨L,0,none⟩=some y:=fun W h=>by rw [h.cell];rfl
     have cB:∀W,Blk W B (kR src src.length line cv) 217→W.cell? ⟨B,3,none⟩=some cv:=fun W h=>by rw [h.cell];rfl
     have S:=qas z.own;have honc:=qas J.own;have hLB:=(z.nc L (by simp)).2;have hCB:=(z.nc C (by simp)).2;have fin:∀(b:qa) (Wa Wb Wc:World),b 2= .pointer (some ⟨L,0,none⟩)→b 3= .pointer (some ⟨C,0,none⟩)→b 4= .pointer (some ⟨F,0,none⟩)→
       b gS= .tuple #[.int .i64 W4.heap.size, .func (.func 200) #[] #[.pointer (some ⟨L,0,none⟩), .pointer (some ⟨C,0,none⟩), .pointer (some ⟨F,0,none⟩)]]→
       Only L W8 Wa→Blk Wa L #[y] 48→Only C Wa Wb→Blk Wb C #[cv] 51→Only F Wb Wc→Blk Wc F #[.int .i64 0, .int .i64 0] 26→jD Tryz.prog [.cell1 2, .cell1 3, .cellN 4 2] (qaa w src) .returning b Wc:=by
      intro b Wa Wb Wc f2 f3 f4 fg I Y ob bb oc bc;have hcol:Wc.heap[W4.heap.size]? =some (.deferred (some [])):=by
       rw [oc.block _ (by omega),ob.block _ (by omega),I.block _ (by omega)];exact z.lp.col
      simp only [jD,fg];refine qdG (by simp) hcol fun W9 u=> ?_;refine jZ (by simp) qtK (qFu.mono ?_);rintro e u' w' ⟨⟨v,rfl⟩,rfl,rfl⟩;refine qay (qge f2 (u.blk (oc.blk (ob.blk Y (by omega)) (by omega)) (by omega)) f3 (u.blk (oc.blk bb (by omega)) (by omega)) f4 (u.blk bc (by omega)) rfl ?_);have U:∀k,k∈[L,C,F,W4.heap.size]→y.ownBlock≠some k∧cv.ownBlock≠some k:=by
       intro k H;simp only [List.mem_cons,List.mem_nil_iff,or_false] at H;rcases H with rfl|rfl|rfl|rfl
       ·exact ⟨z.ne _ (by simp),(z.nc _ (by simp)).1⟩
       ·exact ⟨z.ne _ (by simp),(z.nc _ (by simp)).1⟩
       ·exact ⟨z.ne _ (by simp),(z.nc _ (by simp)).1⟩
       ·exact ⟨z.ne _ (by simp),(z.nc _ (by simp)).1⟩
      have same:∀k,k≠L→k≠C→k≠F→k≠W4.heap.size→w'.heap[k]? =W8.heap[k]? :=fun k k1 k2 k3 k4=>by
       rw [u.block k k4,oc.block k k3,ob.block k k2,I.block k k1]
      have V:ql src= .ok ts coms:=Z.trans hsc';refine ⟨y,cv,by rw [V];rfl, ?_, ?_, ?_⟩
      ·rw [V];refine Own.same z.own fun k H=>same k ?_ ?_ ?_ ?_
       ·rintro rfl;exact (U k (by simp)).1 H
       ·rintro rfl;exact (U k (by simp)).1 H
       ·rintro rfl;exact (U k (by simp)).1 H
       ·rintro rfl;exact (U _ (by simp)).1 H
      ·rw [V];refine Own.same J.own fun k H=>same k ?_ ?_ ?_ ?_
       ·rintro rfl;exact (U k (by simp)).2 H
       ·rintro rfl;exact (U k (by simp)).2 H
       ·rintro rfl;exact (U k (by simp)).2 H
       ·rintro rfl;exact (U _ (by simp)).2 H
      ·exact u.ext (oc.ext (ob.ext (I.ext z.ext hL) (by omega)) (by omega)) (by have:=E.size;omega)
     have stL:∀(K:qa→World→Prop) (b:qa),b 2= .pointer (some ⟨L,0,none⟩)→b 23=y→(∀Wa,Only L W8 Wa→Blk Wa L #[y] 48→(Blk Wa L #[y] 48∧Blk Wa B (kR src src.length line cv) 217)→K b Wa)→qr Tryz.prog Q.noRd none (.store 48 (.tmp 2) (.tmp 23)) 0 K b W8:=by
      intro K b f2 f23 H;refine qK (B:=L) (i:=0) (by simpa using f2) z.bl (by simp) (by simp [f23,S.1]) (by simp [f23,S.2]) qcP fun Wa I Y=> ?_;have ba':Blk Wa L #[y] 48:=by simpa [f23] using Y
      exact H Wa I ba' ⟨ba',I.blk J.blk (Ne.symm hLB)⟩
     have stC:∀(K:qa→World→Prop) (b:qa) (Wa:World),Only L W8 Wa→Blk Wa L #[y] 48→b 3= .pointer (some ⟨C,0,none⟩)→b 27=cv→(∀Wb,Only C Wa Wb→Blk Wb C #[cv] 51→(Blk Wb L #[y] 48∧Blk Wb B (kR src src.length line cv) 217)→K b Wb)→qr Tryz.prog Q.noRd none (.store 51 (.tmp 3) (.tmp 27)) 0 K b Wa:=by
      intro K b Wa I Y f3 f27 H;refine qK (B:=C) (i:=0) (by simpa using f3) (I.blk z.bc (by omega)) (by simp) (by simp [f27,honc.1]) (by simp [f27,honc.2]) qcQ fun Wb ob bb=> ?_;have bb':Blk Wb C #[cv] 51:=by simpa [f27] using bb
      exact H Wb ob bb' ⟨ob.blk Y (by omega),ob.blk (I.blk J.blk (Ne.symm hLB)) (Ne.symm hCB)⟩
     have stF:∀(b:qa) (Wa Wb:World),Only L W8 Wa→Blk Wa L #[y] 48→Only C Wa Wb→Blk Wb C #[cv] 51→b 2= .pointer (some ⟨L,0,none⟩)→b 3= .pointer (some ⟨C,0,none⟩)→b 4= .pointer (some ⟨F,0,none⟩)→b 28= .agg #[.int .i64 0, .int .i64 0]→
       b gS= .tuple #[.int .i64 W4.heap.size, .func (.func 200) #[] #[.pointer (some ⟨L,0,none⟩), .pointer (some ⟨C,0,none⟩), .pointer (some ⟨F,0,none⟩)]]→qr Tryz.prog Q.noRd none (.store 26 (.tmp 4) (.tmp 28)) 0 (fun ρ' w'=>Q.rt ρ' w') b Wb:=by
      intro b Wa Wb I Y ob bb f2 f3 f4 f28 fg;refine jl (B:=F) (by simpa using f4) (ob.blk (I.blk z.bf (by omega)) (by omega)) (by simp [f28,Value.cells]) (by simp [f28,Value.cells]) (by simpa [Value.cells] using x4) fun Wc oc bc=> ?_;simp [f28,Value.cells] at bc;simp [hQrt];exact fin _ Wa Wb Wc f2 f3 f4 fg I Y ob bb oc bc
     have eg':(xS (xM W4.heap.size) (o gS))= .tuple #[.int .i64 W4.heap.size, .func (.func 200) #[] #[.pointer (some ⟨L,0,none⟩), .pointer (some ⟨C,0,none⟩), .pointer (some ⟨F,0,none⟩)]]:=by rw [eg];simp
     simp -implicitDefEqProofs+contextual [qiC,e2,e5,cL,cB,z.bl,J.blk];refine ⟨?_, ?_⟩
     ·rw [qe0];dsimp only [xl];refine stL _ _ (by simp [e2]) (by simp) fun Wa I Y hSa=>⟨hSa, ?_⟩;refine stC _ _ Wa I Y (by simp [e3]) (by simp) fun Wb ob bb hSb=>⟨hSb, ?_⟩;exact stF _ Wa Wb I Y ob bb (by simp [e2]) (by simp [e3]) (by simp [e4]) (by simp) (by simp [eg'])
     ·refine stL _ _ (by simp [e2]) (by simp) fun Wa I Y hSa=>⟨hSa, ?_, ?_⟩
      ·rw [qe0];dsimp only [xl];refine ⟨hSa, ?_⟩;refine stC _ _ Wa I Y (by simp [e3]) (by simp) fun Wb ob bb hSb=>⟨hSb, ?_⟩;exact stF _ Wa Wb I Y ob bb (by simp [e2]) (by simp [e3]) (by simp [e4]) (by simp) (by simp [eg'])
      ·refine stC _ _ Wa I Y (by simp [e3]) (by simp) fun Wb ob bb hSb=>⟨hSb, ?_⟩;rw [qe0];exact ⟨hSb,stF _ Wa Wb I Y ob bb (by simp [e2]) (by simp [e3]) (by simp [e4]) (by simp) (by simp [eg'])⟩
    ·show Q.pn _ (qju er line) _;have eg':(xS (xM W4.heap.size) (o gS))= .tuple #[.int .i64 W4.heap.size, .func (.func 200) #[] #[.pointer (some ⟨L,0,none⟩), .pointer (some ⟨C,0,none⟩), .pointer (some ⟨F,0,none⟩)]]:=by rw [eg];simp
     have hgs:qu o gS (xS (xM W4.heap.size) (o gS)) gS= .tuple #[.int .i64 W4.heap.size, .func (.func 200) #[] #[.pointer (some ⟨L,0,none⟩), .pointer (some ⟨C,0,none⟩), .pointer (some ⟨F,0,none⟩)]]:=by simp [eg']
     rw [hQpn];simp only [jD,hgs];have hlt:=h.lp.lt;refine qdG (by simp) h.lp.col fun W9 u=> ?_;refine jZ (by simp) qtK ((qFv (u.blk h.bl (by omega)) (u.blk h.bc (by omega)) (u.blk h.bf (by omega)) rfl (by omega) (by omega) (by omega)).mono ?_);rintro e u' w' ⟨⟨v,rfl⟩,hu,⟨Wx,ex,Wy,oy,Wz,oz,ow⟩,cl,cc,cf⟩;show jP _ _ _ _ [] (settle u') w';rw [hu];refine qay (qge (by simp [e2]) cl (by simp [e3]) cc (by simp [e4]) cf rfl ?_);have V:ql src= .bad er line:=Z.trans hsc';refine ⟨_,_,by rw [V];rfl,by rw [V];exact Own.nil _ _ _ _,by rw [V];exact Own.nil _ _ _ _, ?_⟩;have h9:qb w W9:=u.ext h.ext (by have:=E.size;omega);exact ow.ext (oz.ext (oy.ext (h9.trans' ex) hL) (by omega)) (by omega)
  rw [hQ] at key;exact key _ (by simp) (by simp) (by simp) (by simp) (by simp) (by simp [gS])
structure SlK (w:World) (v:Value) (ts:List Tok):Prop where
 is:qo v=true
 len:qk v=ts.length
 bd:ts.length<1537228672809129301
 cell:∀(i:Nat) (h:i<ts.length),w.cell? (qD v (i*3))=some (.int .u8 (ts[i].kind:Int))∧w.cell? (qD v (i*3+1))=some (.string (qc ts[i].text))∧w.cell? (qD v (i*3+2))=some (.int .i64 ts[i].line)
theorem SlK.ext {w w':World} {v:Value} {o:List Tok} (h:SlK w v o) (e:qb w w'):SlK w' v o:=
 ⟨h.is,h.len,h.bd,fun i t=>let ⟨a,b,c⟩:=h.cell i t;⟨e.cell a,e.cell b,e.cell c⟩⟩
theorem jF:∀(a:List Tok) (i:Nat) (h:i<a.length),(qB a)[i*3]? =some (.int .u8 (a[i].kind:Int))∧(qB a)[i*3+1]? =some (.string (qc a[i].text))∧(qB a)[i*3+2]? =some (.int .i64 a[i].line)
 |t::a,0,_=>by simp [qB]
 |t::a,i+1,h=>by
  have:=jF a i (by simpa using h);have e:∀j,(qB (t::a))[(i+1)*3+j]? =(qB a)[i*3+j]? :=fun j=>by
   rw [show (i+1)*3+j=(i*3+j)+3 by omega];simp [qB]
  have b:=e 0;simp only [Nat.add_zero] at b;rw [b,e 1,e 2];simpa using this
theorem SlK.own {base:Nat} {w:World} {v:Value} {a:List Tok} (h:Own base 53 3 w v (qB a)) (t:a.length<1537228672809129301):SlK w v a:=by
 have b:=jM h;have e:=b.len;rw [jo] at e;refine ⟨b.is,by omega,t,fun i u=> ?_⟩;obtain ⟨o,E,y⟩:=jF a i u;have c:(qB a).length=a.length*3:=jo a;have g:∀j x,j<a.length*3→(qB a)[j]? =some x→w.cell? (qD v j)=some x:=fun j x F z=>by
  rw [b.cell j (by omega),←List.getElem?_eq_getElem,z]
 exact ⟨g _ _ (by omega) o,g _ _ (by omega) E,g _ _ (by omega) y⟩
theorem SlK.nil (w:World):SlK w (.slice none 0 0) []:=⟨rfl,rfl,by simp,fun i h=>by simp at h⟩
theorem qu9 (s:Bs) (l:Int):(qX s l).toks.length≤s.length∧(qX s l).coms.length≤s.length:=by
 refine qkQ (P:=fun s l=>(qX s l).toks.length≤s.length∧(qX s l).coms.length≤s.length) ?_ ?_ ?_ ?_ ?_ ?_ s l
 ·intro l;simp [qc2,Res.toks,Res.coms]
 ·intro r l h;rw [qbo];simp;omega
 ·intro c r l E h;rw [qbn r l E];simp;omega
 ·intro a r l H b h;rw [qkT l H b];cases o:qX r l with
  |bad e x=>simp [Res.add,Res.toks,Res.coms]
  |ok z cs=>
   rw [o] at h;simp [Res.add,Res.toks,Res.coms] at h⊢;omega
 ·intro c r l y I t u h;rw [qkS l y I t u h];simp [Res.toks,Res.coms]
 ·intro k s r l b F h;rw [qc1 (wN b).1 F (qbv b)];have J:0<s.length:=List.length_pos_iff.2 (wN b).1;cases o:qX r l with
  |bad e x=>simp [Res.add,Res.toks,Res.coms]
  |ok z cs=>
   rw [o] at h;simp [Res.add,Res.toks,Res.coms] at h⊢;omega
theorem QD (s:Bs):(ql s).toks.length≤20000∧(ql s).coms.length≤20000:=by
 unfold ql;split
 ·simp [Res.toks,Res.coms]
 ·have:=qu9 s 1;omega
@[simp] theorem qKB:qf Tryz.prog 115=true:=by kernel_rfl
@[simp] theorem qJJ:qf Tryz.prog 87=true:=by kernel_rfl
@[simp] theorem qKk:qf Tryz.prog 175=true:=by kernel_rfl
@[simp] theorem qKj:qf Tryz.prog 176=true:=by kernel_rfl
theorem jH {b a e sz:Nat} {w:World} {v:Value} {xs:List Value} (o:b≤a) (h:Own a e sz w v xs):Own b e sz w v xs:=by
 rcases h with h|⟨g,off,n,cap,cur,rfl,c,r⟩
 ·exact .inl h
 ·exact .inr ⟨g,off,n,cap,cur,rfl,by omega,r⟩
def fV (src:Bs):Value:= .agg #[.int .i64 (ql src).err, .int .i64 (ql src).at]
def Qo (w:World) (src:Bs):Ending→World→Prop:=fun e w'=>∃v,e= .returned (.tuple #[v,fV src])∧Own w.heap.size 53 3 w' v (qB (ql src).toks)∧qb w w'
theorem jG {t z C:Nat} {x:Value} {cs:Array Value} {V:TypeId} {R:Ending→World→Prop} {ρ:qa} {w:World} (b:ρ t=x) (o:ρ z= .pointer (some ⟨C,0,none⟩)) (e:Blk w C cs V) (c:cs.size=2) (h:R (.returned (.tuple #[x, .agg cs])) w):qw [.tmp t, .cellN z 2] R ρ w:=by
 have a:qU w (.loadN 2) (.pointer (some ⟨C,0,none⟩))=some (.agg cs):=by rw [qbH,←c,kT e];rfl
 simp only [qw,vE,RV.val,b,o,a,Option.map_some,Option.bind_some];exact h
theorem qfC {w:World} (hG:G w) (src:Bs) (V:src.length<4611686018427387904):Calls Tryz.prog 53 #[.string (qc src)] w (Qo w src):=by
 refine qAY fun ρ r0=> ?_;simp [qoa,r0];refine qR z31 fun B W Y S I _=> ?_;simp [r0];refine (qvl (hG.ext S) src V).mono ?_;rintro _ W1 ⟨v,c,rfl,U,_,o⟩;simp;refine qR z31 fun B2 W2 hB2 u J _=> ?_;simp;refine jl (B:=B2) (by simp) J (by simp [Value.cells]) (by simp [Value.cells]) (by simpa [Value.cells] using x4) fun W3 E t=> ?_;simp [Value.cells] at t⊢;have H:=E.blk ((I.ext o).ext u) (by have:=I.lt;have:=o.size;omega);refine vH qAX (fun W=>Blk W B2 #[.int .i64 (ql src).err, .int .i64 (ql src).at] 26) fun W4 a _=>⟨t.ext a, ?_⟩;have hc:∀W,Blk W B2 #[.int .i64 (ql src).err, .int .i64 (ql src).at] 26→∀i,W.cell? ⟨B2,i,none⟩= #[Value.int .i64 (ql src).err, .int .i64 (ql src).at][i]? :=fun W h=>h.cell;simp+contextual -implicitDefEqProofs [qn6,hc,t.ext a];refine jl (B:=B) (by simp) (H.ext a) (by simp [Value.cells]) (by simp [Value.cells]) (by simpa [Value.cells] using x4) fun W5 y z=> ?_;simp [Value.cells] at z;simp [qn7];refine jG (x:=v) (by simp) (by simp) z rfl ?_;have F:=S.size;have b:qb W1 W4:=(E.ext u (by omega)).trans' a;have h5:Own w.heap.size 53 3 W5 v (qB (ql src).toks):=by
  refine Own.same (w:=W4) ?_ fun k Z=>y.block k fun e=> ?_
  ·have h1:Own W.heap.size 53 3 W4 v (qB (ql src).toks):=U.ext b;exact jH F h1
  ·have:=(U.blk k Z).1;have:=I.lt;omega
 exact ⟨v,rfl,h5,y.ext ((S.trans' o).trans' b) Y⟩
theorem qeQ (s:Bs) (n:Nat):(qc s).extract 0 n=qc (s.take n):=by
 have:=Jf s 0 n;simpa using this
theorem qxJ {w:World} (s:Bs) (Y:s≠[]) (hs:s.length<4611686018427387904):Calls Tryz.prog 176 #[.string (qc s)] w fun e w'=>e= .returned (.tuple #[.int .u8 ((first s).1:Int), .int .i64 ((first s).2.1:Int), .int .i64 (first s).2.2])∧qb w w':=by
 have H:0<s.length:=List.length_pos_iff.2 Y;have hg:s.getD 0 0=s[0]:=by simp [List.getD_eq_getElem?_getD,H]
 have hx:s[0]? =some s[0]:=List.getElem?_eq_getElem H;refine qC8 fun ρ r0=> ?_;simp [qra,r0,hx];refine (qgj s[0] w).mono ?_;rintro _ w ⟨rfl,rfl⟩;cases Z:ve s[0] with
 |true=>
  have a:first s=if jV (s.take (qP s)) then (2,qP s,0) else if 12<qP s then (0,0,12) else (1,qP s,0):=by
   unfold first
   rw [hg,if_pos Z]
  simp [r0];refine (qlr s hs _).mono ?_;rintro _ w ⟨rfl,rfl⟩;have z:qP s≤s.length:=yB _ _;simp [r0,z,qeQ];refine (qls _).mono ?_;rintro _ w2 ⟨rfl,U⟩;cases J:jV (s.take (qP s)) with
  |true=>
   rw [J,if_pos rfl] at a;simp [a];exact U
  |false=>
   rw [J,if_neg (by simp)] at a;by_cases S:12<qP s
   ·have o:(12:Int)<(qP s:Int):=by omega
    rw [if_pos S] at a;simp [qif,o,a];exact U
   ·have o:¬(12:Int)<(qP s:Int):=by omega
    rw [if_neg S] at a;simp [qif,o,a,qq9];exact U
 |false=>
  simp [qq5,r0];refine (qgl s[0] w).mono ?_;rintro _ w ⟨rfl,rfl⟩;cases hd:qO s[0] with
  |true=>
   have a:first s=if jz (s.take (jO s)) then (3,jO s,0) else (0,0,11):=by
    unfold first
    rw [hg,if_neg (by rw [Z];simp),if_pos hd]
   simp [r0];refine (qlt s hs _).mono ?_;rintro _ w ⟨rfl,rfl⟩;have z:jO s≤s.length:=yB _ _;simp [r0,z,qeQ];refine (qxI _ (by simp;omega) _).mono ?_;rintro _ w ⟨rfl,rfl⟩;cases J:jz (s.take (jO s)) with
   |true=>
    rw [J,if_pos rfl] at a;simp [a,qq8];exact qz _
   |false=>
    rw [J,if_neg (by simp)] at a;simp [a];exact qz _
  |false=>
   have a:first s=if 1<s.length∧js (s.take 2)=true then (4,2,0) else if js (s.take 1) then (4,1,0) else (0,0,10):=by
    unfold first
    rw [hg,if_neg (by rw [Z];simp),if_neg (by rw [hd];simp)]
   simp [qq6];have rest:∀(y:qa) (W:World),y 0= .string (qc s)→qb w W→¬(1<s.length∧js (s.take 2)=true)→qid.wp ⟨Tryz.prog,45,qem,[]⟩ (qw [.tmp 2, .tmp 3, .tmp 4] fun e w'=>e= .returned (.tuple #[.int .u8 ((first s).1:Int), .int .i64 ((first s).2.1:Int), .int .i64 (first s).2.2])∧qb w w') (qF [.tmp 2, .tmp 3, .tmp 4] fun e w'=>e= .returned (.tuple #[.int .u8 ((first s).1:Int), .int .i64 ((first s).2.1:Int), .int .i64 (first s).2.2])∧qb w w') y W:=by
    intro y W r0 U h2;rw [if_neg h2] at a;simp [qid];refine vH qC6 (qb W) fun W1 b _=>⟨b, ?_⟩;have h1l:(1:Int)≤s.length:=by omega
    simp -implicitDefEqProofs [qq4,r0,h1l,qeQ];refine qlq.mono ?_;rintro _ W2 ⟨v,rfl,F⟩;have c:=(U.trans' b).trans' F.2;refine ⟨b.trans' F.2, ?_⟩;simp -implicitDefEqProofs;refine (qgk (s.take 1) (F.sl (by decide))).mono ?_;rintro _ W2 ⟨rfl,rfl⟩;have t:js (s.take 1)=qW.contains (s.take 1):=rfl;cases u:qW.contains (s.take 1) with
    |true=>
     rw [t,u,if_pos rfl] at a;simp [u,qie,a];exact c
    |false=>
     rw [t,u,if_neg (by simp)] at a;simp [u,qie,qq7,a];exact c
   refine vH qC7 (qb w) fun W1 b _=>⟨b, ?_⟩;by_cases V:1<s.length
   ·have E:(1:Int)<s.length:=by omega
    have I:(2:Int)≤s.length:=by omega
    simp -implicitDefEqProofs [qic,r0,V,E,I,qeQ];refine qlq.mono ?_;rintro _ W2 ⟨v,rfl,F⟩;have c:=b.trans' F.2;refine ⟨c, ?_⟩;simp -implicitDefEqProofs;refine (qgk (s.take 2) (F.sl (by decide))).mono ?_;rintro _ W2 ⟨rfl,rfl⟩;have t:js (s.take 2)=qW.contains (s.take 2):=rfl;cases u:qW.contains (s.take 2) with
    |true=>
     rw [t,u,if_pos ⟨V,rfl⟩] at a;simp [u,qek,a];exact c
    |false=>
     simp [u,qek];exact rest _ _ (by simp [r0]) c (by rw [t,u];simp)
   ·have E:¬(1:Int)<s.length:=by omega
    simp -implicitDefEqProofs [qic,r0,V,E];simp [qek];refine ⟨b,rest _ _ ?_ b (fun h=>V h.1)⟩;simp [r0]
theorem qGd (k l:Int) (s:Bs):Tryz.prog.built 53 [(0, .int .u8 k),(1, .string (qc s)),(2, .int .i64 l)]=some #[.int .u8 k, .string (qc s), .int .i64 l]:=by kernel_rfl
def qGE (w:World) (src:Bs):Ending→World→Prop:=fun e w'=>∃v c,e= .returned (.tuple #[v,c,fV src])∧Own w.heap.size 53 3 w' v (qB (ql src).toks)∧Own w.heap.size 9 1 w' c ((ql src).coms.map qe)∧qb w w'
theorem jC {t u z C:Nat} {x y:Value} {cs:Array Value} {V:TypeId} {R:Ending→World→Prop} {ρ:qa} {w:World} (b:ρ t=x) (c:ρ u=y) (E:ρ z= .pointer (some ⟨C,0,none⟩)) (o:Blk w C cs V) (e:cs.size=2) (h:R (.returned (.tuple #[x,y, .agg cs])) w):qw [.tmp t, .tmp u, .cellN z 2] R ρ w:=by
 have a:qU w (.loadN 2) (.pointer (some ⟨C,0,none⟩))=some (.agg cs):=by rw [qbH,←e,kT o];rfl
 simp only [qw,vE,RV.val,b,c,E,a,Option.map_some,Option.bind_some];exact h
structure RdI (w:World) (src:Bs) (B:Nat) (ρ:qa) (W:World) (k:Nat) (line:Int) (ts:List Tok) (cs:List Bs) (tv cv:Value):Prop where
 r0:ρ 0= .string (qc src)
 r4:ρ 4= .pointer (some ⟨B,0,none⟩)
 r5:ρ 5=tv
 r6:ρ 6=cv
 r7:ρ 7= .int .i64 line
 r8:ρ 8= .int .i64 (k:Int)
 kl:k≤src.length
 l0:1≤line∧line≤(k:Int)+1
 tl:ts.length≤k∧cs.length≤k
 ext:qb w W
 blk:Blk W B #[.int .i64 0, .int .i64 0] 26
 o1:Own w.heap.size 53 3 W tv (qB ts)
 o2:Own w.heap.size 9 1 W cv (cs.map qe)
 ap:∀k,tv.ownBlock=some k→cv.ownBlock≠some k
 nb:tv.ownBlock≠some B∧cv.ownBlock≠some B
 eq:qX src 1=(qX (src.drop k) line).add ts cs
def yh (ρ:qa):Nat:=(RowKit.intOf (ρ 8)).toNat
theorem qxH {w:World} (src:Bs) (hs:src.length<4611686018427387904):Calls Tryz.prog 87 #[.string (qc src)] w (qGE w src):=by
 refine qAq fun ρ r0=> ?_;simp [qno,r0];refine qR z31 fun B W hB hE hb hsz=> ?_;by_cases hlen:20000<src.length
 ·have hlI:(20000:Int)<src.length:=by omega
  have a:ql src= .bad 2 0:=by rw [ql,if_pos hlen]
  simp [hlI,qtU,r0];refine jl (B:=B) (by simp) hb (by simp [Value.cells]) (by simp [Value.cells]) (by simpa [Value.cells] using x4) fun W3 I H=> ?_;simp [Value.cells] at H⊢;refine jC (x:= .slice none 0 0) (y:= .slice none 0 0) (by simp) (by simp) (by simp) H rfl ?_;exact ⟨_,_,by rw [fV,a];rfl,by rw [a];exact Own.nil _ _ _ _,by rw [a];exact Own.nil _ _ _ _,I.ext hE hB⟩
 ·have hlI:¬(20000:Int)<src.length:=by omega
  have hscn:ql src=qX src 1:=by rw [ql,if_neg hlen]
  simp [hlI,qnk,r0];have hBn:∀(W':World),qb W W'→B<W'.heap.size:=fun W' h=>by have:=h.size;omega
  refine yZ (fun o W'=>∃k line ts cs tv cv,RdI w src B o W' k line ts cs tv cv) (fun o _=>src.length - yh o)
   ⟨0,1,[],[], .slice none 0 0, .slice none 0 0,by simp [r0],by simp,by simp,by simp,by simp,by simp,Nat.zero_le _,by omega,by simp,hE,hb,Own.nil _ _ _ _,Own.nil _ _ _ _,by simp [Value.ownBlock],by simp [Value.ownBlock],by simp⟩ ?_
  rintro o W' ⟨k,line,ts,cs,tv,cv,h⟩;have hkO:yh o=k:=by simp [yh,h.r8]
  have hkl:=h.kl;have hl0:=h.l0;have htl:=h.tl;have hb20:src.length≤20000:=by omega
  by_cases J:k<src.length
  ·have hx:=qbb J;have hu10:=xX src[k] 10 (by decide);have hu32:=xX src[k] 32 (by decide);have hu9:=xX src[k] 9 (by decide);have hu37:=xX src[k] 37 (by decide);have a:=yJ src[k] (src.drop (k+1)) line;rw [←kG J] at a;simp [qhb,h.r8,h.r0,J,qnm,hx];by_cases e10:src[k]=10
   ·have S:(src[k].toNat:Int)=10:=hu10.2 e10;rw [if_pos e10] at a;simp [S,h.r7,h.r8,qp (n:=(k:Int)+1) (by omega),qp (n:=line+1) (by omega)];refine ⟨⟨k+1,line+1,ts,cs,tv,cv,by simp [h.r0],by simp [h.r4],by simp [h.r5],by simp [h.r6],by simp,by simp,by omega,by omega,by omega,h.ext,h.blk,h.o1,h.o2,h.ap,h.nb,by rw [h.eq,a]⟩, ?_⟩;rw [hkO];simp [yh];omega
   ·have S:¬(src[k].toNat:Int)=10:=fun x=>e10 (hu10.1 x);rw [if_neg e10] at a;simp [S];have blk:∀(u:qa),(src[k]=32∨src[k]=9)→u 0=o 0→u 4=o 4→u 5=o 5→u 6=o 6→u 7=o 7→u 8= .int .i64 ((k:Int)+1)→(∃k line ts cs tv cv,RdI w src B u W' k line ts cs tv cv)∧src.length - yh u<src.length - yh o:=by
     intro u hb a0 a4 a5 a6 a7 a8;rw [if_pos hb] at a;refine ⟨⟨k+1,line,ts,cs,tv,cv,a0.trans h.r0,a4.trans h.r4,a5.trans h.r5,a6.trans h.r6,a7.trans h.r7,by simp [a8],by omega,by omega,by omega,h.ext,h.blk,h.o1,h.o2,h.ap,h.nb,by rw [h.eq,a]⟩, ?_⟩;rw [hkO];simp [yh,a8];omega
    by_cases e32:src[k]=32
    ·have E:(src[k].toNat:Int)=32:=hu32.2 e32;simp [E,qb0,h.r8,qp (n:=(k:Int)+1) (by omega)];exact blk _ (.inl e32) (by simp) (by simp) (by simp) (by simp) (by simp) (by simp)
    have E:¬(src[k].toNat:Int)=32:=fun x=>e32 (hu32.1 x);by_cases e9:src[k]=9
    ·have e9':(src[k].toNat:Int)=9:=hu9.2 e9;simp [E,e9',qb0,h.r8,qp (n:=(k:Int)+1) (by omega)];exact blk _ (.inr e9) (by simp) (by simp) (by simp) (by simp) (by simp) (by simp)
    have e9':¬(src[k].toNat:Int)=9:=fun x=>e9 (hu9.1 x);rw [if_neg (by rintro (x|x)<;>contradiction)] at a;have hdl:(src.drop k).length=src.length - k:=by simp
    by_cases e37:src[k]=37
    ·have V:(src[k].toNat:Int)=37:=hu37.2 e37;rw [if_pos e37] at a;have hn1:1≤jb (src.drop k):=by rw [kG J,e37];exact qeT _
     have hn2:jb (src.drop k)≤src.length - k:=by have:=qtI (src.drop k);omega
     have hkI:(k:Int)≤src.length:=by omega
     simp [E,e9',V,qb0,h.r0,h.r8,hkI,hkl,qcm];refine (qxK (src.drop k) (by omega) W').mono ?_;rintro _ W' ⟨rfl,rfl⟩;have hI1:(k:Int)≤(k:Int)+(jb (src.drop k):Int):=by omega
     have hI2:(k:Int)+(jb (src.drop k):Int)≤src.length:=by omega
     have hI3:((k:Int)+(jb (src.drop k):Int)).toNat=k+jb (src.drop k):=by omega
     simp [h.r0,h.r6,h.r8,qp (n:=(k:Int)+(jb (src.drop k):Int)) (by omega),hI1,hI2,hI3,Jf];refine jN qcY (by decide) (by decide) (by simp [Value.cells]) fun B9 W9 hB9 b Z _=> ?_;simp [Value.cells] at Z;have hO9:Own w.heap.size 9 1 W9 (.slice (some ⟨B9,0,none⟩) 1 1) [qe ((src.drop k).take (jb (src.drop k)))]:=Own.lit (cs:=[qe ((src.drop k).take (jb (src.drop k)))]) Z rfl (by have:=h.ext.size;omega) (by decide);have ho2:=h.o2.ext b;simp;refine qeN qln (by have:=h.ext.size;have:=b.size;omega) (by simp) (by simp) ho2 (jM hO9) (by simp [qe];rfl) (by simp;omega) (by simp;omega) fun v' W10 U t F=> ?_;have hb10:Blk W10 B #[.int .i64 0, .int .i64 0] 26:=⟨(t.block B (by have:=h.blk.lt;have:=b.size;omega) (fun e=>h.nb.2 e.symm)).trans (h.blk.ext b).heap⟩;simp [h.r8,qp (n:=(k:Int)+(jb (src.drop k):Int)) (by omega)];refine ⟨⟨k+jb (src.drop k),line,ts,cs++[(src.drop k).take (jb (src.drop k))],tv,v',by simp [h.r0],by simp [h.r4],by simp [h.r5],by simp,by simp [h.r7],by simp,by omega,by omega,by simp;omega, ?_,hb10, ?_,by simpa using U, ?_,⟨h.nb.1, ?_⟩, ?_⟩, ?_⟩
     ·exact (h.ext.trans' b).grown t (by have:=h.ext.size;have:=b.size;omega) fun k hk=>(ho2.blk k hk).1
     ·refine (h.o1.ext b).kept t ?_;cases hk:tv.ownBlock with
      |none=>exact .inl rfl
      |some q=>exact .inr fun e=>h.ap q hk e.symm
     ·intro q hq;rcases F with e|e
      ·rw [e];exact h.ap q hq
      ·rw [e];intro e2;cases e2;have:=(h.o1.blk _ hq).2;have:=b.size;omega
     ·rcases F with e|e
      ·rw [e];exact h.nb.2
      ·rw [e];intro e2;cases e2;have:=h.blk.lt;have:=b.size;omega
     ·rw [h.eq,a,List.drop_drop,Res.add_add];simp
     ·rw [hkO];simp [yh];omega
    have V:¬(src[k].toNat:Int)=37:=fun x=>e37 (hu37.1 x);rw [if_neg e37] at a;have hkI:(k:Int)≤src.length:=by omega
    have hdne:src.drop k≠[]:=by rw [kG J];exact List.cons_ne_nil _ _
    simp [E,e9',V,qb0,h.r0,h.r8,hkI,hkl,qcm];have aa:(first (src.drop k)).2.2=0→0<(first (src.drop k)).2.1∧(first (src.drop k)).2.1≤(src.drop k).length:=fun hh=>qaM hh hdne;have hrf:=qxJ (w:=W') (src.drop k) hdne (by omega);generalize first (src.drop k)=p at a aa hrf
    obtain ⟨fk,fn,fe⟩:=p;refine hrf.mono ?_;rintro _ W2 ⟨rfl,z⟩;have Y:=h.ext.trans' z;by_cases hf:fe=0
    ·rw [if_neg (by simpa using hf)] at a;have hpos:=aa hf;simp only at hpos;have hI1:(k:Int)≤(k:Int)+(fn:Int):=by omega
     have hI2:(k:Int)+(fn:Int)≤src.length:=by omega
     have hI3:((k:Int)+(fn:Int)).toNat=k+fn:=by omega
     simp -implicitDefEqProofs [hf,qnn,h.r0,h.r5,h.r7,h.r8,qp (n:=(k:Int)+(fn:Int)) (by omega),hI1,hI2,hI3,Jf,qGd];refine jN qkG (by decide) (by decide) (by simp [Value.cells]) fun B9 W9 hB9 b Z _=> ?_;simp [Value.cells] at Z;have hO9:Own w.heap.size 53 3 W9 (.slice (some ⟨B9,0,none⟩) 1 1) [.int .u8 (fk:Int), .string (qc ((src.drop k).take fn)), .int .i64 line]:=Own.lit Z rfl (by have:=Y.size;omega) (by decide);have ho1:=(h.o1.ext z).ext b;obtain ⟨bb,ri,hbb⟩:=qlm;simp;refine qeN ri (by have:=Y.size;have:=b.size;omega) (by simp) (by simp) ho1 (jM hO9) (by simp;exact ⟨rfl,rfl,rfl⟩) (by rw [jo];simp;omega) (by
      rw [jo];have:(ts.length*3+3)*bb≤(ts.length*3+3)*64:=Nat.mul_le_mul_left _ hbb;simp;omega) fun v' W10 U t F=> ?_
     have hb10:Blk W10 B #[.int .i64 0, .int .i64 0] 26:=⟨(t.block B (by have:=h.blk.lt;have:=z.size;have:=b.size;omega) (fun e=>h.nb.1 e.symm)).trans ((h.blk.ext z).ext b).heap⟩;simp [h.r8,qp (n:=(k:Int)+(fn:Int)) (by omega)];refine ⟨⟨k+fn,line,ts++[⟨fk,(src.drop k).take fn,line⟩],cs,v',cv,by simp [h.r0],by simp [h.r4],by simp,by simp [h.r6],by simp [h.r7],by simp,by omega,by omega,by simp;omega, ?_,hb10,by rw [qj8];exact U, ?_, ?_,⟨?_,h.nb.2⟩, ?_⟩, ?_⟩
     ·exact (Y.trans' b).grown t (by have:=Y.size;have:=b.size;omega) fun k hk=>(ho1.blk k hk).1
     ·refine ((h.o2.ext z).ext b).kept t ?_;cases hk:cv.ownBlock with
      |none=>exact .inl rfl
      |some q=>exact .inr fun e=>h.ap q e.symm hk
     ·intro q hq;rcases F with e|e
      ·exact h.ap q (e▸hq)
      ·rw [e] at hq;cases hq;intro e2;have:=(h.o2.blk _ e2).2;have:=b.size;have:=z.size;omega
     ·rcases F with e|e
      ·rw [e];exact h.nb.1
      ·rw [e];intro e2;cases e2;have:=h.blk.lt;have:=b.size;have:=z.size;omega
     ·rw [h.eq,a,List.drop_drop,Res.add_add];simp
     ·rw [hkO];simp [yh];omega
    ·rw [if_pos hf] at a;have c:ql src= .bad fe line:=by
      rw [hscn,h.eq,a];rfl
     simp -implicitDefEqProofs [hf,h.r7,qjt];refine jl (B:=B) (by simp [h.r4]) (h.blk.ext z) (by simp [Value.cells]) (by simp [Value.cells]) (by simpa [Value.cells] using x4) fun W3 I H=> ?_;simp [Value.cells] at H⊢;refine jC (x:= .slice none 0 0) (y:= .slice none 0 0) (by simp) (by simp) (by simp [h.r4]) H rfl ?_;exact ⟨_,_,by rw [fV,c];rfl,by rw [c];exact Own.nil _ _ _ _,by rw [c];exact Own.nil _ _ _ _,I.ext Y hB⟩
  ·have hk:k=src.length:=by omega
   subst hk;have c:ql src= .ok ts cs:=by
    rw [hscn,h.eq,List.drop_length,qc2];simp [Res.add]
   simp [qhb,h.r8,h.r0,qnl,h.r5,h.r6,qe0];refine jl (B:=B) (by simp [h.r4]) h.blk (by simp [Value.cells]) (by simp [Value.cells]) (by simpa [Value.cells] using x4) fun W3 I H=> ?_;simp [Value.cells] at H⊢;refine jC (x:=tv) (y:=cv) (by simp) (by simp) (by simp [h.r4]) H rfl ?_;refine ⟨_,_,by rw [fV,c];rfl, ?_, ?_,I.ext h.ext hB⟩
   ·rw [c];exact Own.same h.o1 fun q hq=>I.block q fun e=>h.nb.1 (by rw [hq,e])
   ·rw [c];exact Own.same h.o2 fun q hq=>I.block q fun e=>h.nb.2 (by rw [hq,e])
theorem qlu {w:World} (src:Bs) (V:src.length<4611686018427387904):Calls Tryz.prog 33 #[.string (qc src)] w (Qo w src):=by
 refine qBj fun ρ r0=> ?_;simp [qoT,r0];refine qR z31 fun B W Y U I _=> ?_;simp [r0];refine (qxH (w:=W) src V).mono ?_;rintro _ W1 ⟨v,c,rfl,S,_,o⟩;simp [fV];refine qR z31 fun B2 W2 hB2 u J _=> ?_;simp [fV];refine jl (B:=B2) (by simp) J (by simp [Value.cells]) (by simp [Value.cells]) (by simpa [Value.cells] using x4) fun W3 E t=> ?_;simp [Value.cells] at t⊢;have H:=E.blk ((I.ext o).ext u) (by have:=I.lt;have:=o.size;omega);refine vH qBi (fun W=>Blk W B2 #[.int .i64 (ql src).err, .int .i64 (ql src).at] 26) fun W4 a _=>⟨t.ext a, ?_⟩;have hc:∀W,Blk W B2 #[.int .i64 (ql src).err, .int .i64 (ql src).at] 26→∀i,W.cell? ⟨B2,i,none⟩= #[Value.int .i64 (ql src).err, .int .i64 (ql src).at][i]? :=fun W h=>h.cell;simp+contextual -implicitDefEqProofs [qoP,hc,t.ext a];refine jl (B:=B) (by simp) (H.ext a) (by simp [Value.cells]) (by simp [Value.cells]) (by simpa [Value.cells] using x4) fun W5 y z=> ?_;simp [Value.cells] at z;simp [qoQ];refine jG (x:=v) (by simp) (by simp) z rfl ?_;have F:=U.size;have b:qb W1 W4:=(E.ext u (by omega)).trans' a;have h5:Own w.heap.size 53 3 W5 v (qB (ql src).toks):=by
  refine Own.same (w:=W4) ?_ fun k Z=>y.block k fun e=> ?_
  ·have h1:Own W.heap.size 53 3 W4 v (qB (ql src).toks):=S.ext b;exact jH F h1
  ·have:=(S.blk k Z).1;have:=I.lt;omega
 exact ⟨v,rfl,h5,y.ext ((U.trans' o).trans' b) Y⟩
end Go.L01
namespace Go.L02
open Go Go.Eng Go.RowKit
open Go.Proofs hiding encI
open Go.L01 (Bd Bs Own.same Qo SlK Tok fV jC jF jG jH jZ jo qB qM qS qe ql vp vt)
set_option maxRecDepth 100000
set_option maxHeartbeats 4000000
structure NV where
 nd:Nd
 kv:Value
def qi (x:NV):List Value:=[.int .u8 (x.nd.d.kind:Int), .string (qc x.nd.d.name), .string (qc x.nd.d.vr), .string (qc x.nd.d.typ), .int .i64 x.nd.d.n,x.kv]
def je (xs:List NV):List Value:=xs.flatMap qi
theorem wJ (xs:List NV):(je xs).length=xs.length*6:=by
 induction xs with
 |nil=>rfl
 |cons x xs a=>
  have:je (x::xs)=qi x++je xs:=rfl;rw [this,List.length_append,a];simp [qi];omega
theorem qmf (a b:List NV):je (a++b)=je a++je b:=by simp [je]
structure Tn (base B:Nat) (nv nv':Value) (w w':World):Prop where
 below:Below base w w'
 block:∀k,k<w.heap.size→k≠B→nv.ownBlock≠some k→w'.heap[k]? =w.heap[k]?
 row:∀k,nv'.ownBlock=some k→nv.ownBlock=some k∨w.heap.size≤k
 gr:nv'=nv∨qk nv<qk nv'
theorem Tn.size {base B:Nat} {nv nv':Value} {w w':World} (h:Tn base B nv nv' w w'):w.heap.size≤w'.heap.size:=h.below.size
theorem Tn.trans {base B:Nat} {a b c:Value} {w w' t:World} (h:Tn base B a b w w') (k:Tn base B b c w' t):Tn base B a c w t:=by
 have F:=h.size;refine ⟨h.below.trans k.below,fun j u E z=> ?_,fun j u=> ?_,by
  rcases k.gr with e|e
  ·rw [e];exact h.gr
  ·rcases h.gr with y|y
   ·rw [y] at e;exact .inr e
   ·exact .inr (by omega)⟩
 ·refine (k.block j (by omega) E fun e=> ?_).trans (h.block j u E z);rcases h.row j e with o|o
  ·exact z o
  ·omega
 ·rcases k.row j u with o|o
  ·exact h.row j o
  ·exact .inr (by omega)
theorem Tn.refl (base B:Nat) (nv:Value) (w:World):Tn base B nv nv w w:=⟨Below.refl _ _,fun _ _ _ _=>rfl,fun _ h=> .inl h, .inl rfl⟩
theorem Tn.ext {base B:Nat} {nv:Value} {w w':World} (h:qb w w') (a:base≤w.heap.size):Tn base B nv nv w w':=⟨h.mono a,fun k b _ _=>h.block k b,fun _ h=> .inl h, .inl rfl⟩
theorem Tn.ne {base B X:Nat} {nv nv':Value} {w w':World} (h:Tn base B nv nv' w w') (c:X<w.heap.size) (a:nv.ownBlock≠some X):nv'.ownBlock≠some X:=fun e=>by
 rcases h.row X e with b|b
 ·exact a b
 ·omega
theorem Tn.blk {base B X:Nat} {nv nv':Value} {w w':World} {cs:Array Value} {T:TypeId} (h:Tn base B nv nv' w w') (b:Blk w X cs T) (c:X≠B) (a:nv.ownBlock≠some X):Blk w' X cs T:=
 ⟨(h.block X b.lt c a).trans b.heap⟩
structure PSt (base B:Nat) (W:World) (tv nv:Value) (L:List Tok) (i f:Nat) (xs:List NV):Prop where
 blk:Blk W B #[tv, .int .i64 (i:Int), .int .i64 (f:Int),nv] 85
 tok:Own 0 53 3 W tv (qB L)
 own:Own base 44 6 W nv (je xs)
 kid:∀x∈xs,Own 0 3 1 W x.kv (x.nd.kids.map encI)
 bB:base≤B
 bW:base≤W.heap.size
 tl:L.length≤20000
 il:i≤L.length
 fl:f≤L.length
section
variable {base B:Nat} {w w':World} {tv nv nv':Value} {L:List Tok} {i f:Nat} {xs:List NV}
theorem Own.row {b e sz:Nat} {w:World} {v:Value} {ys:List Value} {k:Nat} (h:Own b e sz w v ys) (a:v.ownBlock=some k):∃cur,w.heap[k]? =some (.cells cur e (0,0)):=by
 rcases h with ⟨rfl,_⟩|⟨g,off,n,cap,cur,rfl,_,c,_⟩
 ·cases a
 ·cases a;exact ⟨cur,c⟩
theorem PSt.rowNe (h:PSt base B w tv nv L i f xs) {k:Nat} {cs:Array Value} {T:TypeId} {z:Nat×Nat} (a:w.heap[k]? =some (.cells cs T z)) (c:T≠44):nv.ownBlock≠some k:=fun e=>by
 obtain ⟨cur,b⟩:=Own.row h.own e;rw [b] at a;cases a;exact c rfl
theorem PSt.blkNe (h:PSt base B w tv nv L i f xs) {k:Nat} {cs:Array Value} {T:TypeId} {z:Nat×Nat} (a:w.heap[k]? =some (.cells cs T z)) (b:T≠85):k≠B:=fun e=>by
 subst e;rw [h.blk.heap] at a;cases a;exact b rfl
theorem PSt.keep (h:PSt base B w tv nv L i f xs) (y:Tn base B nv nv' w w') {b e sz:Nat} {v:Value} {ys:List Value} (c:Own b e sz w v ys) (t:e≠44) (o:e≠85):Own b e sz w' v ys:=by
 refine Own.same c fun k u=> ?_;obtain ⟨cur,a⟩:=Own.row c u;exact y.block k (Array.getElem?_eq_some_iff.1 a).1 (h.blkNe a o) (h.rowNe a t)
theorem PSt.var (h:PSt base B w tv nv L i f xs) (c:Tn base B nv nv' w w') {X:Nat} {cs:Array Value} {T:TypeId} (a:Blk w X cs T) (b:T≠44) (e:T≠85):Blk w' X cs T:=
 c.blk a (h.blkNe a.heap e) (h.rowNe a.heap b)
theorem PSt.slk (h:PSt base B w tv nv L i f xs):SlK w tv L:=SlK.own h.tok (by have:=h.tl;omega)
theorem PSt.ext (h:PSt base B w tv nv L i f xs) (a:qb w w'):PSt base B w' tv nv L i f xs:=
 ⟨h.blk.ext a,h.tok.ext a,h.own.ext a,fun x b=>(h.kid x b).ext a,h.bB,Nat.le_trans h.bW a.size,h.tl,h.il,h.fl⟩
theorem PSt.only (h:PSt base B w tv nv L i f xs) {X:Nat} (t:Only X w w') {cs:Array Value} {T:TypeId} {z:Nat×Nat} (J:X<w.heap.size→w.heap[X]? =some (.cells cs T z)) (F:T≠44) (S:T≠85) (y:T≠3) (E:T≠53):PSt base B w' tv nv L i f xs:=by
 have ne:∀k cur e,e≠T→w.heap[k]? =some (.cells cur e (0,0))→k≠X:=fun k cur e c a o=>by
  subst o;have:=J (Array.getElem?_eq_some_iff.1 a).1;rw [a] at this;cases this;exact c rfl
 have keep:∀{b e sz:Nat} {v:Value} {ys:List Value},e≠T→Own b e sz w v ys→Own b e sz w' v ys:=fun c u=>Own.same u fun k a=>by
  obtain ⟨cur,H⟩:=Own.row u a;exact t.block k (ne k cur _ c H)
 refine ⟨t.blk h.blk (ne B _ 85 (Ne.symm S) h.blk.heap),keep (Ne.symm E) h.tok,keep (Ne.symm F) h.own,fun x I=>keep (Ne.symm y) (h.kid x I),h.bB,by rw [t.size];exact h.bW,h.tl,h.il,h.fl⟩
theorem PSt.move (h:PSt base B w tv nv L i f xs) {u o:Nat} (c:Only B w w') (E:Blk w' B #[tv, .int .i64 (u:Int), .int .i64 (o:Int),nv] 85) (F:u≤L.length) (J:o≤L.length):
  PSt base B w' tv nv L u o xs∧Tn base B nv nv w w':=by
 have keep:∀{b e sz:Nat} {v:Value} {ys:List Value},e≠85→Own b e sz w v ys→Own b e sz w' v ys:=fun z y=>Own.same y fun k a=>by
  obtain ⟨cur,H⟩:=Own.row y a;exact c.block k (h.blkNe H z)
 refine ⟨⟨E,keep (by decide) h.tok,keep (by decide) h.own,fun x I=>keep (by decide) (h.kid x I),h.bB,by rw [c.size];exact h.bW,h.tl,F,J⟩, ?_,fun k a t _=>c.block k t,fun k a=> .inl a, .inl rfl⟩;exact wj c h.bB
end
@[simp] theorem qKx:qf Tryz.prog 142=true:=by kernel_rfl
@[simp] theorem qKy:qf Tryz.prog 141=true:=by kernel_rfl
@[simp] theorem qKA:qf Tryz.prog 117=true:=by kernel_rfl
@[simp] theorem qKw:qf Tryz.prog 143=true:=by kernel_rfl
@[simp] theorem qKz:qf Tryz.prog 120=true:=by kernel_rfl
@[simp] theorem qKv:qf Tryz.prog 153=true:=by kernel_rfl
@[simp] theorem qFU:qf Tryz.prog 160=true:=by kernel_rfl
theorem z53:vG Tryz.prog 53=some #[.int .u8 0, .string ⟨#[]⟩, .int .i64 0]:=by kernel_rfl
theorem Qy:jA Tryz.prog 53 3=true:=by kernel_rfl
theorem zz:jA Tryz.prog 3 1=true:=by kernel_rfl
theorem qGb:Tryz.prog.built 53 []=some #[.int .u8 0, .string ⟨#[]⟩, .int .i64 0]:=by kernel_rfl
theorem kP:xG Tryz.prog 51=some (9,1):=by kernel_rfl
def wD (t:Tok):Value:= .agg #[.int .u8 (t.kind:Int), .string (qc t.text), .int .i64 t.line]
theorem qgD {base B:Nat} {w:World} {tv nv:Value} {L:List Tok} {i f:Nat} {xs:List NV} (h:PSt base B w tv nv L i f xs) (n:Nat) (hn:n≤1):
  Calls Tryz.prog 142 #[.pointer (some ⟨B,0,none⟩), .int .i64 (n:Int)] w fun e w'=>e= .returned (wD (tk L (i+n)))∧qb w w':=by
 have htl:=h.tl;have hil:=h.il;refine qDX fun ρ r0 r1=> ?_;simp [qr3,r0,r1];refine qR z53 fun X W Y U hb _=> ?_;have S:=h.ext U;have V:=S.slk;have Z:IntKind.i64.wrap ((i:Int)+(n:Int))=((i+n:Nat):Int):=by rw [qp (by omega)];push_cast;rfl
 simp [S.blk.cell,r0,r1,V.is,V.len,Z];intro W2 o;have z:=S.ext o;have J:=z.slk;have F:=hb.ext o;by_cases E:i+n<L.length
 ·have c:=J.cell (i+n) E;have a:((i:Int)+(n:Int)<(L.length:Int)):=by omega
  simp [qiz,a];refine vH qDW (fun W=>PSt base B W tv nv L i f xs) fun W3 t _=>⟨z.ext t, ?_⟩;have H:=z.ext t;have u:=H.slk;have c:=u.cell (i+n) E;have I:∀W,PSt base B W tv nv L i f xs→∀j,W.cell? ⟨B,j,none⟩= #[tv,Value.int .i64 (i:Int), .int .i64 (f:Int),nv][j]? :=fun W h=>h.blk.cell;simp+contextual -implicitDefEqProofs [qrY,I,H,r0,r1,Z];have e3:((i:Int)+(n:Int)).toNat=i+n:=by omega
  rw [if_pos ⟨u.is,by omega,by rw [u.len];omega⟩,e3];simp [c.1,c.2.1,c.2.2];refine jl (B:=X) (by simp) (F.ext t) (by simp [Value.cells]) (by simp [Value.cells]) (by simpa [Value.cells] using Qy) fun W4 y b=> ?_;simp [Value.cells] at b;simp [qr0];refine qM (by simp) b rfl ⟨?_, ?_⟩
  ·rw [zr E];rfl
  ·exact y.ext (((U.trans' o).trans' t)) Y
 ·have a:¬((i:Int)+(n:Int)<(L.length:Int)):=by omega
  simp [qiz,qrZ,a];rw [qGb];dsimp only [xl];refine jl (B:=X) (by simp) F (by simp [Value.cells]) (by simp [Value.cells]) (by simpa [Value.cells] using Qy) fun W4 y b=> ?_;simp [Value.cells] at b;simp;refine qM (by simp) b rfl ⟨?_, ?_⟩
  ·rw [Qw (by omega)];rfl
  ·exact y.ext (U.trans' o) Y
section
variable {base B:Nat} {w:World} {tv nv:Value} {L:List Tok} {i f:Nat} {xs:List NV}
theorem qbs {w:World} {X:Nat} {a b c:Value} {T:TypeId} (h:Blk w X #[a,b,c] T):w.cell? ⟨X,0,none⟩=some a∧w.cell? ⟨X,1,none⟩=some b∧w.cell? ⟨X,2,none⟩=some c:=
 ⟨by rw [h.cell];rfl,by rw [h.cell];rfl,by rw [h.cell];rfl⟩
theorem qyL (h:PSt base B w tv nv L i f xs) {v:Value} {ss:List Bs} (H:qS w v ss):
  Calls Tryz.prog 141 #[.pointer (some ⟨B,0,none⟩),v] w fun e w'=>e= .returned (.bool (jW L i ss))∧qb w w':=by
 refine qDY fun ρ r0 r1=> ?_;simp [qr4,r0,r1];refine (qgD h 0 (by decide)).mono ?_;rintro _ w1 ⟨rfl,E⟩;simp;refine qR z53 fun X W J t I _=> ?_;simp;refine jl (B:=X) (by simp) I (by simp [Value.cells,wD]) (by simp [Value.cells,wD]) (by simpa [Value.cells] using Qy) fun W2 u o=> ?_;simp [Value.cells,wD] at o;obtain ⟨c0,c1,c2⟩:=qbs o;have a:qb w W2:=u.ext (E.trans' t) (by have:=E.size;omega);have z:∀n:Nat,(((tk L i).kind:Int)=(n:Int))↔(tk L i).kind=n:=fun n=>by omega
 have c:=z 2;have b:=z 4;simp only [Int.cast_ofNat_Int] at c b;simp [c0,c1,r1];unfold jW;by_cases F:(tk L i).kind=2∨(tk L i).kind=4
 ·have y:((tk L i).kind:Int)=2∨((tk L i).kind:Int)=4:=by omega
  simp [y,r1];refine (L01.qfW (tk L i).text (H.ext a)).mono ?_;rintro _ _ ⟨rfl,rfl⟩;simp [F];refine ⟨?_,a⟩;simp only [c,b]
 ·have y:¬(((tk L i).kind:Int)=2∨((tk L i).kind:Int)=4):=by omega
  simp [y,F];exact a
def qjA (base B:Nat) (w:World) (tv nv:Value) (L:List Tok) (i f:Nat) (xs:List NV) (b:Bool):Ending→World→Prop:=fun e w'=>e= .returned (.bool b)∧PSt base B w' tv nv L (if b then i+1 else i) f xs∧Tn base B nv nv w w'
theorem qgB (h:PSt base B w tv nv L i f xs) (s:Bs):Calls Tryz.prog 117 #[.pointer (some ⟨B,0,none⟩), .string (qc s)] w (qjA base B w tv nv L i f xs (jW L i [s])):=by
 have J:=h.tl;have U:=h.il;refine qEc fun ρ r0 r1=> ?_;simp [qsi,r0,r1];refine jN kP (by decide) (by decide) (by simp [Value.cells]) fun X W Y H F _=> ?_;simp [Value.cells] at F⊢;have I:qS W (.slice (some ⟨X,0,none⟩) 1 1) [s]:=⟨rfl,rfl,by simp,fun j V=>by
  have:j=0:=by simpa using V
  subst this;simp [qD,F.cell,qe]⟩
 refine (qyL (h.ext H) I).mono ?_;rintro _ w1 ⟨rfl,e⟩;have a:=H.trans' e;have c:=h.ext a;simp;cases S:jW L i [s] with
 |false=>
  simp [qjA];exact ⟨c,Tn.ext a h.bW⟩
 |true=>
  have y:=qg6 S;have z:IntKind.i64.wrap ((i:Int)+1)=((i+1:Nat):Int):=by rw [qp (by omega)];push_cast;rfl
  simp [qsh,r0,c.blk.cell,z];refine qK (B:=B) (i:=1) (by simp) c.blk (by simp) rfl rfl zz fun W2 E b=> ?_;simp at b;have o:Blk W2 B #[tv, .int .i64 ((i+1:Nat):Int), .int .i64 (f:Int),nv] 85:=by rw [←z];simpa [z] using b
  obtain ⟨t,u⟩:=c.move E o y h.fl;simp [qjA];exact ⟨t,(Tn.ext a h.bW).trans u⟩
end
def yD:List PanicEntry:=[{v:= .iface 153 (.agg #[]),recovered:=false}]
structure Ans (α:Type) where
 nodes:Nat→α→List Nd
 val:World→World→Nat→α→Value→Prop
def aU:Ans Unit:=⟨fun _ _=>[],fun _ _ _ _ v=>v= .tuple #[]⟩
def aS:Ans Bs:=⟨fun _ _=>[],fun _ _ _ s v=>v= .string (qc s)⟩
def wv (w:World) (v:Value):Prop:=∀k,v.ownBlock=some k→w.heap.size≤k
theorem wv.mono {w w':World} {v:Value} (h:wv w' v) (a:w.heap.size≤w'.heap.size):wv w v:=fun k b=>Nat.le_trans a (h k b)
def PR {α:Type} (A:Ans α) (base B:Nat) (tv nv:Value) (L:List Tok) (xs:List NV) (w:World):Rs α→Ending→World→Prop
 | .oof,_,_=>False
 | .ok a j g,e,w'=>∃v nv' ys,e= .returned v∧PSt base B w' tv nv' L j g (xs++ys)∧ys.map (·.nd)=A.nodes xs.length a∧(∀y∈ys,wv w y.kv)∧Tn base B nv nv' w w'∧A.val w w' xs.length a v
 | .no g,e,w'=>∃j nv' ys,e= .panicked yD∧PSt base B w' tv nv' L j g (xs++ys)∧Tn base B nv nv' w w'
def Mt {α:Type} (A:Ans α) (L:List Tok) (F:FuncId) (args:Value→Array Value) (m:M α):Prop:=∀base B w tv nv i f xs,PSt base B w tv nv L i f xs→xs.length≤2*i+2→m i f≠ .oof→
 Calls Tryz.prog F (args (.pointer (some ⟨B,0,none⟩))) w (PR A base B tv nv L xs w (m i f))
def me (v:Value):Array Value:= #[v]
theorem qfK {α β:Type} {A:Ans α} {A':Ans β} {L:List Tok} {m:M α} {k:α→M β} {r:Rs β} {base B:Nat} {w w1:World} {tv nv nv1:Value} {i f:Nat} {xs ys:List NV} {K:qa→World→Prop} {Q:Ks} {ρ:qa} {d:Option Nat}
  {F:FuncId} {args:Array Value} (U:m i f≠ .oof→Calls Tryz.prog F args w1 (PR A base B tv nv1 L (xs++ys) w1 (m i f))) (H:Tn base B nv nv1 w w1) (E:bnd m k i f=r) (J:r≠ .oof)
  (hpn:∀c w',PR A' base B tv nv L xs w r (.panicked c) w'→Q.pn ρ c w')
  (h:∀a j g v nv2 zs w2,m i f= .ok a j g→PSt base B w2 tv nv2 L j g (xs++(ys++zs))→zs.map (·.nd)=A.nodes (xs++ys).length a→(∀z∈zs,wv w1 z.kv)→Tn base B nv1 nv2 w1 w2→Tn base B nv nv2 w w2→A.val w1 w2 (xs++ys).length a v→k a j g=r→
   K (qm ρ d v) w2):Calls Tryz.prog F args w1 (xT Q d K ρ):=by
 have u:m i f≠ .oof:=fun e=>J (by rw [←E,qtY e]);refine (U u).mono ?_;intro e w2 y;cases b:m i f with
 |oof=>exact absurd b u
 |no g=>
  rw [b] at y;obtain ⟨j,nv2,zs,rfl,t,o⟩:=y;rw [qtO];refine hpn _ _ ?_;rw [←E,qe4 b];exact ⟨j,nv2,ys++zs,rfl,by simpa using t,H.trans o⟩
 |ok a j g=>
  rw [b] at y;obtain ⟨v,nv2,zs,rfl,t,S,V,o,I⟩:=y;rw [qjr];refine h a j g v nv2 zs w2 b (by simpa using t) S V o (H.trans o) I ?_;rw [←E,qe3 b]
theorem qGf:Tryz.prog.built 153 []=some #[]:=by kernel_rfl
section
variable {base B:Nat} {w:World} {tv nv:Value} {L:List Tok} {i f:Nat} {xs:List NV}
def qus (base B:Nat) (w:World) (tv nv:Value) (L:List Tok) (i f:Nat) (xs:List NV):Ending→World→Prop:=fun e w'=>e= .panicked yD∧PSt base B w' tv nv L i (max f i) xs∧Tn base B nv nv w w'
theorem qbM (h:PSt base B w tv nv L i f xs):Calls Tryz.prog 143 #[.pointer (some ⟨B,0,none⟩)] w (qus base B w tv nv L i f xs):=by
 have J:=h.tl;have H:=h.il;have I:=h.fl;refine qDV fun ρ r0=> ?_;simp [qrX];refine vH qDU (fun W=>PSt base B W tv nv L i f xs) fun W3 e _=>⟨h.ext e, ?_⟩;have c:=h.ext e;have y:∀W,PSt base B W tv nv L i f xs→∀j,W.cell? ⟨B,j,none⟩= #[tv,Value.int .i64 (i:Int), .int .i64 (f:Int),nv][j]? :=fun W h=>h.blk.cell;simp+contextual -implicitDefEqProofs [qrT,y,c,r0];refine qeK (k:= .i64) (a:=(f:Int)) (b:=(i:Int)) (by simp) (by simp) ?_;have S:(if (i:Int)>(f:Int) then (i:Int) else (f:Int))=((max f i:Nat):Int):=by split<;>omega
 rw [S];refine ⟨c, ?_⟩;simp [r0];refine qK (B:=B) (i:=2) (by simp) c.blk (by simp) (by simp [Value.cells]) (by simp) zz fun W4 u o=> ?_;simp at o;have E:Blk W4 B #[tv, .int .i64 (i:Int), .int .i64 ((max f i:Nat):Int),nv] 85:=by simpa using o
 obtain ⟨F,z⟩:=c.move u E H (by omega);simp [qrU];rw [qGf];dsimp only [xl];refine qiT (t:=153) (v:= .agg #[]) (by simp) ?_;simp [qus,yD];exact ⟨F,(Tn.ext e h.bW).trans z⟩
theorem qve {s:Bs} {ss:List Bs}:needs L (s::ss) i f=if jW L i [s] then needs L ss (i+1) f else .no (max f i):=rfl
theorem qyB (h:PSt base B w tv nv L i f xs) {v:Value} {ss:List Bs} (z:Own 0 9 1 w v (ss.map qe)) (y:ss.length<4611686018427387904):Calls Tryz.prog 153 #[.pointer (some ⟨B,0,none⟩),v] w (PR aU base B tv nv L xs w (needs L ss i f)):=by
 have E:qS w v ss:=Own.sl z y;refine qDD fun ρ r0 r1=> ?_;simp [qrH,r1,E.is,E.len];refine jj 8 ss.length (fun k b w'=>b 0= .pointer (some ⟨B,0,none⟩)∧b 6=v∧b 7= .int .i64 (ss.length:Int)∧PSt base B w' tv nv L (i+k) f xs∧Tn base B nv nv w w'∧Own 0 9 1 w' v (ss.map qe)∧needs L ss i f=needs L (ss.drop k) (i+k) f) (by simp)
  ⟨by simp [r0],by simp [r1],by simp [E.len],h,Tn.refl _ _ _ _,z,by simp⟩ ?_
 rintro k b w' Y r8 ⟨r0,r6,r7,H,S,e,a⟩;have o:qS w' v ss:=Own.sl e y;by_cases u:k<ss.length
 ·have F:=List.drop_eq_getElem_cons u;rw [F,qve] at a;simp [qio,qrF,r8,r7,u,r6,o.is,o.len,o.cell k u,qe,r0];refine (qgB H ss[k]).mono ?_;rintro _ w2 ⟨rfl,c,t⟩;cases V:jW L (i+k) [ss[k]] with
  |true=>
   rw [V] at a c;simp [qrG,r8,qp (n:=(k:Int)+1) (by omega),r0,r6,r7];exact ⟨c,S.trans t,H.keep t e (by decide) (by decide),by rw [a];rfl⟩
  |false=>
   rw [V] at a c;simp [r0];refine (qbM c).mono ?_;rintro _ W ⟨rfl,U,J⟩;simp;rw [a];exact ⟨i+k,nv,[],rfl,by simpa using U,(S.trans t).trans J⟩
 ·have I:k=ss.length:=by omega
  subst I;simp [qio,r8,r7];rw [a];simp only [List.drop_length,needs,ret,PR,aU];exact ⟨_,nv,[],rfl,by simpa using H,rfl,by simp,S,rfl⟩
theorem qlX (h:PSt base B w tv nv L i f xs):Calls Tryz.prog 120 #[.pointer (some ⟨B,0,none⟩)] w (PR aS base B tv nv L xs w (name L i f)):=by
 have V:=h.tl;have aa:=h.il;refine qEa fun ρ r0=> ?_;simp [qsf,r0];refine (qgD h 0 (by decide)).mono ?_;rintro _ w1 ⟨rfl,U⟩;simp;refine qR z53 fun X W hX E Y _=> ?_;simp;refine jl (B:=X) (by simp) Y (by simp [Value.cells,wD]) (by simp [Value.cells,wD]) (by simpa [Value.cells] using Qy) fun W2 S c=> ?_;simp [Value.cells,wD] at c;obtain ⟨c0,c1,c2⟩:=qbs c;have a:qb w W2:=S.ext (U.trans' E) (by have:=U.size;omega);have z:=h.ext a;have hk:(((tk L i).kind:Int)=1)↔(tk L i).kind=1:=by omega
 simp [c0,r0];by_cases y:(tk L i).kind=1
 ·have H:=qg3 y (by decide);have Z:IntKind.i64.wrap ((i:Int)+1)=((i+1:Nat):Int):=by rw [qp (by omega)];push_cast;rfl
  have b:X≠B:=by have:=h.blk.lt;have:=U.size;omega
  simp [y,qse,r0,z.blk.cell,Z];refine qK (B:=B) (i:=1) (by simp) z.blk (by simp) (by simp [Value.cells]) (by simp) zz fun W3 u t=> ?_;simp at t;have I:Blk W3 B #[tv, .int .i64 ((i+1:Nat):Int), .int .i64 (f:Int),nv] 85:=by simpa using t
  obtain ⟨o,e⟩:=z.move u I H h.fl;have F:W3.cell? ⟨X,1,none⟩=some (.string (qc (tk L i).text)):=(qbs (u.blk c b)).2.1;simp [F];rw [qzC y];exact ⟨_,nv,[],rfl,by simpa using o,rfl,by simp,(Tn.ext a h.bW).trans e,rfl⟩
 ·have b:name L i f= .no (max f i):=by unfold name;rw [if_neg y]
  have J:¬((tk L i).kind:Int)=1:=by omega
  simp [J,r0];refine (qbM z).mono ?_;rintro _ w3 ⟨rfl,o,e⟩;simp;rw [b];exact ⟨i,nv,[],rfl,by simpa using o,(Tn.ext a h.bW).trans e⟩
theorem qyz (h:PSt base B w tv nv L i f xs):Calls Tryz.prog 156 #[.pointer (some ⟨B,0,none⟩)] w (PR aU base B tv nv L xs w (param L i f)):=by
 have aa:=h.tl;have hil:=h.il;refine qDx fun ρ r0=> ?_;simp [qrz,r0];refine (qgD h 0 (by decide)).mono ?_;rintro _ w1 ⟨rfl,U⟩;simp;refine qR z53 fun X W hX E hb _=> ?_;simp;refine jl (B:=X) (by simp) hb (by simp [Value.cells,wD]) (by simp [Value.cells,wD]) (by simpa [Value.cells] using Qy) fun W2 J y=> ?_;simp [Value.cells,wD] at y;obtain ⟨c0,c1,c2⟩:=qbs y;have c:qb w W2:=J.ext (U.trans' E) (by have:=U.size;omega);have t:=h.ext c;have S:(⟨#[116]⟩:ByteArray)=qc [116]:=rfl;simp [c0,c1,r0];unfold param;by_cases o:(tk L i).kind=1∧(tk L i).text=[116]
 ·have H:=qg3 o.1 (by decide);have e1:IntKind.i64.wrap ((i:Int)+1)=((i+1:Nat):Int):=by rw [qp (by omega)];push_cast;rfl
  rw [if_pos o];simp [o.1,o.2,S,qry,r0,t.blk.cell,e1];refine qK (B:=B) (i:=1) (by simp) t.blk (by simp) (by simp [Value.cells]) (by simp) zz fun W3 F u=> ?_;simp at u;have I:Blk W3 B #[tv, .int .i64 ((i+1:Nat):Int), .int .i64 (f:Int),nv] 85:=by simpa using u
  obtain ⟨b,a⟩:=t.move F I H h.fl;simp;exact ⟨_,nv,[],rfl,by simpa using b,rfl,by simp,(Tn.ext c h.bW).trans a,rfl⟩
 ·rw [if_neg o];by_cases V:(tk L i).kind=1
  ·have Y:(tk L i).text≠[116]:=fun e=>o ⟨V,e⟩;simp [V,S,qJ,Y,r0];refine (qbM t).mono ?_;rintro _ Z ⟨rfl,b,a⟩;simp;exact ⟨i,nv,[],rfl,by simpa using b,(Tn.ext c h.bW).trans a⟩
  ·have z:¬((tk L i).kind:Int)=1:=by omega
   simp [z,r0];refine (qbM t).mono ?_;rintro _ Z ⟨rfl,b,a⟩;simp;exact ⟨i,nv,[],rfl,by simpa using b,(Tn.ext c h.bW).trans a⟩
theorem qyQ (h:PSt base B w tv nv L i f xs):Calls Tryz.prog 63 #[.pointer (some ⟨B,0,none⟩)] w (PR aU base B tv nv L xs w (fin L i f)):=by
 have u:=h.tl;have y:=h.il;refine qAU fun ρ r0=> ?_;have o:=h.slk;simp [qn2,r0,h.blk.cell,o.is,o.len];intro W2 b;have t:=h.ext b;unfold fin;by_cases a:i<L.length
 ·rw [if_pos a];simp [qhh,a,r0];refine (qbM t).mono ?_;rintro _ z ⟨rfl,e,c⟩;simp;exact ⟨i,nv,[],rfl,by simpa using e,(Tn.ext b h.bW).trans c⟩
 ·rw [if_neg a];simp [qhh,a];exact ⟨_,nv,[],rfl,by simpa using t,rfl,by simp,Tn.ext b h.bW,rfl⟩
theorem wE:jA Tryz.prog 44 6=true:=by kernel_rfl
theorem qvz:jA Tryz.prog 29 1=true:=by kernel_rfl
theorem qv3:xG Tryz.prog 29=some (44,6):=by kernel_rfl
theorem qxy:ke Tryz.prog 29=some (44,6,88):=by kernel_rfl
theorem qf3 {w:World} {X:Nat} {cs:Array Value} {T:TypeId} {n:Nat} (h:Blk w X cs T) (a:cs.size=n):qU w (.loadN n) (.pointer (some ⟨X,0,none⟩))=some (.agg cs):=by
 rw [qbH,←a,kT h];rfl
theorem qFf {P:Program} {t e sz bytes:Nat} (S:ke P t=some (e,sz,bytes)) {base:Nat} {w:World} {ρ:qa} {Q:Ks} {d:Option Nat} {ty:TypeId} {K:qa→World→Prop} (b:base≤w.heap.size) {s x:Operand} {sv xv:Value} (J:qd ρ s=sv) (U:qd ρ x=xv) {xs news:List Value}
  (y:Own base e sz w sv xs) (o:Cells w xv sz news) (E:∀u∈news,u.oneCell'=true)
  (z:xs.length+news.length<4611686018427387904) (a:(xs.length+news.length)*bytes≤140737488355328*sz)
  (h:∀c W,Own base e sz W c (xs++news)→w.grownBy W sv.ownBlock→(c.ownBlock=sv.ownBlock∨c.ownBlock=some w.heap.size)→K (qm ρ d c) W):qr P Q d (.call {callee:= .builtin .append,args:= #[s,x],argTypes:= #[t,t]}) ty K ρ w:=by
 obtain ⟨c,W,E,I,F,H⟩:=qc5 (ty:=ty) S y o E z a b;refine jf (v:=c) (w':=W) ?_ (h c W I F H);simp [execOp,qA,resolve,invoke,builtin,J,U,E]
end
noncomputable def qnY:IR:= .reg [za 1 (zl (zv 0)),zc 2 72 #[zt 1] #[83] 0,za 3 (zl (zv 0)),zc 4 63 #[zt 3] #[83] 0]
def qAP:List Nat:=zV 5 []
theorem qAO:C1 71 5 qAP qnY []:=c1 [] Tryz.func71
noncomputable def qqm:IR:=zq [zm 19 3,zE 20 (.build 85 #[(0,(zt 19))]) 85,zE 21 (.box 85 (zt 20)) 83,zA 5 83,zw 83 (zt 5) (zt 21),za 22 (zl (zv 5)),zE 23 (.makeFunc (.func 71) #[] #[zt 5]) 1,zc 24 54 #[zt 22,zt 23] #[83,1] 4,zm 25 24,zg 25 true 26 (zv 3),zh 25 true 27 73 #[zt 26] #[48] 9,za 2 (.ite (zv 25) (zS .eql (zv 27) (zv 0)) (zQ false))] <| .ret
noncomputable def qqF:IR:=zq [za 2 (zQ false),zm 7 0,zc 8 53 #[zt 7] #[9] 49,zm 6 8,za 9 (ze 0 (zv 6)),za 10 (ze 1 (zv 6)),zA 4 26,zm 3 9,zw 26 (zt 4) (zt 10),za 18 (.ite (zI .neq (zo 0 (zv 4)) (zK 0)) (zQ true) (zI .gtr (zT (zv 0)) (zK 100)))] <| .seq (.cond (zv 18) (zq [za 2 (zQ false)] <| .ret) .skip) (qqm)
def qCx:List Nat:=zV 28 [1,11,12,13,14,15,16,17]
theorem qCw:C1 22 31 qCx qqF [.tmp 2]:=c1 [] Tryz.func22
noncomputable def qnG:IR:=zq [za 2 (zQ false),zE 3 (.buildSlice 51 4 #[(0,(zY #[109,111,100])),(1,(zY #[97,110,100])),(2,(zY #[111,114])),(3,(zY #[110,111,116]))]) 51,zm 4 0,zc 5 160 #[zt 3,zt 4] #[51,9] 4,zm 2 5] <| .ret
def qAH:List Nat:=zV 6 [1]
theorem qAG:C1 75 6 qAH qnG [.tmp 2]:=c1 [] Tryz.func75
noncomputable def qpL:IR:=zq [zm 9 0,zc 10 76 #[zt 9,zY #[95]] #[9,9] 107,zm 8 10,za 11 (ze 0 (zv 8)),za 12 (ze 1 (zv 8)),za 13 (ze 2 (zv 8)),zm 3 11,zm 4 12,zm 5 13,zm 14 3,zc 15 77 #[zt 14] #[9] 4,zm 16 15,zg 16 true 19 (zn (zv 5)),zg 19 false 20 (zv 4),zh 19 false 21 77 #[zt 20] #[9] 4,za 2 (.ite (zv 16) (.ite (zv 19) (zQ true) (zv 21)) (zQ false))] <| .ret
noncomputable def qpV:IR:=zq [za 2 (zQ false),zm 6 0,zc 7 75 #[zt 6] #[9] 4] <| .seq (.cond (zv 7) (zq [za 2 (zQ true)] <| .ret) .skip) (qpL)
def qB4:List Nat:=zV 22 [1,17,18]
theorem qB3:C1 24 24 qB4 qpV [.tmp 2]:=c1 [] Tryz.func24
section
variable {base B:Nat} {w w':World} {tv nv nv':Value} {L:List Tok} {i f:Nat} {xs:List NV}
def z7 (out:Value) (xs:List NV):Prop:=∀x∈xs,∀k,x.kv.ownBlock=some k→out.ownBlock≠some k
theorem z7.app {c:Value} {a b:List NV} (o:z7 c a) (t:z7 c b):z7 c (a++b):=fun x e=>by
 rcases List.mem_append.1 e with h|h
 ·exact o x h
 ·exact t x h
theorem z7.old {b:Value} {a:List NV} (h:∀x∈a,∀k,x.kv.ownBlock=some k→k<w.heap.size) (c:wv w b):z7 b a:=fun x o k t e=>by
 have:=h x o k t;have:=c k e;omega
theorem z7.new {b:Value} {a:List NV} (h:∀x∈a,wv w x.kv) (c:∀k,b.ownBlock=some k→k<w.heap.size):z7 b a:=fun x o k t e=>by
 have:=h x o k t;have:=c k e;omega
theorem PSt.old (h:PSt base B w tv nv L i f xs):∀x∈xs,∀k,x.kv.ownBlock=some k→k<w.heap.size:=fun x b k a=>((h.kid x b).blk k a).2
theorem PSt.grown (h:PSt base B w tv nv L i f xs) {a:Value} {e sz b:Nat} {cs:List Value} (J:Own b e sz w a cs) (u:w.grownBy w' a.ownBlock) (S:z7 a xs) (U:e≠44) (Y:e≠85) (I:e≠53):PSt base B w' tv nv L i f xs:=by
 have ne:∀k cur T,T≠e→w.heap[k]? =some (.cells cur T (0,0))→some k≠a.ownBlock:=fun k cur T W c z=>by
  obtain ⟨F,o⟩:=Own.row J z.symm;rw [c] at o;cases o;exact W rfl
 have keep:∀{H y sz':Nat} {v:Value} {ys:List Value},y≠e→Own H y sz' w v ys→Own H y sz' w' v ys:=fun V t=>Own.same t fun k c=>by
  obtain ⟨cur,o⟩:=Own.row t c;exact u.block k (Array.getElem?_eq_some_iff.1 o).1 (ne k cur _ V o)
 refine ⟨⟨(u.block B h.blk.lt (ne B _ 85 (Ne.symm Y) h.blk.heap)).trans h.blk.heap⟩,keep (Ne.symm I) h.tok,keep (Ne.symm U) h.own,fun x E=>Own.same (h.kid x E) fun k c=>u.block k ((h.kid x E).blk k c).2 fun e=>S x E k c e.symm,h.bB,Nat.le_trans h.bW u.size,h.tl,h.il,h.fl⟩
theorem Tn.grown (h:Tn base B nv nv' w w') {W:World} {row:Option Nat} (a:w'.grownBy W row) (c:∀k,row=some k→w.heap.size≤k) (y:base≤w.heap.size):Tn base B nv nv' w W:=by
 have t:=h.size;refine ⟨⟨a.os.trans h.below.os,a.tape.trans h.below.tape,a.output.trans h.below.output,Nat.le_trans t a.size,fun k b=> ?_⟩,fun k b o u=> ?_,h.row,h.gr⟩
 ·exact (a.block k (by omega) fun e=>by have:=c k e.symm;omega).trans (h.below.block k b)
 ·exact (a.block k (by omega) fun e=>by have:=c k e.symm;omega).trans (h.block k b o u)
theorem Tn.extR (h:Tn base B nv nv' w w') {W:World} (b:qb w' W) (c:base≤w.heap.size):Tn base B nv nv' w W:=
 ⟨h.below.trans (b.mono (Nat.le_trans c h.size)),fun k a e o=>(b.block k (Nat.lt_of_lt_of_le a h.size)).trans (h.block k a e o),h.row,h.gr⟩
end
structure Pu (α:Type) where
 nodes:Nat→α→List Nd
 ev:Nat→α→Value
 μ:α→Nat
 len:∀b a,(nodes b a).length=μ a
section
variable {α:Type} (p:Pu α)
def Pu.ans:Ans α:=⟨p.nodes,fun _ _ b a v=>v=p.ev b a⟩
def Pu.nodesL:Nat→List α→List Nd
 |_,[]=>[]
 |b,a::ls=>p.nodes b a++Pu.nodesL (b+p.μ a) ls
def Pu.evL:Nat→List α→List Value
 |_,[]=>[]
 |b,a::ls=>(p.ev b a).cells.toList++Pu.evL (b+p.μ a) ls
def Pu.ansL (e sz:Nat):Ans (List α):=⟨p.nodesL,fun w w' b l v=>Own w.heap.size e sz w' v (p.evL b l)⟩
theorem Pu.nodesL_snoc (a:α):∀(l:List α) (b:Nat),p.nodesL b (l++[a])=p.nodesL b l++p.nodes (b+(p.nodesL b l).length) a
 |[],b=>by simp [Pu.nodesL]
 |x::l,b=>by
  simp only [List.cons_append,Pu.nodesL,Pu.nodesL_snoc a l,List.length_append,p.len,List.append_assoc,Nat.add_assoc]
theorem Pu.evL_len {sz:Nat} (h:∀b a,(p.ev b a).cells.size=sz):∀(l:List α) (b:Nat),(p.evL b l).length=l.length*sz
 |[],b=>by simp [Pu.evL]
 |x::l,b=>by simp only [Pu.evL,List.length_append,Pu.evL_len h l,List.length_cons,Array.length_toList,h,Nat.add_mul];omega
theorem Pu.evL_snoc (a:α):∀(l:List α) (b:Nat),p.evL b (l++[a])=p.evL b l++(p.ev (b+(p.nodesL b l).length) a).cells.toList
 |[],b=>by simp [Pu.evL,Pu.nodesL]
 |x::l,b=>by
  simp only [List.cons_append,Pu.evL,Pu.evL_snoc a l,Pu.nodesL,List.length_append,p.len,List.append_assoc,Nat.add_assoc]
end
def Bx (B:Nat) (bx:Option Nat) (w:World):Prop:=∀b,bx=some b→Blk w b #[.pointer (some ⟨B,0,none⟩)] 83
theorem Bx.keep {base B:Nat} {w w':World} {tv nv nv':Value} {L:List Tok} {i f:Nat} {xs:List NV} {a:Option Nat} (h:Bx B a w) (e:PSt base B w tv nv L i f xs) (o:Tn base B nv nv' w w'):Bx B a w':=fun b c=>e.var o (h b c) (by decide) (by decide)
theorem Bx.ext {B:Nat} {w w':World} {a:Option Nat} (h:Bx B a w) (e:qb w w'):Bx B a w':=fun b c=>(h b c).ext e
theorem Bx.grown {B:Nat} {w w':World} {t:Option Nat} (h:Bx B t w) {a:Value} {e sz b:Nat} {cs:List Value} (z:Own b e sz w a cs) (u:w.grownBy w' a.ownBlock) (F:e≠83):Bx B t w':=fun b y=>by
 have c:=h b y;refine ⟨(u.block b c.lt fun E=> ?_).trans c.heap⟩;obtain ⟨cur,o⟩:=Own.row z E.symm;rw [c.heap] at o;cases o;exact F rfl
structure FnM {α:Type} (A:Ans α) (bx:Option Nat) (B:Nat) (L:List Tok) (fv:Value) (m:M α):Prop where
 fn:∃F fs caps,fv= .func (.func F) fs caps∧qf Tryz.prog F=true∧∀base w tv nv i f xs,PSt base B w tv nv L i f xs→Bx B bx w→xs.length≤2*i+2→m i f≠ .oof→Calls Tryz.prog F (fs++caps) w (PR A base B tv nv L xs w (m i f))
def atOf (B:Nat) (w:World):Nat:=match w.cell? ⟨B,1,none⟩ with|some (.int _ n)=>n.toNat|_=>0
theorem PSt.atOf {base B:Nat} {w:World} {tv nv:Value} {L:List Tok} {i f:Nat} {xs:List NV} (h:PSt base B w tv nv L i f xs):atOf B w=i:=by
 unfold L02.atOf;rw [h.blk.cell];rfl
theorem qao:ke Tryz.prog 51=some (9,1,16):=by kernel_rfl
theorem qkB:xG Tryz.prog 51=some (9,1):=by kernel_rfl
@[simp] theorem qKu:qf Tryz.prog 154=true:=by kernel_rfl
theorem qlY {α:Type} {p:Pu α} {bx:Option Nat} {base B:Nat} {w:World} {tv nv fv:Value} {L:List Tok} {i f:Nat} {xs:List NV} {m:M α} (hf:FnM p.ans bx B L fv m) (hu:Up m) (hz:Sz p.μ 0 m)
  (hc:∀b a,(p.ev b a).cells.size=1∧∀u∈(p.ev b a).cells.toList,u.oneCell'=true) (n:Nat) (h:PSt base B w tv nv L i f xs) (hEw:Bx B bx w) (hn:xs.length≤2*i+2) (ho:listed L n m i f≠ .oof):
  Calls Tryz.prog 154 #[.pointer (some ⟨B,0,none⟩),fv] w (PR (p.ansL 9 1) base B tv nv L xs w (listed L n m i f)):=by
 obtain ⟨F,fs,caps,rfl,hcb,ab⟩:=hf.fn;generalize hr:listed L n m i f=r at ho;refine qDB fun ρ r0 r1=> ?_;simp [qrE,r0,r1];refine kp (f:=F) hcb (fs:=fs) (caps:=caps) (by simp) ?_;simp;refine qfK (ys:=[]) (xs:=xs) (r:=r) (A':=p.ansL 9 1) (nv:=nv) (w:=w) (k:=fun x=>bnd (more L m n) fun xs=>ret (x::xs)) (fun hno=>by simpa using ab base w tv nv i f xs h hEw hn hno) (Tn.refl _ _ _ _) hr ho (fun c w' hp=>by simpa using hp) ?_;intro a j g v nv2 zs w2 hma o E V H W hv I;simp only [List.append_nil,List.nil_append] at o E hv;change v=p.ev xs.length a at hv;change zs.map (·.nd)=p.nodes xs.length a at E;subst hv;have J:=hc xs.length a;simp;refine jN qkB (by decide) (by decide) (by simpa using J.1) fun X W3 hX hE3 hb3 hsz3=> ?_;simp at hb3;have U:=o.ext hE3;have S:=(hEw.keep h H).ext hE3;have hzz:=hz _ _ _ _ _ hma;have hzl:zs.length=p.μ a:=by rw [←p.len xs.length a,←E,List.length_map]
 simp;refine yZ (fun ρ' w'=>∃i' f' nv' ys z Z n',ρ' 0= .pointer (some ⟨B,0,none⟩)∧ρ' 1= .func (.func F) fs caps∧ρ' 5=z∧PSt base B w' tv nv' L i' f' (xs++ys)∧ys.map (·.nd)=p.nodesL xs.length Z∧(∀y∈ys,wv w y.kv)∧Tn base B nv nv' w w'∧Bx B bx w'∧
   Own w.heap.size 9 1 w' z (p.evL xs.length Z)∧z7 z (xs++ys)∧(xs++ys).length≤2*i'+2∧Z.length≤i'+1∧(more L m n' i' f').andThen (fun bs j g=> .ok (Z++bs) j g)=r) (fun _ w'=>L.length - atOf B w')
  ⟨j,g,nv2,zs, .slice (some ⟨X,0,none⟩) 1 1,[a],n,by simp [r0],by simp [r1],by simp,U,by simpa [Pu.nodesL] using E,V,W.extR hE3 h.bW,S, ?_, ?_,by simp;omega,by simp, ?_⟩ ?_
 ·have:=Own.lit (base:=w.heap.size) (sz:=1) (n:=1) (cs:=(p.ev xs.length a).cells.toList) (by simpa using hb3) (by simp [J.1]) (by have:=H.size;omega) (by decide);simpa [Pu.evL] using this
 ·refine z7.old (w:=w2) o.old ?_;intro k I;cases I;exact hX
 ·rw [←I];simp only [bnd];cases more L m n j g<;>rfl
 clear I o E V H W hb3 U S hX hE3 hma hzz hzl hsz3;rintro ρ' w' ⟨i',f',nv',ys,z,Z,n',r0,r1,r5,hS,E,V,hT,hEw',hO,hsep,hcnt,hll,hsp⟩;have hat:=hS.atOf;simp [qrB,r0];refine (qgB hS [44]).mono ?_;rintro _ w2 ⟨rfl,o,H⟩;have hEw2:=hEw'.keep hS H;have hO2:=hS.keep H hO (by decide) (by decide);cases n' with
 |zero=>exact absurd hsp.symm ho
 |succ n'=>
  have t:(qH L [44] (listed L n' m) (ret []) i' f').andThen (fun bs j g=> .ok (Z++bs) j g)=r:=hsp;unfold qH at t;cases hc2:jW L i' [[44]] with
  |false=>
   rw [hc2] at t o;simp only [Bool.false_eq_true,if_false,ret,Rs.andThen,List.append_nil] at t o;simp [qrC,r5];rw [←t];exact ⟨z,nv',ys,rfl,o,E,V,hT.trans H,hO2⟩
  |true=>
   rw [hc2] at t o;have hlt:=qg6 hc2;simp only [if_true] at t o;have hsep2:z7 z (xs++ys):=hsep;have hout:∀k,z.ownBlock=some k→k<w2.heap.size:=fun k I=>(hO2.blk k I).2;simp [qrD,r1,r5];refine kp (f:=F) hcb (fs:=fs) (caps:=caps) (by simp [r1]) ?_;simp;have hb:bnd m (fun x=>fun i f=>(more L m n' i f).andThen (fun bs j g=> .ok ((Z++[x])++bs) j g)) (i'+1) f'=r:=by
    rw [←t];simp only [listed,bnd];cases m (i'+1) f' with
    |oof=>rfl
    |no g=>rfl
    |ok a j g=>
     have e2:(bnd (more L m n') fun xs=>ret (a::xs)) j g=(more L m n' j g).andThen fun bs j g=> .ok (a::bs) j g:=rfl;simp only [Rs.andThen];rw [e2];cases more L m n' j g<;>simp [Rs.andThen]
   refine qfK (ys:=ys) (xs:=xs) (r:=r) (A':=p.ansL 9 1) (nv:=nv) (w:=w) (fun hno=>by simpa using ab base w2 tv nv' (i'+1) f' (xs++ys) o hEw2 (by omega) hno) (hT.trans H) hb ho (fun c w' hp=>by simpa using hp) ?_;intro a j g v nv3 zs w3 hma U aa hfr3 hT3 W hv I;change v=p.ev (xs++ys).length a at hv;change zs.map (·.nd)=p.nodes (xs++ys).length a at aa;subst hv;have J:=hc (xs++ys).length a;have hO3:=o.keep hT3 hO2 (by decide) (by decide);have S:=hEw2.keep o hT3;have hzz:=hz _ _ _ _ _ hma;have hzl:zs.length=p.μ a:=by rw [←p.len (xs++ys).length a,←aa,List.length_map]
   have ac:z7 z (xs++(ys++zs)):=by rw [←List.append_assoc];exact hsep2.app (z7.new hfr3 hout)
   have hyl:ys.length=(p.nodesL xs.length Z).length:=by rw [←E,List.length_map]
   have hil3:=U.il;have htl3:=U.tl;have hlen:(p.evL xs.length Z).length=(qk z)*1:=(L01.jM hO3).len;simp;refine jN qkB (by decide) (by decide) (by simpa using J.1) fun X W4 hX Y hb4 hsz4=> ?_;simp at hb4;have hS4:=U.ext Y;have hO4:=hO3.ext Y;have hsz4':w.heap.size≤W4.heap.size:=Nat.le_trans W.size Y.size;have hcl:(p.ev (xs++ys).length a).cells.toList.length=1:=by rw [Array.length_toList];exact J.1
   simp;refine qFf qao (base:=w.heap.size) (sv:=z) (xv:= .slice (some ⟨X,0,none⟩) 1 1) (xs:=p.evL xs.length Z) (news:=(p.ev (xs++ys).length a).cells.toList) hsz4' (by simp [r5]) (by simp) hO4 (Blk.cells (by simpa using hb4) (by simpa using J.1)) J.2 ?_ ?_ fun out' W5 hO5 hg5 hr5=> ?_
   ·rw [p.evL_len (fun b a=>(hc b a).1),hcl];omega
   ·rw [p.evL_len (fun b a=>(hc b a).1),hcl];omega
   have hS5:=hS4.grown hO4 hg5 ac (by decide) (by decide) (by decide);have hEw5:=(S.ext Y).grown hO4 hg5 (by decide);have hT5:Tn base B nv nv3 w W5:=(W.extR Y h.bW).grown hg5 (fun k I=>(hO.blk k I).1) h.bW;have hsep5:z7 out' (xs++(ys++zs)):=by
    rcases hr5 with e|e
    ·intro x hx k I;rw [e];exact ac x hx k I
    ·refine z7.old (w:=W4) hS4.old ?_;intro k I;rw [e] at I;cases I;exact Nat.le_refl _
   simp;refine ⟨⟨r0,r1,j,g,nv3,ys++zs,hS5,Z++[a], ?_, ?_,hT5,hEw5, ?_,hsep5, ?_, ?_,n',I⟩, ?_⟩
   ·rw [List.map_append,E,aa,Pu.nodesL_snoc,←hyl,List.length_append]
   ·intro y hy;rcases List.mem_append.1 hy with hy|hy
    ·exact V y hy
    ·exact (hfr3 y hy).mono (hT.trans H).size
   ·rw [Pu.evL_snoc,←hyl,←List.length_append];exact hO5
   ·simp only [List.length_append] at hcnt⊢;omega
   ·simp;omega
   ·rw [hS5.atOf,hat];omega
theorem QH:ke Tryz.prog 40=some (3,1,8):=by kernel_rfl
theorem QB:xG Tryz.prog 40=some (3,1):=by kernel_rfl
section
variable {α β:Type} {A:Ans α} {A':Ans β} {L:List Tok} {m:M α} {k:α→M β} {r:Rs β} {base B:Nat} {w w1:World} {tv nv nv1:Value} {i f:Nat} {xs zs:List NV} {K:qa→World→Prop} {Q:Ks} {ρ:qa} {d:Option Nat}
theorem yb (S:∀b a,A.nodes b a=[]) {F:FuncId} {args:Array Value} (U:∃ys,zs=xs++ys) (I:m i f≠ .oof→Calls Tryz.prog F args w1 (PR A base B tv nv1 L zs w1 (m i f))) (V:Tn base B nv nv1 w w1) (J:bnd m k i f=r) (z:r≠ .oof)
  (hpn:∀c w',PR A' base B tv nv L xs w r (.panicked c) w'→Q.pn ρ c w')
  (h:∀a j g v nv2 w2,m i f= .ok a j g→PSt base B w2 tv nv2 L j g zs→Tn base B nv1 nv2 w1 w2→Tn base B nv nv2 w w2→A.val w1 w2 zs.length a v→k a j g=r→K (qm ρ d v) w2):
  Calls Tryz.prog F args w1 (xT Q d K ρ):=by
 obtain ⟨ys,rfl⟩:=U;refine qfK (xs:=xs) (ys:=ys) (r:=r) (A':=A') I V J z hpn ?_;intro a j g v nv2 E w2 t y e _ u o W H;rw [S] at e;obtain rfl:E=[]:=by simpa using e
 simp only [List.append_nil] at y;exact h a j g v nv2 w2 t y u o W H
theorem yE {s:Bs} {x y:M β} (z:∃ys,zs=xs++ys) (o:PSt base B w1 tv nv1 L i f zs) (h:Tn base B nv nv1 w w1) (c:qH L s x y i f=r)
  (t:∀w2,jW L i [s]=true→PSt base B w2 tv nv1 L (i+1) f zs→Tn base B nv1 nv1 w1 w2→Tn base B nv nv1 w w2→x (i+1) f=r→K (qm ρ d (.bool true)) w2)
  (u:∀w2,jW L i [s]=false→PSt base B w2 tv nv1 L i f zs→Tn base B nv1 nv1 w1 w2→Tn base B nv nv1 w w2→y i f=r→K (qm ρ d (.bool false)) w2):
  Calls Tryz.prog 117 #[.pointer (some ⟨B,0,none⟩), .string (qc s)] w1 (xT Q d K ρ):=by
 refine (qgB o s).mono ?_;rintro _ w2 ⟨rfl,a,b⟩;rw [qjr];unfold qH at c;cases e:jW L i [s] with
 |true=>
  rw [e] at c a;simp only [if_true] at c a;exact t w2 e a b (h.trans b) c
 |false=>
  rw [e] at c a;simp only [Bool.false_eq_true,if_false] at c a;exact u w2 e a b (h.trans b) c
theorem y6 {ty:TypeId} (e:PSt base B w1 tv nv1 L i f zs) (o:Tn base B nv nv1 w w1) (c:base≤w.heap.size) (s:Bs) (h:∀v w2,qb w1 w2→PSt base B w2 tv nv1 L i f zs→Tn base B nv nv1 w w2→Own 0 9 1 w2 v ([s].map qe)→K (qm ρ d v) w2):
  qr Tryz.prog Q d (.buildSlice 51 1 #[(0, .const (.string ⟨s.toArray⟩))]) ty K ρ w1:=by
 refine jN kP (by decide) (by simp) (by simp [Value.cells]) fun X W t b a _=> ?_;simp [Value.cells] at a;exact h _ W b (e.ext b) (o.extR b c) (Own.lit (sz:=1) (cs:=[qe s]) (by simpa [qe,qc] using a) (by simp) (Nat.zero_le _) (by decide))
theorem yF {ss:List Bs} {k:Unit→M β} {v:Value} (H:∃ys,zs=xs++ys) (F:PSt base B w1 tv nv1 L i f zs) (a:Own 0 9 1 w1 v (ss.map qe)) (e:ss.length<4611686018427387904) (I:Tn base B nv nv1 w w1) (E:bnd (needs L ss) k i f=r) (y:r≠ .oof)
  (hpn:∀c w',PR A' base B tv nv L xs w r (.panicked c) w'→Q.pn ρ c w')
  (h:∀j g nv2 w2,needs L ss i f= .ok () j g→PSt base B w2 tv nv2 L j g zs→Tn base B nv1 nv2 w1 w2→Tn base B nv nv2 w w2→k () j g=r→K (qm ρ d (.tuple #[])) w2):
  Calls Tryz.prog 153 #[.pointer (some ⟨B,0,none⟩),v] w1 (xT Q d K ρ):=
 yb (A:=aU) (A':=A') (fun _ _=>rfl) H (fun _=>qyB F a e) I E y hpn fun _ j g v nv2 w2 o t u b a z=>by
  change v=_ at a;subst a;exact h j g nv2 w2 o t u b z
end
section
variable {L:List Tok} {base B:Nat} {w w':World} {tv nv nv':Value} {i f:Nat} {xs:List NV}
theorem ym {r:Rs Unit} (c:PSt base B w' tv nv' L i f xs) (a:Tn base B nv nv' w w') (b:ret () i f=r):PR aU base B tv nv L xs w r (.returned (.tuple #[])) w':=by
 rw [←b];exact ⟨_,nv',[],rfl,by simpa using c,rfl,by simp,a,rfl⟩
theorem qER {r:Rs Bs} {s:Bs} (a:PSt base B w' tv nv' L i f xs) (c:Tn base B nv nv' w w') (b:ret s i f=r):PR aS base B tv nv L xs w r (.returned (.string (qc s))) w':=by
 rw [←b];exact ⟨_,nv',[],rfl,by simpa using a,rfl,by simp,c,rfl⟩
theorem vy (xs:List NV):∃ys,xs=xs++ys:=⟨[],by simp⟩
end
def pS:Pu Bs:=⟨fun _ _=>[],fun _ s=> .string (qc s),fun _=>0,fun _ _=>rfl⟩
@[simp] theorem qJO:qf Tryz.prog 72=true:=by kernel_rfl
@[simp] theorem qKt:qf Tryz.prog 156=true:=by kernel_rfl
theorem qyy {L:List Tok} {k:M Unit} (Y:Mt aU L 72 me k) (hu:Up k):Mt aS L 155 me (xc L k):=by
 intro base B w tv nv i f xs U hn a;generalize b:xc L k i f=r at a;have hb:=U.bW;refine qDz fun ρ r0=> ?_;simp [qrA,r0];refine yb (A:=aS) (A':=aS) (nv:=nv) (w:=w) (fun _ _=>rfl) (vy xs) (fun _=>qlX U) (Tn.refl _ _ _ _) b a (fun c w' o=>by simpa using o) ?_;intro s j g v nv2 w2 I F hT2 u hv b;simp [r0];refine y6 F u hb [58] fun v2 w3 hE3 S e E=> ?_;simp;refine yF (A':=aS) (vy xs) S E (by simp) e b a (fun c w' o=>by simpa using o) ?_;intro j2 g2 z Z y H aa t b;simp [r0];have hj:=((xF _).ok y).1;have hj0:=(qag.ok I).1;refine yb (A:=aU) (A':=aS) (nv:=nv) (w:=w) (fun _ _=>rfl) (vy xs) (fun a=>Y base B Z tv z j2 g2 xs H (by omega) a) t b a (fun c w' o=>by simpa using o) ?_;intro _ j5 g5 v5 nv5 w5 _ J V h W b;simp;exact qER (s:=[]) J h b
theorem qsU {L:List Tok} {k:M Unit} (c:Mt aU L 72 me k) (h:Up k) (B:Nat):FnM pS.ans none B L (.func (.func 155) #[.pointer (some ⟨B,0,none⟩)] #[]) (xc L k):=
 ⟨155,_,_,rfl,by kernel_rfl,fun base w tv nv i f xs b _ e a=>qyy c h base B w tv nv i f xs b e a⟩
theorem qkg {L:List Tok} {k:M Unit} (a:Up k):Sz pS.μ 0 (xc L k):=qvu (qa6 a)
theorem ql3 (b:Nat) (s:Bs):(pS.ev b s).cells.size=1∧∀u∈(pS.ev b s).cells.toList,u.oneCell'=true:=⟨rfl,by simp [pS,Value.cells,Value.oneCell']⟩
theorem qgR:∀(b:Nat) (l:List Bs),(pS.ansL 9 1).nodes b l=[]
 |_,[]=>rfl
 |b,_::l=>qgR b l
theorem qlZ {L:List Tok}:∀n,Mt aU L 72 me (kind L n)
 |0=>fun _ _ _ _ _ _ _ _ _ _ h=>absurd rfl h
 |n+1=>by
  have ih:=qlZ (L:=L) n;intro base B w tv nv i f xs hS hn o;generalize e:kind L (n+1) i f=r at o;have hb:=hS.bW;refine qAM fun ρ r0=> ?_;simp [qnX,r0];refine yE (s:=[105,110,116]) (w:=w) (nv:=nv) (xs:=xs) (vy xs) hS (Tn.refl _ _ _ _) e (fun w1 W F ac y e=> ?_) (fun w1 W F ac y e=> ?_)
  ·simp;exact ym F y e
  simp [r0];refine yE (s:=[98,111,111,108]) (w:=w) (nv:=nv) (xs:=xs) (vy xs) F y e (fun w1 W F ac y e=> ?_) (fun w1 W F ac y e=> ?_)
  ·simp;exact ym F y e
  simp [r0];refine yE (s:=[110,117,108,108]) (w:=w) (nv:=nv) (xs:=xs) (vy xs) F y e (fun w1 W F ac y e=> ?_) (fun w1 W F ac y e=> ?_)
  ·simp;exact ym F y e
  simp [r0];refine yE (s:=[97,114,114,97,121]) (w:=w) (nv:=nv) (xs:=xs) (vy xs) F y e (fun w2 W al hT2 ag e=> ?_) (fun w2 W al hT2 ag e=> ?_)
  ·simp [r0];refine y6 al ag hb [91] fun v3 w3 hE3 z t hv3=> ?_;simp;refine yF (A':=aU) (vy xs) z hv3 (by simp) t e o (fun c w' E=>by simpa using E) ?_;intro j g nv4 w4 af Y hT4 H e;have hj:=((xF _).ok af).1;simp [r0];refine yb (A:=aU) (A':=aU) (nv:=nv) (w:=w) (fun _ _=>rfl) (vy xs) (fun o=>ih base B w4 tv nv4 j g xs Y (by omega) o) H e o (fun c w' E=>by simpa using E) ?_;intro _ j5 g5 v5 ak w5 hk5 S aa u hv5 e;simp [r0];refine y6 S u hb [93] fun v6 w6 hE6 V I ah=> ?_;simp;refine yF (A':=aU) (k:=ret) (vy xs) V ah (by simp) I (by rw [yf];exact e) o (fun c w' E=>by simpa using E) ?_;intro j7 g7 nv7 w7 hne7 Z hT7 J e;simp;exact ym Z J e
  simp [r0];refine yE (s:=[114,101,99,111,114,100]) (w:=w) (nv:=nv) (xs:=xs) (vy xs) al ag e (fun w3 W z ad t e=> ?_) (fun w3 W z ad t e=> ?_)
  ·simp [r0];refine y6 z t hb [91] fun v4 w4 hE4 Y H ai=> ?_;simp;refine yF (A':=aU) (vy xs) Y ai (by simp) H e o (fun c w' E=>by simpa using E) ?_;intro j g ak w5 af S aa u e;have hj:=((xF _).ok af).1;simp [r0];refine yb (A:=pS.ansL 9 1) (A':=aU) (m:=listed L n (xc L (kind L n))) (nv:=nv) (w:=w) (fun _ a=>qgR _ a) (vy xs) (fun o=>qlY (qsU ih (yy n) B) (qa6 (yy n)) (qkg (yy n)) ql3 n S (fun b h=>by cases h) (by omega) o) u e o (fun c w' E=>by simpa using E) ?_;intro _ j6 g6 v6 nv6 w6 hk6 V hT6 I ah e;simp [r0];refine y6 V I hb [93] fun v7 w7 hE7 Z J ae=> ?_;simp;refine yF (A':=aU) (k:=ret) (vy xs) Z ae (by simp) J (by rw [yf];exact e) o (fun c w' E=>by simpa using E) ?_;intro j8 g8 nv8 w8 aj ab hT8 U e;simp;exact ym ab U e
  simp [r0];refine yE (s:=[111,110,101,111,102]) (w:=w) (nv:=nv) (xs:=xs) (vy xs) z t e (fun w3 W z ad t e=> ?_) (fun w3 W z ad t e=> ?_)
  ·simp [r0];refine y6 z t hb [91] fun v4 w4 hE4 Y H ai=> ?_;simp;refine yF (A':=aU) (vy xs) Y ai (by simp) H e o (fun c w' E=>by simpa using E) ?_;intro j g ak w5 af S aa u e;have hj:=((xF _).ok af).1;simp [r0];refine yb (A:=pS.ansL 9 1) (A':=aU) (m:=listed L n (xc L (kind L n))) (nv:=nv) (w:=w) (fun _ a=>qgR _ a) (vy xs) (fun o=>qlY (qsU ih (yy n) B) (qa6 (yy n)) (qkg (yy n)) ql3 n S (fun b h=>by cases h) (by omega) o) u e o (fun c w' E=>by simpa using E) ?_;intro _ j6 g6 v6 nv6 w6 hk6 V hT6 I ah e;simp [r0];refine y6 V I hb [93] fun v7 w7 hE7 Z J ae=> ?_;simp;refine yF (A':=aU) (k:=ret) (vy xs) Z ae (by simp) J (by rw [yf];exact e) o (fun c w' E=>by simpa using E) ?_;intro j8 g8 nv8 w8 aj ab hT8 U e;simp;exact ym ab U e
  simp [r0];refine yE (s:=[63]) (w:=w) (nv:=nv) (xs:=xs) (vy xs) z t e (fun w3 W z ad t e=> ?_) (fun w3 W z ad t e=> ?_)
  ·simp [r0];refine yb (A:=aU) (A':=aU) (nv:=nv) (w:=w) (k:=ret) (fun _ _=>rfl) (vy xs) (fun _=>qyz z) t (by rw [yf];exact e) o (fun c w' E=>by simpa using E) ?_;intro _ j5 g5 v5 ak w5 _ S aa u hv5 e;simp;exact ym S u e
  simp [r0];refine yb (A:=aS) (A':=aU) (nv:=nv) (w:=w) (fun _ _=>rfl) (vy xs) (fun _=>qlX z) t e o (fun c w' E=>by simpa using E) ?_;intro s j4 g4 v4 nv4 w4 hna Y hT4 H ai e;have hj:=(qag.ok hna).1;simp [r0];refine yE (s:=[91]) (w:=w) (nv:=nv) (xs:=xs) (vy xs) Y H e (fun w5 W S aa u e=> ?_) (fun w5 W S aa u e=> ?_)
  ·simp [r0];refine yb (A:=aU) (A':=aU) (nv:=nv) (w:=w) (fun _ _=>rfl) (vy xs) (fun o=>ih base B w5 tv nv4 (j4+1) g4 xs S (by omega) o) u e o (fun c w' E=>by simpa using E) ?_;intro _ j6 g6 v6 nv6 w6 hk6 V hT6 I ah e;simp [r0];refine y6 V I hb [93] fun v7 w7 hE7 Z J ae=> ?_;simp;refine yF (A':=aU) (k:=ret) (vy xs) Z ae (by simp) J (by rw [yf];exact e) o (fun c w' E=>by simpa using E) ?_;intro j8 g8 nv8 w8 aj ab hT8 U e;simp;exact ym ab U e
  ·simp;exact ym S u e
@[simp] theorem qJN:qf Tryz.prog 73=true:=by kernel_rfl
@[simp] theorem qJI:qf Tryz.prog 89=true:=by kernel_rfl
@[simp] theorem qJH:qf Tryz.prog 90=true:=by kernel_rfl
theorem qux:vG Tryz.prog 114=some #[.pointer none, .slice none 0 0]:=by kernel_rfl
theorem Bd.ext {B b:Nat} {t:Bs} {w w':World} (h:Bd B b t w) (a:qb w w'):Bd B b t w':=by
 rcases h with h|h
 all_goals
  have o:=h.lt;obtain ⟨y,v,u,c,e⟩:=h;have z:w'.ownsRow B 5 1 v (t.map jk).length (t.map jk):=by
   have:=c.kept (w':=w') (row:=none) ⟨a.os,a.tape,a.output,a.size,fun k E _=>a.block k E⟩ (by cases v.ownBlock<;>simp);simpa using this
 ·exact .inl ⟨y,v,(a.block b o).trans u,z,e⟩
 ·exact .inr ⟨y,v,(a.block b o).trans u,z,e⟩
def wt (L:List Tok):Prop:=∀t∈L,t.text.length≤20
theorem qmS {L:List Tok} (h:wt L):(jR L).length≤20*L.length:=by
 induction L with
 |nil=>simp [jR]
 |cons t L a=>
  have c:=h t (by simp);have o:=a fun x b=>h x (by simp [b]);have e:jR (t::L)=t.text++jR L:=by simp [jR]
  rw [e,List.length_append,List.length_cons];omega
theorem qz9 (L:List Tok) (t:Tok):jR (L++[t])=jR L++t.text:=by simp [jR]
theorem qyE {w:World} {v:Value} {a:List Tok} (H:SlK w v a) (I:wt a) (hn:a.length≤20000):Calls Tryz.prog 73 #[v] w fun e w'=>e= .returned (.string (qc (jR a)))∧qb w w':=by
 refine qAK fun ρ r0=> ?_;simp [qnW,r0,H.is,H.len];refine qR qux fun b W hb hE U _=> ?_;have y:Bd b b [] W:= .inl ⟨Nat.le_refl _, .slice none 0 0,U.heap,World.ownsRow_nil _ _ _ _,by simp [Value.ownBlock]⟩;have hbW:=U.lt;simp [r0,H.is,H.len];refine jj 8 a.length (fun k u w'=>u 3= .pointer (some ⟨b,0,none⟩)∧u 6=v∧u 7= .int .i64 (a.length:Int)∧Bd b b (jR (a.take k)) w'∧Below b W w') (by simp) ⟨by simp,by simp,by simp,by simpa [jR] using y,Below.refl _ _⟩ ?_;rintro k u w' hk r8 ⟨r3,r6,r7,Y,c⟩;have J:∀{w'},Below b W w'→qb w w':=fun h=>Below.trans hE (h.mono hb);have Z:=J c;have E:=H.ext Z;by_cases z:k<a.length
 ·obtain ⟨c0,c1,c2⟩:=E.cell k z;have ae:(jR (a.take k)).length≤20*k:=by
   have:=qmS (L:=a.take k) (fun t ht=>I t (List.mem_of_mem_take ht));rw [List.length_take] at this;omega
  have hsl:=I a[k] (List.getElem_mem z);simp [qhg,qnU,r8,r7,r6,r3,z,E.is,E.len,c0,c1,c2];refine qR z53 fun X W2 hX V ad _=> ?_;simp;refine jl (B:=X) (by simp) ad (by simp [Value.cells]) (by simp [Value.cells]) (by simpa [Value.cells] using Qy) fun W3 ab S=> ?_;simp [Value.cells] at S;have F:qb w' W3:=ab.ext V hX;simp [(qbs S).2.1,r3];refine (L01.qGp a[k].text (Bd.ext Y F) (by omega) (by have:=c.size;have:=F.size;omega)).mono ?_;rintro _ W4 ⟨rfl,aa,o⟩;simp [qnV,r8,r3,r6,r7,qp (n:=(k:Int)+1) (by omega)];refine ⟨?_,c.trans ((F.mono (by have:=c.size;omega)).trans o)⟩;have:a.take (k+1)=a.take k++[a[k]]:=by rw [List.take_succ_eq_append_getElem z]
  rw [this,qz9];exact aa
 ·have ac:k=a.length:=by omega
  subst ac;simp [qhg,qnT,r8,r7,r3];rw [List.take_length] at Y;refine (L01.b_string Y (by have:=c.size;omega)).mono ?_;rintro _ W4 ⟨rfl,o⟩;simp;exact J (c.trans o)
theorem qv4 {L:List Tok} (h:wt L) (i j:Nat):wt (vW L i j):=fun t a=>h t (List.mem_of_mem_take (List.mem_of_mem_drop a))
theorem qky {W:World} {X:Nat} {l:List Bs} (a:Blk W X (l.map qe).toArray 9) (c:l.length≤1000):qS W (.slice (some ⟨X,0,none⟩) l.length l.length) l:=by
 refine ⟨by simp [qo],by simp [qk],by omega,fun j b=> ?_⟩;simp only [qD,Nat.zero_add];rw [a.cell];simp [b]
@[simp] theorem qJM:qf Tryz.prog 75=true:=by kernel_rfl
theorem qyF (s:Bs) (w:World):Calls Tryz.prog 75 #[.string (qc s)] w fun e w'=>e= .returned (.bool (vP.contains s))∧qb w w':=by
 refine qAG fun ρ r0=> ?_;simp [qnG,r0];refine jN kP (by decide) (by decide) (by simp [Value.cells]) fun X W c b a _=> ?_;simp [Value.cells] at a;simp [r0];refine (L01.qfW (l:=vP) s (qky (l:=vP) (by simpa [vP,qe,qc] using a) (by decide))).mono ?_;rintro _ _ ⟨rfl,rfl⟩;simp;exact b
theorem qzI (x y:Bs):qc x++qc y=qc (x++y):=by
 apply ByteArray.ext;show ((qc x).append (qc y)).data=_;rw [ByteArray.append_eq,ByteArray.data_append];simp [qc]
section
variable {base B:Nat} {w w':World} {tv nv nv':Value} {L:List Tok} {i f:Nat} {xs:List NV}
end
theorem Own.down {b a e sz:Nat} {w:World} {v:Value} {ys:List Value} (h:Own b e sz w v ys) (o:a≤b):Own a e sz w v ys:=by
 rcases h with h|⟨g,off,n,cap,cur,rfl,t,c⟩
 ·exact .inl h
 ·exact .inr ⟨g,off,n,cap,cur,rfl,by omega,c⟩
structure NVr (B X:Nat) (nv:Value) (W:World) (x:NV):Prop where
 blk:Blk W X (qi x).toArray 44
 neB:X≠B
 neR:nv.ownBlock≠some X
structure Cu (base B:Nat) (w:World) (tv nv:Value) (L:List Tok) (xs:List NV) (w1:World) (nv1:Value) (i f:Nat) (ys:List NV):Prop where
 st:PSt base B w1 tv nv1 L i f (xs++ys)
 tn:Tn base B nv nv1 w w1
 fr:∀y∈ys,wv w y.kv
 b0:base≤w.heap.size
section
variable {base B X:Nat} {w w1 w2:World} {tv nv nv1 nv2:Value} {L:List Tok} {i f j g:Nat} {xs ys zs:List NV} {x:NV}
theorem NVr.turn (h:NVr B X nv1 w1 x) (a:Tn base B nv1 nv2 w1 w2):NVr B X nv2 w2 x:=⟨a.blk h.blk h.neB h.neR,h.neB,a.ne h.blk.lt h.neR⟩
theorem NVr.ext (h:NVr B X nv1 w1 x) (a:qb w1 w2):NVr B X nv1 w2 x:=⟨h.blk.ext a,h.neB,h.neR⟩
theorem Cu.ext (h:Cu base B w tv nv L xs w1 nv1 i f ys) (a:qb w1 w2):Cu base B w tv nv L xs w2 nv1 i f ys:=⟨h.st.ext a,h.tn.extR a h.b0,h.fr,h.b0⟩
theorem Cu.more (h:Cu base B w tv nv L xs w1 nv1 i f ys) (b:PSt base B w2 tv nv2 L j g (xs++(ys++zs))) (c:Tn base B nv1 nv2 w1 w2) (e:∀z∈zs,wv w1 z.kv):Cu base B w tv nv L xs w2 nv2 j g (ys++zs):=
 ⟨b,h.tn.trans c,fun y a=>by
  rcases List.mem_append.1 a with a|a
  ·exact h.fr y a
  ·exact (e y a).mono h.tn.size,h.b0⟩
theorem Cu.size (h:Cu base B w tv nv L xs w1 nv1 i f ys):w.heap.size≤w1.heap.size:=h.tn.size
theorem Cu.keep (h:Cu base B w tv nv L xs w1 nv1 i f ys) (u:Tn base B nv1 nv2 w1 w2) {b e sz:Nat} {v:Value} {a:List Value} (c:Own b e sz w1 v a) (t:e≠44) (o:e≠85):Own b e sz w2 v a:=h.st.keep u c t o
theorem Cu.put (h:Cu base B w tv nv L xs w1 nv1 i f ys) (u:NVr B X nv1 w1 x) (J:w.heap.size≤X) (c:Only X w1 w2):Cu base B w tv nv L xs w2 nv1 i f ys:=by
 have keep:∀{b e sz:Nat} {v:Value} {z:List Value},e≠44→Own b e sz w1 v z→Own b e sz w2 v z:=fun F y=>Own.same y fun k o=>by
  obtain ⟨cur,H⟩:=Own.row y o;refine c.block k fun e=> ?_;subst e;have:=u.blk.heap;rw [H] at this;cases this;exact F rfl
 have a:=h.st;refine ⟨⟨c.blk a.blk u.neB.symm,keep (by decide) a.tok,Own.same a.own fun k o=>c.block k fun e=>u.neR (e▸o),fun x I=>keep (by decide) (a.kid x I),a.bB,by rw [c.size];exact a.bW,a.tl,a.il,a.fl⟩, ?_,h.fr,h.b0⟩;have t:=h.tn;have U:=t.size;refine ⟨t.below.trans (wj c (Nat.le_trans h.b0 J)),fun k o E S=> ?_,t.row,t.gr⟩;rw [c.block k (by omega)];exact t.block k o E S
end
section
variable {α β:Type} {A:Ans α} {A':Ans β} {L:List Tok} {m:M α} {k:α→M β} {r:Rs β} {base B X:Nat} {w w1:World} {tv nv nv1:Value} {i f:Nat} {xs ys:List NV} {K:qa→World→Prop} {Q:Ks} {ρ:qa} {d:Option Nat}
end
section
variable {L:List Tok} {base B:Nat} {w w':World} {tv nv nv':Value} {i f:Nat} {xs ys:List NV}
end
theorem NVr.row {B X:Nat} {nv:Value} {W:World} {x:NV} (h:NVr B X nv W x):Eng.jq W ⟨X,0,none⟩ 0 6=some (qi x):=by
 have:=kT h.blk;simpa [qi] using this
theorem qvy:jA Tryz.prog 40 1=true:=by kernel_rfl
theorem sz9:jA Tryz.prog 9 1=true:=by kernel_rfl
def kdV (k:Nat) (nm vr ty:Bs) (n:Int) (kv:Value) (kids:List Int):NV:=⟨⟨⟨k,nm,vr,ty,n⟩,kids⟩,kv⟩
section
variable {P:Program} {Q:Ks} {d:Option Nat} {ty:TypeId} {K:qa→World→Prop} {ρ:qa} {w:World}
theorem qFb {x:Operand} {t c:TypeId} (a:P.underlying t=some (.interface (P.methodsAt t))) (h:qd ρ x= .nilIface) (b:K (qm ρ d (.bool false)) w):qr P Q d (.binOp .neq t x (.const .nilIface) c) ty K ρ w:=by
 refine jf (v:= .bool false) (w':=w) ?_ b;have:=run_equal_nil_nil (P:=P) (w:=w) t a;simp [execOp,qA,h,eqGuard_nil_constR,binOp,this]
theorem qFa {x:Operand} {t c u:TypeId} {v:Value} (a:P.underlying t=some (.interface (P.methodsAt t))) (h:qd ρ x= .iface u v) (b:K (qm ρ d (.bool true)) w):qr P Q d (.binOp .neq t x (.const .nilIface) c) ty K ρ w:=by
 refine jf (v:= .bool true) (w':=w) ?_ b;have:=run_equal_held_nil (P:=P) (w:=w) t u v a;simp [execOp,qA,h,eqGuard,binOp,this]
end
noncomputable def qdQ (v:Value):IR:=zq [za 7 (.const v),zm 4 7,zm 8 4,zE 9 (.binOp .neq 20 (zt 8) (.const .nilIface) 20) 4] <| .cond (zv 9) (zq [zm 11 4,zE 12 (.typeAssert (zt 11) 20 153 true) 154,zm 10 12,za 13 (ze 0 (zv 10)),za 14 (ze 1 (zv 10)),zA 5 153,zw 153 (zt 5) (zt 13),zm 6 14,za 16 (zn (zv 6))] <| .seq (.cond (zv 16) (.reg [zm 17 4, .eff none none (.panic (zt 17)) 0]) .skip) (qsk)) .skip
theorem qz8 (v:Value):(qT Tryz.prog Tryz.f116.ntmps qev [5] (Qz v (Tryz.f116.body.getD .skip))).map IR.norm=some (qdQ v):=by kernel_rfl
theorem qmR {v0 b a v3:Value} {u:FrameMode} {w:World} {R:Ending→FrameMode→World→Prop} (h:∀ρ:qa,ρ 0=v0→ρ 1=b→ρ 2=a→ρ 3=v3→(qdQ (vQ u)).wp ⟨Tryz.prog,31,qev,[]⟩ (yN [] (zD u) R) (qap [] (zD u) R) ρ w):
  CallsDIn Fence.wide 0 Tryz.prog 116 #[v0,b,a,v3] u w R:=by
 obtain ⟨e,o,t⟩:=Option.map_eq_some_iff.1 (qz8 (vQ u));exact qtN (args:= #[v0,b,a,v3]) Tryz.func116 (c:=Tryz.f116.body.getD .skip) rfl (by kernel_rfl) o t (by kernel_rfl) (show vc Tryz.prog qev Tryz.f116.results.toList=some [] by kernel_rfl) (Nat.le_of_ble_eq_true rfl) (h _ rfl rfl rfl rfl)
theorem quY:∃ds,Tryz.prog.underlying 153=some ds∧∀m,ds≠ .interface m:=by
 have h:vp (Tryz.prog.underlying 153)=true:=by kernel_rfl
 unfold vp at h;split at h
 ·rename_i fs a;exact ⟨_,a,fun m b=>by cases b⟩
 ·cases h
theorem quv:vG Tryz.prog 153=some #[]:=by kernel_rfl
theorem qvC:jA Tryz.prog 153 0=true:=by kernel_rfl
theorem z4:vG Tryz.prog 4=some #[.bool false]:=by kernel_rfl
theorem z3:vG Tryz.prog 3=some #[.int .i64 0]:=by kernel_rfl
theorem sz4:jA Tryz.prog 4 1=true:=by kernel_rfl
@[simp] theorem qJP:qf Tryz.prog 54=true:=by kernel_rfl
@[simp] theorem qeW:qf Tryz.prog 116=true:=by kernel_rfl
theorem qtD {v0 b a v3:Value} {w:World}:CallsDIn Fence.wide 0 Tryz.prog 116 #[v0,b,a,v3] .returning w fun e c w'=>(∃v,e= .returned v)∧c= .returning∧w'=w:=by
 refine qmR fun ρ t u o h=> ?_;simp [qdQ,vQ,zD];refine qFb vt (by simp) ?_;simp
theorem qtC {w:World} {A P N O B:Nat} {tv nv:Value} {a i f n:Nat} (hA:Blk w A #[.int .i64 (a:Int)] 3) (hP:Blk w P #[.pointer (some ⟨B,0,none⟩)] 83) (hN:Blk w N #[.int .i64 (n:Int)] 3) (hO:Blk w O #[.bool true] 4∨Blk w O #[.bool false] 4)
  (H:Blk w B #[tv, .int .i64 (i:Int), .int .i64 (f:Int),nv] 85) (t:qo nv=true) (hn:n≤qk nv):
  CallsDIn Fence.wide 0 Tryz.prog 116 #[.pointer (some ⟨A,0,none⟩), .pointer (some ⟨P,0,none⟩), .pointer (some ⟨N,0,none⟩), .pointer (some ⟨O,0,none⟩)] (.panicking yD) w fun e u' w'=>(∃v,e= .returned v)∧settle u'= .returning∧
   ∃W W2,qb w W∧Only B W W2∧Blk W2 B #[tv, .int .i64 (a:Int), .int .i64 (f:Int),qY nv 6 0 n (qv nv)] 85∧Only O W2 w'∧Blk w' O #[.bool false] 4:=by
 obtain ⟨ds,hu,hd⟩:=quY;refine qmR fun ρ r0 r1 r2 r3=> ?_;simp [qdQ,vQ,zD,yD];refine qFa (u:=153) (v:= .agg #[]) vt (by simp) ?_;simp;refine qtp (a:=153) (v:= .agg #[]) hu hd (by simp) ?_;simp;refine qR quv fun X W hX hE hb _=> ?_;simp;refine jl (B:=X) (by simp) hb (by simp [Value.cells]) (by simp [Value.cells]) (by simpa [Value.cells] using qvC) fun W1 ac hb1=> ?_;have aa:qb w W1:=ac.ext hE hX;have nX:∀{k:Nat} {cs:Array Value} {T:TypeId},Blk w k cs T→k≠X:=fun h=>by have:=h.lt;omega
 simp [qsk];refine vH qEe (fun W=>(Blk W A #[.int .i64 (a:Int)] 3∧Blk W P #[.pointer (some ⟨B,0,none⟩)] 83)∧Blk W N #[.int .i64 (n:Int)] 3∧W.cell? ⟨B,3,none⟩=some nv) fun W2 V _=> ?_;have b:=aa.trans' V;have I:=H.ext b;have c3:W2.cell? ⟨B,3,none⟩=some nv:=by rw [I.cell];rfl
 have J:(Blk W2 A #[.int .i64 (a:Int)] 3∧Blk W2 P #[.pointer (some ⟨B,0,none⟩)] 83)∧Blk W2 N #[.int .i64 (n:Int)] 3∧W2.cell? ⟨B,3,none⟩=some nv:=⟨⟨hA.ext b,hP.ext b⟩,hN.ext b,c3⟩;refine ⟨J, ?_⟩;have cA:∀W,((Blk W A #[.int .i64 (a:Int)] 3∧Blk W P #[.pointer (some ⟨B,0,none⟩)] 83)∧Blk W N #[.int .i64 (n:Int)] 3∧W.cell? ⟨B,3,none⟩=some nv)→W.cell? ⟨A,0,none⟩=some (.int .i64 (a:Int))∧W.cell? ⟨P,0,none⟩=some (.pointer (some ⟨B,0,none⟩))∧W.cell? ⟨N,0,none⟩=some (.int .i64 (n:Int))∧W.cell? ⟨B,3,none⟩=some nv:=fun W h=>⟨by rw [h.1.1.cell];rfl,by rw [h.1.2.cell];rfl,by rw [h.2.1.cell];rfl,h.2.2⟩;simp+contextual -implicitDefEqProofs [qsj,cA,J,r0,r1,r2,r3];have hcap:=qAe t;have F:n≤qv nv:=by omega
 simp [t,F];have Y:B≠A:=fun e=>by subst e;have:=hA.heap;rw [H.heap] at this;cases this
 have ad:B≠P:=fun e=>by subst e;have:=hP.heap;rw [H.heap] at this;cases this
 have ab:B≠N:=fun e=>by subst e;have:=hN.heap;rw [H.heap] at this;cases this
 have o:O≠B:=fun e=>by subst e;rcases hO with h|h<;>(have:=h.heap;rw [H.heap] at this;cases this)
 refine qK (B:=B) (i:=1) (by simp) I (by simp) (by simp [Value.cells]) (by simp) zz fun W3 c E=> ?_;simp at E;refine ⟨⟨⟨c.blk J.1.1 Y.symm,c.blk J.1.2 ad.symm⟩,c.blk J.2.1 ab.symm,by rw [E.cell];rfl⟩, ?_⟩;simp;have Z:(qY nv 6 0 n (qv nv)).cells= #[qY nv 6 0 n (qv nv)]:=vl (QY t 6 0 n (qv nv) (Nat.zero_le _) F (Nat.le_refl _));have ae:(qY nv 6 0 n (qv nv)).oneCell=true:=vU (QY t 6 0 n (qv nv) (Nat.zero_le _) F (Nat.le_refl _));refine qK (B:=B) (i:=3) (by simp) E (by simp) (by simpa using Z) (by simpa using ae) qvz fun W4 y U=> ?_;simp at U;simp;have z:Blk W4 O #[.bool true] 4∨Blk W4 O #[.bool false] 4:=by
  rcases hO with h|h
  ·exact .inl (y.blk (c.blk (h.ext b) o) o)
  ·exact .inr (y.blk (c.blk (h.ext b) o) o)
 rcases z with h|h
 all_goals
  refine qK (B:=O) (i:=0) (by simp [r3]) h (by simp) (by simp [Value.cells]) (by simp) sz4 fun W5 z S=> ?_;simp at S;exact ⟨rfl,W2,b,W4,c.trans y,U,z,S⟩
theorem Own.take {b e sz n:Nat} {w:World} {v:Value} {ys zs:List Value} (h:Own b e sz w v (ys++zs)) (c:ys.length=n*sz) (F:0<sz):Own b e sz w (qY v sz 0 n (qv v)) ys:=by
 rcases h with ⟨rfl,J⟩|⟨g,off,m,cap,cur,rfl,o,S,t,U,y,H,u⟩
 ·have o:ys=[]:=(List.append_eq_nil_iff.1 J).1;subst o;have I:n=0:=by
   have:=Nat.mul_eq_zero.1 c.symm;omega
  subst I;exact .inl ⟨by simp [qY,qv],rfl⟩
 ·have a:n*sz≤m*sz:=by rw [←c,←t,List.length_append];omega
  have E:n≤m:=Nat.le_of_mul_le_mul_right a F;refine .inr ⟨g,off,n,cap,cur, ?_,o,S,c,by omega,y,H, ?_⟩
  ·simp [qY,qv,Addr.add]
  ·have z:((cur.toList.drop off).take (m*sz)).take (n*sz)=ys:=by rw [u,List.take_left' c]
   rw [←z,List.take_take,Nat.min_eq_left a]
structure TnO (base B O:Nat) (nv nv':Value) (w w':World):Prop where
 below:Below base w w'
 block:∀k,k<w.heap.size→k≠B→nv.ownBlock≠some k→k≠O→w'.heap[k]? =w.heap[k]?
 row:∀k,nv'.ownBlock=some k→nv.ownBlock=some k∨w.heap.size≤k
structure TnW (base B:Nat) (nv nv':Value) (w w':World):Prop where
 below:Below base w w'
 block:∀k,k<w.heap.size→k≠B→nv.ownBlock≠some k→w'.heap[k]? =w.heap[k]?
 row:∀k,nv'.ownBlock=some k→nv.ownBlock=some k∨w.heap.size≤k
section
variable {base B O X:Nat} {w w1 w2:World} {tv nv nv1 nv2:Value} {L:List Tok} {i f j g:Nat} {xs ys zs:List NV} {x:NV}
theorem Tn.toW (h:Tn base B nv nv1 w w1):TnW base B nv nv1 w w1:=⟨h.below,h.block,h.row⟩
theorem TnW.trans (h:TnW base B nv nv1 w w1) (k:TnW base B nv1 nv2 w1 w2):TnW base B nv nv2 w w2:=by
 have t:=h.below.size;refine ⟨h.below.trans k.below,fun j b c o=> ?_,fun j b=> ?_⟩
 ·refine (k.block j (by omega) c fun e=> ?_).trans (h.block j b c o);rcases h.row j e with a|a
  ·exact o a
  ·omega
 ·rcases k.row j b with a|a
  ·exact h.row j a
  ·exact .inr (by omega)
theorem TnO.only (h:TnO base B O nv nv1 w w1) (a:Only X w1 w2) (y:X=O∨w.heap.size≤X) (c:base≤X):TnO base B O nv nv1 w w2:=by
 refine ⟨h.below.trans (wj a c),fun k t u b o=> ?_,h.row⟩;rw [a.block k (by rintro rfl;rcases y with e|e<;>omega)];exact h.block k t u b o
theorem TnO.tn (h:TnO base B O nv nv1 w w1) (b:Tn base B nv1 nv2 w1 w2):TnO base B O nv nv2 w w2:=by
 have y:=h.below.size;refine ⟨h.below.trans b.below,fun j c o t u=> ?_,fun j c=> ?_⟩
 ·refine (b.block j (by omega) o fun e=> ?_).trans (h.block j c o t u);rcases h.row j e with a|a
  ·exact t a
  ·omega
 ·rcases b.row j c with a|a
  ·exact h.row j a
  ·exact .inr (by omega)
end
theorem qj0 {R:Ending→World→Prop} {l:List Nat} (e:∀d∈l,d≠gS∧d≠4):∀d∈l,∀ρ v c w,(vC Tryz.prog [.cell1 4] R).pn (qu ρ d v) c w→(vC Tryz.prog [.cell1 4] R).pn ρ c w:=by
 intro d b ρ v c w h;obtain ⟨a,o⟩:=e d b;refine qte a (fun w=> ?_) h;simp [vE,RV.val,Ne.symm o]
@[simp] theorem qFR:qf Tryz.prog 273=true:=by kernel_rfl
theorem qyU {w:World} {s:Bs} {n:Int} (c:s.length≤20) (h:Lib.atoiAll s= .ok n):Calls Tryz.prog 273 #[.string (qc s)] w fun e w'=>qb w w'∧e= .returned (.tuple #[.int .i64 n, .nilIface]):=by
 refine (Tryz.atoi_ok (qc s) (by show s.length≤_;omega) n h w).mono ?_;rintro _ w' ⟨rfl,b⟩;refine ⟨?_,rfl⟩;rcases b with rfl|⟨t,rfl⟩
 ·exact qz _
 ·exact ⟨rfl,rfl,rfl,by rw [Lib.bytesWorld_size];omega,fun k a=>Lib.bytesWorld_at_old _ _ _ _ a⟩
section
variable {L:List Tok} {base B X:Nat} {w w1:World} {tv nv nv1:Value} {i f:Nat} {xs ys:List NV} {K:qa→World→Prop} {Q:Ks} {ρ:qa} {d:Option Nat}
end
theorem TnO.var {base B O X:Nat} {w1 w2:World} {tv nv1 nv2:Value} {L:List Tok} {i f:Nat} {xs:List NV} (e:TnO base B O nv1 nv2 w1 w2) (h:PSt base B w1 tv nv1 L i f xs) {cs:Array Value} {T:TypeId} (a:Blk w1 X cs T) (c:T≠44) (o:T≠85) (b:X≠O):Blk w2 X cs T:=
 ⟨(e.block X a.lt (h.blkNe a.heap o) (h.rowNe a.heap c) b).trans a.heap⟩
def rv (b:Nat) (t:T):Int:=(b:Int)+t.size - 1
section
variable {L:List Tok} {base B X:Nat} {w w1:World} {tv nv nv1:Value} {i f:Nat} {xs ys:List NV} {K:qa→World→Prop} {Q:Ks} {ρ:qa} {d:Option Nat}
end
section
variable {L:List Tok} {base B X:Nat} {w w1:World} {tv nv nv1:Value} {i f:Nat} {xs ys:List NV} {K:qa→World→Prop} {Q:Ks} {ρ:qa} {d:Option Nat}
end
structure NK (w:World) (B X:Nat) (nv:Value) (W:World) (x:NV) (all:List NV):Prop where
 var:NVr B X nv W x
 own:Own w.heap.size 3 1 W x.kv (x.nd.kids.map encI)
 sep:z7 x.kv all
section
variable {L:List Tok} {base B X:Nat} {w w1 w2:World} {tv nv nv1 nv2:Value} {i f:Nat} {xs ys zs:List NV} {x:NV} {K:qa→World→Prop} {Q:Ks} {ρ:qa} {d:Option Nat}
theorem NK.ext {all:List NV} (h:NK w B X nv1 w1 x all) (a:qb w1 w2):NK w B X nv1 w2 x all:=⟨h.var.ext a,h.own.ext a,h.sep⟩
end
section
variable {α β:Type} {A:Ans α} {A':Ans β} {L:List Tok} {m:M α} {k:α→M β} {r:Rs β} {base B X:Nat} {w w1:World} {tv nv nv1:Value} {i f:Nat} {xs ys:List NV} {K:qa→World→Prop} {Q:Ks} {ρ:qa} {d:Option Nat}
end
section
variable {L:List Tok} {base B X:Nat} {w w1:World} {tv nv nv1:Value} {i f:Nat} {xs ys:List NV} {K:qa→World→Prop} {Q:Ks} {ρ:qa} {d:Option Nat}
theorem NK.add {w2:World} {nv2:Value} {x z:NV} (h:NK w B X nv1 w1 x (xs++ys)) (b:Cu base B w tv nv L xs w1 nv1 i f ys) (a:Tn base B nv1 nv2 w1 w2) (o:∀k,z.kv.ownBlock=some k→x.kv.ownBlock≠some k):NK w B X nv2 w2 x (xs++(ys++[z])):=
 ⟨h.var.turn a,b.keep a h.own (by decide) (by decide),by rw [←List.append_assoc];exact h.sep.app fun y e k c=>(by
  obtain rfl:y=z:=List.mem_singleton.1 e;exact o k c)⟩
end
theorem qjt (s:Bs):Tryz.prog.built 44 [(0, .int .u8 31),(1, .string (qc s))]=some (qi (kdV 31 s [] [] 0 (.slice none 0 0) [])).toArray:=by kernel_rfl
def qC (p:Nat→TypeId→Prop) (w w':World):Prop:=∀k cs T z,w.heap[k]? =some (.cells cs T z)→p k T→w'.heap[k]? =w.heap[k]?
theorem qC.mono {p q:Nat→TypeId→Prop} {w w':World} (h:qC p w w') (a:∀k T,q k T→p k T):qC q w w':=fun k cs T z b c=>h k cs T z b (a k T c)
theorem qC.trans {p:Nat→TypeId→Prop} {w w' a:World} (h:qC p w w') (o:qC p w' a):qC p w a:=fun k cs T z b c=>by
 have e:=h k cs T z b c;exact (o k cs T z (e.trans b) c).trans e
theorem qC.ext {p:Nat→TypeId→Prop} {w w':World} (h:qb w w'):qC p w w':=fun k _ _ _ a _=>h.block k (Array.getElem?_eq_some_iff.1 a).1
theorem qC.only {X:Nat} {w w':World} {cs:Array Value} {TX:TypeId} (h:Only X w w') (b:Blk w X cs TX):qC (fun k T=>k≠X∨T≠TX) w w':=fun k cs' T z c a=>by
 refine h.block k ?_;rintro rfl;have:=b.heap;rw [c] at this;cases this;rcases a with a|a<;>exact a rfl
theorem qC.grown {w w':World} {b e sz:Nat} {v:Value} {xs:List Value} (t:Own b e sz w v xs) (o:w.grownBy w' v.ownBlock):qC (fun k T=>v.ownBlock≠some k∨T≠e) w w':=fun k cs T z c a=>by
 refine o.block k (Array.getElem?_eq_some_iff.1 c).1 fun h=> ?_;obtain ⟨cur,u⟩:=Own.row t h.symm;rw [u] at c;cases c;rcases a with a|a
 ·exact a h.symm
 ·exact a rfl
theorem PSt.sameT {base B:Nat} {w w':World} {tv nv nv':Value} {L:List Tok} {i f:Nat} {xs:List NV} (h:PSt base B w tv nv L i f xs) (o:Tn base B nv nv' w w'):qC (fun k T=>T≠85∧(T≠44∨nv.ownBlock≠some k)) w w':=fun k cs T z b c=>by
 refine o.block k (Array.getElem?_eq_some_iff.1 b).1 (h.blkNe b c.1) fun e=> ?_;rcases c.2 with a|a
 ·exact h.rowNe b a e
 ·exact a e
theorem _root_.Go.Eng.Own.at' {p:Nat→TypeId→Prop} {w w':World} {b e sz:Nat} {v:Value} {xs:List Value} (h:Own b e sz w v xs) (o:qC p w w') (t:∀k,v.ownBlock=some k→p k e):Own b e sz w' v xs:=Own.same h fun k a=>by
 obtain ⟨cur,c⟩:=Own.row h a;exact o k _ _ _ c (t k a)
theorem _root_.Go.Eng.Blk.at' {p:Nat→TypeId→Prop} {w w':World} {X:Nat} {cs:Array Value} {T:TypeId} (h:Blk w X cs T) (a:qC p w w') (b:p X T):Blk w' X cs T:=⟨(a X _ _ _ h.heap b).trans h.heap⟩
def vx {α β:Type} (C:α→β→Prop):List α→List β→Prop
 |[],[]=>True
 |a::us,b::vs=>C a b∧vx C us vs
 |_,_=>False
section
variable {α β:Type} {C C':α→β→Prop}
theorem vx.imp (e:∀a b,C a b→C' a b):∀{c:List α} {vs:List β},vx C c vs→vx C' c vs
 |[],[],_=>trivial
 |_::_,_::_,h=>⟨e _ _ h.1,vx.imp e h.2⟩
 |[],_::_,h=>h.elim
 |_::_,[],h=>h.elim
theorem vx.len:∀{a:List α} {vs:List β},vx C a vs→a.length=vs.length
 |[],[],_=>rfl
 |_::_,_::_,h=>by simp [vx.len h.2]
 |[],_::_,h=>h.elim
 |_::_,[],h=>h.elim
theorem vx.get:∀{a:List α} {vs:List β},vx C a vs→∀(i:Nat) (b:i<a.length) (c:i<vs.length),C a[i] vs[i]
 |_::_,_::_,h,0,_,_=>h.1
 |_::_,_::_,h,i+1,b,c=>vx.get h.2 i (by simpa using b) (by simpa using c)
theorem vx.left {P:α→Prop} (o:∀a b,C a b→P a):∀{e:List α} {vs:List β},vx C e vs→∀a∈e,P a
 |[],[],_,a,c=>by cases c
 |_::_,_::_,h,a,c=>by
  rcases List.mem_cons.1 c with rfl|c
  ·exact o _ _ h.1
  ·exact vx.left o h.2 a c
 |[],_::_,h,_,_=>h.elim
 |_::_,[],h,_,_=>h.elim
end
def wS {α:Type} (b T sz:Nat) (C:List Value→α→Prop) (w:World) (v:Value) (l:List α):Prop:=∃css:List (List Value),Own b T sz w v css.flatten∧vx C css l
def Qm (w:World) (cs:List Value) (s:Sig):Prop:=∃av sv,cs=[.bool s.iter,av, .string (qc s.result),sv]∧Own 0 9 1 w av (s.args.map qe)∧Own 0 9 1 w sv (s.signals.map qe)
def Qr (w:World) (cs:List Value) (n:Need):Prop:=∃c,cs= .string (qc n.op)::c∧Qm w c n.sig
def qcy (w:World) (cs:List Value) (o:Opn):Prop:=∃c,cs= .string (qc o.name)::c∧Qm w c o.sig
def kL (q:Nat→Prop) (w:World) (v:Value) (l:List Nd):Prop:=∃xs:List NV,xs.map (·.nd)=l∧Own 0 44 6 w v (je xs)∧∀x∈xs,Own 0 3 1 w x.kv (x.nd.kids.map encI)∧∀k,x.kv.ownBlock=some k→q k
def qaX (N:Value→List Nd→Prop) (w:World) (cs:List Value) (r:Rout):Prop:=∃c pv ndv,cs= .string (qc r.name)::(c++[pv,ndv])∧Qm w c r.sig∧Own 0 9 1 w pv (r.params.map qe)∧N ndv r.nodes
def yu (N:Value→List Nd→Prop) (w:World) (cs:List Value) (m:Mod):Prop:=∃needv opv rv,cs=[.string (qc m.face.name), .int .u8 (m.face.kind:Int), .bool m.face.param,needv,opv, .string (qc m.rep),rv]∧
 wS 0 132 5 (Qr w) w needv m.face.needs∧wS 0 135 5 (qcy w) w opv m.face.ops∧wS 0 82 7 (qaX N w) w rv m.routs
section
variable {p:Nat→TypeId→Prop} {w w':World} {cs:List Value} {v:Value}
theorem wS.at' {α:Type} {b T sz:Nat} {C C':List Value→α→Prop} {l:List α} (h:wS b T sz C w v l) (e:qC p w w') (o:∀k,v.ownBlock=some k→p k T) (t:∀c a,C c a→C' c a):wS b T sz C' w' v l:=by
 obtain ⟨css,u,y⟩:=h;exact ⟨css,u.at' e o,y.imp t⟩
theorem Qm.at' {s:Sig} (h:Qm w cs s) (a:qC p w w') (b:∀k,p k 9):Qm w' cs s:=by
 obtain ⟨o,sv,e,t,c⟩:=h;exact ⟨o,sv,e,t.at' a fun k _=>b k,c.at' a fun k _=>b k⟩
theorem Qr.at' {s:Need} (h:Qr w cs s) (a:qC p w w') (e:∀k,p k 9):Qr w' cs s:=by
 obtain ⟨c,b,o⟩:=h;exact ⟨c,b,o.at' a e⟩
theorem qcy.at' {s:Opn} (h:qcy w cs s) (a:qC p w w') (e:∀k,p k 9):qcy w' cs s:=by
 obtain ⟨c,b,o⟩:=h;exact ⟨c,b,o.at' a e⟩
theorem kL.at2 {q:Nat→Prop} {l:List Nd} (h:kL q w v l) (e:qC p w w') (t:∀k,q k→p k 3) (c:∀k,v.ownBlock=some k→p k 44):kL q w' v l:=by
 obtain ⟨xs,u,y,a⟩:=h;exact ⟨xs,u,y.at' e c,fun x b=>⟨(a x b).1.at' e fun k o=>t k ((a x b).2 k o),(a x b).2⟩⟩
theorem kL.at' {q:Nat→Prop} {l:List Nd} (h:kL q w v l) (b:qC p w w') (c:∀k,p k 3) (a:∀k,v.ownBlock=some k→p k 44):kL q w' v l:=h.at2 b (fun k _=>c k) a
theorem kL.mono {q q':Nat→Prop} {l:List Nd} (h:kL q w v l) (e:∀k,k<w.heap.size→q k→q' k):kL q' w v l:=by
 obtain ⟨xs,o,t,a⟩:=h;exact ⟨xs,o,t,fun x b=>⟨(a x b).1,fun k c=>e k ((a x b).1.blk k c).2 ((a x b).2 k c)⟩⟩
theorem qaX.at' {N N':Value→List Nd→Prop} {r:Rout} (h:qaX N w cs r) (b:qC p w w') (e:∀k,p k 9) (y:∀v l,N v l→N' v l):qaX N' w' cs r:=by
 obtain ⟨c,E,a,u,z,o,t⟩:=h;exact ⟨c,E,a,u,z.at' b e,o.at' b fun k _=>e k,y _ _ t⟩
end
section
variable {base B X:Nat} {w w1 w2:World} {tv nv nv1 nv2:Value} {L:List Tok} {i f j g:Nat} {xs ys zs:List NV}
theorem PSt.sep (h:PSt base B w1 tv nv1 L i f xs) {a:Value} {e sz b:Nat} {cs:List Value} (t:Own b e sz w1 a cs) (z:e≠3):z7 a xs:=fun x F k E u=>by
 obtain ⟨cur,y⟩:=Own.row (h.kid x F) E;obtain ⟨o,c⟩:=Own.row t u;rw [y] at c;cases c;exact z rfl
end
def PRx {β:Type} (base B:Nat) (tv nv:Value) (L:List Tok) (xs:List NV) (w:World) (V:β→Nat→Nat→Value→World→Prop):Rs β→Ending→World→Prop
 | .oof,_,_=>False
 | .ok a j g,e,w'=>∃v,e= .returned v∧V a j g v w'
 | .no g,e,w'=>∃j nv' ys,e= .panicked yD∧PSt base B w' tv nv' L j g (xs++ys)∧Tn base B nv nv' w w'
section
variable {α β:Type} {A':Ans β} {L:List Tok} {m:M α} {k:α→M β} {r:Rs β} {base B X:Nat} {w w1:World} {tv nv nv1:Value} {i f:Nat} {xs ys:List NV} {K:qa→World→Prop} {Q:Ks} {ρ:qa} {d:Option Nat}
theorem qkr {V:α→Nat→Nat→Value→World→Prop} {F:FuncId} {args:Array Value} (H:m i f≠ .oof→Calls Tryz.prog F args w1 (PRx base B tv nv L xs w V (m i f))) (u:bnd m k i f=r) (E:r≠ .oof)
  (hpn:∀c w',PR A' base B tv nv L xs w r (.panicked c) w'→Q.pn ρ c w') (h:∀a j g v w2,m i f= .ok a j g→V a j g v w2→k a j g=r→K (qm ρ d v) w2):Calls Tryz.prog F args w1 (xT Q d K ρ):=by
 have o:m i f≠ .oof:=fun e=>E (by rw [←u,qtY e]);refine (H o).mono ?_;intro e w2 t;cases b:m i f with
 |oof=>exact absurd b o
 |no g=>
  rw [b] at t;obtain ⟨j,nv2,zs,rfl,y,z⟩:=t;rw [qtO];refine hpn _ _ ?_;rw [←u,qe4 b];exact ⟨j,nv2,zs,rfl,y,z⟩
 |ok a j g=>
  rw [b] at t;obtain ⟨v,rfl,I⟩:=t;rw [qjr];exact h a j g v w2 b I (by rw [←u,qe3 b])
end
theorem qvx:jA Tryz.prog 51 1=true:=by kernel_rfl
def smX (X:Nat):Nat→TypeId→Prop:=fun k T=>T≠85∧T≠44∧k≠X
theorem Cu.sm {base B X:Nat} {w w1 w2:World} {tv nv nv1 nv2:Value} {L:List Tok} {i f:Nat} {xs ys:List NV} (h:Cu base B w tv nv L xs w1 nv1 i f ys) (a:Tn base B nv1 nv2 w1 w2):qC (smX X) w1 w2:=(h.st.sameT a).mono fun _ _ h=>⟨h.1, .inl h.2.1⟩
noncomputable def qhm:IR:= .cond (zv 24) (zq [za 4 (zQ false)] <| .ret) .skip
noncomputable def qoj:IR:= .reg [za 13 (zI .add (zv 13) (zK 1))]
noncomputable def qoi:IR:= .seq (.block 1 (zq [zm 5 13] <| .seq (.drw [za 24 (zI .neq (zl (zx 1 (zv 0) (zv 5))) (zl (zx 1 (zv 1) (zv 5))))]) (qhm))) (qoj)
noncomputable def qhl:IR:=zq [za 14 (zI .lss (zv 13) (zv 12))] <| .seq (.cond (zv 14) .skip (.exit 0)) (qoi)
noncomputable def qoh:IR:=zq [za 4 (zQ true)] <| .ret
noncomputable def qog:IR:=zq [za 12 (zL (zv 0)),za 13 (zK 0)] <| .seq (.block 0 (.loop qhl)) (qoh)
noncomputable def qok:IR:=zq [za 4 (zQ false),za 10 (zI .neq (zL (zv 0)) (zL (zv 1)))] <| .seq (.cond (zv 10) (zq [za 4 (zQ false)] <| .ret) .skip) (qog)
def qA2:List Nat:=[0,1,4,5,10,12,13,14,24]
theorem qA1:C2 50 26 qA2 qok [.tmp 4]:=c2 [] Tryz.func50
noncomputable def qhk:IR:= .cond (zv 24) (zq [za 4 (zQ false)] <| .ret) .skip
noncomputable def qoe:IR:= .reg [za 13 (zI .add (zv 13) (zK 1))]
noncomputable def qod:IR:= .seq (.block 1 (zq [zm 5 13] <| .seq (.drw [za 24 (zS .neq (zl (zx 1 (zv 0) (zv 5))) (zl (zx 1 (zv 1) (zv 5))))]) (qhk))) (qoe)
noncomputable def qhj:IR:=zq [za 14 (zI .lss (zv 13) (zv 12))] <| .seq (.cond (zv 14) .skip (.exit 0)) (qod)
noncomputable def qoc:IR:=zq [za 4 (zQ true)] <| .ret
noncomputable def qob:IR:=zq [za 12 (zL (zv 0)),za 13 (zK 0)] <| .seq (.block 0 (.loop qhj)) (qoc)
noncomputable def qof:IR:=zq [za 4 (zQ false),za 10 (zI .neq (zL (zv 0)) (zL (zv 1)))] <| .seq (.cond (zv 10) (zq [za 4 (zQ false)] <| .ret) .skip) (qob)
def qA0:List Nat:=[0,1,4,5,10,12,13,14,24]
theorem qAZ:C2 51 26 qA0 qof [.tmp 4]:=c2 [] Tryz.func51
noncomputable def qep:IR:=zq [za 4 (zQ false),zm 5 0,zm 6 1,zc 7 229 #[zt 5,zt 6] #[51,9] 3,za 4 (zI .geq (zv 7) (zK 0))] <| .ret
def qim:List Nat:=zV 8 [2,3]
theorem qrq:C2 160 9 qim qep [.tmp 4]:=c2 [] Tryz.func160
noncomputable def qeh:IR:= .reg [za 8 (zI .add (zv 8) (zK 1))]
noncomputable def qeg:IR:= .seq (.block 1 (zq [zm 5 8,za 16 (zS .eql (zv 1) (zl (zx 1 (zv 0) (zv 5))))] <| .cond (zv 16) (zq [zm 4 5] <| .ret) .skip)) (qeh)
noncomputable def qca:IR:=zq [za 9 (zI .lss (zv 8) (zv 7))] <| .seq (.cond (zv 9) .skip (.exit 0)) (qeg)
noncomputable def qef:IR:=zq [za 4 (.const (.int .i64 (-1)))] <| .ret
noncomputable def qei:IR:=zq [za 4 (zK 0),za 7 (zL (zv 0)),za 8 (zK 0)] <| .seq (.block 0 (.loop qca)) (qef)
def qhZ:List Nat:=[0,1,4,5,7,8,9,16]
theorem qqn:C2 229 19 qhZ qei [.tmp 4]:=c2 [] Tryz.func229
noncomputable def qq2:IR:=zq [zE 5 (.buildSlice 40 0 #[]) 40,zm 6 0,zp 7 #[zt 5,zt 6] #[40,40] 40,zm 2 7] <| .ret
noncomputable def qq3:IR:=zq [za 2 (.const (.slice none 0 0)),zm 3 0,zE 4 (.binOp .eql 40 (zt 3) (.const (.slice none 0 0)) 40) 4] <| .seq (.cond (zv 4) (zq [za 2 (.const (.slice none 0 0))] <| .ret) .skip) (qq2)
def qC5:List Nat:=zV 8 [1]
theorem qC4:C1 192 8 qC5 qq3 [.tmp 2]:=c1 [] Tryz.func192
noncomputable def qsv:IR:=zq [za 2 (.const (.slice none 0 0)),zm 4 0,zc 5 194 #[zt 4] #[148] 51,zm 3 5,zm 6 3,zc 7 195 #[zt 6] #[51] 0,zm 2 3] <| .ret
def qEo:List Nat:=zV 8 [1]
theorem qEn:C1 110 9 qEo qsv [.tmp 2]:=c1 [] Tryz.func110
noncomputable def qqZ:IR:=zq [za 2 (.const (.slice none 0 0)),zm 3 0,zc 4 260 #[(.const (.slice none 0 0)),zt 3] #[51,148] 51,zm 2 4] <| .ret
def qC1:List Nat:=zV 5 [1]
theorem qC0:C1 194 5 qC1 qqZ [.tmp 2]:=c1 [] Tryz.func194
noncomputable def qB1:Code:=((Tryz.f260.body).getD .skip)
noncomputable def qd5:Code:=(QI qB1).getD 0 .skip
noncomputable def qpA:IR:=zq [za 4 (zl (zv 2))] <| .ret
noncomputable def qhK:IR:=zq [zE 2 (.box 51 (zt 0)) 0,za 4 (.const (.slice none 0 0)),zm 6 1] <| .seq (.block 0 (.raw qd5)) (qpA)
def qb7:List Nat:=zV 12 [3]
noncomputable def qpC:IR:= .reg [zm 5 7]
noncomputable def qpB:IR:= .block 1 (.reg [za 8 (zl (zv 2)),zm 9 5,zE 10 (.buildSlice 51 1 #[(0,(zt 9))]) 51,zp 11 #[zt 8,zt 10] #[51,51] 51,zw 51 (zt 2) (zt 11)])
theorem qBY:∃A B,qd5= .rangeFunc (.tmp 6) #[7] A B∧Part Tryz.prog 13 qb7 A qpC∧Part Tryz.prog 13 qb7 B qpB:=
 ⟨rfA qd5,rfB qd5,by kernel_rfl,⟨by kernel_rfl,by kernel_rfl⟩,⟨by kernel_rfl,by kernel_rfl⟩⟩
theorem qBZ:(qT Tryz.prog Tryz.f260.ntmps qb7 [] (Tryz.f260.body.getD .skip)).map IR.norm=some qhK:=by kernel_rfl
theorem qB0 {v0 a:Value} {w:World} {R:Ending→World→Prop} (h:∀ρ:qa,ρ 0=v0→ρ 1=a→ρ gS= .tuple #[]→qhK.wp ⟨Tryz.prog,13,qb7,z6⟩ (jD Tryz.prog [.tmp 4] R .returning) (vC Tryz.prog [.tmp 4] R) ρ w):
  Calls Tryz.prog 260 #[v0,a] w R:=by
 obtain ⟨o,b,e⟩:=Option.map_eq_some_iff.1 qBZ;exact qeX (args:= #[v0,a]) Tryz.func260 (c:=(Tryz.f260.body.getD .skip)) rfl b e (by kernel_rfl) (show vc Tryz.prog qb7 Tryz.f260.results.toList=some [.tmp 4] by kernel_rfl) (Nat.le_of_ble_eq_true rfl) (h _ rfl rfl rfl)
noncomputable def qsu:IR:=zq [zE 1 (.box 144 (zt 0)) 0,za 2 (.const .nilFunc),zE 3 (.makeFunc (.func 196) #[] #[zt 1]) 145,zm 2 3] <| .ret
def qEm:List Nat:=zV 4 []
theorem qEl:C1 111 4 qEm qsu [.tmp 2]:=c1 [] Tryz.func111
noncomputable def qqX:IR:= .block 1 (zq [zE 8 (.entry (zt 5)) 0,za 3 (ze 0 (zv 8)),zm 10 0,zm 11 3,zE 12 (.call {callee:= .value (zt 10),args:= #[zt 11],argTypes:= #[9]}) 4,za 13 (zn (zv 12))] <| .cond (zv 13) (.ret) .skip)
noncomputable def qqW:IR:=zq [zE 6 (.next (zt 5) false) 0,za 7 (ze 0 (zv 6))] <| .seq (.cond (zv 7) .skip (.exit 0)) (qqX)
noncomputable def qqY:IR:=zq [za 4 (zl (zv 1)),zE 5 (.range 144 (zt 4)) 0] <| .block 0 (.loop qqW)
def qCZ:List Nat:=zV 14 [2,9]
theorem qCY:C2 196 14 qCZ qqY []:=c2 [] Tryz.func196
theorem qul {cs:List Value} (h:∀c∈cs,c.cells= #[c]):(Value.agg cs.toArray).cells=cs.toArray:=by
 have:∀l:List Value,(∀c∈l,c.cells= #[c])→(l.flatMap fun c=>c.cells.toList)=l:=by
  intro l
  induction l with
  |nil=>intro _;rfl
  |cons a l e=>
   intro h;rw [List.flatMap_cons,h a (by simp),e fun c b=>h c (by simp [b])];rfl
 apply Array.toList_inj.1;simp [Value.cells,Array.toList_flatMap,this cs h]
theorem Qr.len {w:World} {cs:List Value} {s:Need} (h:Qr w cs s):cs.length=5:=by
 obtain ⟨c,rfl,a,sv,rfl,_⟩:=h;rfl
theorem qiK {n:Nat}:∀{css:List (List Value)},(∀c∈css,c.length=n)→css.flatten.length=css.length*n
 |[],_=>by simp
 |c::css,h=>by
  rw [List.flatten_cons,List.length_append,h c (by simp),qiK fun c a=>h c (by simp [a]),List.length_cons,Nat.add_mul];omega
def xE (q:Nat→Prop) (w:World) (nv:Value) (xs:List NV) (v:Value) (l:List Nd):Prop:=(v=nv∧l=xs.map (·.nd)∧∀x∈xs,∀k,x.kv.ownBlock=some k→q k)∨(kL q w v l∧∀k,v.ownBlock=some k→nv.ownBlock≠some k)
section
variable {base B X:Nat} {w w1 w2:World} {tv nv nv1 nv2 v:Value} {L:List Tok} {i f j g:Nat} {xs xs1 ys:List NV} {l:List Nd}
theorem xE.at' {q:Nat→Prop} (h:xE q w nv xs v l) {p:Nat→TypeId→Prop} (c:qC p w w1) (o:∀k,p k 3) (a:∀k,nv.ownBlock≠some k→p k 44):xE q w1 nv xs v l:=by
 rcases h with h|⟨t,b⟩
 ·exact .inl h
 ·exact .inr ⟨t.at' c o fun k e=>a k (b k e),b⟩
end
section
variable {w w1:World} {nv v:Value} {xs:List NV} {l:List Nd} {q q':Nat→Prop} {p:Nat→TypeId→Prop}
theorem xE.at2 (h:xE q w nv xs v l) (c:qC p w w1) (o:∀k,q k→p k 3) (a:∀k,nv.ownBlock≠some k→p k 44):xE q w1 nv xs v l:=by
 rcases h with h|⟨t,b⟩
 ·exact .inl h
 ·exact .inr ⟨t.at2 c o fun k e=>a k (b k e),b⟩
theorem xE.mono (h:xE q w nv xs v l) (u:∀x∈xs,∀k,x.kv.ownBlock=some k→k<w.heap.size) (e:∀k,k<w.heap.size→q k→q' k):xE q' w nv xs v l:=by
 rcases h with ⟨b,c,t⟩|⟨b,c⟩
 ·exact .inl ⟨b,c,fun x a k o=>e k (u x a k o) (t x a k o)⟩
 ·exact .inr ⟨b.mono e,c⟩
end
theorem PSt.kidLt {base B:Nat} {w:World} {tv nv:Value} {L:List Tok} {i f:Nat} {xs:List NV} (h:PSt base B w tv nv L i f xs):∀x∈xs,∀k,x.kv.ownBlock=some k→k<w.heap.size:=fun x b k a=>((h.kid x b).blk k a).2
section
variable {base B X:Nat} {w w1 w2:World} {tv nv nv1 nv2 v:Value} {L:List Tok} {i f j g:Nat} {xs xs1 ys:List NV} {l:List Nd}
structure Cm (base B:Nat) (w:World) (tv nv:Value) (L:List Tok) (xs:List NV) (w1:World) (nv1:Value) (i f:Nat) (xs1:List NV):Prop where
 st:PSt base B w1 tv nv1 L i f xs1
 ln:xs1.length≤2*i+2
 tn:TnW base B nv nv1 w w1
 nd:∀q v l,xE q w nv xs v l→xE q w1 nv1 xs1 v l
 b0:base≤w.heap.size
 fr:∀x∈xs1,x∈xs∨wv w x.kv
theorem Cm.trans (h:Cm base B w tv nv L xs w1 nv1 i f xs1) (a:Cm base B w1 tv nv1 L xs1 w2 nv2 j g ys):Cm base B w tv nv L xs w2 nv2 j g ys:=
 ⟨a.st,a.ln,h.tn.trans a.tn,fun q v l o=>a.nd q v l (h.nd q v l o),h.b0,fun y e=>by
  rcases a.fr y e with b|b
  ·exact h.fr y b
  ·exact .inr fun k c=>Nat.le_trans h.tn.below.size (b k c)⟩
end
section
variable {α β:Type} {A:Ans α} {A':Ans β} {L:List Tok} {m:M α} {k:α→M β} {r:Rs β} {base B X:Nat} {w w0 w1:World} {tv nv nv0 nv1:Value} {i f i0 f0:Nat} {xs xs0 ys:List NV} {K:qa→World→Prop} {Q:Ks} {ρ:qa} {d:Option Nat}
end
section
variable {base B X:Nat} {w w1 w2:World} {tv nv nv1:Value} {L:List Tok} {i f:Nat} {xs xs1:List NV}
theorem Cm.ext (h:Cm base B w tv nv L xs w1 nv1 i f xs1) (a:qb w1 w2):Cm base B w tv nv L xs w2 nv1 i f xs1:=
 ⟨h.st.ext a,h.ln,h.tn.trans (Tn.toW (Tn.ext a h.st.bW)),fun q v l b=>(h.nd q v l b).at' (qC.ext (p:=fun _ _=>True) a) (fun _=>trivial) fun _ _=>trivial,h.b0,h.fr⟩
theorem Cm.block {zs:List NV} {j g:Nat} {nv2:Value} (h:Cu base B w1 tv (.slice none 0 0) L [] w2 nv2 j g zs) (t:PSt base B w1 tv (.slice none 0 0) L i f []) (u:zs.length≤2*j+2):Cm base B w1 tv (.slice none 0 0) L [] w2 nv2 j g zs:=by
 refine ⟨by simpa using h.st,u,h.tn.toW,fun q v l E=> .inr ?_,h.b0,fun y z=> .inr (h.fr y z)⟩;have b:=t.sameT h.tn;rcases E with ⟨rfl,rfl,_⟩|⟨o,_⟩
 ·exact ⟨⟨[],rfl,Own.nil _ _ _ _,by simp⟩,fun k a=>by cases a⟩
 ·refine ⟨o.at' b (fun k=>⟨by decide, .inl (by decide)⟩) fun k _=>⟨by decide, .inr (by simp [Value.ownBlock])⟩,fun k a e=> ?_⟩;obtain ⟨I,_,F,_⟩:=o;have H:=(F.blk k a).2;rcases h.tn.row k e with c|c
  ·cases c
  ·omega
end
def mdA (nm:Bs) (k:Int) (pr:Bool) (nd op:Value) (rep:Bs) (rv:Value):Array Value:= #[.string (qc nm), .int .u8 k, .bool pr,nd,op, .string (qc rep),rv]
theorem sz5:jA Tryz.prog 5 1=true:=by kernel_rfl
section
variable {base B X:Nat} {w w1 w2:World} {tv nv nv1 nv2:Value} {L:List Tok} {i f j g:Nat} {xs xs1 ys:List NV} {p:Nat→TypeId→Prop} {N N':Value→List Nd→Prop} {cs:List Value}
theorem yu.at' {m:Mod} (h:yu N w cs m) (b:qC p w w1) (u:∀k,p k 9) (o:∀k,p k 132) (c:∀k,p k 135) (t:∀k,p k 82) (F:∀v l,N v l→N' v l):yu N' w1 cs m:=by
 obtain ⟨a,y,rv,e,E,H,z⟩:=h;exact ⟨a,y,rv,e,E.at' b (fun k _=>o k) fun _ _ h=>h.at' b u,H.at' b (fun k _=>c k) fun _ _ h=>h.at' b u,z.at' b (fun k _=>t k) fun _ _ h=>h.at' b u F⟩
theorem Cm.same (h:Cm base B w tv nv L xs w1 nv1 i f xs1) (b:PSt base B w tv nv L j g xs):qC (fun k T=>T≠85∧T≠44) w w1:=fun k cs T z a c=>
 h.tn.block k (Array.getElem?_eq_some_iff.1 a).1 (b.blkNe a c.1) (b.rowNe a c.2)
theorem Cm.var (h:Cm base B w tv nv L xs w1 nv1 i f xs1) (c:PSt base B w tv nv L j g xs) {Y:Nat} {cs:Array Value} {T:TypeId} (a:Blk w Y cs T) (e:T≠44) (b:T≠85):Blk w1 Y cs T:=a.at' (h.same c) ⟨b,e⟩
end
section
variable {base B X:Nat} {w w1 w2:World} {tv nv nv1:Value} {L:List Tok} {i f:Nat} {xs xs1:List NV}
end
structure ClS (L:List Tok) (base B R X:Nat) (w:World) (tv nv v7 v8:Value) (xs:List NV) (nm rep:Bs) (pr:Bool) (names:List Bs) (ws:List Need) (i f:Nat) (nv' rv:Value) (ys:List NV) (css:List (List Value)) (rs:List Rout) (w':World):Prop where
 m:Cm base B w tv nv L xs w' nv' i f ys
 bR:Blk w' R (mdA [] 0 false (.slice none 0 0) (.slice none 0 0) [] (.slice none 0 0)) 66
 bX:Blk w' X (mdA nm 3 pr v8 (.slice none 0 0) rep rv) 66
 own:Own w.heap.size 82 7 w' rv css.flatten
 all:vx (qaX (xE (fun k=>w.heap.size≤k) w' nv' ys) w') css rs
 bd:∀q∈rs,q.sig.args.length≤20001∧q.sig.signals.length≤20001
 nms:Own 0 9 1 w' v7 (names.map qe)
 nds:wS 0 132 5 (Qr w') w' v8 ws
 len:rs.length≤i
 Xw:w.heap.size≤X
 Rw:w.heap.size≤R
 RX:R≠X
 nl:names.length≤20001
section
variable {L:List Tok} {base B R X n:Nat} {w:World} {tv nv v7 v8:Value} {xs:List NV} {nm rep:Bs} {pr:Bool} {names:List Bs} {ws:List Need} {r:Rs Mod}
theorem ClS.ext {i f:Nat} {nv' rv:Value} {ys:List NV} {css:List (List Value)} {rs:List Rout} {w1 w2:World} (h:ClS L base B R X w tv nv v7 v8 xs nm rep pr names ws i f nv' rv ys css rs w1) (a:qb w1 w2):ClS L base B R X w tv nv v7 v8 xs nm rep pr names ws i f nv' rv ys css rs w2:=
 have b:qC (fun _ _=>True) w1 w2:=qC.ext a
 ⟨h.m.ext a,h.bR.ext a,h.bX.ext a,h.own.ext a,h.all.imp fun _ _ h=>h.at' b (fun _=>trivial) fun v l c=>c.at' b (fun _=>trivial) fun _ _=>trivial,h.bd,h.nms.ext a,h.nds.at' b (fun _ _=>trivial) fun _ _ h=>h.at' b fun _=>trivial,h.len,h.Xw,h.Rw,h.RX,h.nl⟩
structure ClN (L:List Tok) (base B R X:Nat) (w:World) (tv nv v7 v8:Value) (xs:List NV) (nm rep:Bs) (pr:Bool) (names:List Bs) (ws:List Need) (i f:Nat) (nv' rv:Value) (ys:List NV) (css:List (List Value)) (rs:List Rout) (k:Nat) (w':World):Prop where
 m:Cm base B w tv nv L xs w' nv' i f ys
 bR:Blk w' R (mdA [] 0 false (.slice none 0 0) (.slice none 0 0) [] (.slice none 0 0)) 66
 bX:∃opv cs2,Blk w' X (mdA nm 3 pr v8 opv rep rv) 66∧Own w.heap.size 135 5 w' opv (List.flatten cs2)∧vx (qcy w') cs2 ((ql9 names rs).take k)
 own:Own w.heap.size 82 7 w' rv css.flatten
 all:vx (qaX (xE (fun k=>w.heap.size≤k) w' nv' ys) w') css rs
 nms:Own 0 9 1 w' v7 (names.map qe)
 nds:wS 0 132 5 (Qr w') w' v8 ws
theorem ClN.ext {L:List Tok} {base B R X:Nat} {w:World} {tv nv v7 v8:Value} {xs:List NV} {nm rep:Bs} {pr:Bool} {names:List Bs} {ws:List Need} {i f k:Nat} {nv' rv:Value} {ys:List NV} {css:List (List Value)} {rs:List Rout} {w1 w2:World} (h:ClN L base B R X w tv nv v7 v8 xs nm rep pr names ws i f nv' rv ys css rs k w1) (a:qb w1 w2):ClN L base B R X w tv nv v7 v8 xs nm rep pr names ws i f nv' rv ys css rs k w2:=by
 have b:qC (fun _ _=>True) w1 w2:=qC.ext a;obtain ⟨e,c,t,y,o⟩:=h.bX;exact ⟨h.m.ext a,h.bR.ext a,⟨e,c,t.ext a,y.ext a,o.imp fun _ _ h=>h.at' b fun _=>trivial⟩,h.own.ext a,h.all.imp fun _ _ h=>h.at' b (fun _=>trivial) fun v l u=>u.at' b (fun _=>trivial) fun _ _=>trivial,h.nms.ext a,h.nds.at' b (fun _ _=>trivial) fun _ _ h=>h.at' b fun _=>trivial⟩
end
theorem yu.row {N:Value→List Nd→Prop} {w:World} {cs:List Value} {m:Mod} (h:yu N w cs m):cs.length=7∧∀c∈cs,c.cells= #[c]∧c.oneCell=true:=by
 obtain ⟨a,u,rv,rfl,⟨_,o,_⟩,⟨_,t,_⟩,⟨_,b,_⟩⟩:=h;refine ⟨rfl, ?_⟩;intro c e;simp only [List.mem_cons,List.mem_nil_iff,or_false] at e;rcases e with rfl|rfl|rfl|rfl|rfl|rfl|rfl
 ·exact ⟨rfl,rfl⟩
 ·exact ⟨rfl,rfl⟩
 ·exact ⟨rfl,rfl⟩
 ·exact ⟨vl o.isl,vU o.isl⟩
 ·exact ⟨vl t.isl,vU t.isl⟩
 ·exact ⟨rfl,rfl⟩
 ·exact ⟨vl b.isl,vU b.isl⟩
theorem qFc {P:Program} {Q:Ks} {d:Option Nat} {ty:TypeId} {K:qa→World→Prop} {ρ:qa} {w:World} {a b:Operand} {k:IntKind} {x y:Int} {e:Array TypeId} (o:qd ρ a= .int k x) (c:qd ρ b= .int k y) (h:K (qm ρ d (.int k (if y<x then y else x))) w):
  qr P Q d (.call {callee:= .builtin .min,args:= #[a,b],argTypes:=e}) ty K ρ w:=by
 show j9 P Q d _ ty K ρ w;refine jf (v:= .int k (if y<x then y else x)) (w':=w) ?_ h;simp [execOp,qA,resolve,invoke,builtin,o,c,Builtin.min_,Builtin.min2]
def qfr (_:Nat) (T:TypeId):Prop:=T=3∨T=4∨T=83
def qcC (B:Nat) (tv:Value) (W:World) (ok:Bool) (g:Nat) (Ok:World→Prop) (e:Ending) (w2:World):Prop:=
 qC qfr W w2∧Below B W w2∧((ok=true∧e= .returned (.tuple #[])∧Ok w2)∨(ok=false∧e= .panicked yD∧∃(j:Nat) (nv2:Value),Blk w2 B #[tv, .int .i64 (j:Int), .int .i64 (g:Int),nv2] 85∧qo nv2=true∧Ok w2))
def quq (B:Nat) (w:World) (tv:Value) (ok:Bool) (g:Nat) (Ok:World→Prop) (e:Ending) (w':World):Prop:=
 e= .returned (.bool ok)∧Below B w w'∧∃w2,Ok w2∧qC (fun _ T=>T≠4∧(ok=true∨T≠85)) w2 w'∧(ok=false→∃a b,Blk w' B #[tv,a, .int .i64 (g:Int),b] 85)
theorem qiN {B:Nat} {w w':World} (h:qb w w') (a:B≤w.heap.size):Below B w w':=⟨h.os,h.tape,h.output,h.size,fun k b=>h.block k (by omega)⟩
theorem qyp {L:List Tok} {base B:Nat} {w:World} {tv nv:Value} {i f g:Nat} (hS:PSt base B w tv nv L i f []) {ok:Bool} {F:FuncId} {caps:Array Value} {Ok:World→Prop} (hcb:qf Tryz.prog F=true) (al:∀W,qb w W→Calls Tryz.prog F caps W (qcC B tv W ok g Ok)):
  Calls Tryz.prog 54 #[.pointer (some ⟨B,0,none⟩), .func (.func F) #[] caps] w (quq B w tv ok g Ok):=by
 generalize hR:quq B w tv ok g Ok=R;refine qn4 fun ρ r0 r1 rg=> ?_;simp [qdY,r0];refine vv fun A W1 hA ag hbA _=> ?_;simp [Value.cells,r0] at hbA;simp;refine qR z4 fun Y W2 hY af hbY _=> ?_;simp;have hS2:=hS.ext (ag.trans' af);have hA2:=hbA.ext af;refine vH (hpn:=qj0 (by decide)) qn3 (fun W=>Blk W A #[.pointer (some ⟨B,0,none⟩)] 83∧Blk W B #[tv, .int .i64 (i:Int), .int .i64 (f:Int),nv] 85) fun W3 U _=> ?_;have y:=hS2.ext U;have o:=hA2.ext U;have hJ:Blk W3 A #[.pointer (some ⟨B,0,none⟩)] 83∧Blk W3 B #[tv, .int .i64 (i:Int), .int .i64 (f:Int),nv] 85:=⟨o,y.blk⟩;refine ⟨hJ, ?_⟩;have cA:∀W,(Blk W A #[.pointer (some ⟨B,0,none⟩)] 83∧Blk W B #[tv, .int .i64 (i:Int), .int .i64 (f:Int),nv] 85)→W.cell? ⟨A,0,none⟩=some (.pointer (some ⟨B,0,none⟩))∧W.cell? ⟨B,1,none⟩=some (.int .i64 (i:Int))∧W.cell? ⟨B,3,none⟩=some nv:=fun W h=>⟨by rw [h.1.cell];rfl,by rw [h.2.cell];rfl,by rw [h.2.cell];rfl⟩;have hisl:=hS.own.isl;simp+contextual -implicitDefEqProofs [qhi,cA,hJ,hisl];have rest:∀(z:qa) (W4:World) (X5 X6:Nat),qb W3 W4→Blk W4 X5 #[.int .i64 (i:Int)] 3→Blk W4 X6 #[.int .i64 (0:Int)] 3→z 1=ρ 1→z 2= .pointer (some ⟨A,0,none⟩)→z 4= .pointer (some ⟨Y,0,none⟩)→z 5= .pointer (some ⟨X5,0,none⟩)→z 6= .pointer (some ⟨X6,0,none⟩)→z gS= .tuple #[]→qb2.wp ⟨Tryz.prog,19,qaA,z6⟩ (jD Tryz.prog [.cell1 4] R .returning) (vC Tryz.prog [.cell1 4] R) z W4:=by
  intro z W4 X5 X6 a J t e1 e2 e4 e5 e6 eg;have hA4:=o.ext a;have hY4:=(hbY.ext U).ext a;have ac:qb w W4:=((ag.trans' af).trans' U).trans' a;have hBw:=hS.blk.lt;have hBY:B≤Y:=by have:=ag.size;omega
  have aa:Below B w W4:=qiN ac (by omega);simp [qb2];refine qiW (f:=116) (caps:= #[.pointer (some ⟨X5,0,none⟩), .pointer (some ⟨A,0,none⟩), .pointer (some ⟨X6,0,none⟩), .pointer (some ⟨Y,0,none⟩)]) (by simp [e2,e4,e5,e6]) trivial ?_;have eg':z 1000000000= .tuple #[]:=eg;simp [gS,e1,r1,eg'];refine kp (f:=F) hcb (fs:= #[]) (caps:=caps) (by simp) ?_;simp;refine (al W4 ac).mono ?_;rintro e w5 ⟨S,ab,h|h⟩
  ·obtain ⟨rfl,rfl,ad⟩:=h;have H:=hY4.at' S (.inr (.inl rfl));simp;refine qK (B:=Y) (i:=0) (by simp [e4]) H (by simp) (by simp [Value.cells]) (by simp) sz4 fun W6 c t=> ?_;simp at t;simp [vC,jD,gS,e4];refine jZ (by simp) qeW (qtD.mono ?_);rintro e u' w' ⟨⟨v,rfl⟩,rfl,rfl⟩;refine qay ?_;have cY:w'.cell? ⟨Y,0,none⟩=some (.bool true):=by rw [t.cell];rfl
   simp [qw,vE,RV.val,e4,cY,wB,←hR];exact ⟨rfl,(aa.trans ab).trans (wj c hBY),w5,ad,(qC.only c H).mono fun _ _ h=> .inr h.1,by simp⟩
  ·obtain ⟨rfl,rfl,j,nv2,Z,hsl,ad⟩:=h;have H:=hY4.at' S (.inr (.inl rfl));have h55:=J.at' S (.inl rfl);have h56:=t.at' S (.inl rfl);have hA5:=hA4.at' S (.inr (.inr rfl));simp [vC,jD,gS,e4];refine jZ (by simp) qeW ((qtC (n:=0) h55 hA5 h56 (.inr H) Z hsl (Nat.zero_le _)).mono ?_);rintro e u' w' ⟨⟨v,rfl⟩,hu,W6,W7,V,u,E,ai,hb8⟩;show jP _ _ _ _ [] (settle u') w';rw [hu];refine qay ?_;have cY:w'.cell? ⟨Y,0,none⟩=some (.bool false):=by rw [hb8.cell];rfl
   simp [qw,vE,RV.val,e4,cY,wB,←hR];have bYB:B≠Y:=fun e=>by
    subst e;have:=Z.heap;rw [H.heap] at this;cases this
   have hY7:=u.blk (H.ext V) (Ne.symm bYB);have hB8:=ai.blk E bYB;refine ⟨rfl,(((aa.trans ab).trans (qiN V (by have:=Z.lt;omega))).trans (wj u (Nat.le_refl _))).trans (wj ai hBY),w5,ad, ?_,fun _=>⟨_,_,hB8⟩⟩;exact ((qC.ext V).trans ((qC.only u (Z.ext V)).mono fun _ _ h=> .inr (by simpa using h.2))).trans ((qC.only ai hY7).mono fun _ _ h=> .inr h.1)
 have nvl:qk nv=0:=by
  have:=(L01.jM hS.own).len;rw [wJ] at this;simp at this;omega
 refine ⟨?_, ?_⟩
 ·refine qR z3 fun X5 W4 aj a ae hs4=>⟨⟨o.ext a,(y.ext a).blk⟩, ?_⟩;refine qR z3 fun X6 W5 hX6 b J hs5=>⟨⟨(o.ext a).ext b,((y.ext a).ext b).blk⟩, ?_⟩;have am:=(y.ext a).ext b;have l5:W3.heap.size≤X5:=aj;have I:X5≠X6:=by omega
  refine qK (B:=X5) (i:=0) (by simp) (ae.ext b) (by simp) (by simp [Value.cells]) (by simp) zz fun W6 c t=> ?_;simp at t;have ah:=c.blk ((o.ext a).ext b) (by have:=o.lt;omega);have ak:=c.blk am.blk (by have:=y.blk.lt;omega);refine ⟨⟨ah,ak⟩, ?_⟩;refine qK (B:=X6) (i:=0) (by simp) (c.blk J (Ne.symm I)) (by simp) (by simp [Value.cells]) (by simp) zz fun W7 u E=> ?_;simp [nvl] at E;exact rest _ W7 X5 X6 (u.ext (c.ext (a.trans' b) l5) (by have:=a.size;omega)) (u.blk t I) E (by simp) (by simp) (by simp) (by simp) (by simp) (by simp [gS] at rg⊢;exact rg)
 ·refine qR z3 fun X6 W4 hX6 a ae hs4=>⟨⟨o.ext a,(y.ext a).blk⟩, ?_⟩;refine qR z3 fun X5 W5 aj b J hs5=>⟨⟨(o.ext a).ext b,((y.ext a).ext b).blk⟩, ?_⟩;have am:=(y.ext a).ext b;have l5:W3.heap.size≤X5:=Nat.le_trans a.size aj;have I:X6≠X5:=by omega
  refine qK (B:=X5) (i:=0) (by simp) J (by simp) (by simp [Value.cells]) (by simp) zz fun W6 c t=> ?_;simp at t;have ah:=c.blk ((o.ext a).ext b) (by have:=o.lt;omega);have ak:=c.blk am.blk (by have:=y.blk.lt;omega);refine ⟨⟨ah,ak⟩, ?_⟩;refine qK (B:=X6) (i:=0) (by simp) (c.blk (ae.ext b) I) (by simp) (by simp [Value.cells]) (by simp) zz fun W7 u E=> ?_;simp [nvl] at E;exact rest _ W7 X5 X6 (u.ext (c.ext (a.trans' b) l5) hX6) (u.blk t (Ne.symm I)) E (by simp) (by simp) (by simp) (by simp) (by simp) (by simp [gS] at rg⊢;exact rg)
theorem quG:∀t∈L01.vO,t.length≤20:=by decide
theorem qvZ:∀t∈L01.qW,t.length≤20:=by decide
theorem qfP {L:List Tok} (h:xo L):wt L:=fun t a=>by
 have:=h t a;unfold L01.right at this;split at this
 ·unfold L01.qh at this;simp only [Bool.and_eq_true,decide_eq_true_eq] at this;omega
 ·split at this
  ·exact quG _ (List.contains_iff_mem.1 this)
  ·split at this
   ·unfold L01.jz at this;simp only [Bool.and_eq_true,Bool.not_eq_true',Bool.or_eq_false_iff,decide_eq_false_iff_not] at this;omega
   ·split at this
    ·exact qvZ _ (List.contains_iff_mem.1 this)
    ·cases this
section
variable {α:Type} {A:Ans α} {L:List Tok} {m:M α} {B P:Nat} {w:World} {tv nv:Value} {g:Nat}
def kU (L:List Tok) (m:M α):Bool:=match bnd m (fun a=>bnd (fin L) fun _=>ret a) 0 0 with| .ok _ _ _=>true|_=>false
def qGF (A:Ans α) (L:List Tok) (B:Nat) (tv:Value) (m:M α) (w2:World):Prop:=∃(i f:Nat) (nv2:Value) (ys:List NV),PSt B B w2 tv nv2 L i f ys∧∀a j g,kU L m=true→m 0 0= .ok a j g→ys.map (·.nd)=A.nodes 0 a∧j≤L.length
def Ja (L:List Tok) (m:M α):Nat:=match bnd m (fun a=>bnd (fin L) fun _=>ret a) 0 0 with| .no g=>g| .ok _ _ g=>g| .oof=>0
end
theorem qy1 {L:List Tok} {m:M Unit} (hm:Mt aU L 72 me m) (V:m 0 0≠ .oof) {B P:Nat} {w:World} {tv:Value} (hS:PSt B B w tv (.slice none 0 0) L 0 0 []) (hP:Blk w P #[.pointer (some ⟨B,0,none⟩)] 83):
  Calls Tryz.prog 71 #[.pointer (some ⟨P,0,none⟩)] w (qcC B tv w (kU L m) (Ja L m) (qGF aU L B tv m)):=by
 refine qAO fun ρ r0=> ?_;have cP:w.cell? ⟨P,0,none⟩=some (.pointer (some ⟨B,0,none⟩)):=by rw [hP.cell];rfl
 simp [qnY,r0,cP];have sm:∀{nv2:Value} {w2:World},Tn B B (.slice none 0 0) nv2 w w2→qC qfr w w2:=fun hT=>(hS.sameT hT).mono fun k T h=>by
  rcases h with rfl|rfl|rfl<;>exact ⟨by decide, .inl (by decide)⟩
 refine (hm B B w tv _ 0 0 [] hS (by simp) V).mono ?_;intro e w2 Y;cases h:m 0 0 with
 |oof=>exact absurd h V
 |no g=>
  rw [h] at Y;obtain ⟨j,nv2,ys,rfl,c,b⟩:=Y;have H:kU L m=false:=by simp [kU,bnd,h,Rs.andThen]
  have U:Ja L m=g:=by simp [Ja,bnd,h,Rs.andThen]
  rw [H,U];refine ⟨sm b,b.below, .inr ⟨rfl,rfl,j,nv2,c.blk,c.own.isl,j,g,nv2,_,c,fun a j g _ I=> ?_⟩⟩;cases h.symm.trans I
 |ok t j g=>
  rw [h] at Y;obtain ⟨v,nv2,ys,rfl,c,aa,_,b,hv⟩:=Y;have ab:=hP.at' (sm b) (.inr (.inr rfl));have ac:w2.cell? ⟨P,0,none⟩=some (.pointer (some ⟨B,0,none⟩)):=by rw [ab.cell];rfl
  simp [r0,ac];refine ⟨by kernel_rfl,(qyQ c).mono ?_⟩;intro e w3 o;cases F:fin L j g with
  |oof=>rw [F] at o;exact o.elim
  |no W=>
   rw [F] at o;obtain ⟨Z,E,J,rfl,z,y⟩:=o;have H:kU L m=false:=by simp [kU,bnd,h,F,Rs.andThen]
   have U:Ja L m=W:=by simp [Ja,bnd,h,F,Rs.andThen]
   rw [H,U];simp;exact ⟨sm (b.trans y),(b.trans y).below, .inr ⟨rfl,rfl,Z,E,z.blk,z.own.isl,Z,W,E,_,z,fun a j g I=>by rw [H] at I;cases I⟩⟩
  |ok u Z W=>
   rw [F] at o;obtain ⟨v3,E,J,rfl,z,S,_,y,hv3⟩:=o;have H:kU L m=true:=by simp [kU,bnd,h,F,ret,Rs.andThen]
   have U:Ja L m=W:=by simp [Ja,bnd,h,F,ret,Rs.andThen]
   rw [H,U];obtain rfl:J=[]:=by simpa [aU] using S
   simp;refine ⟨sm (b.trans y),(b.trans y).below, .inl ⟨rfl,rfl,Z,W,E,ys,by simpa using z,fun a j g _ I=> ?_⟩⟩;obtain ⟨_,rfl,_⟩:=Rs.ok.inj (h.symm.trans I);exact ⟨aa,c.il⟩
@[simp] theorem qIO:qf Tryz.prog 53=true:=by kernel_rfl
@[simp] theorem qIN:qf Tryz.prog 64=true:=by kernel_rfl
@[simp] theorem qIM:qf Tryz.prog 76=true:=by kernel_rfl
theorem qbm:∀(n:Nat) (s:Bs) (l e m:Int),L01.kQ n s l= .bad e m→e≠0
 |0,_,_,_,_,h=>by cases h
 |_+1,[],_,_,_,h=>by cases h
 |n+1,c::r,l,e,m,h=>by
  have add:∀{o c:_} {x:L01.Res},x.add o c= .bad e m→x= .bad e m:=fun {o c x} h=>by cases x<;>simpa [L01.Res.add] using h
  unfold L01.kQ at h;split at h
  ·exact qbm n _ _ _ _ h
  ·split at h
   ·exact qbm n _ _ _ _ h
   ·split at h
    ·exact qbm n _ _ _ _ (add h)
    ·split at h
     ·rename_i a;simp only [L01.Res.bad.injEq] at h;rw [←h.1];exact a
     ·exact qbm n _ _ _ _ (add h)
theorem qkR {s:Bs} {e l:Int} (h:ql s= .bad e l):e≠0:=by
 unfold L01.ql at h;split at h
 ·simp only [L01.Res.bad.injEq] at h;rw [←h.1];decide
 ·exact qbm _ _ _ _ _ h
theorem qF9 {v:Value} (h:qo v=true):Tryz.prog.built 85 [(0,v)]=some #[v, .int .i64 0, .int .i64 0, .slice none 0 0]:=by
 rcases zJ h with ⟨b,o,n,c,rfl,_⟩|rfl|⟨b,o,s,rfl⟩<;>kernel_rfl
theorem z83:vG Tryz.prog 83=some #[.pointer none]:=by kernel_rfl
theorem qvw:jA Tryz.prog 83 1=true:=by kernel_rfl
theorem qtb {B:Nat} {w w1 w2:World} (h:qb w w1) (a:Below B w1 w2) (c:w.heap.size≤B):qb w w2:=⟨a.os.trans h.os,a.tape.trans h.tape,a.output.trans h.output,Nat.le_trans h.size a.size,fun k b=>(a.block k (by omega)).trans (h.block k b)⟩
theorem qdp {w:World} (hG:L01.G w) (s:Bs) (hs:s.length<4611686018427387904):Calls Tryz.prog 22 #[.string (qc s)] w fun e w'=>e= .returned (.bool (jh s))∧qb w w':=by
 refine qCw fun ρ r0=> ?_;simp -implicitDefEqProofs [qqF,r0];refine (L01.qfC hG s hs).mono ?_;rintro _ w1 ⟨v,rfl,hv,hE1⟩;simp -implicitDefEqProofs [fV];refine qR L01.z31 fun F w2 hF V hb2 _=> ?_;simp -implicitDefEqProofs;refine jl (B:=F) (by simp) hb2 (by simp [Value.cells]) (by simp [Value.cells]) (by simpa [Value.cells] using L01.x4) fun w3 J ai=> ?_;simp [Value.cells] at ai;have c:qb w w3:=(J.ext V hF)|>hE1.trans'
 have hc0:w3.cell? ⟨F,0,none⟩=some (.int .i64 (ql s).err):=by rw [ai.cell];rfl
 simp -implicitDefEqProofs [hc0,r0];by_cases b:(ql s).err=0∧s.length≤100
 ·obtain ⟨U,ae⟩:=b;have H:¬(100:Int)<(s.length:Int):=by omega
  obtain ⟨a,cs,o⟩:∃a cs,ql s= .ok a cs:=by
   cases h:ql s with
   |ok a cs=>exact ⟨a,cs,rfl⟩
   |bad e l=>rw [h] at U;exact absurd U (qkR h)
  rw [o] at hv;have I:Own w.heap.size 53 3 w1 v (qB a):=hv;have Y:=qeD o;have aa:a.length≤20000:=by have:=(L01.QD s).1;rw [o] at this;exact this
  have ag:=I.isl;have hic:=vl ag;simp -implicitDefEqProofs [U,H,qqm,qF9 ag];refine vv fun B w4 hB hE4 ac _=> ?_;simp -implicitDefEqProofs [Value.cells,hic] at ac⊢;refine qR z83 fun P w5 hP hE5 hb5 _=> ?_;simp -implicitDefEqProofs;refine jl (B:=P) (by simp) hb5 (by simp [Value.cells]) (by simp [Value.cells]) (by simpa [Value.cells] using qvw) fun w6 hO6 S=> ?_;simp -implicitDefEqProofs [Value.cells] at S;have cP:w6.cell? ⟨P,0,none⟩=some (.pointer (some ⟨B,0,none⟩)):=by rw [S.cell];rfl
  have E:qb w4 w6:=hO6.ext hE5 hP;have z:qb w3 w6:=hE4.trans' E;have Z:=((I.ext ((J.ext V hF))).ext z);have ah:=ac.ext E;have hS:PSt B B w6 v (.slice none 0 0) a 0 0 []:=⟨ah,Own.down Z (Nat.zero_le _),Own.nil _ _ _ _,by simp,Nat.le_refl _,Nat.le_of_lt ah.lt,aa,Nat.zero_le _,Nat.zero_le _⟩;simp -implicitDefEqProofs [cP];have hkn:kind a (a.length+3) 0 0≠ .oof:=qmE (Nat.le_refl _) 0;refine (qyp hS (by kernel_rfl) fun W hE=>qy1 (qlZ (a.length+3)) hkn (hS.ext hE) (S.ext hE)).mono ?_;rintro _ w7 ⟨rfl,ad,w8,_,hsm,_⟩;have hB3:w3.heap.size≤B:=hB;have af:qb w w7:=by
   exact qtb (c.trans' z) ad (by have:=c.size;omega)
  have ab:kU a (kind a (a.length+3))=(match kind a (a.length+3) 0 0 with| .ok _ j _=>decide (a.length≤j)|_=>false):=by
   unfold kU bnd;cases h:kind a (a.length+3) 0 0 with
   |oof=>rfl
   |no g=>rfl
   |ok u j g=>
    simp only [Rs.andThen,bnd,fin];by_cases hj:j<a.length
    ·simp [hj,Rs.andThen]
    ·simp [hj,Rs.andThen,ret];omega
  have y:jh s=(kU a (kind a (a.length+3))&&decide (jR a=s)):=by
   unfold jh;rw [o,ab];simp [ae];rfl
  cases hk:kU a (kind a (a.length+3)) with
  |false=>
   rw [hk] at y;simp -implicitDefEqProofs [y];exact af
  |true=>
   rw [hk] at y hsm;have hv7:Own w.heap.size 53 3 w7 v (qB a):=Own.same Z fun k hk=>ad.block k (by have:=(I.blk k hk).2;have:=V.size;have:=J.size;omega);simp -implicitDefEqProofs [y];refine (qyE (SlK.own hv7 (by omega)) (qfP Y) aa).mono ?_;rintro _ w9 ⟨rfl,hE9⟩;simp -implicitDefEqProofs [r0];exact ⟨qJ,af.trans' hE9⟩
 ·have t:jh s=false:=by
   unfold jh;split
   ·rename_i a cs h;have:¬s.length≤100:=fun h1=>b ⟨by rw [h];rfl,h1⟩;simp [this]
   ·rfl
  rw [t];have hor:((ql s).err=0→(100:Int)<s.length):=fun h=>by
   have:¬s.length≤100:=fun h1=>b ⟨h,h1⟩;omega
  by_cases U:(ql s).err=0
  ·have:=hor U;simp -implicitDefEqProofs [U,this];exact c
  ·simp -implicitDefEqProofs [U];exact c
end Go.L02
