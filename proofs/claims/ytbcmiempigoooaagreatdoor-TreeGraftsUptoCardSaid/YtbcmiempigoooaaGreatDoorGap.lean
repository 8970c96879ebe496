/- Lemmas for a claim about layer 2 (tree). No conditions but those they state. -/
import Derived.Test.YtbcmiempigoooaaGreatDoorGao
import Derived.Lib.AtoiAll
import Derived.Lib.ItoaNum
import Derived.Test.YtbcmiempigoooaaGreatDoorProg
import Derived.KernelRfl
set_option linter.all false
namespace Go.L01
open Go.Eng Go.Lib
def vW (a:Nat) (l:Bs):Nat:=l.foldl (fun a c=>a*10+(c.toNat - 48)) a
theorem qca (a:Nat) (c:UInt8) (l:Bs):vW a (c::l)=vW (a*10+(c.toNat - 48)) l:=by unfold vW;rw [List.foldl_cons]
theorem qeM:∀(l:Bs) (a:Nat),a≤vW a l
 |[],a=>Nat.le_refl _
 |c::l,a=>by rw [qca];have:=qeM l (a*10+(c.toNat - 48));omega
theorem qiS:∀(l:Bs) (a:Nat),(∀c∈l,qM c=true)→vW a l<(a+1)*10^l.length
 |[],a,_=>by simp [vW]
 |c::l,a,h=>by
  have b:=h c (by simp);simp [qM] at b;rw [qca];have:=qiS l (a*10+(c.toNat - 48)) fun x e=>h x (by simp [e]);refine Nat.lt_of_lt_of_le this ?_;rw [List.length_cons,Nat.pow_succ,Nat.mul_comm (10^l.length) 10,←Nat.mul_assoc];exact Nat.mul_le_mul_right _ (by omega)
theorem qtl (a:Nat) (l:Bs) (c:UInt8):vW a (l++[c])=vW a l*10+(c.toNat - 48):=by simp [vW]
theorem qk4:∀(l:Bs) (a:Nat),(∀c∈l,qM c=true)→vW a l<10000000000→parseUint10 a l= .ok (vW a l)
 |[],a,_,_=>rfl
 |c::l,a,h,e=>by
  have b:=h c (by simp);simp [qM] at b;rw [qca] at e⊢;have o:=qeM l (a*10+(c.toNat - 48));rw [parseUint10,if_pos b,if_neg (by omega),if_neg (by omega)];exact qk4 l _ (fun x t=>h x (by simp [t])) e
theorem qlo {c:UInt8} (h:qM c=true):UInt8.ofNat (48+(c.toNat - 48))=c:=by
 simp [qM] at h;have:48+(c.toNat - 48)=c.toNat:=by omega
 rw [this];simp
theorem qsc:∀(n:Nat) (l:Bs),l.length=n→l≠[]→(∀c∈l,qM c=true)→(l.length=1∨l.getD 0 0≠48)→decDigits (vW 0 l)=l:=by
 intro n
 induction n with
 |zero=>intro l F u;exact absurd (List.length_eq_zero_iff.1 F) u
 |succ n W=>
  intro l F u E Z;rcases List.eq_nil_or_concat l with rfl|⟨t,c,rfl⟩
  ·exact absurd rfl u
  rw [List.concat_eq_append] at*;have o:qM c=true:=E c (by simp);rw [qtl];have y:=o;simp [qM] at y;by_cases H:t=[]
  ·subst H;simp only [vW,List.foldl_nil,List.nil_append];rw [decDigits,dif_pos (by omega),Nat.zero_mul,Nat.zero_add,qlo o]
  ·obtain ⟨a,b,rfl⟩:∃a b,t=a::b:=by cases t with|nil=>exact absurd rfl H|cons a b=>exact ⟨a,b,rfl⟩
   have J:a≠48:=by
    rcases Z with h|h
    ·simp at h
    ·simpa using h
   have z:=E a (by simp);simp [qM] at z;have S:a.toNat≠48:=fun e=>J (UInt8.toNat_inj.1 e);have hv:1≤vW 0 (a::b):=by
    rw [qca];have:=qeM b (0*10+(a.toNat - 48));omega
   have Y:=W (a::b) (by simp at F⊢;omega) (by simp) (fun x I=>E x (by simp at I⊢;rcases I with h|h<;>simp [h])) (.inr (by simpa using J));rw [decDigits,dif_neg (by omega)];have V:(vW 0 (a::b)*10+(c.toNat - 48)) / 10=vW 0 (a::b):=by omega
   have U:(vW 0 (a::b)*10+(c.toNat - 48))%10=c.toNat - 48:=by omega
   rw [V,U,Y,qlo o]
theorem qDm (u:Nat):∀c∈decDigits u,qM c=true:=by
 induction u using Nat.strongRecOn with
 |_ u b=>
  have one:∀d,d<10→qM (UInt8.ofNat (48+d))=true:=by decide
  rw [decDigits];split
  ·intro c a;rw [List.mem_singleton] at a;subst a;exact one u (by omega)
  ·intro c a;simp only [List.mem_append,List.mem_singleton] at a;rcases a with a|a
   ·exact b (u / 10) (by omega) c a
   ·subst a;exact one _ (by omega)
theorem qDl (u:Nat) (h:0<u):decDigits u≠[]∧(decDigits u).getD 0 0≠48:=by
 induction u using Nat.strongRecOn with
 |_ u y=>
  have one:∀d,0<d→d<10→UInt8.ofNat (48+d)≠48:=by
   intro d c b
   match d,c,b with
   |1,_,_|2,_,_|3,_,_|4,_,_|5,_,_|6,_,_|7,_,_|8,_,_|9,_,_=>decide
  rw [decDigits];split
  ·rename_i e;exact ⟨by simp,one u h e⟩
  ·obtain ⟨c,b⟩:=y (u / 10) (by omega) (by omega);cases o:decDigits (u / 10) with
   |nil=>exact absurd o c
   |cons a t=>
    rw [o] at b;exact ⟨by simp,by simpa using b⟩
theorem qsd (u:Nat):(decDigits u).length=nDigits u:=by rw [decDigits_eq];simp
theorem qDk {u:Nat} (h:u≤1000000000):(decDigits u).length≤10∧((decDigits u).length<10∨u=1000000000):=by
 rw [qsd];have y:=nDigits_pos u;by_cases t:u=1000000000
 ·have:nDigits u=9+1:=nDigits_unique 9 u (by omega) (by omega);omega
 ·have:nDigits u<10:=by
   rcases Nat.lt_or_ge (nDigits u) 10 with e|e
   ·exact e
   ·exfalso;have key:∀(n u:Nat),nDigits u=n+1→(n=0∨10^n≤u):=by
     intro n
     induction n with
     |zero=>intro u _;exact .inl rfl
     |succ n o=>
      intro u c;right;have a:¬u<10:=fun h=>by rw [nDigits_small h] at c;omega
      rw [nDigits_big a] at c;rcases o (u / 10) (by omega) with b|b
      ·subst b;simpa using a
      ·rw [Nat.pow_succ];omega
    rcases key (nDigits u - 1) u (by omega) with b|b
    ·omega
    ·have:(10:Nat)^9≤10^(nDigits u - 1):=Nat.pow_le_pow_right (by decide) (by omega);omega
  omega
theorem qsa {s:Bs}:jJ s=s.length↔∀c∈s,qM c=true:=by
 unfold jJ;constructor
 ·intro h c b;have a:s.takeWhile qM=s:=(List.takeWhile_prefix qM).eq_of_length h;have e:c∈s.takeWhile qM:=by rw [a];exact b
  exact List.all_eq_true.1 (List.all_takeWhile (p:=qM) (l:=s)) c e
 ·intro h;have:s.takeWhile qM=s:=by
   have:=List.takeWhile_append_of_pos (p:=qM) (l₁:=s) (l₂:=[]) h;simpa using this
  rw [this]
def qbw (s:Bs):Bool:=match atoiAll s with
 | .ok v=>decide (0≤v)&&decide (v≤1000000000)&&decide (itoa v=s)
 |_=>false
theorem qxV:decDigits 1000000000=most:=by
 have:vW 0 most=1000000000:=by decide
 rw [←this];exact qsc 10 most rfl (by decide) (by decide) (.inr (by decide))
theorem qlt (s:Bs):qbw s=jw s:=by
 rw [Bool.eq_iff_iff];constructor
 ·intro h;unfold qbw at h;split at h
  ·rename_i v W;simp only [Bool.and_eq_true,decide_eq_true_eq] at h;obtain ⟨⟨I,z⟩,b⟩:=h;rw [itoa,if_neg (by omega)] at b;have y:=qDm v.toNat;have J:=qDk (u:=v.toNat) (by omega);rw [b] at y J;have H:0<s.length:=by rw [←b,qsd];exact nDigits_pos _
   have V:=qsa.2 y;have F:1<s.length→s.getD 0 0≠48:=by
    intro z;rw [←b];refine (qDl v.toNat ?_).2;rcases Nat.eq_zero_or_pos v.toNat with h|h
    ·rw [←b,h,decDigits] at z;simp at z
    ·exact h
   have E:s.length<10∨s=most:=by
    rcases J.2 with h|h
    ·exact .inl h
    ·right;rw [←b,h,qxV]
   unfold jw;simp only [Bool.and_eq_true,Bool.not_eq_true',Bool.or_eq_false_iff,Bool.and_eq_false_iff,decide_eq_false_iff_not,Bool.or_eq_true,decide_eq_true_eq];exact ⟨⟨⟨⟨by omega,by omega⟩,by omega⟩,(Nat.lt_or_ge 1 s.length).elim (fun h=> .inr (F h)) fun h=> .inl (by omega)⟩,E⟩
  ·cases h
 ·intro h;unfold jw at h;simp only [Bool.and_eq_true,Bool.not_eq_true',Bool.or_eq_false_iff,Bool.and_eq_false_iff,decide_eq_false_iff_not,Bool.or_eq_true,decide_eq_true_eq] at h;obtain ⟨⟨⟨⟨I,U⟩,y⟩,F⟩,E⟩:=h;have a:=qsa.1 (Decidable.of_not_not y);have W:vW 0 s≤1000000000:=by
   rcases E with h|h
   ·have z:=qiS s 0 a;have b:(10:Nat)^s.length≤10^9:=Nat.pow_le_pow_right (by decide) (by omega);omega
   ·rw [h];decide
  have o:s≠[]:=fun e=>I (by rw [e];rfl);have t:=qsc s.length s rfl o a (by
   rcases F with h|h
   ·left;omega
   ·exact .inr h)
  obtain ⟨c,r,rfl⟩:∃c r,s=c::r:=by cases s with|nil=>exact absurd rfl o|cons c r=>exact ⟨c,r,rfl⟩
  have S:=a c (by simp);simp [qM] at S;have Y:atoiAll (c::r)= .ok (vW 0 (c::r):Int):=by
   unfold atoiAll;simp only [];rw [if_neg (by omega),parseMag,if_neg (by simp),qk4 _ 0 a (by omega)];simp only [];rw [if_neg (by omega),if_neg (by omega),if_neg (by omega)]
  unfold qbw;rw [Y];simp only [Bool.and_eq_true,decide_eq_true_eq];refine ⟨⟨by omega,by omega⟩, ?_⟩;rw [itoa,if_neg (by omega)];exact t
end Go.L01
namespace Go.L01
open Go Go.Eng Go.Proofs Go.RowKit
set_option maxRecDepth 100000
set_option maxHeartbeats 2000000
theorem qtG (l:List Bs) (k:Nat) (h:k<l.length) (s:Bs):(l.take (k+1)).contains s=((l.take k).contains s||decide (l[k]=s)):=by
 rw [List.take_add_one,List.getElem?_eq_getElem h,Bool.eq_iff_iff];simp only [Option.toList_some,List.contains_eq_mem,List.mem_append,List.mem_singleton,decide_eq_true_eq,Bool.or_eq_true];exact or_congr Iff.rfl ⟨fun h=>h.symm,fun h=>h.symm⟩
theorem qtR {w:World} (hG:G w):Calls Tryz.prog 233 #[] w fun e w'=>∃B ps,e= .returned (.map (some B))∧qb w w'∧MapB w' B ps∧∀s,jP ps (qc s)=if jL s then some (.bool true) else none:=by
 refine qAq fun ρ=> ?_;simp [qoX];refine qhX fun B W hB hE hm hsz=> ?_;simp;refine (qtN (hG.ext hE)).mono ?_;rintro _ W2 ⟨v,rfl,hO,t⟩;have hl:=Own.sl (enc:=qi) (xs:=vM) hO (by decide);simp [hl.is,hl.len];refine js 7 46 (fun k b w'=>qb w w'∧B<w'.heap.size∧b 1= .map (some B)∧b 5=v∧b 6= .int .i64 46∧Own W.heap.size 9 1 w' v (vM.map qi)∧∃ps,MapB w' B ps∧∀s,jP ps (qc s)=if (vM.take k).contains s then some (.bool true) else none)
  (by simp) ⟨hE.trans' t,by have:=t.size;omega,by simp,by simp,by simp [qth],hO,[],hm.ext t,by simp⟩ ?_
 rintro k b w' hk Y ⟨z,V,h1,h5,Z,F,ps,H,u⟩;have c:=Own.sl (enc:=qi) (xs:=vM) F (by decide);by_cases y:k<46
 ·have a:k<vM.length:=y;have I:(k:Int)<46:=by omega
  simp [I,qgZ,qoV,h1,h5,Z,Y,y,c.is,c.len,a,c.cell k a,qi];refine qhW (s:=qc vM[k]) (kt:=9) (et:=4) (by kernel_rfl) (by kernel_rfl) (by simp) (by simp) H fun W6 o E=> ?_;simp at E;simp [qoW,h1,h5,Z,Y,qr (n:=(k:Int)+1) (by omega)];refine ⟨o.ext z hB,by rw [o.size];exact V,by simpa [qi] using F.only o (by omega),_,E,fun s=> ?_⟩;have U:=qtG vM k a s;simp only [List.contains_eq_mem] at U u;rw [qdd,u];by_cases S:vM[k]=s
  ·simp [S];have:s∈List.take (k+1) vM:=by simpa [S] using U
   exact this
  ·have:¬qc vM[k]=qc s:=fun h=>S (jp.1 h);simp [this];have J:(s∈List.take (k+1) vM)↔s∈List.take k vM:=by simpa [S] using U
   simp [J]
 ·have hk':k=46:=by omega
  subst hk';simp [qgZ,Z,Y,qoU,h1];exact ⟨z,ps,H,u⟩
@[simp] theorem qHW:qg Tryz.prog 229=true:=by kernel_rfl
@[simp] theorem qDM:qg Tryz.prog 160=true:=by kernel_rfl
@[simp] theorem qH7:qg Tryz.prog 165=true:=by kernel_rfl
@[simp] theorem qHV:qg Tryz.prog 231=true:=by kernel_rfl
@[simp] theorem qH8:qg Tryz.prog 163=true:=by kernel_rfl
@[simp] theorem qH4:qg Tryz.prog 168=true:=by kernel_rfl
@[simp] theorem qHu:qg Tryz.prog 77=true:=by kernel_rfl
@[simp] theorem qHt:qg Tryz.prog 79=true:=by kernel_rfl
@[simp] theorem qHC:qg Tryz.prog 309=true:=by kernel_rfl
@[simp] theorem qHO:qg Tryz.prog 245=true:=by kernel_rfl
@[simp] theorem qHP:qg Tryz.prog 244=true:=by kernel_rfl
@[simp] theorem qDL:qg Tryz.prog 273=true:=by kernel_rfl
@[simp] theorem qH2:qg Tryz.prog 171=true:=by kernel_rfl
theorem qjh {w:World} (b:G w) (s:Bs):Calls Tryz.prog 166 #[.string (qc s)] w fun e w'=>e= .returned (.bool (jL s))∧qb w w':=by
 refine qBc fun ρ c=> ?_;simp [qpX];refine (qtR b).mono ?_;rintro _ w1 ⟨B,ps,rfl,o,h,a⟩;simp [c];refine qhY (s:=qc s) (kt:=9) (et:=4) (z:= .bool false) (by kernel_rfl) (by kernel_rfl) (by kernel_rfl) (by simp) (by simp) h false ?_;simp [a];cases t:jL s<;>simp [o]
theorem qkC {w:World} (s:Bs):Calls Tryz.prog 169 #[.string (qc s)] w fun e w'=>e= .returned (.bool (jL s))∧qb w w':=by
 refine qA6 fun ρ b=> ?_;simp [qpU];refine qv7.mono ?_;rintro _ w1 ⟨v,rfl,a⟩;simp [b];refine (qfF s (a.sl (by decide))).mono ?_;rintro _ w2 ⟨rfl,rfl⟩;simp;exact ⟨by rw [jL,List.contains_eq_mem],a.2⟩
theorem quI {w:World} {v:Value} {l:List Bs} (s:Bs) (o:qQ w v l):Calls Tryz.prog 229 #[v, .string (qc s)] w fun e w'=>∃n:Int,e= .returned (.int .i64 n)∧(0≤n↔l.contains s=true)∧w'=w:=by
 have J:=o.bd;refine qo5 fun ρ u z=> ?_;simp [qdO,u,o.is,o.len];refine js 8 l.length (fun k a w'=>w'=w∧a 0=v∧a 1= .string (qc s)∧a 7= .int .i64 l.length∧∀j (y:j<l.length),j<k→l[j]≠s) (by simp) ⟨rfl,by simp [u],by simp [z],by simp,by simp⟩ ?_;rintro k a w' V I ⟨rfl,u,z,F,b⟩;by_cases t:k<l.length
 ·simp [qbJ,qdM,I,F,u,z,o.is,o.len,t,o.cell k t,qi,jp];by_cases H:l[k]=s
  ·have c:s=l[k]:=H.symm;simp [c]
  ·have c:¬s=l[k]:=fun h=>H h.symm;simp [c,qdN,I,qr (n:=(k:Int)+1) (by omega),u,z,F];intro j y U;by_cases e:j=k
   ·subst e;exact H
   ·exact b j y (by omega)
 ·have E:k=l.length:=by omega
  subst E;simp [qbJ,I,F,qdL];intro S;obtain ⟨j,y,rfl⟩:=List.getElem_of_mem S;exact b j y y rfl
theorem qfi {w:World} {v:Value} {l:List Bs} (s:Bs) (c:qQ w v l):Calls Tryz.prog 160 #[v, .string (qc s)] w fun e w'=>e= .returned (.bool (l.contains s))∧w'=w:=by
 refine qp2 fun ρ b a=> ?_;simp [qdV,b,a];refine (quI s c).mono ?_;rintro _ _ ⟨n,rfl,h,rfl⟩;simp;simpa using h
theorem qtv (c:UInt8):IntKind.u8.wrap (c.toNat:Int)=c.toNat:=by
 have a:=c.toNat_lt;exact u8w (by omega)
theorem qtU (c:UInt8) (w:World):Calls Tryz.prog 164 #[.int .i32 (c.toNat:Int)] w fun e w'=>e= .returned (.bool (!part c))∧w'=w:=by
 refine qpZ fun ρ o=> ?_;by_cases h:c.toNat≤126
 ·have b:(c.toNat:Int)≤126:=by omega
  have a:¬126<(c.toNat:Int):=by omega
  simp [qdU,o,b,a,qtv];refine (qjg c w).mono ?_;rintro _ _ ⟨rfl,rfl⟩;simp [a]
 ·have b:¬(c.toNat:Int)≤126:=by omega
  have a:126<(c.toNat:Int):=by omega
  simp [qdU,o,b,a,part,vc,qM];omega
theorem qtT {r:Int} (c:126<r) (w:World):Calls Tryz.prog 164 #[.int .i32 r] w fun e w'=>e= .returned (.bool true)∧w'=w:=by
 refine qpZ fun ρ b=> ?_;have a:¬r≤126:=by omega
 simp [qdU,b,a,c]
def qfM (w:World) (B:Nat):Nat:=match w.heap[B]? with
 |some (.stringIter _ k)=>k
 |_=>0
theorem qk1 {w:World} {B k:Nat} {s:ByteArray} (h:w.heap[B]? =some (.stringIter s k)):qfM w B=k:=by simp [qfM,h]
theorem quH {w:World} (s:Bs):Calls Tryz.prog 231 #[.string (qc s), .func (.func 164) #[] #[], .bool true] w fun e w'=>∃n:Int,e= .returned (.int .i64 n)∧(n<0↔s.all part=true)∧qb w w':=by
 have c:(qc s).size=s.length:=rfl;refine qAu fun ρ h0 S F=> ?_;simp [qo2,h0];refine qC1 (s:=qc s) (by kernel_rfl) (by simp) fun B W V hE hit=> ?_;simp;refine QJ (fun u w'=>∃k,k≤s.length∧qb w w'∧u 1= .func (.func 164) #[] #[]∧u 2= .bool true∧u 10= .pointer (some ⟨B,0,none⟩)∧w'.heap[B]? =some (.stringIter (qc s) k)∧∀j (J:j<s.length),j<k→part s[j]=true)
  (fun _ w'=>s.length - qfM w' B) ⟨0,Nat.zero_le _,hE,by simp [S],by simp [F],by simp,hit,by simp⟩ ?_
 rintro u w' ⟨k,hk,t,S,F,I,hit,y⟩;have H:=qk1 hit;simp [qoZ];refine qC2 (s:=qc s) (by simpa using I) hit (fun b W2 U o=> ?_) (fun b=> ?_)
 ·rw [c] at b;have a:(qc s)[k]'(by rw [c];exact b)=s[k]:=by
   show (qc s).data[k]=_;simp [qc]
  simp [qo1,S,F];refine x9 (f:=164) (by kernel_rfl) (fs:= #[]) (caps:= #[]) (by simp) ?_;simp;by_cases ha:s[k].toNat<128
  ·have Z:=decode_ascii (qc s) k (by rw [c];exact b) (by rw [a];exact ha);rw [a] at Z;rw [Z] at o⊢;refine (qtU s[k] W2).mono ?_;rintro _ _ ⟨rfl,rfl⟩;cases z:part s[k] with
   |true=>
    simp [z,F,H];refine ⟨⟨k+1,by omega,U.ext t V,S,I,o, ?_⟩, ?_⟩
    ·intro j J hjk;by_cases e:j=k
     ·subst e;exact z
     ·exact y j J (by omega)
    ·rw [qk1 o];omega
   |false=>
    simp [z,F];have E:¬∀x∈s,part x=true:=fun h=>by
     rw [h s[k] (List.getElem_mem _)] at z;cases z
    refine ⟨by simpa using E,U.ext t V⟩
  ·obtain ⟨Y,hw⟩:=decode_high (qc s) k (by rw [c];exact b) (by rw [a];omega);refine (qtT (r:=((Utf8.decode (qc s) k).1:Int)) (by omega) W2).mono ?_;rintro _ _ ⟨rfl,rfl⟩;simp [F];have z:part s[k]=false:=by simp [part,vc,qM];omega
   have E:¬∀x∈s,part x=true:=fun h=>by
    rw [h s[k] (List.getElem_mem _)] at z;cases z
   refine ⟨by simpa using E,U.ext t V⟩
 ·rw [c] at b;simp [qo0];refine ⟨fun x hx=> ?_,t⟩;obtain ⟨j,J,rfl⟩:=List.getElem_of_mem hx;exact y j J (by omega)
theorem quK {w:World} (s:Bs):Calls Tryz.prog 163 #[.string (qc s), .func (.func 164) #[] #[]] w fun e w'=>∃n:Int,e= .returned (.int .i64 n)∧(n<0↔s.all part=true)∧qb w w':=by
 refine qBh fun ρ b a=> ?_;simp [qp0,b,a];refine (quH s).mono ?_;rintro _ w' ⟨n,rfl,h,c⟩;simp;exact ⟨by simpa using h,c⟩
theorem qvf {s:Bs}:qN s=s.length↔s.all part=true:=by
 unfold qN;rw [List.all_eq_true];constructor
 ·intro h c b;have a:s.takeWhile part=s:=(List.takeWhile_prefix part).eq_of_length h;have e:c∈s.takeWhile part:=by rw [a];exact b
  exact List.all_eq_true.1 (List.all_takeWhile (p:=part) (l:=s)) c e
 ·intro h;have:s.takeWhile part=s:=by
   have:=List.takeWhile_append_of_pos (p:=part) (l₁:=s) (l₂:=[]) h;simpa using this
  rw [this]
theorem Qo {w:World} (S:G w) (s:Bs):Calls Tryz.prog 77 #[.string (qc s)] w fun e w'=>e= .returned (.bool (qh s))∧qb w w':=by
 refine qyV fun ρ u=> ?_;by_cases J:0<s.length∧s.length≤12
 ·obtain ⟨t,y⟩:=J;have a:0<(s.length:Int):=by omega
  have c:(s.length:Int)≤12:=by omega
  have I:s.getD 0 0=s[0]:=by simp [List.getD_eq_getElem?_getD,t]
  simp [qdx,u,t,y,a,c];refine (qeW s[0] w).mono ?_;rintro _ _ ⟨rfl,rfl⟩;cases F:vc s[0] with
  |false=>
   have o:qh s=false:=by unfold qh;rw [I,F];simp
   simp [o];exact qA _
  |true=>
   simp [u];refine (quK s).mono ?_;rintro _ w1 ⟨n,rfl,o,z⟩;have H:(n<0)↔qN s=s.length:=o.trans qvf.symm;by_cases b:n<0
   ·simp [b,u];refine (qjh (S.ext z) s).mono ?_;rintro _ w2 ⟨rfl,E⟩;simp [qh,t,y,I,F,H.1 b];exact z.trans' E
   ·have:¬qN s=s.length:=fun h=>b (H.2 h);simp [b,qh,this];exact z
 ·have o:qh s=false:=by
   unfold qh;rcases Nat.eq_zero_or_pos s.length with h|h
   ·simp [h]
   ·have:¬s.length≤12:=fun y=>J ⟨h,y⟩;simp [this]
  by_cases t:0<s.length
  ·have a:0<(s.length:Int):=by omega
   have c:¬(s.length:Int)≤12:=by omega
   simp [qdx,u,t,a,c,o];exact qA _
  ·have a:¬0<(s.length:Int):=by omega
   simp [qdx,u,t,a,o];exact qA _
theorem qcM {w:World} (s:Bs):Calls Tryz.prog 79 #[.string (qc s)] w fun e w'=>e= .returned (.bool (qh s))∧qb w w':=by
 refine qyR fun ρ o=> ?_;by_cases I:0<s.length∧s.length≤12
 ·obtain ⟨t,z⟩:=I;have a:0<(s.length:Int):=by omega
  have c:(s.length:Int)≤12:=by omega
  have H:s.getD 0 0=s[0]:=by simp [List.getD_eq_getElem?_getD,t]
  simp [qdw,o,t,z,a,c];refine (qfE s[0] w).mono ?_;rintro _ _ ⟨rfl,rfl⟩;cases F:vc s[0] with
  |false=>
   have y:qh s=false:=by unfold qh;rw [H,F];simp
   simp [y];exact qA _
  |true=>
   simp [o];refine (qkB s (by omega) _).mono ?_;rintro _ _ ⟨rfl,rfl⟩;by_cases b:qN s=s.length
   ·simp [b,o];refine (qkC s).mono ?_;rintro _ w2 ⟨rfl,E⟩;simp [qh,t,z,H,F,b];exact E
   ·have u:¬(qN s:Int)=(s.length:Int):=by omega
    simp [b,u,o,qh];exact qA _
 ·have y:qh s=false:=by
   unfold qh;rcases Nat.eq_zero_or_pos s.length with h|h
   ·simp [h]
   ·have:¬s.length≤12:=fun z=>I ⟨h,z⟩;simp [this]
  by_cases t:0<s.length
  ·have a:0<(s.length:Int):=by omega
   have c:¬(s.length:Int)≤12:=by omega
   simp [qdw,o,t,a,c,y];exact qA _
  ·have a:¬0<(s.length:Int):=by omega
   simp [qdw,o,t,a,y];exact qA _
theorem quJ {w:World} (y:G w) (s:Bs) (z:s.length≤281474976710656):Calls Tryz.prog 273 #[.string (qc s)] w fun e w'=>qb w w'∧∃(n:Int) (x:Value),e= .returned (.tuple #[.int .i64 n,x])∧
  ((Lib.atoiAll s= .ok n∧x= .nilIface)∨((∀v,Lib.atoiAll s≠ .ok v)∧∃u p,x= .iface u p)):=by
 cases o:Lib.atoiAll s
 ·rename_i v;refine (Tryz.atoi_ok (qc s) (by show s.length≤_;omega) v o w).mono ?_;rintro _ w' ⟨rfl,F⟩;refine ⟨?_,v,_,rfl, .inl ⟨rfl,rfl⟩⟩;rcases F with rfl|⟨t,rfl⟩
  ·exact qA _
  ·exact ⟨rfl,rfl,rfl,by rw [Lib.bytesWorld_size];omega,fun k E=>Lib.bytesWorld_at_old _ _ _ _ E⟩
 ·obtain ⟨a,c,h⟩:=y.es;refine (Tryz.atoi_syntax (qc s) z o _ w h (.inr ⟨a,c,rfl⟩)).mono ?_;rintro _ w' ⟨N,rfl,_,_,b⟩;exact ⟨b,_,_,rfl, .inr ⟨by simp,_,_,rfl⟩⟩
 ·obtain ⟨a,c,h⟩:=y.er;refine (Tryz.atoi_range (qc s) z o _ w h (.inr ⟨a,c,rfl⟩)).mono ?_;rintro _ w' ⟨N,rfl,_,_,b⟩;exact ⟨b,_,_,rfl, .inr ⟨by simp,_,_,rfl⟩⟩
theorem quG {w:World} (b:G w) {n:Int} (h:0≤n) (a:n≤9223372036854775807):Calls Tryz.prog 171 #[.int .i64 n] w fun e w'=>e= .returned (.string (qc (Lib.itoa n)))∧qb w w':=by
 refine (Tryz.itoa n (by omega) a w b.pow).mono ?_;rintro _ w' ⟨rfl,k,os,rfl⟩;refine ⟨rfl,rfl,rfl,rfl,by simp [Sort.grow,World.drewN],fun j c=> ?_⟩;rw [Sort.heap_grow_old _ _ (by simpa [World.drewN] using c)];rfl
theorem qtW {w:World} (E:G w) (s:Bs) (F:s.length≤281474976710656):Calls Tryz.prog 309 #[.string (qc s)] w fun e w'=>e= .returned (.bool (jw s))∧qb w w':=by
 refine qzu fun ρ z=> ?_;simp [qnP,z];refine (quJ E s F).mono ?_;rintro _ w1 ⟨b,n,x,rfl,⟨y,rfl⟩|⟨y,u,p,rfl⟩⟩
 ·have a:jw s=(decide (0≤n)&&decide (n≤1000000000)&&decide (Lib.itoa n=s)):=by
   rw [←qlt,qbw,y]
  simp;refine qrZ (by kernel_rfl) (by simp) ?_;by_cases c:0≤n
  ·by_cases o:n≤1000000000
   ·simp [c,o];refine (quG (E.ext b) c (by omega)).mono ?_;rintro _ w2 ⟨rfl,t⟩;simp [z,a,c,o,jp];exact b.trans' t
   ·simp [c,o,a];exact b
  ·simp [c,a];exact b
 ·have a:jw s=false:=by
   rw [←qlt,qbw];cases h:Lib.atoiAll s with
   |ok v=>exact absurd h (y v)
   |_=>rfl
  simp;refine qrY (by kernel_rfl) (by simp;exact ⟨rfl,rfl⟩) ?_;simp [a];exact b
theorem qv9 (s:Bs) (hs:s.length<4611686018427387904) (w:World):Calls Tryz.prog 245 #[.string (qc s)] w fun e w'=>e= .returned (.bool (jw s))∧w'=w:=by
 refine qz7 fun ρ a=> ?_;have g0:(s.length=0)=((s.length:Int)=0):=by rw [eq_iff_iff];omega
 by_cases E:s.length=0∨10<s.length
 ·have U:jw s=false:=by
   unfold jw;rcases E with h|h<;>simp [h]
  rcases E with h|h
  ·have h':s=[]:=List.length_eq_zero_iff.1 h;subst h';simp [qdF,a,U]
  ·have J:(10:Int)<s.length:=by omega
   have F:s≠[]:=fun e=>by subst e;simp at h
   simp [qdF,a,U,J,F]
 ·have J:¬s.length=0:=fun h=>E (.inl h);have F:¬10<s.length:=fun h=>E (.inr h);have y:s≠[]:=fun e=>J (by rw [e];rfl);have I:¬(10:Int)<s.length:=by omega
  have u:0<s.length:=by omega
  simp [qdF,a,y,I];refine (qkD s hs w).mono ?_;rintro _ w2 ⟨rfl,rfl⟩;have Y:s[0]? =some s[0]:=List.getElem?_eq_getElem u;have Z:s.getD 0 0=s[0]:=by simp [List.getD_eq_getElem?_getD,u]
  have hb:jw s=(!(decide (jJ s≠s.length)||(decide (1<s.length)&&decide (s[0]=48)))&&(decide (s.length<10)||decide (s=most))):=by
   unfold jw;rw [Z];simp [y,F]
  rw [hb];by_cases z:jJ s=s.length
  ·have S:=xS s[0] 48 (by decide);have V:∀ρ:qa,ρ 0= .string (qc s)→qdE.wp ⟨Tryz.prog,35,qov,[]⟩ (qC [.tmp 2] fun e w'=>e= .returned (.bool (decide (s.length<10)||decide (s=most)))∧w'=w2) (je [.tmp 2] fun e w'=>e= .returned (.bool (decide (s.length<10)||decide (s=most)))∧w'=w2) ρ w2:=by
    intro ρ a;by_cases W:s.length<10
    ·have t:(s.length:Int)<10:=by omega
     simp [qdE,a,W,t]
    ·have t:¬(s.length:Int)<10:=by omega
     have e:(⟨#[49,48,48,48,48,48,48,48,48,48]⟩:ByteArray)=qc most:=rfl;simp [qdE,a,W,t,e,jp]
   by_cases o:1<s.length
   ·have c:(1:Int)<s.length:=by omega
    by_cases b:s[0]=48
    ·have:(s[0].toNat:Int)=48:=S.2 b;simp [z,a,o,c,b,this,Y]
    ·have:¬(s[0].toNat:Int)=48:=fun h=>b (S.1 h);simp [z,a,o,c,b,this,Y];exact V _ (by simp [a])
   ·have c:¬(1:Int)<s.length:=by omega
    simp [z,a,o,c];exact V _ (by simp [a])
  ·have H:¬(jJ s:Int)=s.length:=by omega
   simp [a,z,H]
def qat (t:Tok):Value:= .agg #[.int .u8 (t.kind:Int), .string (qc t.text), .int .i64 t.line]
@[simp] theorem qHF:qg Tryz.prog 306=true:=by kernel_rfl
@[simp] theorem qHH:qg Tryz.prog 304=true:=by kernel_rfl
@[simp] theorem qHE:qg Tryz.prog 307=true:=by kernel_rfl
@[simp] theorem qHI:qg Tryz.prog 303=true:=by kernel_rfl
@[simp] theorem qHG:qg Tryz.prog 305=true:=by kernel_rfl
@[simp] theorem qHD:qg Tryz.prog 308=true:=by kernel_rfl
@[simp] theorem qHA:qg Tryz.prog 311=true:=by kernel_rfl
@[simp] theorem qHY:qg Tryz.prog 198=true:=by kernel_rfl
abbrev kL (s:Bs) (at' line:Int) (cv:Value):Array Value:= #[.string (qc s), .int .i64 at', .int .i64 line,cv]
theorem vX:jG Tryz.prog 3 1=true:=by kernel_rfl
theorem qbS (s:Bs) (k:Nat):(qc s).extract k s.length=qc (s.drop k):=by
 apply ByteArray.ext;apply Array.ext';show ((qc s).extract k s.length).data.toList=_;simp [qc];exact List.take_of_length_le (by simp)
theorem QX (s:Bs) (k n:Nat):(qc s).extract k (k+n)=qc ((s.drop k).take n):=by
 apply ByteArray.ext;apply Array.ext';show ((qc s).extract k (k+n)).data.toList=_;simp [qc]
theorem Je {w:World} {B k:Nat} {s:Bs} {line:Int} {cv:Value} (a:Blk w B (kL s k line cv) 217) (c:k≤s.length):
  Calls Tryz.prog 306 #[.pointer (some ⟨B,0,none⟩)] w fun e w'=>e= .returned (.string (qc (s.drop k)))∧qb w w':=by
 refine qzA fun ρ b=> ?_;simp [qnW,b,a.cell,c,qnV,qbS]
theorem qtS {w:World} {B k n:Nat} {s:Bs} {line:Int} {cv:Value} (F:Blk w B (kL s k line cv) 217) (V:k+n≤s.length) (Y:s.length<4611686018427387904) (W:0≤line∧line≤4611686018427387904):
  Calls Tryz.prog 304 #[.pointer (some ⟨B,0,none⟩), .int .i64 (n:Int)] w fun e w'=>e= .returned (.string (qc ((s.drop k).take n)))∧Blk w' B (kL s ((k:Int)+(n:Int)) (line+((((s.drop k).take n).count 10:Nat):Int)) cv) 217∧w.grownBy w' (some B):=by
 have y:(k:Int)+(n:Int)≤s.length:=by omega
 have o:(0:Int)≤(k:Int)+(n:Int):=by omega
 have z:(k:Int)≤(k:Int)+(n:Int):=by omega
 have S:((k:Int)+(n:Int)).toNat=k+n:=by omega
 refine qzD fun ρ u I=> ?_;simp [qn2,u,I,F.cell,qr (n:=(k:Int)+(n:Int)) (by omega),y,o,z,S,QX];intro w1 c;simp [qnY];refine vF qzC (qb w1) fun w2 a _=>⟨a, ?_⟩;have J:∀w',qb w1 w'→∀i,w'.cell? ⟨B,i,none⟩=(kL s k line cv)[i]? :=fun w' h=>((F.ext c).ext h).cell;simp+contextual [qnX,u,J,a];refine (Tryz.count_one (qc ((s.drop k).take n)) 10 w2).mono ?_;rintro _ _ ⟨rfl,rfl⟩;have U:((s.drop k).take n).count 10≤s.length:=by
  refine Nat.le_trans List.count_le_length ?_;simp;omega
 simp+contextual [Lib.countByte,u,a,qr (n:=line+((((s.drop k).take n).count 10:Nat):Int)) (by omega)];refine qP (B:=B) (i:=2) (by simp) ((F.ext c).ext a) (by simp) rfl rfl vX fun W3 E b=> ?_;simp at b;simp [qnZ,u,I,b.cell,qr (n:=(k:Int)+(n:Int)) (by omega)];refine qP (B:=B) (i:=1) (by simp) b (by simp) rfl rfl vX fun W4 H t=> ?_;simp at t⊢;exact ⟨t,qrA (qrA (qrB (qrB (qCC _ w) c) a) E) H⟩
def qiG (f:Value) (p:UInt8→Bool):Prop:=∃i,f= .func (.func i) #[] #[]∧qg Tryz.prog i=true∧∀c w,Calls Tryz.prog i #[ji c] w fun e w'=>e= .returned (.bool (p c))∧w'=w
theorem qDC:qiG (.func (.func 165) #[] #[]) part:=⟨165,rfl,by kernel_rfl,qjg⟩
theorem qDD:qiG (.func (.func 232) #[] #[]) qM:=⟨232,rfl,by kernel_rfl,qeY⟩
theorem qjf {w:World} {B k:Nat} {s:Bs} {line:Int} {cv f:Value} {p:UInt8→Bool} (Z:Blk w B (kL s k line cv) 217) (J:k≤s.length) (hs:s.length<4611686018427387904) (V:qiG f p):
  Calls Tryz.prog 307 #[.pointer (some ⟨B,0,none⟩),f] w fun e w'=>e= .returned (.int .i64 (((s.drop k).takeWhile p).length:Int))∧qb w w':=by
 obtain ⟨i,rfl,E,H⟩:=V;refine qzy fun ρ W u=> ?_;simp [qnU,W];refine (Je Z J).mono ?_;rintro _ w1 ⟨rfl,U⟩;simp;generalize z:s.drop k=r;have Y:r.length≤s.length:=by rw [←z];simp
 refine js 11 r.length (fun k b w'=>w'=w1∧b 1= .func (.func i) #[] #[]∧b 5= .string (qc r)∧b 10= .int .i64 r.length∧∀j (t:j<r.length),j<k→p r[j]=true) (by simp) ⟨rfl,by simp [u],by simp [z],by simp [←z],by simp⟩ ?_;rintro k b w' J c ⟨rfl,u,F,o,a⟩;by_cases y:k<r.length
 ·simp [qgB,qnS,c,o,F,u,y];refine x9 (f:=i) E (fs:= #[]) (caps:= #[]) (by simp) ?_;simp;refine (H r[k] _).mono ?_;rintro _ _ ⟨rfl,rfl⟩;cases S:p r[k] with
  |true=>
   simp [qnT,c,u,F,o,qr (n:=(k:Int)+1) (by omega)];intro j t aa;by_cases e:j=k
   ·subst e;exact S
   ·exact a j t (by omega)
  |false=>
   simp;exact ⟨(wR r k (by omega) (fun j t h=>a j t h) fun _=>S).symm,U⟩
 ·have I:k=r.length:=by omega
  subst I;simp [qgB,c,o,F,qnR];exact ⟨(wR r r.length (Nat.le_refl _) (fun j t h=>a j t h) fun h=>by omega).symm,U⟩
theorem qK {t n B:Nat} {ρ:qa} {w:World} {cs:Array Value} {T:TypeId} {R:Ending→World→Prop} (b:ρ t= .pointer (some ⟨B,0,none⟩)) (a:Blk w B cs T) (c:cs.size=n) (h:R (.returned (.agg cs)) w):qC [.cellN t n] R ρ w:=by
 subst c;simp only [qC,vC,RV.val,b,qbl,xr a,Option.map_some,Option.bind_some];exact h
theorem qiK:vL Tryz.prog 289=some #[.nilFunc, .nilFunc, .nilFunc]:=by kernel_rfl
theorem qD8:Tryz.prog.built 289 [(0, .func (.func 165) #[] #[]),(1, .func (.func 232) #[] #[]),(2, .func (.func 346) #[] #[])]=some #[.func (.func 165) #[] #[], .func (.func 232) #[] #[], .func (.func 346) #[] #[]]:=by kernel_rfl
theorem qjl:jG Tryz.prog 289 3=true:=by kernel_rfl
theorem qiw (a b:Int):Tryz.prog.built 26 [(0, .int .i64 a),(1, .int .i64 b)]=some #[.int .i64 a, .int .i64 b]:=by kernel_rfl
theorem qD2 (a b:Int):Tryz.prog.built 212 [(0, .agg #[.int .i64 a, .int .i64 b])]=some #[.int .i64 a, .int .i64 b]:=by kernel_rfl
theorem qji {w:World}:Calls Tryz.prog 303 #[] w fun e w'=>e= .returned (.agg #[.func (.func 165) #[] #[], .func (.func 232) #[] #[], .func (.func 346) #[] #[]])∧qb w w':=by
 refine qzE fun ρ=> ?_;simp [qn3];refine qT qiK fun B W o c b _=> ?_;simp [qD8];refine jn (B:=B) (by simp) b (by simp [Value.cells]) (by simp [Value.cells];decide) (by simpa [Value.cells] using qjl) fun W2 h a=> ?_;simp [Value.cells] at a;simp;refine qK (by simp) a rfl ?_;exact ⟨rfl,h.ext c o⟩
theorem qeX {w:World} {B:Nat} {s:Bs} {a line e:Int} {cv:Value} (c:Blk w B (kL s a line cv) 217):
  Calls Tryz.prog 308 #[.pointer (some ⟨B,0,none⟩), .int .i64 e] w fun o w'=>o= .panicked [{v:= .iface 212 (.agg #[.int .i64 e, .int .i64 line]),recovered:=false}]∧w'=w:=by
 refine qzw fun ρ h b=> ?_;simp [qnQ,h,b,c.cell,qiw,qD2];refine qhV (by simp;exact ⟨rfl,rfl⟩) ?_;simp
structure Sc (base B:Nat) (W:World) (s:Bs) (k:Nat) (line:Int) (coms:List Bs) (cv:Value):Prop where
 blk:Blk W B (kL s k line cv) 217
 own:Own base 9 1 W cv (coms.map qi)
 ne:cv.ownBlock≠some B
 bB:base≤B
 bW:base≤W.heap.size
 kl:k≤s.length
 sl:s.length≤20000
 l0:1≤line
 l1:line≤(k:Int)+1
 cl:coms.length≤k
structure Tn (B:Nat) (cv cv':Value) (W W':World):Prop where
 os:W'.os=W.os
 tape:W'.tape=W.tape
 output:W'.output=W.output
 size:W.heap.size≤W'.heap.size
 block:∀k,k<W.heap.size→k≠B→cv.ownBlock≠some k→W'.heap[k]? =W.heap[k]?
 own:cv'.ownBlock=cv.ownBlock∨∀k,cv'.ownBlock=some k→W.heap.size≤k
theorem Tn.refl (B:Nat) (cv:Value) (W:World):Tn B cv cv W W:=⟨rfl,rfl,rfl,Nat.le_refl _,fun _ _ _ _=>rfl, .inl rfl⟩
theorem Tn.trans {B:Nat} {a b c:Value} {U V W:World} (h:Tn B a b U V) (k:Tn B b c V W):Tn B a c U W:=by
 refine ⟨k.os.trans h.os,k.tape.trans h.tape,k.output.trans h.output,Nat.le_trans h.size k.size,fun i t y z=> ?_, ?_⟩
 ·rw [k.block i (Nat.lt_of_lt_of_le t h.size) y ?_,h.block i t y z];rcases h.own with o|o
  ·rw [o];exact z
  ·intro e;have:=o i e;omega
 ·rcases k.own with u|u
  ·rcases h.own with o|o
   ·exact .inl (u.trans o)
   ·exact .inr fun i t=>o i (u▸t)
  ·exact .inr fun i t=>Nat.le_trans h.size (u i t)
theorem Tn.ext {B:Nat} {a:Value} {U V:World} (h:qb U V):Tn B a a U V:=⟨h.os,h.tape,h.output,h.size,fun k b _ _=>h.block k b, .inl rfl⟩
theorem Tn.gb {B:Nat} {a:Value} {U V:World} (h:U.grownBy V (some B)):Tn B a a U V:=⟨h.os,h.tape,h.output,h.size,fun k b c _=>h.block k b (by simpa using c), .inl rfl⟩
theorem Sc.ext {base B:Nat} {W W':World} {s:Bs} {k:Nat} {line:Int} {coms:List Bs} {cv:Value} (h:Sc base B W s k line coms cv) (a:qb W W'):Sc base B W' s k line coms cv:=
 ⟨h.blk.ext a,h.own.ext a,h.ne,h.bB,Nat.le_trans h.bW a.size,h.kl,h.sl,h.l0,h.l1,h.cl⟩
theorem Sc.line {base B:Nat} {W:World} {s:Bs} {k:Nat} {line:Int} {coms:List Bs} {cv:Value} (h:Sc base B W s k line coms cv):0≤line∧line≤4611686018427387904:=by
 have:=h.l0;have:=h.l1;have:=h.kl;have:=h.sl;omega
theorem Sc.short {base B:Nat} {W:World} {s:Bs} {k:Nat} {line:Int} {coms:List Bs} {cv:Value} (h:Sc base B W s k line coms cv):s.length<4611686018427387904:=by
 have:=h.sl;omega
theorem qfg {base B:Nat} {W:World} {s:Bs} {k n:Nat} {line:Int} {coms:List Bs} {cv:Value} (h:Sc base B W s k line coms cv) (b:k+n≤s.length):
  Calls Tryz.prog 304 #[.pointer (some ⟨B,0,none⟩), .int .i64 (n:Int)] W fun e w'=>e= .returned (.string (qc ((s.drop k).take n)))∧Sc base B w' s (k+n) (line+((((s.drop k).take n).count 10:Nat):Int)) coms cv∧Tn B cv cv W w':=by
 refine (qtS h.blk b h.short h.line).mono ?_;rintro _ w' ⟨rfl,c,a⟩;have o:((s.drop k).take n).count 10≤n:=by
  refine Nat.le_trans List.count_le_length ?_;simp;omega
 have:=h.l0;have:=h.l1;have:=h.cl;have:=h.bW;have:=a.size;refine ⟨rfl,⟨by simpa using c,h.own.kept a (.inr h.ne),h.ne,h.bB,by omega,b,h.sl,by omega,by simp;omega,by omega⟩,Tn.gb a⟩
def atOf (w:World) (B:Nat):Nat:=match w.cell? ⟨B,1,none⟩ with
 |some (.int _ n)=>n.toNat
 |_=>0
theorem Sc.at {base B:Nat} {W:World} {s:Bs} {k:Nat} {line:Int} {coms:List Bs} {cv:Value} (h:Sc base B W s k line coms cv):atOf W B=k:=by
 simp [atOf,h.blk.cell]
structure Skipped (base B:Nat) (w0 w:World) (s:Bs) (k0:Nat) (l0:Int) (c0:List Bs) (v0:Value) (k:Nat) (l:Int) (new:List Bs) (v:Value):Prop where
 sc:Sc base B w s k l (c0++new) v
 tn:Tn B v0 v w0 w
 le:k0≤k
 eq:qX (s.drop k0) l0=(qX (s.drop k) l).add [] new
def ww (s:Bs) (k:Nat):Prop:=∀h:k<s.length,yj s[k]=false∧s[k]≠37
theorem kw {s:Bs} {k:Nat} (h:k<s.length):s.drop k=s[k]::s.drop (k+1):=List.drop_eq_getElem_cons h
theorem quD {c:UInt8} {r:Bs} {l:Int} (h:yj c=true):qX (c::r) l=qX r (l+(((c::r).take 1).count 10:Nat)):=by
 simp only [yj,Bool.or_eq_true,decide_eq_true_eq] at h;by_cases a:c=10
 ·subst a;rw [qa3];simp
 ·have b:c=32∨c=9:=by
   rcases h with (h|h)|h
   ·exact .inl h
   ·exact .inr h
   ·exact absurd h a
  rw [qa2 r l b];have:((c::r).take 1).count 10=0:=by simp [a]
  rw [this];simp
section
variable {P:Program} {Q:Ks} {d:Option Nat} {ty:TypeId} {K:qa→World→Prop} {ρ:qa} {w:World}
theorem qee {t e sz bytes:Nat} (H:xG P t=some (e,sz,bytes)) {base:Nat} (b:base≤w.heap.size) {s x:Operand} {sv xv:Value} (U:qd ρ s=sv) (V:qd ρ x=xv) {xs news:List Value}
  (o:Own base e sz w sv xs) (y:Cells w xv sz news) (J:∀u∈news,u.oneCell'=true)
  (z:xs.length+news.length<4611686018427387904) (a:(xs.length+news.length)*bytes≤140737488355328*sz)
  (h:∀c W,Own base e sz W c (xs++news)→w.grownBy W sv.ownBlock→(c.ownBlock=sv.ownBlock∨c.ownBlock=some w.heap.size)→K (qm ρ d c) W):qw P Q d (.call {callee:= .builtin .append,args:= #[s,x],argTypes:= #[t,t]}) ty K ρ w:=by
 subst U;subst V;obtain ⟨c,W,F,S,I,E⟩:=qcB (P:=P) (ty:=ty) H o y J z a b;refine ju (v:=c) (w':=W) ?_ (h c W S I E);simp only [execOp,qD,resolve,invoke,builtin,Sem.run_bind,Sem.run_pure,Result.andThen_ok,List.map_toArray,List.map_cons,List.map_nil,F]
end
theorem qc1 {base e sz:Nat} {w:World} {v:Value} {xs:List Value} (h:Own base e sz w v xs):v.cells= #[v]∧v.oneCell=true:=by
 rcases h with ⟨rfl,_⟩|⟨g,off,n,cap,cur,rfl,_⟩<;>exact ⟨rfl,rfl⟩
theorem jO {base e sz:Nat} {w:World} {v:Value} {xs:List Value} (h:Own base e sz w v xs):Cells w v sz xs:=by
 have a:=h.isl;rcases h with ⟨rfl,rfl⟩|⟨g,off,n,cap,cur,rfl,z,t,u,y,E,F,o⟩
 ·exact ⟨rfl,by simp [qk],fun j b=>by simp at b⟩
 ·refine ⟨a,u,fun j b=> ?_⟩;have c:((cur.toList.drop off).take (n*sz))[j]? =xs[j]? :=by rw [o]
  rw [List.getElem?_take,if_pos (by omega),List.getElem?_drop] at c;simp only [qJ,zF,World.cell?,t];simpa [b] using c
theorem qkv:xG Tryz.prog 51=some (9,1,16):=by kernel_rfl
theorem qcj:jG Tryz.prog 51 1=true:=by kernel_rfl
theorem qrs:∀l:Bs,(Lib.indexByte l 10= -1∧jd l=l.length)∨(Lib.indexByte l 10=jd l)
 |[]=> .inl ⟨rfl,rfl⟩
 |c::l=>by
  by_cases h:c=10
  ·subst h;right;simp [Lib.indexByte,jd]
  ·have b:jd (c::l)=jd l+1:=by simp [jd,List.takeWhile_cons,h]
   rcases qrs l with ⟨a,e⟩|a
   ·left;refine ⟨?_,by rw [b,e];rfl⟩;simp [Lib.indexByte,h,a]
   ·right;rw [b];have:¬(jd l:Int)= -1:=by omega
    simp [Lib.indexByte,h,this,a]
theorem qDz (s:Bs):((s.take (jd s)).count 10)=0:=by
 rw [List.count_eq_zero];intro h;rw [jd,qjc] at h;have:=List.all_eq_true.1 (List.all_takeWhile (p:=fun c=>decide (c≠10)) (l:=s)) 10 h;simp at this
theorem quC {r t:Bs} {l:Int} (h:r=37::t):qX r l=(qX (r.drop (jd r)) l).add [] [r.take (jd r)]:=by
 subst h;rw [yD,if_neg (by decide),if_neg (by decide),if_pos rfl]
def qeD (base B:Nat) (w:World) (s:Bs) (k0:Nat) (l0:Int) (c0:List Bs) (v0:Value):Ending→World→Prop:=
 fun e w'=>e= .returned (.tuple #[])∧∃k l new v,Skipped base B w w' s k0 l0 c0 v0 k l new v∧ww s k
def qeE (base B:Nat) (w:World) (s:Bs) (k0:Nat) (l0:Int) (c0:List Bs) (v0:Value):qa→World→Prop:=
 fun ρ' w'=>ρ' 0= .pointer (some ⟨B,0,none⟩)∧ρ' 2= .func (.func 346) #[] #[]∧∃k l new v,Skipped base B w w' s k0 l0 c0 v0 k l new v
theorem qje {base B:Nat} {w:World} {s:Bs} {Y:Nat} {l0:Int} {c0:List Bs} {v0:Value} (h:Sc base B w s Y l0 c0 v0):
  Calls Tryz.prog 266 #[.pointer (some ⟨B,0,none⟩)] w (qeD base B w s Y l0 c0 v0):=by
 refine qz1 fun ρ y=> ?_;simp [qgL];refine qji.mono ?_;rintro _ w1 ⟨rfl,hE1⟩;simp;refine qC8 (n:=3) (k:=2) (e:=288) (v:= .func (.func 346) #[] #[]) (cs:= #[.func (.func 165) #[] #[], .func (.func 232) #[] #[], .func (.func 346) #[] #[]]) (inf:=_) (by kernel_rfl) rfl (by kernel_rfl) (by simp) (by simp;rfl) (by decide) rfl (by kernel_rfl) ?_;simp;refine qkz ?_;simp [qoj];refine QJ (qeE base B w s Y l0 c0 v0) (fun _ w'=>s.length - atOf w' B) ⟨by simp [y],by simp,Y,l0,[],v0,⟨by simpa using h.ext hE1,Tn.ext hE1,Nat.le_refl _,by simp⟩⟩ ?_;rintro ρ' w' ⟨y,h2,k,l,new,v,E⟩;have hat:=E.sc.at
 have hb:=E.sc.blk;by_cases b:k<s.length
 ·simp [qgH,y,hb.cell,b];intro w2 H;have hb2:=hb.ext H;have hS2:=E.sc.ext H;have hT2:=E.tn.trans (Tn.ext H);simp [qgI,qok];refine vF qz0 (qb w2) fun w3 J _=>⟨J, ?_⟩;have hc:∀w',qb w2 w'→∀i,w'.cell? ⟨B,i,none⟩=(kL s k l v)[i]? :=fun w' h=>(hb2.ext h).cell;simp+contextual [qoi,y,h2,hc,J,b,qaS b];refine x9 (f:=346) (by kernel_rfl) (fs:= #[]) (caps:= #[]) (by simp) ?_;simp;refine (qtX s[k] w3).mono ?_;rintro _ w3 ⟨rfl,rfl⟩;have hS3:=hS2.ext J;have hT3:=hT2.trans (Tn.ext J);cases hbl:yj s[k] with
  |true=>
   simp [qdA,y];refine (qfg (n:=1) hS3 (by omega)).mono ?_;rintro _ w4 ⟨rfl,F,aj⟩;simp;refine ⟨⟨by simp [y],by simp [h2],k+1,_,new,v,F,hT3.trans aj,by have:=E.le;omega, ?_⟩, ?_⟩
   ·rw [E.eq,kw b,quD hbl]
   ·rw [F.at,hat];omega
  |false=>
   have hu:=xS s[k] 37 (by decide);have hc3:=hc w3 J;have hst:∀w4,qb w3 w4→qeD base B w s Y l0 c0 v0 (Ending.returned (Value.tuple #[])) w4∨s[k]=37:=by
    intro w4 z;by_cases u:s[k]=37
    ·exact .inr u
    ·exact .inl ⟨rfl,k,l,new,v,⟨hS3.ext z,hT3.trans (Tn.ext z),E.le,E.eq⟩,fun _=>⟨hbl,u⟩⟩
   by_cases u:s[k]=37
   ·have V:(s[k].toNat:Int)=37:=hu.2 u;simp [qdA,y,hc3,b,qaS b,V,qgJ];intro w4 z;have F:=hS3.ext z;have aj:=hT3.trans (Tn.ext z);refine (Je F.blk F.kl).mono ?_;rintro _ w5 ⟨rfl,hE5⟩;have ak:=F.ext hE5;have hT5:=aj.trans (Tn.ext hE5);simp;refine (Tryz.indexByte (qc (s.drop k)) 10 w5).mono ?_;rintro _ w5 ⟨rfl,rfl⟩;have hix:Lib.indexByte (qc (s.drop k)).data.toList (Int.toNat 10).toUInt8=Lib.indexByte (s.drop k) 10:=rfl;rw [hix];have hn1:1≤jd (s.drop k):=by rw [kw b,u];exact qek _
    have hn2:jd (s.drop k)≤s.length - k:=by have:=qsk (s.drop k);simpa using this
    have U:∀(I:qa) (w6:World),I 0= .pointer (some ⟨B,0,none⟩)→I 2= .func (.func 346) #[] #[]→I 3= .int .i64 (jd (s.drop k):Int)→qb w5 w6→
     qgK.wp ⟨Tryz.prog,75,qak,[]⟩ (fun t o=>qeE base B w s Y l0 c0 v0 t o∧s.length - atOf o B<s.length - atOf w' B) (((((je [] (qeD base B w s Y l0 c0 v0)).blk 0 (qC [] (qeD base B w s Y l0 c0 v0))).blk 1 (fun t o=>qeE base B w s Y l0 c0 v0 t o∧s.length - atOf o B<s.length - atOf w' B)).blk 2 (fun t o=>qeE base B w s Y l0 c0 v0 t o∧s.length - atOf o B<s.length - atOf w' B))) I w6:=by
     intro I w6 y h2 h3 ac;have ab:=ak.ext ac;have hT6:=hT5.trans (Tn.ext ac);simp only [qgK];refine vF qzZ (fun W=>W.cell? ⟨B,3,none⟩=some v) fun w7 hE7 _=> ?_;have hS7:=ab.ext hE7;have hT7:=hT6.trans (Tn.ext hE7);refine ⟨by simp [hS7.blk.cell], ?_⟩;simp+contextual [qoh,y,h3,hS7.blk.cell];refine (qfg (n:=jd (s.drop k)) hS7 (by omega)).mono ?_;rintro _ w8 ⟨rfl,Z,hT8⟩;rw [qDz] at Z;simp [Z.blk.cell];refine jz qct (by decide) (by decide) (by simp [Value.cells]) fun B9 W9 hB9 hE9 hb9 _=> ?_;have a:=Z.ext hE9;simp [Value.cells] at hb9;simp [a.blk.cell];have hcl:=a.cl;have hO9:Own base 9 1 W9 (.slice (some ⟨B9,0,none⟩) 1 1) [qi ((s.drop k).take (jd (s.drop k)))]:=Own.lit (cs:=[qi ((s.drop k).take (jd (s.drop k)))]) hb9 rfl (Nat.le_trans Z.bW hB9) (by decide);have hnew:Cells W9 (.slice (some ⟨B9,0,none⟩) 1 1) 1 [qi ((s.drop k).take (jd (s.drop k)))]:=jO hO9;have hk9:=a.kl;have hs9:=a.sl;refine qee qkv a.bW (by simp) (by simp) a.own hnew (by simp [qi];rfl) (by simp at hcl⊢;omega) (by simp at hcl⊢;omega) fun v' W10 ae c ah=> ?_;have ad:Blk W10 B _ 217:=⟨(c.block B a.blk.lt (fun e=>a.ne e.symm)).trans a.blk.heap⟩;simp [ad.cell];have h1:=qc1 ae;refine qP (B:=B) (i:=3) (by simp) ad (by simp) (by simpa using h1.1) (by simpa using h1.2) qcj fun W11 S ai=> ?_;simp at ai;have af:v'.ownBlock≠some B:=by
      rcases ah with e|e
      ·rw [e];exact a.ne
      ·rw [e];have:=a.blk.lt;intro h;cases h;omega
     have aa:Own base 9 1 W11 v' ((c0++(new++[(s.drop k).take (jd (s.drop k))])).map qi):=by
      have:=ae.kept (qc5 S) (.inr af);simpa using this
     have hsz10:=c.size;have ag:Sc base B W11 s (k+jd (s.drop k)) l (c0++(new++[(s.drop k).take (jd (s.drop k))])) v':=
      ⟨by simpa using ai,aa,af,a.bB,by have:=a.bW;rw [S.size];omega,hk9,hs9,ab.l0,by have:=ab.l1;omega,by have:=ab.cl;simp at this⊢;omega⟩
     have hT10:Tn B v v' W9 W10:=⟨c.os,c.tape,c.output,c.size,fun k hk _ hv=>c.block k hk (fun e=>hv e.symm),by
      rcases ah with e|e
      ·exact .inl e
      ·exact .inr fun i hi=>by rw [e] at hi;cases hi;exact Nat.le_refl _⟩
     have hT11:Tn B v0 v' w W11:=(((hT7.trans hT8).trans (Tn.ext hE9)).trans hT10).trans (Tn.gb (qc5 S));simp;refine ⟨⟨by simp [y],by simp [h2],_,_,_,_,ag,hT11,by have:=E.le;omega, ?_⟩, ?_⟩
     ·rw [E.eq];have:qX (s.drop k) l=(qX (s.drop (k+jd (s.drop k))) l).add [] [(s.drop k).take (jd (s.drop k))]:=by
       rw [←List.drop_drop];exact quC (by rw [kw b,u])
      rw [this,Res.add_add];rfl
     ·rw [ag.at,hat];omega
    rcases qrs (s.drop k) with ⟨e1,e2⟩|e1
    ·rw [e1];simp [y];refine (Je ak.blk ak.kl).mono ?_;rintro _ w6 ⟨rfl,ac⟩;simp;exact U _ _ (by simp [y]) (by simp [h2]) (by simp [e2]) ac
    ·rw [e1];simp;exact U _ _ (by simp [y]) (by simp [h2]) (by simp) (qA _)
   ·have V:¬(s[k].toNat:Int)=37:=fun h=>u (hu.1 h);simp [qdA,y,hc3,b,qaS b,V,qgJ];intro w4 z;rcases hst w4 z with h|h
    ·exact h
    ·exact absurd h u
 ·simp [qgH,y,hb.cell,b,qgI];intro w2 H;exact ⟨rfl,k,l,new,v,⟨E.sc.ext H,E.tn.trans (Tn.ext H),E.le,E.eq⟩,fun h=>absurd h b⟩
theorem z38:vL Tryz.prog 53=some #[.int .u8 0, .string ⟨#[]⟩, .int .i64 0]:=by kernel_rfl
theorem qD4 (l:Int):Tryz.prog.built 53 [(2, .int .i64 l)]=some #[.int .u8 0, .string ⟨#[]⟩, .int .i64 l]:=by kernel_rfl
theorem qe1:jG Tryz.prog 53 3=true:=by kernel_rfl
theorem sz5:jG Tryz.prog 5 1=true:=by kernel_rfl
theorem sz9:jG Tryz.prog 9 1=true:=by kernel_rfl
def clV:Array Value:= #[.func (.func 165) #[] #[], .func (.func 232) #[] #[], .func (.func 346) #[] #[]]
def brk (e l:Int):Ending:= .panicked [{v:= .iface 212 (.agg #[.int .i64 e, .int .i64 l]),recovered:=false}]
def yl (base B:Nat) (w:World) (s:Bs) (k:Nat) (l:Int) (coms:List Bs) (cv:Value):Ending→World→Prop:=fun e w'=>
 Tn B cv cv w w'∧
 (((first (s.drop k)).2.2=0∧e= .returned (qat ⟨(first (s.drop k)).1,(s.drop k).take (first (s.drop k)).2.1,l⟩)∧Sc base B w' s (k+(first (s.drop k)).2.1) l coms cv)∨
  ((first (s.drop k)).2.2≠0∧e=brk (first (s.drop k)).2.2 l))
theorem Tn.blk {B C:Nat} {cv a:Value} {W W':World} {cs:Array Value} {t:TypeId} (h:Tn B cv a W W') (b:Blk W C cs t) (c:C≠B) (e:cv.ownBlock≠some C):Blk W' C cs t:=⟨(h.block C b.lt c e).trans b.heap⟩
theorem Sc.off {base B:Nat} {W:World} {s:Bs} {k:Nat} {line:Int} {coms:List Bs} {cv:Value} (h:Sc base B W s k line coms cv) {C:Nat} (a:W.heap.size≤C):C≠B∧cv.ownBlock≠some C:=by
 refine ⟨?_, ?_⟩
 ·have:=h.blk.lt;omega
 ·intro e;have:=(h.own.blk C e).2;omega
theorem Sc.only {base B C:Nat} {W W':World} {s:Bs} {k:Nat} {line:Int} {coms:List Bs} {cv:Value} (h:Sc base B W s k line coms cv) (a:Only C W W') (b:C≠B) (c:cv.ownBlock≠some C):Sc base B W' s k line coms cv:=
 ⟨a.blk h.blk (Ne.symm b),h.own.kept (qc5 a) (.inr c),h.ne,h.bB,by rw [a.size];exact h.bW,h.kl,h.sl,h.l0,h.l1,h.cl⟩
theorem Tn.new {B C:Nat} {a b:Value} {U V W:World} (h:Tn B a b U V) (c:Only C V W) (u:U.heap.size≤C):Tn B a b U W:=
 ⟨c.os.trans h.os,c.tape.trans h.tape,c.output.trans h.output,by rw [c.size];exact h.size,fun k o e t=>(c.block k (by omega)).trans (h.block k o e t),h.own⟩
section
variable {base B:Nat} {w:World} {s:Bs} {k:Nat} {l:Int} {coms:List Bs} {cv:Value}
theorem qxK {ρ:qa} {W:World} {B2 B3:Nat} {z:Array Value} {c:Int} {tx:Bs} {Q:Ks} {R:Ending→World→Prop} (t:ρ 2= .pointer (some ⟨B2,0,none⟩)) (E:ρ 3= .pointer (some ⟨B3,0,none⟩)) (a:Blk W B2 z 53) (o:z.size=3)
  (b:Blk W B3 #[.int .u8 c, .string (qc tx), .int .i64 l] 53) (y:∀ρ w,Q.rt ρ w=qC [.cellN 2 3] R ρ w) (h:∀W',Only B2 W W'→R (.returned (.agg #[.int .u8 c, .string (qc tx), .int .i64 l])) W') {KK:qa→World→Prop}:
  QN.wp ⟨Tryz.prog,114,xB,[]⟩ KK Q ρ W:=by
 simp [QN,E,b.cell];refine jn (B:=B2) (by simpa using t) a (by simp [Value.cells,o]) (by simp [Value.cells]) (by rw [o];exact qe1) fun W2 u e=> ?_;simp [Value.cells] at e;simp [y];refine qK (by simpa using t) e rfl ?_;exact h W2 u
theorem qd6 (a:k<s.length):(s.drop k).getD 0 0=s[k]:=by rw [kw a];rfl
theorem qtF {a n:Nat} {r:Bs} (h:right a (r.take n)=true):(r.take n).count 10=0:=by
 rw [List.count_eq_zero];intro b;exact (qba h 10 b).1 rfl
structure Nx (base B:Nat) (w:World) (s:Bs) (k:Nat) (l:Int) (coms:List Bs) (cv:Value) (B2 B3 B4:Nat) (kd:Int) (ρ:qa) (W:World):Prop where
 r0:ρ 0= .pointer (some ⟨B,0,none⟩)
 r2:ρ 2= .pointer (some ⟨B2,0,none⟩)
 r3:ρ 3= .pointer (some ⟨B3,0,none⟩)
 r4:ρ 4= .pointer (some ⟨B4,0,none⟩)
 sc:Sc base B W s k l coms cv
 b2:Blk W B2 #[.int .u8 0, .string ⟨#[]⟩, .int .i64 0] 53
 b3:Blk W B3 #[.int .u8 kd, .string ⟨#[]⟩, .int .i64 l] 53
 b4:Blk W B4 clV 289
 tn:Tn B cv cv w W
 n2:w.heap.size≤B2∧B2<B3∧B3<B4
 n3:B3≠B∧B2≠B
 n4:cv.ownBlock≠some B3∧cv.ownBlock≠some B2
 g:G W
 gw:G w
theorem Nx.env {B2 B3 B4:Nat} {b:Int} {ρ a:qa} {W:World} (h:Nx base B w s k l coms cv B2 B3 B4 b ρ W) (c:a 0=ρ 0) (t:a 2=ρ 2) (o:a 3=ρ 3) (e:a 4=ρ 4):Nx base B w s k l coms cv B2 B3 B4 b a W:=
 ⟨c.trans h.r0,t.trans h.r2,o.trans h.r3,e.trans h.r4,h.sc,h.b2,h.b3,h.b4,h.tn,h.n2,h.n3,h.n4,h.g,h.gw⟩
theorem Nx.ext {B2 B3 B4:Nat} {b:Int} {ρ:qa} {W W':World} (h:Nx base B w s k l coms cv B2 B3 B4 b ρ W) (a:qb W W'):Nx base B w s k l coms cv B2 B3 B4 b ρ W':=
 ⟨h.r0,h.r2,h.r3,h.r4,h.sc.ext a,h.b2.ext a,h.b3.ext a,h.b4.ext a,h.tn.trans (Tn.ext a),h.n2,h.n3,h.n4,h.g.ext a,h.gw⟩
theorem Nx.kind {B2 B3 B4:Nat} {t e:Int} {ρ:qa} {W W':World} (h:Nx base B w s k l coms cv B2 B3 B4 t ρ W) (z:qb w W) (o:Only B3 W W') (u:Blk W' B3 #[.int .u8 e, .string ⟨#[]⟩, .int .i64 l] 53) (y:G W'):Nx base B w s k l coms cv B2 B3 B4 e ρ W':=by
 obtain ⟨a,b,c⟩:=h.n2;exact ⟨h.r0,h.r2,h.r3,h.r4,h.sc.only o h.n3.1 h.n4.1,o.blk h.b2 (by omega),u,o.blk h.b4 (by omega),h.tn.new o (by omega),h.n2,h.n3,h.n4,y,h.gw⟩
theorem qc8 {B2 B3 B4 n kd:Nat} {ρ:qa} {W:World} (h:Nx base B w s k l coms cv B2 B3 B4 (kd:Int) ρ W) (t:first (s.drop k)=(kd,n,0)) (F:s.drop k≠[]) {u U S Y vn:Nat} (hvn:ρ vn= .int .i64 (n:Int))
  (hd:5≤u∧5≤U∧5≤S∧5≤Y∧u≠vn∧u≠U∧S≠Y) {KK:qa→World→Prop} {Q:Ks} (hK:∀ρ W,KK ρ W=QN.wp ⟨Tryz.prog,114,xB,[]⟩ (qC [.cellN 2 3] (yl base B w s k l coms cv)) (je [.cellN 2 3] (yl base B w s k l coms cv)) ρ W):
  (IR.reg [.asg none u (.op1 (.fadr 0) (.op1 .nilc (.var 0))), .asg none U (.var vn),
   .eff none (some S) (.call {callee:= .value (.func 304),args:= #[(.tmp u),(.tmp U)],argTypes:= #[215,3]}) 9,
   .asg none Y (.op1 (.fadr 1) (.var 3)), .eff none none (.store 9 (.tmp Y) (.tmp S)) 0]).wp ⟨Tryz.prog,114,xB,[]⟩ KK Q ρ W:=by
 have c:=qas (s:=s.drop k) (by rw [t]) F;have a:=(qrL F (by rw [t])).1;rw [t] at c a;simp only [List.length_drop] at c;have hkl:=h.sc.kl;obtain ⟨e1,e2,e3,e4,e5,e6,V⟩:=hd;have J:=qtF a;have f0:(0:Nat)≠u:=by omega
 have b:∀d,5≤d→(3:Nat)≠d:=by omega
 have Z:∀d,5≤d→(2:Nat)≠d:=by omega
 simp [h.r0,hvn,f0,e5,e6,V,Ne.symm e5];refine (qfg (n:=n) h.sc (by omega)).mono ?_;rintro _ W1 ⟨rfl,I,o⟩;rw [J] at I;have y:=o.blk h.b3 h.n3.1 h.n4.1;have z:=o.blk h.b2 h.n3.2 h.n4.2;simp [h.r3,b _ e1,b _ e2,b _ e3,b _ e4];refine qP (B:=B3) (i:=1) (by simp) y (by simp) (by simp [V];rfl) (by simp [V]) sz9 fun W2 e E=> ?_;simp [V] at E;show KK _ _;rw [hK];obtain ⟨n1,n2,n3⟩:=h.n2;refine qxK (by simp [Z _ e1,Z _ e2,Z _ e3,Z _ e4,h.r2]) (by simp [b _ e1,b _ e2,b _ e3,b _ e4,h.r3]) (e.blk z (by omega)) rfl E (fun _ _=>rfl) fun W3 H=> ?_;have hS3:=(I.only e h.n3.1 h.n4.1).only H h.n3.2 h.n4.2;have hT3:=((h.tn.trans o).new e (by omega)).new H n1;refine ⟨hT3, .inl ⟨by rw [t], ?_, ?_⟩⟩
 ·rw [t];simp [qat]
 ·rw [t];simpa using hS3
theorem Nx.brk {B2 B3 B4:Nat} {b:Int} {ρ:qa} {W:World} (h:Nx base B w s k l coms cv B2 B3 B4 b ρ W) {e:Int} (a:(first (s.drop k)).2.2=e) (c:e≠0):yl base B w s k l coms cv (brk e l) W:=
 ⟨h.tn, .inr ⟨by rw [a];exact c,by rw [a]⟩⟩
abbrev nxR (base B:Nat) (w:World) (s:Bs) (k:Nat) (l:Int) (coms:List Bs) (cv:Value):qa→World→Prop:=qC [.cellN 2 3] (yl base B w s k l coms cv)
abbrev nxQ (base B:Nat) (w:World) (s:Bs) (k:Nat) (l:Int) (coms:List Bs) (cv:Value):Ks:=je [.cellN 2 3] (yl base B w s k l coms cv)
theorem qxJ {B2 B3 B4:Nat} {ρ:qa} {W:World} (h:Nx base B w s k l coms cv B2 B3 B4 0 ρ W) (hE:qb w W) (z:k<s.length) (hc:vc s[k]=true) {Q:Ks} (hQ:∀ρ c w',Q.pn ρ c w'=yl base B w s k l coms cv (.panicked c) w') {KK:qa→World→Prop} (hK:∀ρ W,KK ρ W=QN.wp (Cx.mk Tryz.prog 114 xB []) (nxR base B w s k l coms cv) (nxQ base B w s k l coms cv) ρ W):
  (IR.raw (qL qaj 16)).wp (Cx.mk Tryz.prog 114 xB []) (qgG.wp (Cx.mk Tryz.prog 114 xB []) KK Q) Q ρ W:=by
 have ab:s.drop k≠[]:=by rw [kw z];exact List.cons_ne_nil _ _
 have a:first (s.drop k)=if jL ((s.drop k).take (qN (s.drop k))) then (2,qN (s.drop k),0) else if 12<qN (s.drop k) then (0,0,12) else (1,qN (s.drop k),0):=by
  unfold first
  rw [if_pos (by rw [qd6 z];exact hc)]
 have F:=h.sc.kl;refine vF qzV (qb W) (fun w3 o _=>⟨o, ?_⟩) (fun _ _ ρ v c w h=>by rw [hQ] at h⊢;exact h);have h3:=h.ext o;have ag:∀w',qb W w'→∀i,w'.cell? ⟨B4,i,none⟩=clV[i]? :=fun w' hh=>(h.b4.ext hh).cell;simp -implicitDefEqProofs [qob,h.r0];refine qec (n:=3) (k:=0) (e:=288) (inf:=_) (by kernel_rfl) rfl (by kernel_rfl) (by simp;exact h.r4) (by simp;rfl) (by decide) ?_;simp+contextual -implicitDefEqProofs [ag,o,clV];refine (qjf h3.sc.blk F h3.sc.short qDC).mono ?_;rintro _ W4 ⟨rfl,af⟩;have h4:=h3.ext af;have U:=(hE.trans' o).trans' af;have S:((s.drop k).takeWhile part).length=qN (s.drop k):=rfl;simp [S,qgG,h.r0];refine (Je h4.sc.blk F).mono ?_;rintro _ W5 ⟨rfl,ad⟩;have h5:=h4.ext ad;have t:=U.trans' ad;have hrl:qN (s.drop k)≤s.length - k:=by have:=yv part (s.drop k);simpa [qN] using this
 have J:(qc (s.drop k)).extract 0 (qN (s.drop k))=qc ((s.drop k).take (qN (s.drop k))):=by
  have:=QX (s.drop k) 0 (qN (s.drop k));simpa using this
 simp [h.r3,hrl,J];refine qP (B:=B3) (i:=0) (by simp) h5.b3 (by simp) rfl rfl sz5 fun W6 H ae=> ?_;simp at ae;obtain ⟨n1,n2,n3⟩:=h.n2;have u:qb w W6:=H.ext t (by omega);have Y:G W6:=h.gw.ext u;have h6:Nx base B w s k l coms cv B2 B3 B4 ((1:Nat):Int) ρ W6:=h5.kind t H ae Y;simp;refine (qjh Y _).mono ?_;rintro _ W7 ⟨rfl,I⟩;have Z:=h6.ext I;have y:=u.trans' I;cases hw:jL ((s.drop k).take (qN (s.drop k))) with
 |true=>
  rw [hw,if_pos rfl] at a;simp [h.r3];refine qP (B:=B3) (i:=0) (by simp) Z.b3 (by simp) rfl rfl sz5 fun W8 aa E=> ?_;simp at E⊢;have ac:qb w W8:=aa.ext y (by omega);have h8:Nx base B w s k l coms cv B2 B3 B4 ((2:Nat):Int) ρ W8:=Z.kind y aa E (h.gw.ext ac);exact qc8 (h8.env (by simp) (by simp) (by simp) (by simp)) a ab (by simp) (by omega) hK
 |false=>
  rw [hw,if_neg (by simp)] at a;by_cases V:12<qN (s.drop k)
  ·rw [if_pos V] at a;have b:(12:Int)<(qN (s.drop k):Int):=by omega
   simp [b,h.r0];refine (qeX Z.sc.blk).mono ?_;rintro _ _ ⟨rfl,rfl⟩;simp [hQ];exact Z.brk (by rw [a]) (by decide)
  ·rw [if_neg V] at a;have b:¬(12:Int)<(qN (s.drop k):Int):=by omega
   simp [b];exact qc8 (Z.env (by simp) (by simp) (by simp) (by simp)) a ab (by simp) (by omega) hK
theorem qxL {B2 B3 B4:Nat} {ρ:qa} {W:World} (h:Nx base B w s k l coms cv B2 B3 B4 0 ρ W) (hE:qb w W) (u:k<s.length) (hl:vc s[k]=false) (hc:qM s[k]=true) {Q:Ks} (hQ:∀ρ c w',Q.pn ρ c w'=yl base B w s k l coms cv (.panicked c) w') {KK:qa→World→Prop} (hK:∀ρ W,KK ρ W=QN.wp (Cx.mk Tryz.prog 114 xB []) (nxR base B w s k l coms cv) (nxQ base B w s k l coms cv) ρ W):
  (IR.raw (qL qaj 25)).wp (Cx.mk Tryz.prog 114 xB []) (qgF.wp (Cx.mk Tryz.prog 114 xB []) KK Q) Q ρ W:=by
 have hne:s.drop k≠[]:=by rw [kw u];exact List.cons_ne_nil _ _
 have b:first (s.drop k)=if jw ((s.drop k).take (jJ (s.drop k))) then (3,jJ (s.drop k),0) else (0,0,11):=by
  unfold first
  rw [qd6 u,if_neg (by rw [hl];simp),if_pos hc]
 have z:=h.sc.kl;refine vF qzU (qb W) (fun w3 a _=>⟨a, ?_⟩) (fun _ _ ρ v c w h=>by rw [hQ] at h⊢;exact h);have h3:=h.ext a;have Z:∀w',qb W w'→∀i,w'.cell? ⟨B4,i,none⟩=clV[i]? :=fun w' hh=>(h.b4.ext hh).cell;simp -implicitDefEqProofs [qoa,h.r0];refine qec (n:=3) (k:=1) (e:=288) (inf:=_) (by kernel_rfl) rfl (by kernel_rfl) (by simp;exact h.r4) (by simp;rfl) (by decide) ?_;simp+contextual -implicitDefEqProofs [Z,a,clV];refine (qjf h3.sc.blk z h3.sc.short qDD).mono ?_;rintro _ W4 ⟨rfl,V⟩;have h4:=h3.ext V;have I:=(hE.trans' a).trans' V;have H:((s.drop k).takeWhile qM).length=jJ (s.drop k):=rfl;simp [H,qgF,h.r0];refine (Je h4.sc.blk z).mono ?_;rintro _ W5 ⟨rfl,U⟩;have h5:=h4.ext U;have o:=I.trans' U;have hrl:jJ (s.drop k)≤s.length - k:=by have:=yv qM (s.drop k);simpa [jJ] using this
 have E:(qc (s.drop k)).extract 0 (jJ (s.drop k))=qc ((s.drop k).take (jJ (s.drop k))):=by
  have:=QX (s.drop k) 0 (jJ (s.drop k));simpa using this
 simp [hrl,E];have hs20:=h.sc.sl;refine (qtW (h.gw.ext o) _ (by simp;omega)).mono ?_;rintro _ W6 ⟨rfl,F⟩;have Y:=h5.ext F;have t:=o.trans' F;obtain ⟨n1,n2,n3⟩:=h.n2;cases hw:jw ((s.drop k).take (jJ (s.drop k))) with
 |false=>
  rw [hw,if_neg (by simp)] at b;simp [h.r0];refine (qeX Y.sc.blk).mono ?_;rintro _ _ ⟨rfl,rfl⟩;simp [hQ];exact Y.brk (by rw [b]) (by decide)
 |true=>
  rw [hw,if_pos rfl] at b;simp [qoe,h.r3];refine qP (B:=B3) (i:=0) (by simp) Y.b3 (by simp) rfl rfl sz5 fun W8 J y=> ?_;simp at y;have S:qb w W8:=J.ext t (by omega);have h8:Nx base B w s k l coms cv B2 B3 B4 ((3:Nat):Int) ρ W8:=Y.kind t J y (h.gw.ext S);exact qc8 (h8.env (by simp) (by simp) (by simp) (by simp)) b hne (vn:=8) (by simp) (by omega) hK
def j9 (s:Bs):List Bs→Nat
 |[]=>0
 |g::l=>if Lib.hasPrefix s g then max (j9 s l) g.length else j9 s l
theorem qlD (s:Bs) (g:Bs):∀l,j9 s (l++[g])=if Lib.hasPrefix s g then max (j9 s l) g.length else j9 s l
 |[]=>by simp [j9]
 |a::l=>by
  have b:=qlD s g l;simp only [List.cons_append,j9,b];split<;>split<;>omega
theorem qlC (s:Bs):∀l:List Bs,(∀g∈l,g.length=1∨g.length=2)→(j9 s l=2↔∃g∈l,g.length=2∧Lib.hasPrefix s g=true)∧(j9 s l=0↔∀g∈l,Lib.hasPrefix s g=false)∧j9 s l≤2
 |[],_=>by simp [j9]
 |a::l,h=>by
  obtain ⟨t,E,u⟩:=qlC s l fun g b=>h g (by simp [b]);have F:=h a (by simp);simp only [j9];cases e:Lib.hasPrefix s a with
  |false=>
   simp only [Bool.false_eq_true,if_false];refine ⟨t.trans ⟨fun ⟨g,b,x⟩=>⟨g,by simp [b],x⟩, ?_⟩,E.trans ⟨fun c g b=> ?_,fun c g b=>c g (by simp [b])⟩,u⟩
   ·rintro ⟨g,b,x,y⟩;rcases List.mem_cons.1 b with rfl|b
    ·rw [e] at y;cases y
    ·exact ⟨g,b,x,y⟩
   ·rcases List.mem_cons.1 b with rfl|b
    ·exact e
    ·exact c g b
  |true=>
   simp only [if_true];refine ⟨⟨fun z=> ?_, ?_⟩,⟨fun z=>by omega,fun c=> ?_⟩,by omega⟩
   ·by_cases o:a.length=2
    ·exact ⟨a,by simp,o,e⟩
    ·obtain ⟨g,b,x⟩:=t.1 (by omega);exact ⟨g,by simp [b],x⟩
   ·rintro ⟨g,b,x,y⟩;rcases List.mem_cons.1 b with rfl|b
    ·omega
    ·have:=t.2 ⟨g,b,x,y⟩;omega
   ·have:=c a (by simp);rw [e] at this;cases this
theorem qcT {s g:Bs}:Lib.hasPrefix s g=true↔g.length≤s.length∧s.take g.length=g:=by
 unfold Lib.hasPrefix;rw [List.isPrefixOf_iff_prefix];constructor
 ·intro h;exact ⟨h.length_le,(List.prefix_iff_eq_take.1 h).symm⟩
 ·rintro ⟨_,h⟩;rw [←h];exact List.take_prefix _ _
theorem qjI {g:Bs} (h:g∈qW):g.length=1∨g.length=2:=(qaY g h).1
theorem qx1 {s:Bs} (J:s≠[]):j9 s qW=if 1<s.length∧jq (s.take 2)=true then 2 else if jq (s.take 1) then 1 else 0:=by
 have W:0<s.length:=List.length_pos_iff.2 J;obtain ⟨t,H,V⟩:=qlC s qW fun g b=>qjI b;have E:(∃g∈qW,g.length=2∧Lib.hasPrefix s g=true)↔(1<s.length∧jq (s.take 2)=true):=by
  constructor
  ·rintro ⟨g,b,x,y⟩;obtain ⟨z,c⟩:=qcT.1 y;rw [x] at z c;exact ⟨by omega,by rw [c];simpa [jq] using b⟩
  ·rintro ⟨x,y⟩;have a:(s.take 2).length=2:=by rw [List.length_take];omega
   exact ⟨s.take 2,by simpa [jq] using y,a,qcT.2 ⟨by omega,by rw [a]⟩⟩
 have S:jq (s.take 1)=true→j9 s qW≠0:=by
  intro e U;have a:(s.take 1).length=1:=by rw [List.length_take];omega
  have:=H.1 U (s.take 1) (by simpa [jq] using e);rw [qcT.2 ⟨by omega,by rw [a]⟩] at this;cases this
 split
 ·rename_i h;exact t.2 (E.2 h)
 ·rename_i h;have o:j9 s qW≠2:=fun I=>h (E.1 (t.1 I));split
  ·rename_i e;have:=S e;omega
  ·rename_i e;refine H.2 fun g b=> ?_;cases F:Lib.hasPrefix s g with
   |false=>rfl
   |true=>
    obtain ⟨z,c⟩:=qcT.1 F;rcases qjI b with u|u
    ·rw [u] at c;exact absurd (by rw [c];simpa [jq] using b) e
    ·exact absurd (t.2 ⟨g,b,u,F⟩) o
theorem qxI {B2 B3 B4:Nat} {ρ:qa} {W:World} (h:Nx base B w s k l coms cv B2 B3 B4 0 ρ W) (hE:qb w W) (V:k<s.length) (hl:vc s[k]=false) (hc:qM s[k]=false) {Q:Ks} (hQ:∀ρ c w',Q.pn ρ c w'=yl base B w s k l coms cv (.panicked c) w') {KK:qa→World→Prop} (hK:∀ρ W,KK ρ W=QN.wp (Cx.mk Tryz.prog 114 xB []) (nxR base B w s k l coms cv) (nxQ base B w s k l coms cv) ρ W):
  (IR.reg [.asg none 9 (.const (.int .i64 0)),
      .eff none (some 30) (.call {callee:= .value (.func 310),args:= #[],argTypes:= #[]}) 51,
      .asg none 31 (.op1 .lenS (.var 30)),
      .asg none 32 (.const (.int .i64 0))]).wp (Cx.mk Tryz.prog 114 xB []) ((IR.block 1 (.loop qbG)).wp (Cx.mk Tryz.prog 114 xB []) (qdz.wp (Cx.mk Tryz.prog 114 xB []) KK Q) Q) Q ρ W:=by
 have ac:s.drop k≠[]:=by rw [kw V];exact List.cons_ne_nil _ _
 have hfr:first (s.drop k)=if 1<(s.drop k).length∧jq ((s.drop k).take 2)=true then (4,2,0) else if jq ((s.drop k).take 1) then (4,1,0) else (0,0,10):=by
  unfold first
  rw [qd6 V,if_neg (by rw [hl];simp),if_neg (by rw [hc];simp)]
 have hkl:=h.sc.kl;simp;refine (qtP (h.gw.ext hE)).mono ?_;rintro _ W1 ⟨v,rfl,hO,aa⟩;have S:=Own.sl (enc:=qi) (xs:=qW) hO (by decide);simp [S.is,S.len];refine js 32 21 (fun j e W'=>qb W1 W'∧e 0=ρ 0∧e 2=ρ 2∧e 3=ρ 3∧e 4=ρ 4∧e 30=v∧e 31= .int .i64 21∧e 9= .int .i64 (j9 (s.drop k) (qW.take j):Nat)) (by simp) ⟨qA _,by simp,by simp,by simp,by simp,by simp,by simp [qut],by simp [j9]⟩ ?_;rintro j e W' hj E ⟨t,h0,h2,h3,h4,J,y,I⟩;have F:=(h.ext (aa.trans' t)).env h0 h2 h3 h4;by_cases H:j<21
 ·have ae:(j:Int)<21:=by omega
  have z:j<qW.length:=H;have U:=S.ext t;simp [qbG,qod,y,E,ae,H,J,U.is,U.len,z,U.cell j z,qi,F.r0];refine (Je F.sc.blk hkl).mono ?_;rintro _ W2 ⟨rfl,af⟩;simp;refine (Tryz.hasPrefix (qc (s.drop k)) (qc qW[j]) W2).mono ?_;rintro _ W2 ⟨rfl,rfl⟩;have o:j9 (s.drop k) (qW.take (j+1))=if Lib.hasPrefix (s.drop k) qW[j] then max (j9 (s.drop k) (qW.take j)) qW[j].length else j9 (s.drop k) (qW.take j):=by
   rw [List.take_add_one,List.getElem?_eq_getElem z];exact qlD _ _ _
  cases hp:Lib.hasPrefix (s.drop k) qW[j] with
  |true=>
   rw [hp,if_pos rfl] at o;simp [hp,I];refine qeb (a:=(j9 (s.drop k) (qW.take j):Nat)) (b:=(qW[j].length:Nat)) (k:= .i64) (by simp) (by simp) ?_;simp [qgE,E,qr (n:=(j:Int)+1) (by omega),h0,h2,h3,h4,J,y];refine ⟨t.trans' af, ?_⟩;rw [o];split<;>omega
  |false=>
   rw [hp,if_neg (by simp)] at o;simp [hp,qgE,E,qr (n:=(j:Int)+1) (by omega),h0,h2,h3,h4,J,y,I,o];exact t.trans' af
 ·have hj':j=21:=by omega
  subst hj';have o:j9 (s.drop k) (qW.take 21)=j9 (s.drop k) qW:=rfl;rw [o] at I;have u:(j9 (s.drop k) qW=0∧first (s.drop k)=(0,0,10))∨(j9 (s.drop k) qW≠0∧first (s.drop k)=(4,j9 (s.drop k) qW,0)):=by
   rw [hfr,qx1 ac];split
   ·exact .inr ⟨by decide,rfl⟩
   ·split
    ·exact .inr ⟨by decide,rfl⟩
    ·exact .inl ⟨rfl,rfl⟩
  generalize j9 (s.drop k) qW=m at I u;rcases u with ⟨rfl,hf⟩|⟨hm,hf⟩
  ·simp [qbG,y,E,qdz,I,F.r0];refine (qeX F.sc.blk).mono ?_;rintro _ _ ⟨rfl,rfl⟩;simp [hQ];exact F.brk (by rw [hf]) (by decide)
  ·simp [qbG,y,E,qdz,I,hm,qoc,F.r3];obtain ⟨n1,n2,n3⟩:=h.n2;have Z:qb w W':=(hE.trans' aa).trans' t;refine qP (B:=B3) (i:=0) (by simp) F.b3 (by simp) rfl rfl sz5 fun W8 ab Y=> ?_;simp at Y;have ad:qb w W8:=ab.ext Z (by omega);have h8:Nx base B w s k l coms cv B2 B3 B4 ((4:Nat):Int) e W8:=F.kind Z ab Y (h.gw.ext ad);exact qc8 (h8.env (by simp) (by simp) (by simp) (by simp)) hf ac (vn:=9) (by simp [I]) (by omega) hK
theorem qtV (hG:G w) (h:Sc base B w s k l coms cv) (a:k<s.length):Calls Tryz.prog 267 #[.pointer (some ⟨B,0,none⟩)] w (yl base B w s k l coms cv):=by
 have hs64:=h.short;have hs20:=h.sl;have hfk:=qd6 a;have hne:s.drop k≠[]:=by rw [kw a];exact List.cons_ne_nil _ _
 refine qzX fun ρ W=> ?_;simp [qog];refine qT z38 fun B2 W2 aa c V _=> ?_;have S:=h.ext c;simp [W,S.blk.cell,qD4];refine qT z38 fun B3 W3 hB3 z hb3 _=> ?_;have hS3:=S.ext z;have U:=V.ext z;simp;refine jn (B:=B3) (by simp) hb3 (by simp [Value.cells]) (by simp [Value.cells]) (by simpa [Value.cells] using qe1) fun W4 E H=> ?_;have Y:B2<B3:=by have:=V.lt;omega
 have o3:=S.off hB3;have o2:=h.off aa;have hS4:=hS3.only E o3.1 o3.2;have Z:=E.blk U (by omega);have hT4:Tn B cv cv w W4:=(Tn.ext (c.trans' z)).new E (by have:=c.size;omega);simp [Value.cells] at H;simp;refine qji.mono ?_;rintro _ W5 ⟨rfl,y⟩;simp;refine qT qiK fun B4 W6 hB4 o ab _=> ?_;simp;have F:=H.ext y;have hl4:B3<B4:=by have:=F.lt;omega
 refine jn (B:=B4) (by simp) ab (by simp [Value.cells]) (by simp [Value.cells];decide) (by simpa [Value.cells] using qjl) fun W7 t I=> ?_;have ae:=hS4.ext y;have o4:=ae.off hB4;have af:=(ae.ext o).only t o4.1 o4.2;have ad:=t.blk (F.ext o) (by omega);have ac:=t.blk ((Z.ext y).ext o) (by omega);have hT7:Tn B cv cv w W7:=((hT4.trans (Tn.ext y)).trans (Tn.ext o)).new t (by have:=c.size;omega);have J:qb w W7:=by
  have e4:qb w W4:=E.ext (c.trans' z) (by have:=c.size;omega);exact t.ext ((e4.trans' y).trans' o) (by have:=c.size;omega)
 simp [Value.cells] at I;simp [W,af.blk.cell,a,qaS a];intro W8 b;have hN:∀e:qa,e 0= .pointer (some ⟨B,0,none⟩)→e 2= .pointer (some ⟨B2,0,none⟩)→e 3= .pointer (some ⟨B3,0,none⟩)→e 4= .pointer (some ⟨B4,0,none⟩)→Nx base B w s k l coms cv B2 B3 B4 0 e W8:=fun e a0 a2 a3 a4=>
  ⟨a0,a2,a3,a4,af.ext b,ac.ext b,ad.ext b,I.ext b,hT7.trans (Tn.ext b),⟨aa,Y,hl4⟩,⟨o3.1,o2.1⟩,⟨o3.2,o2.2⟩,hG.ext (J.trans' b),hG⟩
 have u:=J.trans' b;simp [qof];refine (qeW s[k] W8).mono ?_;rintro _ W8 ⟨rfl,rfl⟩;cases hl:vc s[k] with
 |true=>
  simp;refine qxJ (hN _ (by simp [W]) (by simp) (by simp) (by simp)) u a hl (fun _ _ _=>rfl) fun _ _=>rfl
 |false=>
  simp;refine (qeY s[k] W8).mono ?_;rintro _ W8 ⟨rfl,rfl⟩;cases hc:qM s[k] with
  |true=>
   simp;refine qxL (hN _ (by simp [W]) (by simp) (by simp) (by simp)) u a hl hc (fun _ _ _=>rfl) fun _ _=>rfl
  |false=>
   simp only [xP];refine qxI (hN _ (by simp [W]) (by simp) (by simp) (by simp)) u a hl hc (fun _ _ _=>rfl) fun _ _=>rfl
end
end Go.L01
namespace Go.L01
open Go Go.Eng Go.Proofs
set_option maxRecDepth 100000
noncomputable def qlX:Code:=(Tryz.f200.body).getD .skip
noncomputable def qdp (v:Value):IR:=zq [za 6 (.const v)] <| .block 0 (zq [zE 8 (.binOp .eql 20 (zt 6) (.const .nilIface) 20) 4] <| .cond (zv 8) (.reg [zm 3 6]) (zq [zE 9 (.typeAssert (zt 6) 20 212 true) 0,za 10 (ze 1 (zv 9)),za 11 (ze 0 (zv 9))] <| .cond (zv 10) (zq [zA 4 212,zw 212 (zt 4) (zt 11)] <| .raw (qL qlX 7)) (.reg [zm 5 6,zm 7 5, .eff none none (.panic (zt 7)) 0])))
def qdo:List Nat:=zV 14 []
theorem qyn (v:Value):(qY Tryz.prog Tryz.f200.ntmps qdo [7] (Qp v (Tryz.f200.body.getD .skip))).map IR.norm=some (qdp v):=by kernel_rfl
theorem qlW {v0 b a:Value} {u:FrameMode} {w:World} {R:Ending→FrameMode→World→Prop} (h:∀ρ:qa,ρ 0=v0→ρ 1=b→ρ 2=a→(qdp (vO u)).wp ⟨Tryz.prog,14,qdo,[]⟩ (yH [] (vZ u) R) (Jk [] (vZ u) R) ρ w):
  CallsDIn Fence.wide 0 Tryz.prog 200 #[v0,b,a] u w R:=by
 obtain ⟨o,e,t⟩:=Option.map_eq_some_iff.1 (qyn (vO u));exact qss (args:= #[v0,b,a]) Tryz.func200 (c:=Tryz.f200.body.getD .skip) rfl (by kernel_rfl) e t (by kernel_rfl) (show vv Tryz.prog qdo Tryz.f200.results.toList=some [] by kernel_rfl) (Nat.le_of_ble_eq_true rfl) (h _ rfl rfl rfl)
noncomputable def qlV:OT:=zy 12 (zf 0 (zv 4))<|zy 13 (zM 2 (zv 12))<| .step (zw 48 (zt 0) (.const (.slice none 0 0))) true<| .step (zw 51 (zt 1) (.const (.slice none 0 0))) true<| .step (zw 26 (zt 2) (zt 13)) false<| .done
theorem qyo:vD Tryz.prog 14 qdo 4 (qL qlX 7)=some qlV:=by kernel_rfl
end Go.L01
namespace Go.L01
open Go Go.Eng Go.Proofs Go.RowKit
set_option maxRecDepth 100000
set_option maxHeartbeats 2000000
@[simp] theorem qHL:qg Tryz.prog 266=true:=by kernel_rfl
@[simp] theorem qHK:qg Tryz.prog 267=true:=by kernel_rfl
theorem qv3 {cx:Cx} {g:Operand} {ps:Array Tmp} {assign body:Code} {gf:FuncId} {fs lb:Array Value} {K:qa→World→Prop} {Q:Ks} {ρ:qa} {w:World} (hD:cx.D≠[]) (hg:qd ρ g= .func (.func gf) fs lb) (Y:vE cx.V g=false)
  (o:qg cx.P gf=true)
  (h:∀(a:Act) (r:Loop) (W1:World),Agree cx.n cx.V ρ a→r.tmps=a.tmps→r.params=ps→r.assign=assign→r.body=body→r.state= .ready→r.pending=none→qb w W1→W1.heap.size=w.heap.size+2→LoopB W1 (w.heap.size+1) w.heap.size r→
   Calls cx.P gf (fs++ #[.func (.yield (w.heap.size+1)) #[] #[]]++lb) W1 (qx6 cx (w.heap.size+1) w.heap.size r K Q (qt ρ gS (we (yR w.heap.size) (ρ gS))))):
  (IR.raw (.rangeFunc g ps assign body)).wp cx K Q ρ w:=by
 intro a Z hDa hdf;refine (wpIn_wide (n:=0)).1 (wpIn_rangeFunc fun fn _=> ?_);obtain ⟨rec,b⟩:∃rec:Loop,rec={state:= .ready,pending:=none,fn,tmps:=a.tmps,params:=ps,assign,body,defers:=w.heap.size}:=⟨_,rfl⟩;obtain ⟨W1,z⟩:∃W1,(w.alloc (.deferred (some []))).alloc (.loop rec)=W1:=⟨_,rfl⟩;have hE:qb w W1:=by rw [←z];exact (wE _ _).trans' (wE _ _)
 have S:W1.heap.size=w.heap.size+2:=by rw [←z];simp
 have hL:LoopB W1 (w.heap.size+1) w.heap.size rec:=by
  rw [←z];refine ⟨?_, ?_⟩
  ·have:=World.alloc_heap_new (w.alloc (.deferred (some []))) (.loop rec);rwa [World.size_alloc] at this
  ·exact (Below.heap_alloc _ _ _ (by simp)).trans (World.alloc_heap_new w _)
 have W:a.eval g= .func (.func gf) fs lb:=by
  rw [←hg];cases g with
  |tmp t=>
   have ht:t∈cx.V:=by simpa [vE] using Y
   simp [Act.eval,qd,Z.at ht]
  |const v=>rfl
  |global v=>rfl
  |func v=>rfl
 refine ⟨w.heap.size+1,[yR w.heap.size],W1,{target:= .fn (.func gf) lb,args:=fs++ #[.func (.yield (w.heap.size+1)) #[] #[]]},W1,gf,fs++ #[.func (.yield (w.heap.size+1)) #[] #[]]++lb,W1, ?_, ?_,fun _ _=>trivial, ?_,fun h0=>(by cases h0), ?_⟩
 ·rw [←z,b];exact run_enterLoop_outer _ _ _ _ _
 ·simp only [resolve,W];simp [Deferred.ofValue,Act.eval]
 ·unfold qg at o;split at o
  ·rename_i f2 I;simp only [Bool.and_eq_true,Bool.not_eq_true',beq_eq_false_iff_ne,ne_eq] at o;cases hb:f2.body with
   |none=>simp [hb] at o
   |some c=>simp [invoke,callFunc,I,o.1,hb]
  ·cases o
 ·refine (callsIn_wide (n:=0 - 1)).2 ((h a rec W1 Z (by rw [b]) (by rw [b]) (by rw [b]) (by rw [b]) (by rw [b]) (by rw [b]) hE S hL).mono ?_);have u:=Z.defer (yR w.heap.size);have y:jT cx {a with defers:=[yR w.heap.size]++a.defers}:=fun e=>absurd e hD;intro e W3 U;cases e with
  |returned v=>
   obtain ⟨st,E,J,H,F⟩:=U;have F:=F _ (qae _ _ _) (H.put _);refine ⟨E,_,run_endLoop H.rcd J, ?_⟩;cases E with
   |none=>exact ⟨y,_,u,F⟩
   |some c=>
    cases c<;>first|exact F.elim|skip
    ·exact wpIn_exit ⟨y,_,u,F⟩
    ·exact wpIn_ret ⟨y,_,u,F⟩
  |panicked c=>exact ⟨y,_,u,U⟩
  |outgrown=>exact qdf U
def qEt (base B:Nat) (s:Bs) (J:List Tok→Value→World→Prop):Ending→World→Prop:=fun e W'=>
 (∃v ts coms cv line,e= .returned v∧qX s 1= .ok ts coms∧J ts cv W'∧Sc base B W' s s.length line coms cv)∨
 (∃er line ts cv,e=brk er line∧qX s 1= .bad er line∧J ts cv W')
def qEu (base B l:Nat) (s:Bs) (J:List Tok→Value→World→Prop) (ρ':qa) (W':World):Prop:=
 ρ' 0= .pointer (some ⟨B,0,none⟩)∧ρ' 1= .func (.yield l) #[] #[]∧∃ts k line coms cv,Sc base B W' s k line coms cv∧J ts cv W'∧ww s k∧qX s 1=(qX (s.drop k) line).add ts coms∧ts.length≤k
theorem qyr {W:World} {base B l:Nat} {s:Bs} {cv0:Value} (J:List Tok→Value→World→Prop) (hg:∀b cv W,J b cv W→G W) (I:∀b cv S W W',J b cv W→Tn B cv S W W'→J b S W')
  (hY:∀b cv t W k line coms,J b cv W→Sc base B W s k line coms cv→b.length≤20000→qaC Tryz.prog l #[qat t] W fun e W'=>e= .returned (.bool true)∧J (b++[t]) cv W'∧Sc base B W' s k line coms cv)
  (h0:J [] cv0 W) (y:Sc base B W s 0 1 [] cv0):
  Calls Tryz.prog 201 #[.pointer (some ⟨B,0,none⟩), .func (.yield l) #[] #[]] W (qEt base B s J):=by
 refine qAW fun ρ r0 r1=> ?_;simp [qpD,r0];refine (qje y).mono ?_;rintro _ W1 ⟨rfl,k,line,new,cv,hK,z⟩;simp;refine QJ (qEu base B l s J) (fun _ w'=>s.length - atOf w' B) ⟨by simp [r0],by simp [r1],[],k,line,new,cv,by simpa using hK.sc,I _ _ _ _ _ h0 hK.tn,z,by simpa using hK.eq,by simp⟩ ?_;clear hK z;rintro ρ' W' ⟨r0,r1,b,k,line,coms,cv,y,hj,z,E,hlen⟩;have hat:=y.at
 by_cases c:k<s.length
 ·simp [qg7,r0,y.blk.cell,c];intro W2 o;have hS2:=y.ext o;have F:=I _ _ _ _ _ hj (Tn.ext o);obtain ⟨hbl,h37⟩:=z c;have U:=hbl;simp only [yj,Bool.or_eq_false_iff,decide_eq_false_iff_not] at U;obtain ⟨⟨b1,b2⟩,b3⟩:=U;have u:=yD s[k] (s.drop (k+1)) line;rw [←kw c,if_neg b3,if_neg (by rintro (h|h)<;>contradiction),if_neg h37] at u;simp [qg8,qpB,r0,r1];refine (qtV (hg _ _ _ F) hS2 c).mono ?_;rintro e W3 ⟨V,⟨Z,rfl,hS3⟩|⟨Z,rfl⟩⟩
  ·rw [if_neg (by simpa using Z)] at u;have hj3:=I _ _ _ _ _ F V;simp;refine qCZ (l:=l) (by simp) (by simp) ?_;simp;refine (hY b cv _ W3 _ _ _ hj3 hS3 (by have:=y.kl;have:=y.sl;omega)).mono ?_;rintro _ W4 ⟨rfl,hj4,hS4⟩;simp [qpC,r0];refine (qje hS4).mono ?_;rintro _ W5 ⟨rfl,k5,H,new5,cv5,a,Y⟩;have hpos:=qas Z (by rw [kw c];exact List.cons_ne_nil _ _);simp;refine ⟨⟨by simp [r0],by simp [r1],_,k5,H,_,cv5,a.sc,I _ _ _ _ _ hj4 a.tn,Y, ?_, ?_⟩, ?_⟩
   ·rw [E,u,List.drop_drop,a.eq,Res.add_add,Res.add_add];simp
   ·have:=a.le;simp;omega
   ·rw [a.sc.at,hat];have:=a.le;omega
  ·rw [if_pos Z] at u;simp [brk];exact .inr ⟨_,_,b,cv,rfl,by rw [E,u];rfl,I _ _ _ _ _ F V⟩
 ·have hk:k=s.length:=by have:=y.kl;omega
  subst hk;simp [qg7,r0,y.blk.cell,qg8];intro W2 o;refine .inl ⟨_,b,coms,cv,line,rfl, ?_,I _ _ _ _ _ hj (Tn.ext o),y.ext o⟩;rw [E,List.drop_length,qcy];simp [Res.add]
theorem vp:Tryz.prog.underlying 20=some (.interface (Tryz.prog.methodsAt 20)):=by kernel_rfl
def vo:Option TypeDesc→Bool|some (.struct _)=>true|_=>false
theorem qtt:∃ds,Tryz.prog.underlying 212=some ds∧∀m,ds≠ .interface m:=by
 have h:vo (Tryz.prog.underlying 212)=true:=by kernel_rfl
 unfold vo at h;split at h
 ·rename_i fs b;exact ⟨_,b,fun m a=>by cases a⟩
 ·cases h
theorem z84:vL Tryz.prog 212=some #[.int .i64 0, .int .i64 0]:=by kernel_rfl
theorem qtZ:jG Tryz.prog 212 2=true:=by kernel_rfl
theorem kJ:jG Tryz.prog 26 2=true:=by kernel_rfl
theorem qci:jG Tryz.prog 48 1=true:=by kernel_rfl
def qix (e l:Int):List PanicEntry:=[{v:= .iface 212 (.agg #[.int .i64 e, .int .i64 l]),recovered:=false}]
theorem qDp {v0 c a:Value} {w:World}:CallsDIn Fence.wide 0 Tryz.prog 200 #[v0,c,a] .returning w fun e b w'=>(∃v,e= .returned v)∧b= .returning∧w'=w:=by
 refine qlW fun ρ o h t=> ?_;simp [qdp,vO,vZ];refine qrZ vp (by simp) ?_;simp
theorem qDq {w:World} {L C F:Nat} {x y:Value} {f:Array Value} {er ln:Int} (U:Blk w L #[x] 48) (hC:Blk w C #[y] 51) (hF:Blk w F f 26) (hf:f.size=2) (h1:L≠C) (h2:L≠F) (h3:C≠F):
  CallsDIn Fence.wide 0 Tryz.prog 200 #[.pointer (some ⟨L,0,none⟩), .pointer (some ⟨C,0,none⟩), .pointer (some ⟨F,0,none⟩)] (.panicking (qix er ln)) w fun e u' w'=>(∃v,e= .returned v)∧settle u'= .returning∧
   (∃W,qb w W∧∃W2,Only L W W2∧∃W3,Only C W2 W3∧Only F W3 w')∧Blk w' L #[.slice none 0 0] 48∧Blk w' C #[.slice none 0 0] 51∧Blk w' F #[.int .i64 er, .int .i64 ln] 26:=by
 obtain ⟨ds,hu,hd⟩:=qtt;refine qlW fun ρ r0 r1 r2=> ?_;simp [qdp,vO,vZ,qix];refine qrY (u:=212) (v:= .agg #[.int .i64 er, .int .i64 ln]) vp (by simp) ?_;simp;refine qr2 (a:=212) (v:= .agg #[.int .i64 er, .int .i64 ln]) hu hd (by simp) ?_;simp;refine qT z84 fun B W hB V hb _=> ?_;simp;refine jn (B:=B) (by simp) hb (by simp [Value.cells]) (by simp [Value.cells]) (by simpa [Value.cells] using qtZ) fun W1 z J=> ?_;simp [Value.cells] at J;have aa:=z.blk (U.ext V) (by have:=U.lt;omega);have Y:=z.blk (hC.ext V) (by have:=hC.lt;omega);have hF1:=z.blk (hF.ext V) (by have:=hF.lt;omega);simp;refine vF qyo (fun W=>Blk W B #[.int .i64 er, .int .i64 ln] 212) fun W2 c _=> ?_;have t:=J.ext c;refine ⟨t, ?_⟩;have Z:∀w',Blk w' B #[.int .i64 er, .int .i64 ln] 212→∀i,w'.cell? ⟨B,i,none⟩= #[Value.int .i64 er, .int .i64 ln][i]? :=fun w' h=>h.cell;simp+contextual -implicitDefEqProofs [qlV,t.cell,Z];refine qP (B:=L) (i:=0) (by simp [r0]) (aa.ext c) (by simp) rfl rfl qci fun W3 b H=> ?_;refine ⟨b.blk t (by have:=U.lt;omega), ?_⟩;simp;have ab:=b.blk (Y.ext c) (Ne.symm h1);refine qP (B:=C) (i:=0) (by simp [r1]) ab (by simp) rfl rfl qcj fun W4 o I=> ?_;refine ⟨o.blk (b.blk t (by have:=U.lt;omega)) (by have:=hC.lt;omega), ?_⟩;simp;have hF4:=o.blk (b.blk (hF1.ext c) (Ne.symm h2)) (Ne.symm h3);refine jn (B:=F) (by simp [r2]) hF4 (by simp [Value.cells,hf]) (by simp [Value.cells]) (by rw [hf];exact kJ) fun W5 E S=> ?_;simp [Value.cells] at H I S⊢;refine ⟨by rfl,⟨W2,(z.ext V hB).trans' c,W3,b,W4,o,E⟩,E.blk (o.blk H h1) h2,E.blk I h3,S⟩
def qB (ts:List Tok):List Value:=ts.flatMap fun t=>[.int .u8 (t.kind:Int), .string (qc t.text), .int .i64 t.line]
@[simp] theorem qEI:qB []=[]:=rfl
theorem qjb (a:List Tok) (t:Tok):qB (a++[t])=qB a++[.int .u8 (t.kind:Int), .string (qc t.text), .int .i64 t.line]:=by simp [qB]
theorem jm (a:List Tok):(qB a).length=a.length*3:=by
 induction a with
 |nil=>rfl
 |cons t a b=>
  have:qB (t::a)=[.int .u8 (t.kind:Int), .string (qc t.text), .int .i64 t.line]++qB a:=rfl;rw [this,List.length_append,b];simp;omega
theorem Own.same {base e sz:Nat} {w w':World} {v:Value} {xs:List Value} (h:Own base e sz w v xs) (c:∀k,v.ownBlock=some k→w'.heap[k]? =w.heap[k]?):Own base e sz w' v xs:=by
 rcases h with h|⟨g,off,n,cap,cur,rfl,a,b,r⟩
 ·exact .inl h
 ·exact .inr ⟨g,off,n,cap,cur,rfl,a,(c g rfl).trans b,r⟩
structure SJ (w:World) (B L C F l Db:Nat) (rec:Loop) (ts:List Tok) (cv:Value) (lv:Value) (W:World):Prop where
 ext:qb w W
 lp:LoopB W l Db rec
 bl:Blk W L #[lv] 48
 bc:Blk W C #[.slice none 0 0] 51
 bf:Blk W F #[.int .i64 0, .int .i64 0] 26
 own:Own w.heap.size 53 3 W lv (qB ts)
 ne:∀X∈[B,L,C,F,l,Db],lv.ownBlock≠some X
 nc:∀X∈[L,C,F,l,Db],cv.ownBlock≠some X∧X≠B
 nn:∀k,lv.ownBlock=some k→cv.ownBlock≠some k
theorem SJ.turn {w:World} {B L C F l Db:Nat} {rec:Loop} {z:List Tok} {cv o E:Value} {W W':World} (h:SJ w B L C F l Db rec z cv E W) (a:Tn B cv o W W') (V:w.heap.size≤B) (I:∀k,cv.ownBlock=some k→w.heap.size≤k):SJ w B L C F l Db rec z o E W':=by
 have t:=h.lp.lt;have keep:∀X∈[L,C,F,l,Db],X<W.heap.size→W'.heap[X]? =W.heap[X]? :=fun X c S=>a.block X S (h.nc X c).2 (h.nc X c).1;have H:=h.bl.lt;have J:=h.bc.lt;have U:=h.bf.lt;refine ⟨⟨a.os.trans h.ext.os,a.tape.trans h.ext.tape,a.output.trans h.ext.output,Nat.le_trans h.ext.size a.size,fun k b=>(a.block k (Nat.lt_of_lt_of_le b h.ext.size) (by omega) fun e=>by have:=I k e;omega).trans (h.ext.block k b)⟩,
  h.lp.keep (keep l (by simp) t.1) (keep Db (by simp) t.2),⟨(keep L (by simp) H).trans h.bl.heap⟩,⟨(keep C (by simp) J).trans h.bc.heap⟩,⟨(keep F (by simp) U).trans h.bf.heap⟩, ?_,h.ne, ?_, ?_⟩
 ·refine Own.same h.own fun k b=> ?_;have u:=(h.own.blk k b).2;exact a.block k u (fun e=>h.ne B (by simp) (by rw [b,e])) (h.nn k b)
 ·intro X c;refine ⟨?_,(h.nc X c).2⟩;rcases a.own with e|e
  ·rw [e];exact (h.nc X c).1
  ·intro y;have:=e X y;simp only [List.mem_cons,List.mem_nil_iff,or_false] at c;rcases c with rfl|rfl|rfl|rfl|rfl<;>omega
 ·intro k b;rcases a.own with e|e
  ·rw [e];exact h.nn k b
  ·intro y;have Z:=e k y;have Y:=(h.own.blk k b).2;omega
theorem SJ.round {w:World} {B L C F l Db:Nat} {rec a:Loop} {o:List Tok} {cv t:Value} {W W':World} (h:SJ w B L C F l Db rec o cv t W) (b:Only l W W') (z:w.heap.size≤l) (c:L≠l∧C≠l∧F≠l) (u:LoopB W' l Db a):SJ w B L C F l Db a o cv t W':=
 ⟨b.ext h.ext z,u,b.blk h.bl c.1,b.blk h.bc c.2.1,b.blk h.bf c.2.2,Own.same h.own fun k y=>b.block k (fun e=>h.ne l (by simp) (by rw [y,e])),h.ne,h.nc,h.nn⟩
theorem SJ.app {w:World} {B L C F l Db:Nat} {rec:Loop} {ts y:List Tok} {cv I a:Value} {W W1 W':World} (h:SJ w B L C F l Db rec ts cv I W) (Y:W.grownBy W1 I.ownBlock) (ho:Own w.heap.size 53 3 W1 a (qB y)) (U:a.ownBlock=I.ownBlock∨a.ownBlock=some W.heap.size)
  (E:Only L W1 W') (hb:Blk W' L #[a] 48) (z:C≠L∧F≠L∧l≠L∧Db≠L) (hB:B<W.heap.size) (hc:∀k,cv.ownBlock=some k→k<W.heap.size) (S:w.heap.size≤L):SJ w B L C F l Db rec y cv a W':=by
 have b:=h.lp.lt;have hL:=h.bl.lt;have V:=h.bc.lt;have Z:=h.bf.lt;have keep:∀X∈[C,F,l,Db],X<W.heap.size→X≠L→W'.heap[X]? =W.heap[X]? :=by
  intro X o hl J;rw [E.block X J];refine Y.block X hl fun e=>h.ne X ?_ e.symm;simp only [List.mem_cons,List.mem_nil_iff,or_false] at o⊢;rcases o with rfl|rfl|rfl|rfl<;>simp
 have u:∀X∈[B,L,C,F,l,Db],X<W.heap.size:=by
  intro X o;simp only [List.mem_cons,List.mem_nil_iff,or_false] at o;rcases o with rfl|rfl|rfl|rfl|rfl|rfl
  ·exact hB
  ·exact hL
  ·exact V
  ·exact Z
  ·exact b.1
  ·exact b.2
 have c:∀X∈[B,L,C,F,l,Db],a.ownBlock≠some X:=by
  intro X o;rcases U with e|e
  ·rw [e];exact h.ne X o
  ·rw [e];intro H;cases H;have:=u _ o;omega
 refine ⟨?_,h.lp.keep (keep l (by simp) b.1 z.2.2.1) (keep Db (by simp) b.2 z.2.2.2),hb,⟨(keep C (by simp) V z.1).trans h.bc.heap⟩,⟨(keep F (by simp) Z z.2.1).trans h.bf.heap⟩, ?_,c,h.nc, ?_⟩
 ·exact E.ext (h.ext.grown Y h.ext.size fun k t=>(h.own.blk k t).1) S
 ·exact Own.same ho fun k t=>E.block k fun e=>c L (by simp) (by rw [t,e])
 ·intro k t;rcases U with e|e
  ·exact h.nn k (e▸t)
  ·rw [e] at t;cases t;intro H;have:=hc _ H;omega
theorem Sc.gb {base B:Nat} {W W':World} {s:Bs} {k:Nat} {line:Int} {coms:List Bs} {cv:Value} {row:Option Nat} (h:Sc base B W s k line coms cv) (a:W.grownBy W' row) (b:row≠some B) (c:cv.ownBlock=none∨cv.ownBlock≠row):Sc base B W' s k line coms cv:=
 ⟨⟨(a.block B h.blk.lt (fun e=>b e.symm)).trans h.blk.heap⟩,h.own.kept a c,h.ne,h.bB,Nat.le_trans h.bW a.size,h.kl,h.sl,h.l0,h.l1,h.cl⟩
theorem qku:∃b,xG Tryz.prog 48=some (53,3,b)∧b≤64:=by
 have h:(match xG Tryz.prog 48 with|some (e,s,b)=>decide (e=53)&&decide (s=3)&&decide (b≤64)|none=>false)=true:=by kernel_rfl
 split at h
 ·rename_i e s b c;simp only [Bool.and_eq_true,decide_eq_true_eq] at h;obtain ⟨⟨rfl,rfl⟩,a⟩:=h;exact ⟨b,c,a⟩
 ·cases h
theorem qjK:xo Tryz.prog 48=some (53,3):=by kernel_rfl
theorem qsz:Tryz.prog.built 26 [(0, .int .i64 2)]=some #[.int .i64 2, .int .i64 0]:=by kernel_rfl
theorem qeq:Tryz.prog.built 26 []=some #[.int .i64 0, .int .i64 0]:=by kernel_rfl
theorem qD0 (s:Bs):Tryz.prog.built 215 [(0, .string (qc s)),(2, .int .i64 1)]=some #[.string (qc s), .int .i64 0, .int .i64 1]:=by kernel_rfl
theorem qDZ (s:Bs):Tryz.prog.built 217 [(0, .agg #[.string (qc s), .int .i64 0, .int .i64 1])]=some #[.string (qc s), .int .i64 0, .int .i64 1, .slice none 0 0]:=by kernel_rfl
theorem z28:vL Tryz.prog 48=some #[.slice none 0 0]:=by kernel_rfl
theorem z25:vL Tryz.prog 51=some #[.slice none 0 0]:=by kernel_rfl
theorem z31:vL Tryz.prog 26=some #[.int .i64 0, .int .i64 0]:=by kernel_rfl
@[simp] theorem qsn:qg Tryz.prog 200=true:=by kernel_rfl
@[simp] theorem qHX:qg Tryz.prog 201=true:=by kernel_rfl
def Q5 (w:World) (src:Bs):Ending→World→Prop:=fun e w'=>∃v c,e= .returned (.tuple #[v,c, .agg #[.int .i64 (qu src).err, .int .i64 (qu src).at]])∧
 Own w.heap.size 53 3 w' v (qB (qu src).toks)∧Own w.heap.size 9 1 w' c ((qu src).coms.map qi)∧qb w w'
theorem qfz {t u z A B C:Nat} {x y:Value} {cs:Array Value} {T U V:TypeId} {R:Ending→World→Prop} {ρ:qa} {w:World} (o:ρ t= .pointer (some ⟨A,0,none⟩)) (I:Blk w A #[x] T) (b:ρ u= .pointer (some ⟨B,0,none⟩)) (a:Blk w B #[y] U)
  (J:ρ z= .pointer (some ⟨C,0,none⟩)) (E:Blk w C cs V) (e:cs.size=2) (h:R (.returned (.tuple #[x,y, .agg cs])) w):qC [.cell1 t, .cell1 u, .cellN z 2] R ρ w:=by
 have H:w.cell? ⟨A,0,none⟩=some x:=by rw [I.cell];rfl
 have F:w.cell? ⟨B,0,none⟩=some y:=by rw [a.cell];rfl
 have c:qS w (.loadN 2) (.pointer (some ⟨C,0,none⟩))=some (.agg cs):=by rw [qbl,←e,xr E];rfl
 simp only [qC,vC,RV.val,o,b,J,qwz,H,F,c,Option.map_some,Option.bind_some];exact h
theorem jX {P:Program} {rs:List RV} {R:Ending→World→Prop} {ρ:qa} {w:World} {f:FuncId} {caps:Array Value} {u:FrameMode} (t:u≠ .run) (a:qg P f=true)
  (h:CallsDIn Fence.wide 0 P f caps u w fun
   | .returned _,e,w'=>jU P rs R ρ [] (settle e) w'
   | .panicked b,e,w'=>jU P rs R ρ [] (raised e b) w'
   | .outgrown,_,w'=>R .outgrown w'):jU P rs R ρ [.func (.func f) #[] caps] u w:=by
 refine ⟨t,f,caps, ?_,h⟩;unfold qg at a;split at a
 ·rename_i fn y;simp only [Bool.and_eq_true,Bool.not_eq_true',beq_eq_false_iff_ne,ne_eq] at a;cases o:fn.body with
  |none=>simp [o] at a
  |some c=>simp [invoke,callFunc,y,a.1,o]
 ·cases a
theorem quE {R:Ending→World→Prop} {l:List Nat} (o:∀d∈l,d≠gS∧d≠2∧d≠3∧d≠4):∀d∈l,∀ρ v c w,(zj Tryz.prog [.cell1 2, .cell1 3, .cellN 4 2] R).pn (qt ρ d v) c w→(zj Tryz.prog [.cell1 2, .cell1 3, .cellN 4 2] R).pn ρ c w:=by
 intro d b ρ v c w h;obtain ⟨a,t,u,e⟩:=o d b;refine qrV a (fun w=> ?_) h;simp [vC,RV.val,Ne.symm t,Ne.symm u,Ne.symm e]
theorem qtQ {w:World} (hG:G w) (src:Bs) (hs:src.length<4611686018427387904):Calls Tryz.prog 115 #[.string (qc src)] w (Q5 w src):=by
 refine qCc fun ρ r0 rg=> ?_;have rg':ρ 1000000000= .tuple #[]:=rg;simp [qhF,r0];refine qT z28 fun L W1 hL hE1 hbL hs1=> ?_;simp;refine qT z25 fun C W2 hC hE2 hbC hs2=> ?_;simp;refine qT z31 fun F W3 hF hE3 hbF hs3=> ?_;have hE13:=(hE1.trans' hE2).trans' hE3;have hbL3:=(hbL.ext hE2).ext hE3;have hbC3:=hbC.ext hE3;have z1:=hE1.size;have z2:=hE2.size;have z3:=hE3.size;by_cases hlen:20000<src.length
 ·have hlI:(20000:Int)<src.length:=by omega
  have Z:qu src= .bad 2 0:=by rw [qu,if_pos hlen]
  simp [hlI,qsz,r0];refine qP (B:=L) (i:=0) (by simp) hbL3 (by simp) rfl rfl qci fun W4 hO4 hb4=> ?_;simp;refine qP (B:=C) (i:=0) (by simp) (hO4.blk hbC3 (by omega)) (by simp) rfl rfl qcj fun W5 hO5 hb5=> ?_;simp;refine jn (B:=F) (by simp) (hO5.blk (hO4.blk hbF (by omega)) (by omega)) (by simp [Value.cells]) (by simp [Value.cells]) (by simpa [Value.cells] using kJ) fun W6 hO6 hb6=> ?_;simp [Value.cells] at hb4 hb5 hb6⊢;refine qCY (by simp [gS,rg']) ?_;refine qfz (by simp) (hO6.blk (hO5.blk hb4 (by omega)) (by omega)) (by simp) (hO6.blk hb5 (by omega)) (by simp) hb6 rfl ?_;refine ⟨_,_,by rw [Z];rfl,by rw [Z];exact Own.nil _ _ _ _,by rw [Z];exact Own.nil _ _ _ _, ?_⟩;exact hO6.ext (hO5.ext (hO4.ext hE13 hL) (by omega)) (by omega)
 ·have hlI:¬(20000:Int)<src.length:=by omega
  have Z:qu src=qX src 1:=by rw [qu,if_neg hlen]
  simp [hlI,r0,qq6];refine qhZ (f:=200) (caps:= #[.pointer (some ⟨L,0,none⟩), .pointer (some ⟨C,0,none⟩), .pointer (some ⟨F,0,none⟩)]) (by simp) trivial ?_;simp [gS,rg',r0,qD0,qDZ];refine vz fun B W4 hB hE4 hbB hs4=> ?_;simp [Value.cells] at hbB⊢;have E:=hE13.trans' hE4;have hbL4:=hbL3.ext hE4;have hbC4:=hbC3.ext hE4;have hbF4:=hbF.ext hE4;have hS4:Sc w.heap.size B W4 src 0 1 [] (.slice none 0 0):=⟨by simpa using hbB,Own.nil _ _ _ _,by simp [Value.ownBlock],by omega,E.size,Nat.zero_le _,by omega,by omega,by omega,by simp⟩;obtain ⟨Q,hQ⟩:∃Q,Q=zj Tryz.prog [.cell1 2, .cell1 3, .cellN 4 2] (Q5 w src):=⟨_,rfl⟩;have hQrt:Q.rt=ve Tryz.prog [.cell1 2, .cell1 3, .cellN 4 2] (Q5 w src) .returning:=by rw [hQ];rfl
  have hQpn:∀ρ c w',Q.pn ρ c w'=ve Tryz.prog [.cell1 2, .cell1 3, .cellN 4 2] (Q5 w src) (.panicking c) ρ w':=by rw [hQ];intros;rfl
  have key:∀o:qa,o 2= .pointer (some ⟨L,0,none⟩)→o 3= .pointer (some ⟨C,0,none⟩)→o 4= .pointer (some ⟨F,0,none⟩)→o 5= .pointer (some ⟨B,0,none⟩)→o 17= .func (.func 201) #[.pointer (some ⟨B,0,none⟩)] #[]→
    o gS= .tuple #[.func (.func 200) #[] #[.pointer (some ⟨L,0,none⟩), .pointer (some ⟨C,0,none⟩), .pointer (some ⟨F,0,none⟩)]]→
    (IR.raw qbL).wp ⟨Tryz.prog,29,yd,wF⟩ (qd2.wp ⟨Tryz.prog,29,yd,wF⟩ (ve Tryz.prog [.cell1 2, .cell1 3, .cellN 4 2] (Q5 w src) .returning) Q) (Q.blk 0 (qd2.wp ⟨Tryz.prog,29,yd,wF⟩ (ve Tryz.prog [.cell1 2, .cell1 3, .cellN 4 2] (Q5 w src) .returning) Q)) o W4:=by
   intro o e2 e3 e4 e5 e17 eg;obtain ⟨bA,bB,hrf,hpA,hpB⟩:=qB9;rw [hrf];refine qv3 (gf:=201) (fs:= #[.pointer (some ⟨B,0,none⟩)]) (lb:= #[]) (by simp [wF]) (by simpa using e17) (by decide) (by simp) fun a rec W5 hag hrt hrp hra hrb hrs hrpd hE5 hsz5 hL5=> ?_;have hJ0:SJ w B L C F (W4.heap.size+1) W4.heap.size rec [] (.slice none 0 0) (.slice none 0 0) W5:=
    ⟨E.trans' hE5,hL5,hbL4.ext hE5,hbC4.ext hE5,hbF4.ext hE5,Own.nil _ _ _ _,by simp [Value.ownBlock],by simp [Value.ownBlock];omega,by simp [Value.ownBlock]⟩
   simp only [List.append_toArray,List.cons_append,List.nil_append,Array.append_empty];refine (qyr (base:=w.heap.size) (B:=B) (l:=W4.heap.size+1) (s:=src) (cv0:= .slice none 0 0) (fun ts cv W=>(∃y,SJ w B L C F (W4.heap.size+1) W4.heap.size rec ts cv y W)∧∀k,cv.ownBlock=some k→w.heap.size≤k) (fun ts cv W h=> ?_) (fun ts cv cv' W W' h hT=> ?_) (fun ts cv t W k line coms hJ hS hlen'=> ?_) ⟨⟨_,hJ0⟩,by simp [Value.ownBlock]⟩ (hS4.ext hE5)).mono ?_
   ·obtain ⟨⟨y,h⟩,_⟩:=h;exact hG.ext h.ext
   ·obtain ⟨⟨y,h⟩,hc⟩:=h;refine ⟨⟨y,h.turn hT (by omega) hc⟩,fun k z=> ?_⟩;rcases hT.own with e|e
    ·exact hc k (e▸z)
    ·have:=e k z;have:=h.ext.size;omega
   ·obtain ⟨⟨y,h⟩,hc⟩:=hJ;refine qs8 h.lp hrs hag hrt hrp (by rfl) (by decide) (by rw [hra];exact hpA) (by rw [hrb];exact hpB) ?_;simp [qcX,qq9];refine qT z38 fun Bt W6 hBt hE6 hbt _=> ?_;simp;refine jn (B:=Bt) (by simp) hbt (by simp [Value.cells,qat]) (by simp [Value.cells,qat]) (by simpa [Value.cells] using qe1) fun W7 hO7 hb7=> ?_;simp [Value.cells,qat] at hb7;have off:=hS.off hBt;have hS7:=(hS.ext hE6).only hO7 off.1 off.2;have h7:SJ w B L C F (W4.heap.size+1) W4.heap.size rec ts cv y W7:=h.turn ((Tn.ext hE6).new hO7 hBt) (by omega) hc;simp;refine ⟨h7.lp,fun W8 hO8 hL8=> ?_⟩;have h4s:=h7.nc (W4.heap.size+1) (by simp);have H:SJ w B L C F (W4.heap.size+1) W4.heap.size _ ts cv y W8:=h7.round hO8 (by have:=E.size;omega) ⟨by omega,by omega,by omega⟩ hL8;have S:=hS7.only hO8 h4s.2 h4s.1;have hltl:=h7.lp.lt;have hb8:=hO8.blk hb7 (by have:=h.lp.lt;omega);simp [qq8,e2,H.bl.cell,hb8.cell];refine jz qjK (by decide) (by decide) (by simp [Value.cells]) fun B9 W9 hB9 hE9 hb9 _=> ?_;simp [Value.cells] at hb9;have h9:=H.turn (Tn.ext hE9) (by omega) hc;have hS9:=S.ext hE9;have u:Own w.heap.size 53 3 W9 (.slice (some ⟨B9,0,none⟩) 1 1) [.int .u8 (t.kind:Int), .string (qc t.text), .int .i64 t.line]:=Own.lit hb9 rfl (by have:=H.ext.size;omega) (by decide);obtain ⟨bb,ri,hbb⟩:=qku;simp;refine qee ri h9.ext.size (by simp) (by simp) h9.own (jO u) (by simp;exact ⟨rfl,rfl,rfl⟩) (by rw [jm];simp;omega) (by
     rw [jm];have:(ts.length*3+3)*bb≤(ts.length*3+3)*64:=Nat.mul_le_mul_left _ hbb;simp;omega) fun lv' W10 ho10 hg10 hf10=> ?_
    have hbl10:Blk W10 L #[y] 48:=⟨(hg10.block L h9.bl.lt (fun e=>h9.ne L (by simp) e.symm)).trans h9.bl.heap⟩;have U:=qc1 ho10;simp [e2];refine qP (B:=L) (i:=0) (by simp [e2]) hbl10 (by simp) (by simpa using U.1) (by simpa using U.2) qci fun W11 hO11 hb11=> ?_;simp at hb11;have h11:SJ w B L C F (W4.heap.size+1) W4.heap.size _ (ts++[t]) cv lv' W11:=h9.app hg10 (by rw [qjb];exact ho10) hf10 hO11 hb11 ⟨by omega,by omega,by omega,by omega⟩ hS9.blk.lt (fun k z=>(hS9.own.blk k z).2) hL;have hcl:cv.ownBlock=none∨cv.ownBlock≠y.ownBlock:=by
     cases z:cv.ownBlock with
     |none=>exact .inl rfl
     |some k=>exact .inr fun e=>h9.nn k e.symm z
    have hnL:=h9.nc L (by simp);have hS11:=(hS9.gb hg10 (h9.ne B (by simp)) hcl).only hO11 hnL.2 hnL.1;simp [qkl];refine ⟨h11.lp,fun W12 hO12 hL12=> ?_⟩;exact ⟨⟨⟨lv',h11.round hO12 (by have:=E.size;omega) ⟨by omega,by omega,by omega⟩ (hL12.ready hrs hrpd)⟩,hc⟩,hS11.only hO12 h4s.2 h4s.1⟩
   ·rintro e W6 (⟨v,ts,coms,cv,line,rfl,hsc',⟨⟨y,h⟩,hc⟩,hS6⟩|⟨er,line,ts,cv,rfl,hsc',⟨⟨y,h⟩,hc⟩⟩)
    ·refine ⟨.ready,none,by simp,h.lp.ready' hrs hrpd,fun W7 hO7 hL7=> ?_⟩;have hl4:=h.nc (W4.heap.size+1) (by simp);have h7:=h.round hO7 (by have:=E.size;omega) ⟨by omega,by omega,by omega⟩ hL7;have hS7:=hS6.only hO7 hl4.2 hl4.1;have nB:=(h7.nc L (by simp)).2;have nC:=(h7.nc C (by simp)).2;simp only [qd2,qq7,qeJ];refine vF qCb (fun W=>Blk W L #[y] 48∧Blk W B (kL src src.length line cv) 217) (fun W8 hE8 _=> ?_) (by rw [hQ];exact quE (by simp [OT.takes,qhD,gS]));have H:=h7.turn (Tn.ext hE8) (by omega) hc;have S:=hS7.ext hE8;refine ⟨⟨H.bl,S.blk⟩, ?_⟩;have cL:∀W,Blk W L #[y] 48→W.cell? ⟨L,0,none⟩=some y:=fun W h=>by rw [h.cell];rfl
     have cB:∀W,Blk W B (kL src src.length line cv) 217→W.cell? ⟨B,3,none⟩=some cv:=fun W h=>by rw [h.cell];rfl
     have U:=qc1 H.own;have honc:=qc1 S.own;have hLB:=(H.nc L (by simp)).2;have hCB:=(H.nc C (by simp)).2;have fin:∀(b:qa) (Wa Wb Wc:World),b 2= .pointer (some ⟨L,0,none⟩)→b 3= .pointer (some ⟨C,0,none⟩)→b 4= .pointer (some ⟨F,0,none⟩)→
       b gS= .tuple #[.int .i64 W4.heap.size, .func (.func 200) #[] #[.pointer (some ⟨L,0,none⟩), .pointer (some ⟨C,0,none⟩), .pointer (some ⟨F,0,none⟩)]]→
       Only L W8 Wa→Blk Wa L #[y] 48→Only C Wa Wb→Blk Wb C #[cv] 51→Only F Wb Wc→Blk Wc F #[.int .i64 0, .int .i64 0] 26→ve Tryz.prog [.cell1 2, .cell1 3, .cellN 4 2] (Q5 w src) .returning b Wc:=by
      intro b Wa Wb Wc f2 f3 f4 fg I Y ob bb oc bc;have hcol:Wc.heap[W4.heap.size]? =some (.deferred (some [])):=by
       rw [oc.block _ (by omega),ob.block _ (by omega),I.block _ (by omega)];exact H.lp.col
      simp only [ve,fg];refine qlI (by simp) hcol fun W9 u=> ?_;refine jX (by simp) qsn (qDp.mono ?_);rintro e u' w' ⟨⟨v,rfl⟩,rfl,rfl⟩;refine qag (qfz f2 (u.blk (oc.blk (ob.blk Y (by omega)) (by omega)) (by omega)) f3 (u.blk (oc.blk bb (by omega)) (by omega)) f4 (u.blk bc (by omega)) rfl ?_);have J:∀k,k∈[L,C,F,W4.heap.size]→y.ownBlock≠some k∧cv.ownBlock≠some k:=by
       intro k z;simp only [List.mem_cons,List.mem_nil_iff,or_false] at z;rcases z with rfl|rfl|rfl|rfl
       ·exact ⟨H.ne _ (by simp),(H.nc _ (by simp)).1⟩
       ·exact ⟨H.ne _ (by simp),(H.nc _ (by simp)).1⟩
       ·exact ⟨H.ne _ (by simp),(H.nc _ (by simp)).1⟩
       ·exact ⟨H.ne _ (by simp),(H.nc _ (by simp)).1⟩
      have same:∀k,k≠L→k≠C→k≠F→k≠W4.heap.size→w'.heap[k]? =W8.heap[k]? :=fun k k1 k2 k3 k4=>by
       rw [u.block k k4,oc.block k k3,ob.block k k2,I.block k k1]
      have V:qu src= .ok ts coms:=Z.trans hsc';refine ⟨y,cv,by rw [V];rfl, ?_, ?_, ?_⟩
      ·rw [V];refine Own.same H.own fun k z=>same k ?_ ?_ ?_ ?_
       ·rintro rfl;exact (J k (by simp)).1 z
       ·rintro rfl;exact (J k (by simp)).1 z
       ·rintro rfl;exact (J k (by simp)).1 z
       ·rintro rfl;exact (J _ (by simp)).1 z
      ·rw [V];refine Own.same S.own fun k z=>same k ?_ ?_ ?_ ?_
       ·rintro rfl;exact (J k (by simp)).2 z
       ·rintro rfl;exact (J k (by simp)).2 z
       ·rintro rfl;exact (J k (by simp)).2 z
       ·rintro rfl;exact (J _ (by simp)).2 z
      ·exact u.ext (oc.ext (ob.ext (I.ext H.ext hL) (by omega)) (by omega)) (by have:=E.size;omega)
     have stL:∀(K:qa→World→Prop) (b:qa),b 2= .pointer (some ⟨L,0,none⟩)→b 23=y→(∀Wa,Only L W8 Wa→Blk Wa L #[y] 48→(Blk Wa L #[y] 48∧Blk Wa B (kL src src.length line cv) 217)→K b Wa)→qw Tryz.prog Q.noRd none (.store 48 (.tmp 2) (.tmp 23)) 0 K b W8:=by
      intro K b f2 f23 z;refine qP (B:=L) (i:=0) (by simpa using f2) H.bl (by simp) (by simp [f23,U.1]) (by simp [f23,U.2]) qci fun Wa I Y=> ?_;have ba':Blk Wa L #[y] 48:=by simpa [f23] using Y
      exact z Wa I ba' ⟨ba',I.blk S.blk (Ne.symm hLB)⟩
     have stC:∀(K:qa→World→Prop) (b:qa) (Wa:World),Only L W8 Wa→Blk Wa L #[y] 48→b 3= .pointer (some ⟨C,0,none⟩)→b 27=cv→(∀Wb,Only C Wa Wb→Blk Wb C #[cv] 51→(Blk Wb L #[y] 48∧Blk Wb B (kL src src.length line cv) 217)→K b Wb)→qw Tryz.prog Q.noRd none (.store 51 (.tmp 3) (.tmp 27)) 0 K b Wa:=by
      intro K b Wa I Y f3 f27 z;refine qP (B:=C) (i:=0) (by simpa using f3) (I.blk H.bc (by omega)) (by simp) (by simp [f27,honc.1]) (by simp [f27,honc.2]) qcj fun Wb ob bb=> ?_;have bb':Blk Wb C #[cv] 51:=by simpa [f27] using bb
      exact z Wb ob bb' ⟨ob.blk Y (by omega),ob.blk (I.blk S.blk (Ne.symm hLB)) (Ne.symm hCB)⟩
     have stF:∀(b:qa) (Wa Wb:World),Only L W8 Wa→Blk Wa L #[y] 48→Only C Wa Wb→Blk Wb C #[cv] 51→b 2= .pointer (some ⟨L,0,none⟩)→b 3= .pointer (some ⟨C,0,none⟩)→b 4= .pointer (some ⟨F,0,none⟩)→b 28= .agg #[.int .i64 0, .int .i64 0]→
       b gS= .tuple #[.int .i64 W4.heap.size, .func (.func 200) #[] #[.pointer (some ⟨L,0,none⟩), .pointer (some ⟨C,0,none⟩), .pointer (some ⟨F,0,none⟩)]]→qw Tryz.prog Q.noRd none (.store 26 (.tmp 4) (.tmp 28)) 0 (fun ρ' w'=>Q.rt ρ' w') b Wb:=by
      intro b Wa Wb I Y ob bb f2 f3 f4 f28 fg;refine jn (B:=F) (by simpa using f4) (ob.blk (I.blk H.bf (by omega)) (by omega)) (by simp [f28,Value.cells]) (by simp [f28,Value.cells]) (by simpa [Value.cells] using kJ) fun Wc oc bc=> ?_;simp [f28,Value.cells] at bc;simp [hQrt];exact fin _ Wa Wb Wc f2 f3 f4 fg I Y ob bb oc bc
     have eg':(we (yR W4.heap.size) (o gS))= .tuple #[.int .i64 W4.heap.size, .func (.func 200) #[] #[.pointer (some ⟨L,0,none⟩), .pointer (some ⟨C,0,none⟩), .pointer (some ⟨F,0,none⟩)]]:=by rw [eg];simp
     simp -implicitDefEqProofs+contextual [qhD,e2,e5,cL,cB,H.bl,S.blk];refine ⟨?_, ?_⟩
     ·rw [qeq];dsimp only [xi];refine stL _ _ (by simp [e2]) (by simp) fun Wa I Y hSa=>⟨hSa, ?_⟩;refine stC _ _ Wa I Y (by simp [e3]) (by simp) fun Wb ob bb aa=>⟨aa, ?_⟩;exact stF _ Wa Wb I Y ob bb (by simp [e2]) (by simp [e3]) (by simp [e4]) (by simp) (by simp [eg'])
     ·refine stL _ _ (by simp [e2]) (by simp) fun Wa I Y hSa=>⟨hSa, ?_, ?_⟩
      ·rw [qeq];dsimp only [xi];refine ⟨hSa, ?_⟩;refine stC _ _ Wa I Y (by simp [e3]) (by simp) fun Wb ob bb aa=>⟨aa, ?_⟩;exact stF _ Wa Wb I Y ob bb (by simp [e2]) (by simp [e3]) (by simp [e4]) (by simp) (by simp [eg'])
      ·refine stC _ _ Wa I Y (by simp [e3]) (by simp) fun Wb ob bb aa=>⟨aa, ?_⟩;rw [qeq];exact ⟨aa,stF _ Wa Wb I Y ob bb (by simp [e2]) (by simp [e3]) (by simp [e4]) (by simp) (by simp [eg'])⟩
    ·show Q.pn _ (qix er line) _;have eg':(we (yR W4.heap.size) (o gS))= .tuple #[.int .i64 W4.heap.size, .func (.func 200) #[] #[.pointer (some ⟨L,0,none⟩), .pointer (some ⟨C,0,none⟩), .pointer (some ⟨F,0,none⟩)]]:=by rw [eg];simp
     have hgs:qt o gS (we (yR W4.heap.size) (o gS)) gS= .tuple #[.int .i64 W4.heap.size, .func (.func 200) #[] #[.pointer (some ⟨L,0,none⟩), .pointer (some ⟨C,0,none⟩), .pointer (some ⟨F,0,none⟩)]]:=by simp [eg']
     rw [hQpn];simp only [ve,hgs];have hlt:=h.lp.lt;refine qlI (by simp) h.lp.col fun W9 u=> ?_;refine jX (by simp) qsn ((qDq (u.blk h.bl (by omega)) (u.blk h.bc (by omega)) (u.blk h.bf (by omega)) rfl (by omega) (by omega) (by omega)).mono ?_);rintro e u' w' ⟨⟨v,rfl⟩,hu,⟨Wx,ex,Wy,oy,Wz,oz,ow⟩,cl,cc,cf⟩;show jU _ _ _ _ [] (settle u') w';rw [hu];refine qag (qfz (by simp [e2]) cl (by simp [e3]) cc (by simp [e4]) cf rfl ?_);have V:qu src= .bad er line:=Z.trans hsc';refine ⟨_,_,by rw [V];rfl,by rw [V];exact Own.nil _ _ _ _,by rw [V];exact Own.nil _ _ _ _, ?_⟩;have h9:qb w W9:=u.ext h.ext (by have:=E.size;omega);exact ow.ext (oz.ext (oy.ext (h9.trans' ex) hL) (by omega)) (by omega)
  rw [hQ] at key;exact key _ (by simp) (by simp) (by simp) (by simp) (by simp) (by simp [gS])
structure SlK (w:World) (v:Value) (ts:List Tok):Prop where
 is:qn v=true
 len:qk v=ts.length
 bd:ts.length<1537228672809129301
 cell:∀(i:Nat) (h:i<ts.length),w.cell? (qJ v (i*3))=some (.int .u8 (ts[i].kind:Int))∧w.cell? (qJ v (i*3+1))=some (.string (qc ts[i].text))∧w.cell? (qJ v (i*3+2))=some (.int .i64 ts[i].line)
theorem SlK.ext {w w':World} {v:Value} {o:List Tok} (h:SlK w v o) (e:qb w w'):SlK w' v o:=
 ⟨h.is,h.len,h.bd,fun i t=>let ⟨a,b,c⟩:=h.cell i t;⟨e.cell a,e.cell b,e.cell c⟩⟩
theorem jB:∀(a:List Tok) (i:Nat) (h:i<a.length),(qB a)[i*3]? =some (.int .u8 (a[i].kind:Int))∧(qB a)[i*3+1]? =some (.string (qc a[i].text))∧(qB a)[i*3+2]? =some (.int .i64 a[i].line)
 |t::a,0,_=>by simp [qB]
 |t::a,i+1,h=>by
  have:=jB a i (by simpa using h);have e:∀j,(qB (t::a))[(i+1)*3+j]? =(qB a)[i*3+j]? :=fun j=>by
   rw [show (i+1)*3+j=(i*3+j)+3 by omega];simp [qB]
  have b:=e 0;simp only [Nat.add_zero] at b;rw [b,e 1,e 2];simpa using this
theorem SlK.own {base:Nat} {w:World} {v:Value} {a:List Tok} (h:Own base 53 3 w v (qB a)) (y:a.length<1537228672809129301):SlK w v a:=by
 have b:=jO h;have z:=b.len;rw [jm] at z;refine ⟨b.is,by omega,y,fun i u=> ?_⟩;obtain ⟨t,o,e⟩:=jB a i u;have c:(qB a).length=a.length*3:=jm a;have g:∀j x,j<a.length*3→(qB a)[j]? =some x→w.cell? (qJ v j)=some x:=fun j x F E=>by
  rw [b.cell j (by omega),←List.getElem?_eq_getElem,E]
 exact ⟨g _ _ (by omega) t,g _ _ (by omega) o,g _ _ (by omega) e⟩
theorem SlK.nil (w:World):SlK w (.slice none 0 0) []:=⟨rfl,rfl,by simp,fun i h=>by simp at h⟩
theorem qtE (s:Bs) (l:Int):(qX s l).toks.length≤s.length∧(qX s l).coms.length≤s.length:=by
 refine qjU (P:=fun s l=>(qX s l).toks.length≤s.length∧(qX s l).coms.length≤s.length) ?_ ?_ ?_ ?_ ?_ ?_ s l
 ·intro l;simp [qcy,Res.toks,Res.coms]
 ·intro r l h;rw [qa3];simp;omega
 ·intro c r l t h;rw [qa2 r l t];simp;omega
 ·intro a r l I b h;rw [qjX l I b];cases o:qX r l with
  |bad e x=>simp [Res.add,Res.toks,Res.coms]
  |ok z cs=>
   rw [o] at h;simp [Res.add,Res.toks,Res.coms] at h⊢;omega
 ·intro c r l F H E u h;rw [qjW l F H E u h];simp [Res.toks,Res.coms]
 ·intro k s r l b y h;rw [qcx (wC b).1 y (qba b)];have J:0<s.length:=List.length_pos_iff.2 (wC b).1;cases o:qX r l with
  |bad e x=>simp [Res.add,Res.toks,Res.coms]
  |ok z cs=>
   rw [o] at h;simp [Res.add,Res.toks,Res.coms] at h⊢;omega
theorem qjT (s:Bs):(qu s).toks.length≤20000∧(qu s).coms.length≤20000:=by
 unfold qu;split
 ·simp [Res.toks,Res.coms]
 ·have:=qtE s 1;omega
@[simp] theorem qIi:qg Tryz.prog 115=true:=by kernel_rfl
@[simp] theorem qHs:qg Tryz.prog 87=true:=by kernel_rfl
@[simp] theorem qH1:qg Tryz.prog 175=true:=by kernel_rfl
@[simp] theorem qH0:qg Tryz.prog 176=true:=by kernel_rfl
theorem jD {b a e sz:Nat} {w:World} {v:Value} {xs:List Value} (o:b≤a) (h:Own a e sz w v xs):Own b e sz w v xs:=by
 rcases h with h|⟨g,off,n,cap,cur,rfl,c,r⟩
 ·exact .inl h
 ·exact .inr ⟨g,off,n,cap,cur,rfl,by omega,r⟩
def fV (src:Bs):Value:= .agg #[.int .i64 (qu src).err, .int .i64 (qu src).at]
def Q4 (w:World) (src:Bs):Ending→World→Prop:=fun e w'=>∃v,e= .returned (.tuple #[v,fV src])∧Own w.heap.size 53 3 w' v (qB (qu src).toks)∧qb w w'
theorem jC {t z C:Nat} {x:Value} {cs:Array Value} {V:TypeId} {R:Ending→World→Prop} {ρ:qa} {w:World} (c:ρ t=x) (b:ρ z= .pointer (some ⟨C,0,none⟩)) (a:Blk w C cs V) (e:cs.size=2) (h:R (.returned (.tuple #[x, .agg cs])) w):qC [.tmp t, .cellN z 2] R ρ w:=by
 have o:qS w (.loadN 2) (.pointer (some ⟨C,0,none⟩))=some (.agg cs):=by rw [qbl,←e,xr a];rfl
 simp only [qC,vC,RV.val,c,b,o,Option.map_some,Option.bind_some];exact h
theorem qjj {w:World} (hG:G w) (src:Bs) (hs:src.length<4611686018427387904):Calls Tryz.prog 53 #[.string (qc src)] w (Q4 w src):=by
 refine qzf fun ρ r0=> ?_;simp [qng,r0];refine qT z31 fun B W hB I J _=> ?_;simp [r0];refine (qtQ (hG.ext I) src hs).mono ?_;rintro _ W1 ⟨v,c,rfl,U,_,t⟩;simp;refine qT z31 fun B2 W2 Z z F _=> ?_;simp;refine jn (B:=B2) (by simp) F (by simp [Value.cells]) (by simp [Value.cells]) (by simpa [Value.cells] using kJ) fun W3 y o=> ?_;simp [Value.cells] at o⊢;have S:=y.blk ((J.ext t).ext z) (by have:=J.lt;have:=t.size;omega);refine vF qze (fun W=>Blk W B2 #[.int .i64 (qu src).err, .int .i64 (qu src).at] 26) fun W4 a _=>⟨o.ext a, ?_⟩;have V:∀W,Blk W B2 #[.int .i64 (qu src).err, .int .i64 (qu src).at] 26→∀i,W.cell? ⟨B2,i,none⟩= #[Value.int .i64 (qu src).err, .int .i64 (qu src).at][i]? :=fun W h=>h.cell;simp+contextual -implicitDefEqProofs [qnc,V,o.ext a];refine jn (B:=B) (by simp) (S.ext a) (by simp [Value.cells]) (by simp [Value.cells]) (by simpa [Value.cells] using kJ) fun W5 u E=> ?_;simp [Value.cells] at E;simp [qnd];refine jC (x:=v) (by simp) (by simp) E rfl ?_;have H:=I.size;have b:qb W1 W4:=(y.ext z (by omega)).trans' a;have h5:Own w.heap.size 53 3 W5 v (qB (qu src).toks):=by
  refine Own.same (w:=W4) ?_ fun k Y=>u.block k fun e=> ?_
  ·have h1:Own W.heap.size 53 3 W4 v (qB (qu src).toks):=U.ext b;exact jD H h1
  ·have:=(U.blk k Y).1;have:=J.lt;omega
 exact ⟨v,rfl,h5,u.ext ((I.trans' t).trans' b) hB⟩
theorem qeh (s:Bs) (n:Nat):(qc s).extract 0 n=qc (s.take n):=by
 have:=QX s 0 n;simpa using this
theorem qwa {w:World} (s:Bs) (aa:s≠[]) (hs:s.length<4611686018427387904):Calls Tryz.prog 176 #[.string (qc s)] w fun e w'=>e= .returned (.tuple #[.int .u8 ((first s).1:Int), .int .i64 ((first s).2.1:Int), .int .i64 (first s).2.2])∧qb w w':=by
 have H:0<s.length:=List.length_pos_iff.2 aa;have Z:s.getD 0 0=s[0]:=by simp [List.getD_eq_getElem?_getD,H]
 have hx:s[0]? =some s[0]:=List.getElem?_eq_getElem H;refine qA2 fun ρ r0=> ?_;simp [qpM,r0,hx];refine (qfE s[0] w).mono ?_;rintro _ w ⟨rfl,rfl⟩;cases hl:vc s[0] with
 |true=>
  have a:first s=if jL (s.take (qN s)) then (2,qN s,0) else if 12<qN s then (0,0,12) else (1,qN s,0):=by
   unfold first
   rw [Z,if_pos hl]
  simp [r0];refine (qkB s hs _).mono ?_;rintro _ w ⟨rfl,rfl⟩;have y:qN s≤s.length:=yv _ _;simp [r0,y,qeh];refine (qkC _).mono ?_;rintro _ w2 ⟨rfl,J⟩;cases U:jL (s.take (qN s)) with
  |true=>
   rw [U,if_pos rfl] at a;simp [a];exact J
  |false=>
   rw [U,if_neg (by simp)] at a;by_cases I:12<qN s
   ·have t:(12:Int)<(qN s:Int):=by omega
    rw [if_pos I] at a;simp [qhd,t,a];exact J
   ·have t:¬(12:Int)<(qN s:Int):=by omega
    rw [if_neg I] at a;simp [qhd,t,a,qpL];exact J
 |false=>
  simp [qpH,r0];refine (qfG s[0] w).mono ?_;rintro _ w ⟨rfl,rfl⟩;cases hd:qM s[0] with
  |true=>
   have a:first s=if jw (s.take (jJ s)) then (3,jJ s,0) else (0,0,11):=by
    unfold first
    rw [Z,if_neg (by rw [hl];simp),if_pos hd]
   simp [r0];refine (qkD s hs _).mono ?_;rintro _ w ⟨rfl,rfl⟩;have y:jJ s≤s.length:=yv _ _;simp [r0,y,qeh];refine (qv9 _ (by simp;omega) _).mono ?_;rintro _ w ⟨rfl,rfl⟩;cases U:jw (s.take (jJ s)) with
   |true=>
    rw [U,if_pos rfl] at a;simp [a,qpK];exact qA _
   |false=>
    rw [U,if_neg (by simp)] at a;simp [a];exact qA _
  |false=>
   have a:first s=if 1<s.length∧jq (s.take 2)=true then (4,2,0) else if jq (s.take 1) then (4,1,0) else (0,0,10):=by
    unfold first
    rw [Z,if_neg (by rw [hl];simp),if_neg (by rw [hd];simp)]
   simp [qpI];have rest:∀(z:qa) (W:World),z 0= .string (qc s)→qb w W→¬(1<s.length∧jq (s.take 2)=true)→qhb.wp ⟨Tryz.prog,45,qdS,[]⟩ (qC [.tmp 2, .tmp 3, .tmp 4] fun e w'=>e= .returned (.tuple #[.int .u8 ((first s).1:Int), .int .i64 ((first s).2.1:Int), .int .i64 (first s).2.2])∧qb w w') (je [.tmp 2, .tmp 3, .tmp 4] fun e w'=>e= .returned (.tuple #[.int .u8 ((first s).1:Int), .int .i64 ((first s).2.1:Int), .int .i64 (first s).2.2])∧qb w w') z W:=by
    intro z W r0 J h2;rw [if_neg h2] at a;simp [qhb];refine vF qA0 (qb W) fun W1 b _=>⟨b, ?_⟩;have Y:(1:Int)≤s.length:=by omega
    simp -implicitDefEqProofs [qpG,r0,Y,qeh];refine qkA.mono ?_;rintro _ W2 ⟨v,rfl,F⟩;have c:=(J.trans' b).trans' F.2;refine ⟨b.trans' F.2, ?_⟩;simp -implicitDefEqProofs;refine (qfF (s.take 1) (F.sl (by decide))).mono ?_;rintro _ W2 ⟨rfl,rfl⟩;have o:jq (s.take 1)=qW.contains (s.take 1):=rfl;cases u:qW.contains (s.take 1) with
    |true=>
     rw [o,u,if_pos rfl] at a;simp [u,qhc,a];exact c
    |false=>
     rw [o,u,if_neg (by simp)] at a;simp [u,qhc,qpJ,a];exact c
   refine vF qA1 (qb w) fun W1 b _=>⟨b, ?_⟩;by_cases V:1<s.length
   ·have E:(1:Int)<s.length:=by omega
    have S:(2:Int)≤s.length:=by omega
    simp -implicitDefEqProofs [qha,r0,V,E,S,qeh];refine qkA.mono ?_;rintro _ W2 ⟨v,rfl,F⟩;have c:=b.trans' F.2;refine ⟨c, ?_⟩;simp -implicitDefEqProofs;refine (qfF (s.take 2) (F.sl (by decide))).mono ?_;rintro _ W2 ⟨rfl,rfl⟩;have o:jq (s.take 2)=qW.contains (s.take 2):=rfl;cases u:qW.contains (s.take 2) with
    |true=>
     rw [o,u,if_pos ⟨V,rfl⟩] at a;simp [u,qdQ,a];exact c
    |false=>
     simp [u,qdQ];exact rest _ _ (by simp [r0]) c (by rw [o,u];simp)
   ·have E:¬(1:Int)<s.length:=by omega
    simp -implicitDefEqProofs [qha,r0,V,E];simp [qdQ];refine ⟨b,rest _ _ ?_ b (fun h=>V h.1)⟩;simp [r0]
theorem qD5 (k l:Int) (s:Bs):Tryz.prog.built 53 [(0, .int .u8 k),(1, .string (qc s)),(2, .int .i64 l)]=some #[.int .u8 k, .string (qc s), .int .i64 l]:=by kernel_rfl
def qEv (w:World) (src:Bs):Ending→World→Prop:=fun e w'=>∃v c,e= .returned (.tuple #[v,c,fV src])∧Own w.heap.size 53 3 w' v (qB (qu src).toks)∧Own w.heap.size 9 1 w' c ((qu src).coms.map qi)∧qb w w'
theorem jx {t u z C:Nat} {x y:Value} {cs:Array Value} {V:TypeId} {R:Ending→World→Prop} {ρ:qa} {w:World} (e:ρ t=x) (a:ρ u=y) (c:ρ z= .pointer (some ⟨C,0,none⟩)) (b:Blk w C cs V) (o:cs.size=2) (h:R (.returned (.tuple #[x,y, .agg cs])) w):qC [.tmp t, .tmp u, .cellN z 2] R ρ w:=by
 have E:qS w (.loadN 2) (.pointer (some ⟨C,0,none⟩))=some (.agg cs):=by rw [qbl,←o,xr b];rfl
 simp only [qC,vC,RV.val,e,a,c,E,Option.map_some,Option.bind_some];exact h
structure RdI (w:World) (src:Bs) (B:Nat) (ρ:qa) (W:World) (k:Nat) (line:Int) (ts:List Tok) (cs:List Bs) (tv cv:Value):Prop where
 r0:ρ 0= .string (qc src)
 r4:ρ 4= .pointer (some ⟨B,0,none⟩)
 r5:ρ 5=tv
 r6:ρ 6=cv
 r7:ρ 7= .int .i64 line
 r8:ρ 8= .int .i64 (k:Int)
 kl:k≤src.length
 l0:1≤line∧line≤(k:Int)+1
 tl:ts.length≤k∧cs.length≤k
 ext:qb w W
 blk:Blk W B #[.int .i64 0, .int .i64 0] 26
 o1:Own w.heap.size 53 3 W tv (qB ts)
 o2:Own w.heap.size 9 1 W cv (cs.map qi)
 ap:∀k,tv.ownBlock=some k→cv.ownBlock≠some k
 nb:tv.ownBlock≠some B∧cv.ownBlock≠some B
 eq:qX src 1=(qX (src.drop k) line).add ts cs
def yb (ρ:qa):Nat:=(RowKit.intOf (ρ 8)).toNat
theorem qv8 {w:World} (src:Bs) (hs:src.length<4611686018427387904):Calls Tryz.prog 87 #[.string (qc src)] w (qEv w src):=by
 refine qyH fun ρ r0=> ?_;simp [qmu,r0];refine qT z31 fun B W hB hE hb hsz=> ?_;by_cases hlen:20000<src.length
 ·have hlI:(20000:Int)<src.length:=by omega
  have b:qu src= .bad 2 0:=by rw [qu,if_pos hlen]
  simp [hlI,qsz,r0];refine jn (B:=B) (by simp) hb (by simp [Value.cells]) (by simp [Value.cells]) (by simpa [Value.cells] using kJ) fun W3 I z=> ?_;simp [Value.cells] at z⊢;refine jx (x:= .slice none 0 0) (y:= .slice none 0 0) (by simp) (by simp) (by simp) z rfl ?_;exact ⟨_,_,by rw [fV,b];rfl,by rw [b];exact Own.nil _ _ _ _,by rw [b];exact Own.nil _ _ _ _,I.ext hE hB⟩
 ·have hlI:¬(20000:Int)<src.length:=by omega
  have hscn:qu src=qX src 1:=by rw [qu,if_neg hlen]
  simp [hlI,qmq,r0];have hBn:∀(W':World),qb W W'→B<W'.heap.size:=fun W' h=>by have:=h.size;omega
  refine QJ (fun t W'=>∃k line S cs tv cv,RdI w src B t W' k line S cs tv cv) (fun t _=>src.length - yb t)
   ⟨0,1,[],[], .slice none 0 0, .slice none 0 0,by simp [r0],by simp,by simp,by simp,by simp,by simp,Nat.zero_le _,by omega,by simp,hE,hb,Own.nil _ _ _ _,Own.nil _ _ _ _,by simp [Value.ownBlock],by simp [Value.ownBlock],by simp⟩ ?_
  rintro t W' ⟨k,line,S,cs,tv,cv,h⟩;have hkO:yb t=k:=by simp [yb,h.r8]
  have hkl:=h.kl;have hl0:=h.l0;have htl:=h.tl;have hb20:src.length≤20000:=by omega
  by_cases aa:k<src.length
  ·have hx:=qaS aa;have hu10:=xS src[k] 10 (by decide);have hu32:=xS src[k] 32 (by decide);have hu9:=xS src[k] 9 (by decide);have hu37:=xS src[k] 37 (by decide);have b:=yD src[k] (src.drop (k+1)) line;rw [←kw aa] at b;simp [qgn,h.r8,h.r0,aa,qms,hx];by_cases e10:src[k]=10
   ·have ac:(src[k].toNat:Int)=10:=hu10.2 e10;rw [if_pos e10] at b;simp [ac,h.r7,h.r8,qr (n:=(k:Int)+1) (by omega),qr (n:=line+1) (by omega)];refine ⟨⟨k+1,line+1,S,cs,tv,cv,by simp [h.r0],by simp [h.r4],by simp [h.r5],by simp [h.r6],by simp,by simp,by omega,by omega,by omega,h.ext,h.blk,h.o1,h.o2,h.ap,h.nb,by rw [h.eq,b]⟩, ?_⟩;rw [hkO];simp [yb];omega
   ·have ac:¬(src[k].toNat:Int)=10:=fun x=>e10 (hu10.1 x);rw [if_neg e10] at b;simp [ac];have blk:∀(u:qa),(src[k]=32∨src[k]=9)→u 0=t 0→u 4=t 4→u 5=t 5→u 6=t 6→u 7=t 7→u 8= .int .i64 ((k:Int)+1)→(∃k line S cs tv cv,RdI w src B u W' k line S cs tv cv)∧src.length - yb u<src.length - yb t:=by
     intro u hb a0 a4 a5 a6 a7 a8;rw [if_pos hb] at b;refine ⟨⟨k+1,line,S,cs,tv,cv,a0.trans h.r0,a4.trans h.r4,a5.trans h.r5,a6.trans h.r6,a7.trans h.r7,by simp [a8],by omega,by omega,by omega,h.ext,h.blk,h.o1,h.o2,h.ap,h.nb,by rw [h.eq,b]⟩, ?_⟩;rw [hkO];simp [yb,a8];omega
    by_cases e32:src[k]=32
    ·have E:(src[k].toNat:Int)=32:=hu32.2 e32;simp [E,qbD,h.r8,qr (n:=(k:Int)+1) (by omega)];exact blk _ (.inl e32) (by simp) (by simp) (by simp) (by simp) (by simp) (by simp)
    have E:¬(src[k].toNat:Int)=32:=fun x=>e32 (hu32.1 x);by_cases e9:src[k]=9
    ·have e9':(src[k].toNat:Int)=9:=hu9.2 e9;simp [E,e9',qbD,h.r8,qr (n:=(k:Int)+1) (by omega)];exact blk _ (.inr e9) (by simp) (by simp) (by simp) (by simp) (by simp) (by simp)
    have e9':¬(src[k].toNat:Int)=9:=fun x=>e9 (hu9.1 x);rw [if_neg (by rintro (x|x)<;>contradiction)] at b;have hdl:(src.drop k).length=src.length - k:=by simp
    by_cases ab:src[k]=37
    ·have ad:(src[k].toNat:Int)=37:=hu37.2 ab;rw [if_pos ab] at b;have hn1:1≤jd (src.drop k):=by rw [kw aa,ab];exact qek _
     have hn2:jd (src.drop k)≤src.length - k:=by have:=qsk (src.drop k);omega
     have hkI:(k:Int)≤src.length:=by omega
     simp [E,e9',ad,qbD,h.r0,h.r8,hkI,hkl,qbS];refine (qwb (src.drop k) (by omega) W').mono ?_;rintro _ W' ⟨rfl,rfl⟩;have hI1:(k:Int)≤(k:Int)+(jd (src.drop k):Int):=by omega
     have hI2:(k:Int)+(jd (src.drop k):Int)≤src.length:=by omega
     have hI3:((k:Int)+(jd (src.drop k):Int)).toNat=k+jd (src.drop k):=by omega
     simp [h.r0,h.r6,h.r8,qr (n:=(k:Int)+(jd (src.drop k):Int)) (by omega),hI1,hI2,hI3,QX];refine jz qct (by decide) (by decide) (by simp [Value.cells]) fun B9 W9 hB9 a J _=> ?_;simp [Value.cells] at J;have hO9:Own w.heap.size 9 1 W9 (.slice (some ⟨B9,0,none⟩) 1 1) [qi ((src.drop k).take (jd (src.drop k)))]:=Own.lit (cs:=[qi ((src.drop k).take (jd (src.drop k)))]) J rfl (by have:=h.ext.size;omega) (by decide);have ho2:=h.o2.ext a;simp;refine qee qkv (by have:=h.ext.size;have:=a.size;omega) (by simp) (by simp) ho2 (jO hO9) (by simp [qi];rfl) (by simp;omega) (by simp;omega) fun v' W10 Y o F=> ?_;have U:Blk W10 B #[.int .i64 0, .int .i64 0] 26:=⟨(o.block B (by have:=h.blk.lt;have:=a.size;omega) (fun e=>h.nb.2 e.symm)).trans (h.blk.ext a).heap⟩;simp [h.r8,qr (n:=(k:Int)+(jd (src.drop k):Int)) (by omega)];refine ⟨⟨k+jd (src.drop k),line,S,cs++[(src.drop k).take (jd (src.drop k))],tv,v',by simp [h.r0],by simp [h.r4],by simp [h.r5],by simp,by simp [h.r7],by simp,by omega,by omega,by simp;omega, ?_,U, ?_,by simpa using Y, ?_,⟨h.nb.1, ?_⟩, ?_⟩, ?_⟩
     ·exact (h.ext.trans' a).grown o (by have:=h.ext.size;have:=a.size;omega) fun k hk=>(ho2.blk k hk).1
     ·refine (h.o1.ext a).kept o ?_;cases hk:tv.ownBlock with
      |none=>exact .inl rfl
      |some q=>exact .inr fun e=>h.ap q hk e.symm
     ·intro q hq;rcases F with e|e
      ·rw [e];exact h.ap q hq
      ·rw [e];intro e2;cases e2;have:=(h.o1.blk _ hq).2;have:=a.size;omega
     ·rcases F with e|e
      ·rw [e];exact h.nb.2
      ·rw [e];intro e2;cases e2;have:=h.blk.lt;have:=a.size;omega
     ·rw [h.eq,b,List.drop_drop,Res.add_add];simp
     ·rw [hkO];simp [yb];omega
    have ad:¬(src[k].toNat:Int)=37:=fun x=>ab (hu37.1 x);rw [if_neg ab] at b;have hkI:(k:Int)≤src.length:=by omega
    have hdne:src.drop k≠[]:=by rw [kw aa];exact List.cons_ne_nil _ _
    simp [E,e9',ad,qbD,h.r0,h.r8,hkI,hkl,qbS];have Z:(first (src.drop k)).2.2=0→0<(first (src.drop k)).2.1∧(first (src.drop k)).2.1≤(src.drop k).length:=fun hh=>qas hh hdne;have hrf:=qwa (w:=W') (src.drop k) hdne (by omega);generalize first (src.drop k)=p at b Z hrf
    obtain ⟨fk,fn,fe⟩:=p;refine hrf.mono ?_;rintro _ W2 ⟨rfl,H⟩;have V:=h.ext.trans' H;by_cases hf:fe=0
    ·rw [if_neg (by simpa using hf)] at b;have hpos:=Z hf;simp only at hpos;have hI1:(k:Int)≤(k:Int)+(fn:Int):=by omega
     have hI2:(k:Int)+(fn:Int)≤src.length:=by omega
     have hI3:((k:Int)+(fn:Int)).toNat=k+fn:=by omega
     simp -implicitDefEqProofs [hf,qmt,h.r0,h.r5,h.r7,h.r8,qr (n:=(k:Int)+(fn:Int)) (by omega),hI1,hI2,hI3,QX,qD5];refine jz qjK (by decide) (by decide) (by simp [Value.cells]) fun B9 W9 hB9 a J _=> ?_;simp [Value.cells] at J;have hO9:Own w.heap.size 53 3 W9 (.slice (some ⟨B9,0,none⟩) 1 1) [.int .u8 (fk:Int), .string (qc ((src.drop k).take fn)), .int .i64 line]:=Own.lit J rfl (by have:=V.size;omega) (by decide);have ho1:=(h.o1.ext H).ext a;obtain ⟨bb,ri,hbb⟩:=qku;simp;refine qee ri (by have:=V.size;have:=a.size;omega) (by simp) (by simp) ho1 (jO hO9) (by simp;exact ⟨rfl,rfl,rfl⟩) (by rw [jm];simp;omega) (by
      rw [jm];have:(S.length*3+3)*bb≤(S.length*3+3)*64:=Nat.mul_le_mul_left _ hbb;simp;omega) fun v' W10 Y o F=> ?_
     have U:Blk W10 B #[.int .i64 0, .int .i64 0] 26:=⟨(o.block B (by have:=h.blk.lt;have:=H.size;have:=a.size;omega) (fun e=>h.nb.1 e.symm)).trans ((h.blk.ext H).ext a).heap⟩;simp [h.r8,qr (n:=(k:Int)+(fn:Int)) (by omega)];refine ⟨⟨k+fn,line,S++[⟨fk,(src.drop k).take fn,line⟩],cs,v',cv,by simp [h.r0],by simp [h.r4],by simp,by simp [h.r6],by simp [h.r7],by simp,by omega,by omega,by simp;omega, ?_,U,by rw [qjb];exact Y, ?_, ?_,⟨?_,h.nb.2⟩, ?_⟩, ?_⟩
     ·exact (V.trans' a).grown o (by have:=V.size;have:=a.size;omega) fun k hk=>(ho1.blk k hk).1
     ·refine ((h.o2.ext H).ext a).kept o ?_;cases hk:cv.ownBlock with
      |none=>exact .inl rfl
      |some q=>exact .inr fun e=>h.ap q e.symm hk
     ·intro q hq;rcases F with e|e
      ·exact h.ap q (e▸hq)
      ·rw [e] at hq;cases hq;intro e2;have:=(h.o2.blk _ e2).2;have:=a.size;have:=H.size;omega
     ·rcases F with e|e
      ·rw [e];exact h.nb.1
      ·rw [e];intro e2;cases e2;have:=h.blk.lt;have:=a.size;have:=H.size;omega
     ·rw [h.eq,b,List.drop_drop,Res.add_add];simp
     ·rw [hkO];simp [yb];omega
    ·rw [if_pos hf] at b;have c:qu src= .bad fe line:=by
      rw [hscn,h.eq,b];rfl
     simp -implicitDefEqProofs [hf,h.r7,qiw];refine jn (B:=B) (by simp [h.r4]) (h.blk.ext H) (by simp [Value.cells]) (by simp [Value.cells]) (by simpa [Value.cells] using kJ) fun W3 I z=> ?_;simp [Value.cells] at z⊢;refine jx (x:= .slice none 0 0) (y:= .slice none 0 0) (by simp) (by simp) (by simp [h.r4]) z rfl ?_;exact ⟨_,_,by rw [fV,c];rfl,by rw [c];exact Own.nil _ _ _ _,by rw [c];exact Own.nil _ _ _ _,I.ext V hB⟩
  ·have hk:k=src.length:=by omega
   subst hk;have c:qu src= .ok S cs:=by
    rw [hscn,h.eq,List.drop_length,qcy];simp [Res.add]
   simp [qgn,h.r8,h.r0,qmr,h.r5,h.r6,qeq];refine jn (B:=B) (by simp [h.r4]) h.blk (by simp [Value.cells]) (by simp [Value.cells]) (by simpa [Value.cells] using kJ) fun W3 I z=> ?_;simp [Value.cells] at z⊢;refine jx (x:=tv) (y:=cv) (by simp) (by simp) (by simp [h.r4]) z rfl ?_;refine ⟨_,_,by rw [fV,c];rfl, ?_, ?_,I.ext h.ext hB⟩
   ·rw [c];exact Own.same h.o1 fun q hq=>I.block q fun e=>h.nb.1 (by rw [hq,e])
   ·rw [c];exact Own.same h.o2 fun q hq=>I.block q fun e=>h.nb.2 (by rw [hq,e])
theorem qwc {w:World} (src:Bs) (hs:src.length<4611686018427387904):Calls Tryz.prog 33 #[.string (qc src)] w (Q4 w src):=by
 refine qzr fun ρ r0=> ?_;simp [qnN,r0];refine qT z31 fun B W hB S I _=> ?_;simp [r0];refine (qv8 (w:=W) src hs).mono ?_;rintro _ W1 ⟨v,c,rfl,U,_,t⟩;simp [fV];refine qT z31 fun B2 W2 Z z F _=> ?_;simp [fV];refine jn (B:=B2) (by simp) F (by simp [Value.cells]) (by simp [Value.cells]) (by simpa [Value.cells] using kJ) fun W3 y o=> ?_;simp [Value.cells] at o⊢;have J:=y.blk ((I.ext t).ext z) (by have:=I.lt;have:=t.size;omega);refine vF qzq (fun W=>Blk W B2 #[.int .i64 (qu src).err, .int .i64 (qu src).at] 26) fun W4 a _=>⟨o.ext a, ?_⟩;have V:∀W,Blk W B2 #[.int .i64 (qu src).err, .int .i64 (qu src).at] 26→∀i,W.cell? ⟨B2,i,none⟩= #[Value.int .i64 (qu src).err, .int .i64 (qu src).at][i]? :=fun W h=>h.cell;simp+contextual -implicitDefEqProofs [qnJ,V,o.ext a];refine jn (B:=B) (by simp) (J.ext a) (by simp [Value.cells]) (by simp [Value.cells]) (by simpa [Value.cells] using kJ) fun W5 u E=> ?_;simp [Value.cells] at E;simp [qnK];refine jC (x:=v) (by simp) (by simp) E rfl ?_;have H:=S.size;have b:qb W1 W4:=(y.ext z (by omega)).trans' a;have h5:Own w.heap.size 53 3 W5 v (qB (qu src).toks):=by
  refine Own.same (w:=W4) ?_ fun k Y=>u.block k fun e=> ?_
  ·have h1:Own W.heap.size 53 3 W4 v (qB (qu src).toks):=U.ext b;exact jD H h1
  ·have:=(U.blk k Y).1;have:=I.lt;omega
 exact ⟨v,rfl,h5,u.ext ((S.trans' t).trans' b) hB⟩
end Go.L01
namespace Go.L02
open Go Go.Eng Go.RowKit
open Go.Proofs hiding encI
open Go.L01 (Bd Bs Own.same Q4 SlK Tok fV jB jC jD jX jm jx qB qK qQ qi qu vo vp)
set_option maxRecDepth 100000
set_option maxHeartbeats 4000000
structure NV where
 nd:Nd
 kv:Value
def qe (x:NV):List Value:=[.int .u8 (x.nd.d.kind:Int), .string (qc x.nd.d.name), .string (qc x.nd.d.vr), .string (qc x.nd.d.typ), .int .i64 x.nd.d.n,x.kv]
def qZ (xs:List NV):List Value:=xs.flatMap qe
theorem z6 (xs:List NV):(qZ xs).length=xs.length*6:=by
 induction xs with
 |nil=>rfl
 |cons x xs a=>
  have:qZ (x::xs)=qe x++qZ xs:=rfl;rw [this,List.length_append,a];simp [qe];omega
theorem qc9 (a b:List NV):qZ (a++b)=qZ a++qZ b:=by simp [qZ]
structure Tn (base B:Nat) (nv nv':Value) (w w':World):Prop where
 below:Below base w w'
 block:∀k,k<w.heap.size→k≠B→nv.ownBlock≠some k→w'.heap[k]? =w.heap[k]?
 row:∀k,nv'.ownBlock=some k→nv.ownBlock=some k∨w.heap.size≤k
 gr:nv'=nv∨qk nv<qk nv'
theorem Tn.size {base B:Nat} {nv nv':Value} {w w':World} (h:Tn base B nv nv' w w'):w.heap.size≤w'.heap.size:=h.below.size
theorem Tn.trans {base B:Nat} {a b c:Value} {w w' o:World} (h:Tn base B a b w w') (k:Tn base B b c w' o):Tn base B a c w o:=by
 have F:=h.size;refine ⟨h.below.trans k.below,fun j u y E=> ?_,fun j u=> ?_,by
  rcases k.gr with e|e
  ·rw [e];exact h.gr
  ·rcases h.gr with z|z
   ·rw [z] at e;exact .inr e
   ·exact .inr (by omega)⟩
 ·refine (k.block j (by omega) y fun e=> ?_).trans (h.block j u y E);rcases h.row j e with t|t
  ·exact E t
  ·omega
 ·rcases k.row j u with t|t
  ·exact h.row j t
  ·exact .inr (by omega)
theorem Tn.refl (base B:Nat) (nv:Value) (w:World):Tn base B nv nv w w:=⟨Below.refl _ _,fun _ _ _ _=>rfl,fun _ h=> .inl h, .inl rfl⟩
theorem Tn.ext {base B:Nat} {nv:Value} {w w':World} (h:qb w w') (a:base≤w.heap.size):Tn base B nv nv w w':=⟨h.mono a,fun k b _ _=>h.block k b,fun _ h=> .inl h, .inl rfl⟩
theorem Tn.ne {base B X:Nat} {nv nv':Value} {w w':World} (h:Tn base B nv nv' w w') (c:X<w.heap.size) (a:nv.ownBlock≠some X):nv'.ownBlock≠some X:=fun e=>by
 rcases h.row X e with b|b
 ·exact a b
 ·omega
theorem Tn.blk {base B X:Nat} {nv nv':Value} {w w':World} {cs:Array Value} {T:TypeId} (h:Tn base B nv nv' w w') (b:Blk w X cs T) (c:X≠B) (a:nv.ownBlock≠some X):Blk w' X cs T:=
 ⟨(h.block X b.lt c a).trans b.heap⟩
structure PSt (base B:Nat) (W:World) (tv nv:Value) (L:List Tok) (i f:Nat) (xs:List NV):Prop where
 blk:Blk W B #[tv, .int .i64 (i:Int), .int .i64 (f:Int),nv] 85
 tok:Own 0 53 3 W tv (qB L)
 own:Own base 44 6 W nv (qZ xs)
 kid:∀x∈xs,Own 0 3 1 W x.kv (x.nd.kids.map encI)
 bB:base≤B
 bW:base≤W.heap.size
 tl:L.length≤20000
 il:i≤L.length
 fl:f≤L.length
section
variable {base B:Nat} {w w':World} {tv nv nv':Value} {L:List Tok} {i f:Nat} {xs:List NV}
theorem Own.row {b e sz:Nat} {w:World} {v:Value} {ys:List Value} {k:Nat} (h:Own b e sz w v ys) (a:v.ownBlock=some k):∃cur,w.heap[k]? =some (.cells cur e (0,0)):=by
 rcases h with ⟨rfl,_⟩|⟨g,off,n,cap,cur,rfl,_,c,_⟩
 ·cases a
 ·cases a;exact ⟨cur,c⟩
theorem PSt.rowNe (h:PSt base B w tv nv L i f xs) {k:Nat} {cs:Array Value} {T:TypeId} {z:Nat×Nat} (a:w.heap[k]? =some (.cells cs T z)) (b:T≠44):nv.ownBlock≠some k:=fun e=>by
 obtain ⟨cur,c⟩:=Own.row h.own e;rw [c] at a;cases a;exact b rfl
theorem PSt.blkNe (h:PSt base B w tv nv L i f xs) {k:Nat} {cs:Array Value} {T:TypeId} {z:Nat×Nat} (a:w.heap[k]? =some (.cells cs T z)) (b:T≠85):k≠B:=fun e=>by
 subst e;rw [h.blk.heap] at a;cases a;exact b rfl
theorem PSt.keep (h:PSt base B w tv nv L i f xs) (u:Tn base B nv nv' w w') {b e sz:Nat} {v:Value} {ys:List Value} (c:Own b e sz w v ys) (o:e≠44) (y:e≠85):Own b e sz w' v ys:=by
 refine Own.same c fun k t=> ?_;obtain ⟨cur,a⟩:=Own.row c t;exact u.block k (Array.getElem?_eq_some_iff.1 a).1 (h.blkNe a y) (h.rowNe a o)
theorem PSt.var (h:PSt base B w tv nv L i f xs) (c:Tn base B nv nv' w w') {X:Nat} {cs:Array Value} {T:TypeId} (a:Blk w X cs T) (b:T≠44) (e:T≠85):Blk w' X cs T:=
 c.blk a (h.blkNe a.heap e) (h.rowNe a.heap b)
theorem PSt.slk (h:PSt base B w tv nv L i f xs):SlK w tv L:=SlK.own h.tok (by have:=h.tl;omega)
theorem PSt.ext (h:PSt base B w tv nv L i f xs) (a:qb w w'):PSt base B w' tv nv L i f xs:=
 ⟨h.blk.ext a,h.tok.ext a,h.own.ext a,fun x b=>(h.kid x b).ext a,h.bB,Nat.le_trans h.bW a.size,h.tl,h.il,h.fl⟩
theorem PSt.only (h:PSt base B w tv nv L i f xs) {X:Nat} (o:Only X w w') {cs:Array Value} {T:TypeId} {z:Nat×Nat} (I:X<w.heap.size→w.heap[X]? =some (.cells cs T z)) (H:T≠44) (J:T≠85) (F:T≠3) (E:T≠53):PSt base B w' tv nv L i f xs:=by
 have ne:∀k cur e,e≠T→w.heap[k]? =some (.cells cur e (0,0))→k≠X:=fun k cur e t a c=>by
  subst c;have:=I (Array.getElem?_eq_some_iff.1 a).1;rw [a] at this;cases this;exact t rfl
 have keep:∀{b e sz:Nat} {v:Value} {ys:List Value},e≠T→Own b e sz w v ys→Own b e sz w' v ys:=fun t u=>Own.same u fun k a=>by
  obtain ⟨cur,y⟩:=Own.row u a;exact o.block k (ne k cur _ t y)
 refine ⟨o.blk h.blk (ne B _ 85 (Ne.symm J) h.blk.heap),keep (Ne.symm E) h.tok,keep (Ne.symm H) h.own,fun x S=>keep (Ne.symm F) (h.kid x S),h.bB,by rw [o.size];exact h.bW,h.tl,h.il,h.fl⟩
theorem PSt.move (h:PSt base B w tv nv L i f xs) {t o:Nat} (a:Only B w w') (I:Blk w' B #[tv, .int .i64 (t:Int), .int .i64 (o:Int),nv] 85) (F:t≤L.length) (E:o≤L.length):
  PSt base B w' tv nv L t o xs∧Tn base B nv nv w w':=by
 have keep:∀{b e sz:Nat} {v:Value} {ys:List Value},e≠85→Own b e sz w v ys→Own b e sz w' v ys:=fun H y=>Own.same y fun k c=>by
  obtain ⟨cur,z⟩:=Own.row y c;exact a.block k (h.blkNe z H)
 refine ⟨⟨I,keep (by decide) h.tok,keep (by decide) h.own,fun x J=>keep (by decide) (h.kid x J),h.bB,by rw [a.size];exact h.bW,h.tl,F,E⟩, ?_,fun k c u _=>a.block k u,fun k c=> .inl c, .inl rfl⟩;exact k9 a h.bB
end
@[simp] theorem qIe:qg Tryz.prog 142=true:=by kernel_rfl
@[simp] theorem qIf:qg Tryz.prog 141=true:=by kernel_rfl
@[simp] theorem qIh:qg Tryz.prog 117=true:=by kernel_rfl
@[simp] theorem qId:qg Tryz.prog 143=true:=by kernel_rfl
@[simp] theorem qIg:qg Tryz.prog 120=true:=by kernel_rfl
@[simp] theorem qIc:qg Tryz.prog 153=true:=by kernel_rfl
@[simp] theorem qDM:qg Tryz.prog 160=true:=by kernel_rfl
theorem z53:vL Tryz.prog 53=some #[.int .u8 0, .string ⟨#[]⟩, .int .i64 0]:=by kernel_rfl
theorem Jf:jG Tryz.prog 53 3=true:=by kernel_rfl
theorem vX:jG Tryz.prog 3 1=true:=by kernel_rfl
theorem qD3:Tryz.prog.built 53 []=some #[.int .u8 0, .string ⟨#[]⟩, .int .i64 0]:=by kernel_rfl
theorem wY:xo Tryz.prog 51=some (9,1):=by kernel_rfl
def wt (t:Tok):Value:= .agg #[.int .u8 (t.kind:Int), .string (qc t.text), .int .i64 t.line]
theorem qfU {base B:Nat} {w:World} {tv nv:Value} {L:List Tok} {i f:Nat} {xs:List NV} (h:PSt base B w tv nv L i f xs) (n:Nat) (hn:n≤1):
  Calls Tryz.prog 142 #[.pointer (some ⟨B,0,none⟩), .int .i64 (n:Int)] w fun e w'=>e= .returned (wt (tk L (i+n)))∧qb w w':=by
 have aa:=h.tl;have hil:=h.il;refine qBT fun ρ r0 r1=> ?_;simp [qqP,r0,r1];refine qT z53 fun X W Z S hb _=> ?_;have U:=h.ext S;have V:=U.slk;have Y:IntKind.i64.wrap ((i:Int)+(n:Int))=((i+n:Nat):Int):=by rw [qr (by omega)];push_cast;rfl
 simp [U.blk.cell,r0,r1,V.is,V.len,Y];intro W2 t;have y:=U.ext t;have J:=y.slk;have F:=hb.ext t;by_cases u:i+n<L.length
 ·have c:=J.cell (i+n) u;have a:((i:Int)+(n:Int)<(L.length:Int)):=by omega
  simp [qhA,a];refine vF qBS (fun W=>PSt base B W tv nv L i f xs) fun W3 o _=>⟨y.ext o, ?_⟩;have H:=y.ext o;have z:=H.slk;have c:=z.cell (i+n) u;have I:∀W,PSt base B W tv nv L i f xs→∀j,W.cell? ⟨B,j,none⟩= #[tv,Value.int .i64 (i:Int), .int .i64 (f:Int),nv][j]? :=fun W h=>h.blk.cell;simp+contextual -implicitDefEqProofs [qqK,I,H,r0,r1,Y];have e3:((i:Int)+(n:Int)).toNat=i+n:=by omega
  rw [if_pos ⟨z.is,by omega,by rw [z.len];omega⟩,e3];simp [c.1,c.2.1,c.2.2];refine jn (B:=X) (by simp) (F.ext o) (by simp [Value.cells]) (by simp [Value.cells]) (by simpa [Value.cells] using Jf) fun W4 E b=> ?_;simp [Value.cells] at b;simp [qqM];refine qK (by simp) b rfl ⟨?_, ?_⟩
  ·rw [wu u];rfl
  ·exact E.ext (((S.trans' t).trans' o)) Z
 ·have a:¬((i:Int)+(n:Int)<(L.length:Int)):=by omega
  simp [qhA,qqL,a];rw [qD3];dsimp only [xi];refine jn (B:=X) (by simp) F (by simp [Value.cells]) (by simp [Value.cells]) (by simpa [Value.cells] using Jf) fun W4 E b=> ?_;simp [Value.cells] at b;simp;refine qK (by simp) b rfl ⟨?_, ?_⟩
  ·rw [Qm (by omega)];rfl
  ·exact E.ext (S.trans' t) Z
section
variable {base B:Nat} {w:World} {tv nv:Value} {L:List Tok} {i f:Nat} {xs:List NV}
theorem qa8 {w:World} {X:Nat} {a b c:Value} {T:TypeId} (h:Blk w X #[a,b,c] T):w.cell? ⟨X,0,none⟩=some a∧w.cell? ⟨X,1,none⟩=some b∧w.cell? ⟨X,2,none⟩=some c:=
 ⟨by rw [h.cell];rfl,by rw [h.cell];rfl,by rw [h.cell];rfl⟩
theorem qw2 (h:PSt base B w tv nv L i f xs) {v:Value} {ss:List Bs} (I:qQ w v ss):
  Calls Tryz.prog 141 #[.pointer (some ⟨B,0,none⟩),v] w fun e w'=>e= .returned (.bool (jQ L i ss))∧qb w w':=by
 refine qBU fun ρ r0 r1=> ?_;simp [qqQ,r0,r1];refine (qfU h 0 (by decide)).mono ?_;rintro _ w1 ⟨rfl,E⟩;simp;refine qT z53 fun X W J t H _=> ?_;simp;refine jn (B:=X) (by simp) H (by simp [Value.cells,wt]) (by simp [Value.cells,wt]) (by simpa [Value.cells] using Jf) fun W2 y b=> ?_;simp [Value.cells,wt] at b;obtain ⟨c0,c1,c2⟩:=qa8 b;have a:qb w W2:=y.ext (E.trans' t) (by have:=E.size;omega);have z:∀n:Nat,(((tk L i).kind:Int)=(n:Int))↔(tk L i).kind=n:=fun n=>by omega
 have o:=z 2;have c:=z 4;simp only [Int.cast_ofNat_Int] at o c;simp [c0,c1,r1];unfold jQ;by_cases F:(tk L i).kind=2∨(tk L i).kind=4
 ·have u:((tk L i).kind:Int)=2∨((tk L i).kind:Int)=4:=by omega
  simp [u,r1];refine (L01.qfi (tk L i).text (I.ext a)).mono ?_;rintro _ _ ⟨rfl,rfl⟩;simp [F];refine ⟨?_,a⟩;simp only [o,c]
 ·have u:¬(((tk L i).kind:Int)=2∨((tk L i).kind:Int)=4):=by omega
  simp [u,F];exact a
def qiC (base B:Nat) (w:World) (tv nv:Value) (L:List Tok) (i f:Nat) (xs:List NV) (b:Bool):Ending→World→Prop:=fun e w'=>e= .returned (.bool b)∧PSt base B w' tv nv L (if b then i+1 else i) f xs∧Tn base B nv nv w w'
theorem qfR (h:PSt base B w tv nv L i f xs) (s:Bs):Calls Tryz.prog 117 #[.pointer (some ⟨B,0,none⟩), .string (qc s)] w (qiC base B w tv nv L i f xs (jQ L i [s])):=by
 have S:=h.tl;have V:=h.il;refine qB6 fun ρ r0 r1=> ?_;simp [qq2,r0,r1];refine jz wY (by decide) (by decide) (by simp [Value.cells]) fun X W Y F H _=> ?_;simp [Value.cells] at H⊢;have U:qQ W (.slice (some ⟨X,0,none⟩) 1 1) [s]:=⟨rfl,rfl,by simp,fun j J=>by
  have:j=0:=by simpa using J
  subst this;simp [qJ,H.cell,qi]⟩
 refine (qw2 (h.ext F) U).mono ?_;rintro _ w1 ⟨rfl,y⟩;have a:=F.trans' y;have c:=h.ext a;simp;cases I:jQ L i [s] with
 |false=>
  simp [qiC];exact ⟨c,Tn.ext a h.bW⟩
 |true=>
  have e:=qgi I;have u:IntKind.i64.wrap ((i:Int)+1)=((i+1:Nat):Int):=by rw [qr (by omega)];push_cast;rfl
  simp [qq1,r0,c.blk.cell,u];refine qP (B:=B) (i:=1) (by simp) c.blk (by simp) rfl rfl vX fun W2 E b=> ?_;simp at b;have t:Blk W2 B #[tv, .int .i64 ((i+1:Nat):Int), .int .i64 (f:Int),nv] 85:=by rw [←u];simpa [u] using b
  obtain ⟨o,z⟩:=c.move E t e h.fl;simp [qiC];exact ⟨o,(Tn.ext a h.bW).trans z⟩
end
def yx:List PanicEntry:=[{v:= .iface 153 (.agg #[]),recovered:=false}]
structure Ans (α:Type) where
 nodes:Nat→α→List Nd
 val:World→World→Nat→α→Value→Prop
def aU:Ans Unit:=⟨fun _ _=>[],fun _ _ _ _ v=>v= .tuple #[]⟩
def aS:Ans Bs:=⟨fun _ _=>[],fun _ _ _ s v=>v= .string (qc s)⟩
def wj (w:World) (v:Value):Prop:=∀k,v.ownBlock=some k→w.heap.size≤k
theorem wj.mono {w w':World} {v:Value} (h:wj w' v) (a:w.heap.size≤w'.heap.size):wj w v:=fun k b=>Nat.le_trans a (h k b)
def PR {α:Type} (A:Ans α) (base B:Nat) (tv nv:Value) (L:List Tok) (xs:List NV) (w:World):Rs α→Ending→World→Prop
 | .oof,_,_=>False
 | .ok a j g,e,w'=>∃v nv' ys,e= .returned v∧PSt base B w' tv nv' L j g (xs++ys)∧ys.map (·.nd)=A.nodes xs.length a∧(∀y∈ys,wj w y.kv)∧Tn base B nv nv' w w'∧A.val w w' xs.length a v
 | .no g,e,w'=>∃j nv' ys,e= .panicked yx∧PSt base B w' tv nv' L j g (xs++ys)∧Tn base B nv nv' w w'
def Mt {α:Type} (A:Ans α) (L:List Tok) (F:FuncId) (args:Value→Array Value) (m:M α):Prop:=∀base B w tv nv i f xs,PSt base B w tv nv L i f xs→xs.length≤2*i+2→m i f≠ .oof→
 Calls Tryz.prog F (args (.pointer (some ⟨B,0,none⟩))) w (PR A base B tv nv L xs w (m i f))
def me (v:Value):Array Value:= #[v]
theorem qe7 {α β:Type} {A:Ans α} {A':Ans β} {L:List Tok} {m:M α} {k:α→M β} {r:Rs β} {base B:Nat} {w w1:World} {tv nv nv1:Value} {i f:Nat} {xs ys:List NV} {K:qa→World→Prop} {Q:Ks} {ρ:qa} {d:Option Nat}
  {F:FuncId} {args:Array Value} (V:m i f≠ .oof→Calls Tryz.prog F args w1 (PR A base B tv nv1 L (xs++ys) w1 (m i f))) (H:Tn base B nv nv1 w w1) (E:bnd m k i f=r) (U:r≠ .oof)
  (hpn:∀c w',PR A' base B tv nv L xs w r (.panicked c) w'→Q.pn ρ c w')
  (h:∀a j g v nv2 zs w2,m i f= .ok a j g→PSt base B w2 tv nv2 L j g (xs++(ys++zs))→zs.map (·.nd)=A.nodes (xs++ys).length a→(∀z∈zs,wj w1 z.kv)→Tn base B nv1 nv2 w1 w2→Tn base B nv nv2 w w2→A.val w1 w2 (xs++ys).length a v→k a j g=r→
   K (qm ρ d v) w2):Calls Tryz.prog F args w1 (xP Q d K ρ):=by
 have u:m i f≠ .oof:=fun e=>U (by rw [←E,qsD e]);refine (V u).mono ?_;intro e w2 y;cases b:m i f with
 |oof=>exact absurd b u
 |no g=>
  rw [b] at y;obtain ⟨j,nv2,zs,rfl,t,o⟩:=y;rw [qst];refine hpn _ _ ?_;rw [←E,qeu b];exact ⟨j,nv2,ys++zs,rfl,by simpa using t,H.trans o⟩
 |ok a j g=>
  rw [b] at y;obtain ⟨v,nv2,zs,rfl,t,S,J,o,I⟩:=y;rw [qiu];refine h a j g v nv2 zs w2 b (by simpa using t) S J o (H.trans o) I ?_;rw [←E,qet b]
theorem qD7:Tryz.prog.built 153 []=some #[]:=by kernel_rfl
section
variable {base B:Nat} {w:World} {tv nv:Value} {L:List Tok} {i f:Nat} {xs:List NV}
def qs2 (base B:Nat) (w:World) (tv nv:Value) (L:List Tok) (i f:Nat) (xs:List NV):Ending→World→Prop:=fun e w'=>e= .panicked yx∧PSt base B w' tv nv L i (max f i) xs∧Tn base B nv nv w w'
theorem qbq (h:PSt base B w tv nv L i f xs):Calls Tryz.prog 143 #[.pointer (some ⟨B,0,none⟩)] w (qs2 base B w tv nv L i f xs):=by
 have J:=h.tl;have E:=h.il;have I:=h.fl;refine qBR fun ρ r0=> ?_;simp [qqJ];refine vF qBQ (fun W=>PSt base B W tv nv L i f xs) fun W3 e _=>⟨h.ext e, ?_⟩;have c:=h.ext e;have z:∀W,PSt base B W tv nv L i f xs→∀j,W.cell? ⟨B,j,none⟩= #[tv,Value.int .i64 (i:Int), .int .i64 (f:Int),nv][j]? :=fun W h=>h.blk.cell;simp+contextual -implicitDefEqProofs [qqF,z,c,r0];refine qeb (k:= .i64) (a:=(f:Int)) (b:=(i:Int)) (by simp) (by simp) ?_;have S:(if (i:Int)>(f:Int) then (i:Int) else (f:Int))=((max f i:Nat):Int):=by split<;>omega
 rw [S];refine ⟨c, ?_⟩;simp [r0];refine qP (B:=B) (i:=2) (by simp) c.blk (by simp) (by simp [Value.cells]) (by simp) vX fun W4 F o=> ?_;simp at o;have H:Blk W4 B #[tv, .int .i64 (i:Int), .int .i64 ((max f i:Nat):Int),nv] 85:=by simpa using o
 obtain ⟨u,y⟩:=c.move F H E (by omega);simp [qqG];rw [qD7];dsimp only [xi];refine qhV (t:=153) (v:= .agg #[]) (by simp) ?_;simp [qs2,yx];exact ⟨u,(Tn.ext e h.bW).trans y⟩
theorem qtJ {s:Bs} {ss:List Bs}:needs L (s::ss) i f=if jQ L i [s] then needs L ss (i+1) f else .no (max f i):=rfl
theorem qwT (h:PSt base B w tv nv L i f xs) {v:Value} {ss:List Bs} (z:Own 0 9 1 w v (ss.map qi)) (y:ss.length<4611686018427387904):Calls Tryz.prog 153 #[.pointer (some ⟨B,0,none⟩),v] w (PR aU base B tv nv L xs w (needs L ss i f)):=by
 have S:qQ w v ss:=Own.sl z y;refine qBx fun ρ r0 r1=> ?_;simp [qqj,r1,S.is,S.len];refine js 8 ss.length (fun k c w'=>c 0= .pointer (some ⟨B,0,none⟩)∧c 6=v∧c 7= .int .i64 (ss.length:Int)∧PSt base B w' tv nv L (i+k) f xs∧Tn base B nv nv w w'∧Own 0 9 1 w' v (ss.map qi)∧needs L ss i f=needs L (ss.drop k) (i+k) f) (by simp)
  ⟨by simp [r0],by simp [r1],by simp [S.len],h,Tn.refl _ _ _ _,z,by simp⟩ ?_
 rintro k c w' Y r8 ⟨r0,r6,r7,J,H,e,a⟩;have t:qQ w' v ss:=Own.sl e y;by_cases o:k<ss.length
 ·have E:=List.drop_eq_getElem_cons o;rw [E,qtJ] at a;simp [qhm,qqh,r8,r7,o,r6,t.is,t.len,t.cell k o,qi,r0];refine (qfR J ss[k]).mono ?_;rintro _ w2 ⟨rfl,b,u⟩;cases V:jQ L (i+k) [ss[k]] with
  |true=>
   rw [V] at a b;simp [qqi,r8,qr (n:=(k:Int)+1) (by omega),r0,r6,r7];exact ⟨b,H.trans u,J.keep u e (by decide) (by decide),by rw [a];rfl⟩
  |false=>
   rw [V] at a b;simp [r0];refine (qbq b).mono ?_;rintro _ W ⟨rfl,I,F⟩;simp;rw [a];exact ⟨i+k,nv,[],rfl,by simpa using I,(H.trans u).trans F⟩
 ·have U:k=ss.length:=by omega
  subst U;simp [qhm,r8,r7];rw [a];simp only [List.drop_length,needs,ret,PR,aU];exact ⟨_,nv,[],rfl,by simpa using J,rfl,by simp,H,rfl⟩
theorem qk7 (h:PSt base B w tv nv L i f xs):Calls Tryz.prog 120 #[.pointer (some ⟨B,0,none⟩)] w (PR aS base B tv nv L xs w (name L i f)):=by
 have V:=h.tl;have aa:=h.il;refine qB4 fun ρ r0=> ?_;simp [qq0,r0];refine (qfU h 0 (by decide)).mono ?_;rintro _ w1 ⟨rfl,J⟩;simp;refine qT z53 fun X W hX H Z _=> ?_;simp;refine jn (B:=X) (by simp) Z (by simp [Value.cells,wt]) (by simp [Value.cells,wt]) (by simpa [Value.cells] using Jf) fun W2 U a=> ?_;simp [Value.cells,wt] at a;obtain ⟨c0,c1,c2⟩:=qa8 a;have o:qb w W2:=U.ext (J.trans' H) (by have:=J.size;omega);have z:=h.ext o;have hk:(((tk L i).kind:Int)=1)↔(tk L i).kind=1:=by omega
 simp [c0,r0];by_cases y:(tk L i).kind=1
 ·have E:=qgf y (by decide);have Y:IntKind.i64.wrap ((i:Int)+1)=((i+1:Nat):Int):=by rw [qr (by omega)];push_cast;rfl
  have e:X≠B:=by have:=h.blk.lt;have:=J.size;omega
  simp [y,qqZ,r0,z.blk.cell,Y];refine qP (B:=B) (i:=1) (by simp) z.blk (by simp) (by simp [Value.cells]) (by simp) vX fun W3 u t=> ?_;simp at t;have F:Blk W3 B #[tv, .int .i64 ((i+1:Nat):Int), .int .i64 (f:Int),nv] 85:=by simpa using t
  obtain ⟨c,b⟩:=z.move u F E h.fl;have I:W3.cell? ⟨X,1,none⟩=some (.string (qc (tk L i).text)):=(qa8 (u.blk a e)).2.1;simp [I];rw [qxT y];exact ⟨_,nv,[],rfl,by simpa using c,rfl,by simp,(Tn.ext o h.bW).trans b,rfl⟩
 ·have e:name L i f= .no (max f i):=by unfold name;rw [if_neg y]
  have S:¬((tk L i).kind:Int)=1:=by omega
  simp [S,r0];refine (qbq z).mono ?_;rintro _ w3 ⟨rfl,c,b⟩;simp;rw [e];exact ⟨i,nv,[],rfl,by simpa using c,(Tn.ext o h.bW).trans b⟩
theorem qwR (h:PSt base B w tv nv L i f xs):Calls Tryz.prog 156 #[.pointer (some ⟨B,0,none⟩)] w (PR aU base B tv nv L xs w (param L i f)):=by
 have Z:=h.tl;have hil:=h.il;refine qBr fun ρ r0=> ?_;simp [qqb,r0];refine (qfU h 0 (by decide)).mono ?_;rintro _ w1 ⟨rfl,U⟩;simp;refine qT z53 fun X W hX H hb _=> ?_;simp;refine jn (B:=X) (by simp) hb (by simp [Value.cells,wt]) (by simp [Value.cells,wt]) (by simpa [Value.cells] using Jf) fun W2 J t=> ?_;simp [Value.cells,wt] at t;obtain ⟨c0,c1,c2⟩:=qa8 t;have c:qb w W2:=J.ext (U.trans' H) (by have:=U.size;omega);have y:=h.ext c;have S:(⟨#[116]⟩:ByteArray)=qc [116]:=rfl;simp [c0,c1,r0];unfold param;by_cases o:(tk L i).kind=1∧(tk L i).text=[116]
 ·have z:=qgf o.1 (by decide);have e1:IntKind.i64.wrap ((i:Int)+1)=((i+1:Nat):Int):=by rw [qr (by omega)];push_cast;rfl
  rw [if_pos o];simp [o.1,o.2,S,qqa,r0,y.blk.cell,e1];refine qP (B:=B) (i:=1) (by simp) y.blk (by simp) (by simp [Value.cells]) (by simp) vX fun W3 I u=> ?_;simp at u;have F:Blk W3 B #[tv, .int .i64 ((i+1:Nat):Int), .int .i64 (f:Int),nv] 85:=by simpa using u
  obtain ⟨b,a⟩:=y.move I F z h.fl;simp;exact ⟨_,nv,[],rfl,by simpa using b,rfl,by simp,(Tn.ext c h.bW).trans a,rfl⟩
 ·rw [if_neg o];by_cases V:(tk L i).kind=1
  ·have Y:(tk L i).text≠[116]:=fun e=>o ⟨V,e⟩;simp [V,S,jp,Y,r0];refine (qbq y).mono ?_;rintro _ w3 ⟨rfl,b,a⟩;simp;exact ⟨i,nv,[],rfl,by simpa using b,(Tn.ext c h.bW).trans a⟩
  ·have E:¬((tk L i).kind:Int)=1:=by omega
   simp [E,r0];refine (qbq y).mono ?_;rintro _ w3 ⟨rfl,b,a⟩;simp;exact ⟨i,nv,[],rfl,by simpa using b,(Tn.ext c h.bW).trans a⟩
theorem qw6 (h:PSt base B w tv nv L i f xs):Calls Tryz.prog 63 #[.pointer (some ⟨B,0,none⟩)] w (PR aU base B tv nv L xs w (fin L i f)):=by
 have y:=h.tl;have u:=h.il;refine qzb fun ρ r0=> ?_;have t:=h.slk;simp [qm8,r0,h.blk.cell,t.is,t.len];intro W2 b;have o:=h.ext b;unfold fin;by_cases a:i<L.length
 ·rw [if_pos a];simp [qgt,a,r0];refine (qbq o).mono ?_;rintro _ z ⟨rfl,c,e⟩;simp;exact ⟨i,nv,[],rfl,by simpa using c,(Tn.ext b h.bW).trans e⟩
 ·rw [if_neg a];simp [qgt,a];exact ⟨_,nv,[],rfl,by simpa using o,rfl,by simp,Tn.ext b h.bW,rfl⟩
theorem wv:jG Tryz.prog 44 6=true:=by kernel_rfl
theorem qt1:jG Tryz.prog 29 1=true:=by kernel_rfl
theorem qcs:xo Tryz.prog 29=some (44,6):=by kernel_rfl
theorem qcF:xG Tryz.prog 29=some (44,6,88):=by kernel_rfl
theorem qfp {w:World} {X:Nat} {cs:Array Value} {T:TypeId} {n:Nat} (h:Blk w X cs T) (a:cs.size=n):qS w (.loadN n) (.pointer (some ⟨X,0,none⟩))=some (.agg cs):=by
 rw [qbl,←a,xr h];rfl
theorem qDa {P:Program} {t e sz bytes:Nat} (I:xG P t=some (e,sz,bytes)) {base:Nat} {w:World} {ρ:qa} {Q:Ks} {d:Option Nat} {ty:TypeId} {K:qa→World→Prop} (b:base≤w.heap.size) {s x:Operand} {sv xv:Value} (J:qd ρ s=sv) (U:qd ρ x=xv) {xs news:List Value}
  (o:Own base e sz w sv xs) (y:Cells w xv sz news) (E:∀u∈news,u.oneCell'=true)
  (z:xs.length+news.length<4611686018427387904) (a:(xs.length+news.length)*bytes≤140737488355328*sz)
  (h:∀c W,Own base e sz W c (xs++news)→w.grownBy W sv.ownBlock→(c.ownBlock=sv.ownBlock∨c.ownBlock=some w.heap.size)→K (qm ρ d c) W):qw P Q d (.call {callee:= .builtin .append,args:= #[s,x],argTypes:= #[t,t]}) ty K ρ w:=by
 obtain ⟨c,W,E,S,H,F⟩:=qcB (ty:=ty) I o y E z a b;refine ju (v:=c) (w':=W) ?_ (h c W S H F);simp [execOp,qD,resolve,invoke,builtin,J,U,E]
end
noncomputable def qm4:IR:= .reg [za 1 (zl (zv 0)),zc 2 72 #[zt 1] #[83] 0,za 3 (zl (zv 0)),zc 4 63 #[zt 3] #[83] 0]
def qy6:List Nat:=zV 5 []
theorem qy5:C1 71 5 qy6 qm4 []:=c1 [] Tryz.func71
noncomputable def qo4:IR:=zq [zm 19 3,zE 20 (.build 85 #[(0,(zt 19))]) 85,zE 21 (.box 85 (zt 20)) 83,zA 5 83,zw 83 (zt 5) (zt 21),za 22 (zl (zv 5)),zE 23 (.makeFunc (.func 71) #[] #[zt 5]) 1,zc 24 54 #[zt 22,zt 23] #[83,1] 4,zm 25 24,zg 25 true 26 (zv 3),zh 25 true 27 73 #[zt 26] #[48] 9,za 2 (.ite (zv 25) (zS .eql (zv 27) (zv 0)) (zQ false))] <| .ret
noncomputable def qpn:IR:=zq [za 2 (zQ false),zm 7 0,zc 8 53 #[zt 7] #[9] 49,zm 6 8,za 9 (ze 0 (zv 6)),za 10 (ze 1 (zv 6)),zA 4 26,zm 3 9,zw 26 (zt 4) (zt 10),za 18 (.ite (zI .neq (zo 0 (zv 4)) (zK 0)) (zQ true) (zI .gtr (zT (zv 0)) (zK 100)))] <| .seq (.cond (zv 18) (zq [za 2 (zQ false)] <| .ret) .skip) (qo4)
def qAx:List Nat:=zV 28 [1,11,12,13,14,15,16,17]
theorem qAw:C1 22 31 qAx qpn [.tmp 2]:=c1 [] Tryz.func22
noncomputable def qmM:IR:=zq [za 2 (zQ false),zE 3 (.buildSlice 51 4 #[(0,(zY #[109,111,100])),(1,(zY #[97,110,100])),(2,(zY #[111,114])),(3,(zY #[110,111,116]))]) 51,zm 4 0,zc 5 160 #[zt 3,zt 4] #[51,9] 4,zm 2 5] <| .ret
def qyY:List Nat:=zV 6 [1]
theorem qyX:C1 75 6 qyY qmM [.tmp 2]:=c1 [] Tryz.func75
noncomputable def qot:IR:=zq [zm 9 0,zc 10 76 #[zt 9,zY #[95]] #[9,9] 107,zm 8 10,za 11 (ze 0 (zv 8)),za 12 (ze 1 (zv 8)),za 13 (ze 2 (zv 8)),zm 3 11,zm 4 12,zm 5 13,zm 14 3,zc 15 77 #[zt 14] #[9] 4,zm 16 15,zg 16 true 19 (zn (zv 5)),zg 19 false 20 (zv 4),zh 19 false 21 77 #[zt 20] #[9] 4,za 2 (.ite (zv 16) (.ite (zv 19) (zQ true) (zv 21)) (zQ false))] <| .ret
noncomputable def qoD:IR:=zq [za 2 (zQ false),zm 6 0,zc 7 75 #[zt 6] #[9] 4] <| .seq (.cond (zv 7) (zq [za 2 (zQ true)] <| .ret) .skip) (qot)
def qz4:List Nat:=zV 22 [1,17,18]
theorem qz3:C1 24 24 qz4 qoD [.tmp 2]:=c1 [] Tryz.func24
section
variable {base B:Nat} {w w':World} {tv nv nv':Value} {L:List Tok} {i f:Nat} {xs:List NV}
def zU (out:Value) (xs:List NV):Prop:=∀x∈xs,∀k,x.kv.ownBlock=some k→out.ownBlock≠some k
theorem zU.app {c:Value} {a b:List NV} (e:zU c a) (o:zU c b):zU c (a++b):=fun x t=>by
 rcases List.mem_append.1 t with h|h
 ·exact e x h
 ·exact o x h
theorem zU.old {b:Value} {a:List NV} (h:∀x∈a,∀k,x.kv.ownBlock=some k→k<w.heap.size) (c:wj w b):zU b a:=fun x t k o e=>by
 have:=h x t k o;have:=c k e;omega
theorem zU.new {b:Value} {a:List NV} (h:∀x∈a,wj w x.kv) (c:∀k,b.ownBlock=some k→k<w.heap.size):zU b a:=fun x t k o e=>by
 have:=h x t k o;have:=c k e;omega
theorem PSt.old (h:PSt base B w tv nv L i f xs):∀x∈xs,∀k,x.kv.ownBlock=some k→k<w.heap.size:=fun x b k a=>((h.kid x b).blk k a).2
theorem PSt.grown (h:PSt base B w tv nv L i f xs) {a:Value} {e sz b:Nat} {cs:List Value} (V:Own b e sz w a cs) (u:w.grownBy w' a.ownBlock) (W:zU a xs) (U:e≠44) (Y:e≠85) (J:e≠53):PSt base B w' tv nv L i f xs:=by
 have ne:∀k cur T,T≠e→w.heap[k]? =some (.cells cur T (0,0))→some k≠a.ownBlock:=fun k cur T I c y=>by
  obtain ⟨H,o⟩:=Own.row V y.symm;rw [c] at o;cases o;exact I rfl
 have keep:∀{F z sz':Nat} {v:Value} {ys:List Value},z≠e→Own F z sz' w v ys→Own F z sz' w' v ys:=fun S t=>Own.same t fun k c=>by
  obtain ⟨cur,o⟩:=Own.row t c;exact u.block k (Array.getElem?_eq_some_iff.1 o).1 (ne k cur _ S o)
 refine ⟨⟨(u.block B h.blk.lt (ne B _ 85 (Ne.symm Y) h.blk.heap)).trans h.blk.heap⟩,keep (Ne.symm J) h.tok,keep (Ne.symm U) h.own,fun x E=>Own.same (h.kid x E) fun k c=>u.block k ((h.kid x E).blk k c).2 fun e=>W x E k c e.symm,h.bB,Nat.le_trans h.bW u.size,h.tl,h.il,h.fl⟩
theorem Tn.grown (h:Tn base B nv nv' w w') {W:World} {row:Option Nat} (a:w'.grownBy W row) (c:∀k,row=some k→w.heap.size≤k) (y:base≤w.heap.size):Tn base B nv nv' w W:=by
 have t:=h.size;refine ⟨⟨a.os.trans h.below.os,a.tape.trans h.below.tape,a.output.trans h.below.output,Nat.le_trans t a.size,fun k b=> ?_⟩,fun k b o u=> ?_,h.row,h.gr⟩
 ·exact (a.block k (by omega) fun e=>by have:=c k e.symm;omega).trans (h.below.block k b)
 ·exact (a.block k (by omega) fun e=>by have:=c k e.symm;omega).trans (h.block k b o u)
theorem Tn.extR (h:Tn base B nv nv' w w') {W:World} (b:qb w' W) (e:base≤w.heap.size):Tn base B nv nv' w W:=
 ⟨h.below.trans (b.mono (Nat.le_trans e h.size)),fun k a c o=>(b.block k (Nat.lt_of_lt_of_le a h.size)).trans (h.block k a c o),h.row,h.gr⟩
end
structure Pu (α:Type) where
 nodes:Nat→α→List Nd
 ev:Nat→α→Value
 μ:α→Nat
 len:∀b a,(nodes b a).length=μ a
section
variable {α:Type} (p:Pu α)
def Pu.ans:Ans α:=⟨p.nodes,fun _ _ b a v=>v=p.ev b a⟩
def Pu.nodesL:Nat→List α→List Nd
 |_,[]=>[]
 |b,a::ls=>p.nodes b a++Pu.nodesL (b+p.μ a) ls
def Pu.evL:Nat→List α→List Value
 |_,[]=>[]
 |b,a::ls=>(p.ev b a).cells.toList++Pu.evL (b+p.μ a) ls
def Pu.ansL (e sz:Nat):Ans (List α):=⟨p.nodesL,fun w w' b l v=>Own w.heap.size e sz w' v (p.evL b l)⟩
theorem Pu.nodesL_snoc (a:α):∀(l:List α) (b:Nat),p.nodesL b (l++[a])=p.nodesL b l++p.nodes (b+(p.nodesL b l).length) a
 |[],b=>by simp [Pu.nodesL]
 |x::l,b=>by
  simp only [List.cons_append,Pu.nodesL,Pu.nodesL_snoc a l,List.length_append,p.len,List.append_assoc,Nat.add_assoc]
theorem Pu.evL_len {sz:Nat} (h:∀b a,(p.ev b a).cells.size=sz):∀(l:List α) (b:Nat),(p.evL b l).length=l.length*sz
 |[],b=>by simp [Pu.evL]
 |x::l,b=>by simp only [Pu.evL,List.length_append,Pu.evL_len h l,List.length_cons,Array.length_toList,h,Nat.add_mul];omega
theorem Pu.evL_snoc (a:α):∀(l:List α) (b:Nat),p.evL b (l++[a])=p.evL b l++(p.ev (b+(p.nodesL b l).length) a).cells.toList
 |[],b=>by simp [Pu.evL,Pu.nodesL]
 |x::l,b=>by
  simp only [List.cons_append,Pu.evL,Pu.evL_snoc a l,Pu.nodesL,List.length_append,p.len,List.append_assoc,Nat.add_assoc]
end
def Bx (B:Nat) (bx:Option Nat) (w:World):Prop:=∀b,bx=some b→Blk w b #[.pointer (some ⟨B,0,none⟩)] 83
theorem Bx.keep {base B:Nat} {w w':World} {tv nv nv':Value} {L:List Tok} {i f:Nat} {xs:List NV} {a:Option Nat} (h:Bx B a w) (c:PSt base B w tv nv L i f xs) (o:Tn base B nv nv' w w'):Bx B a w':=fun b e=>c.var o (h b e) (by decide) (by decide)
theorem Bx.ext {B:Nat} {w w':World} {a:Option Nat} (h:Bx B a w) (e:qb w w'):Bx B a w':=fun b c=>(h b c).ext e
theorem Bx.grown {B:Nat} {w w':World} {t:Option Nat} (h:Bx B t w) {a:Value} {e sz b:Nat} {cs:List Value} (u:Own b e sz w a cs) (E:w.grownBy w' a.ownBlock) (F:e≠83):Bx B t w':=fun b y=>by
 have c:=h b y;refine ⟨(E.block b c.lt fun z=> ?_).trans c.heap⟩;obtain ⟨cur,o⟩:=Own.row u z.symm;rw [c.heap] at o;cases o;exact F rfl
structure FnM {α:Type} (A:Ans α) (bx:Option Nat) (B:Nat) (L:List Tok) (fv:Value) (m:M α):Prop where
 fn:∃F fs caps,fv= .func (.func F) fs caps∧qg Tryz.prog F=true∧∀base w tv nv i f xs,PSt base B w tv nv L i f xs→Bx B bx w→xs.length≤2*i+2→m i f≠ .oof→Calls Tryz.prog F (fs++caps) w (PR A base B tv nv L xs w (m i f))
def atOf (B:Nat) (w:World):Nat:=match w.cell? ⟨B,1,none⟩ with|some (.int _ n)=>n.toNat|_=>0
theorem PSt.atOf {base B:Nat} {w:World} {tv nv:Value} {L:List Tok} {i f:Nat} {xs:List NV} (h:PSt base B w tv nv L i f xs):atOf B w=i:=by
 unfold L02.atOf;rw [h.blk.cell];rfl
theorem qkt:xG Tryz.prog 51=some (9,1,16):=by kernel_rfl
theorem qjE:xo Tryz.prog 51=some (9,1):=by kernel_rfl
@[simp] theorem qIb:qg Tryz.prog 154=true:=by kernel_rfl
theorem qk8 {α:Type} {p:Pu α} {bx:Option Nat} {base B:Nat} {w:World} {tv nv fv:Value} {L:List Tok} {i f:Nat} {xs:List NV} {m:M α} (hf:FnM p.ans bx B L fv m) (hu:Up m) (hz:Sz p.μ 0 m)
  (hc:∀b a,(p.ev b a).cells.size=1∧∀u∈(p.ev b a).cells.toList,u.oneCell'=true) (n:Nat) (h:PSt base B w tv nv L i f xs) (hEw:Bx B bx w) (hn:xs.length≤2*i+2) (ho:listed L n m i f≠ .oof):
  Calls Tryz.prog 154 #[.pointer (some ⟨B,0,none⟩),fv] w (PR (p.ansL 9 1) base B tv nv L xs w (listed L n m i f)):=by
 obtain ⟨F,fs,caps,rfl,hcb,V⟩:=hf.fn;generalize hr:listed L n m i f=r at ho;refine qBv fun ρ r0 r1=> ?_;simp [qqg,r0,r1];refine x9 (f:=F) hcb (fs:=fs) (caps:=caps) (by simp) ?_;simp;refine qe7 (ys:=[]) (xs:=xs) (r:=r) (A':=p.ansL 9 1) (nv:=nv) (w:=w) (k:=fun x=>bnd (more L m n) fun xs=>ret (x::xs)) (fun hno=>by simpa using V base w tv nv i f xs h hEw hn hno) (Tn.refl _ _ _ _) hr ho (fun c w' hp=>by simpa using hp) ?_;intro a j g v nv2 zs w2 hma o E aa H W hv J;simp only [List.append_nil,List.nil_append] at o E hv;change v=p.ev xs.length a at hv;change zs.map (·.nd)=p.nodes xs.length a at E;subst hv;have I:=hc xs.length a;simp;refine jz qjE (by decide) (by decide) (by simpa using I.1) fun X W3 hX hE3 hb3 hsz3=> ?_;simp at hb3;have U:=o.ext hE3;have S:=(hEw.keep h H).ext hE3;have hzz:=hz _ _ _ _ _ hma;have hzl:zs.length=p.μ a:=by rw [←p.len xs.length a,←E,List.length_map]
 simp;refine QJ (fun ρ' w'=>∃i' f' nv' ys z Y n',ρ' 0= .pointer (some ⟨B,0,none⟩)∧ρ' 1= .func (.func F) fs caps∧ρ' 5=z∧PSt base B w' tv nv' L i' f' (xs++ys)∧ys.map (·.nd)=p.nodesL xs.length Y∧(∀y∈ys,wj w y.kv)∧Tn base B nv nv' w w'∧Bx B bx w'∧
   Own w.heap.size 9 1 w' z (p.evL xs.length Y)∧zU z (xs++ys)∧(xs++ys).length≤2*i'+2∧Y.length≤i'+1∧(more L m n' i' f').andThen (fun bs j g=> .ok (Y++bs) j g)=r) (fun _ w'=>L.length - atOf B w')
  ⟨j,g,nv2,zs, .slice (some ⟨X,0,none⟩) 1 1,[a],n,by simp [r0],by simp [r1],by simp,U,by simpa [Pu.nodesL] using E,aa,W.extR hE3 h.bW,S, ?_, ?_,by simp;omega,by simp, ?_⟩ ?_
 ·have:=Own.lit (base:=w.heap.size) (sz:=1) (n:=1) (cs:=(p.ev xs.length a).cells.toList) (by simpa using hb3) (by simp [I.1]) (by have:=H.size;omega) (by decide);simpa [Pu.evL] using this
 ·refine zU.old (w:=w2) o.old ?_;intro k J;cases J;exact hX
 ·rw [←J];simp only [bnd];cases more L m n j g<;>rfl
 clear J o E aa H W hb3 U S hX hE3 hma hzz hzl hsz3;rintro ρ' w' ⟨i',f',nv',ys,z,Y,n',r0,r1,r5,hS,E,aa,hT,hEw',hO,hsep,hcnt,hll,hsp⟩;have hat:=hS.atOf;simp [qqd,r0];refine (qfR hS [44]).mono ?_;rintro _ w2 ⟨rfl,o,H⟩;have hEw2:=hEw'.keep hS H;have hO2:=hS.keep H hO (by decide) (by decide);cases n' with
 |zero=>exact absurd hsp.symm ho
 |succ n'=>
  have t:(qH L [44] (listed L n' m) (ret []) i' f').andThen (fun bs j g=> .ok (Y++bs) j g)=r:=hsp;unfold qH at t;cases hc2:jQ L i' [[44]] with
  |false=>
   rw [hc2] at t o;simp only [Bool.false_eq_true,if_false,ret,Rs.andThen,List.append_nil] at t o;simp [qqe,r5];rw [←t];exact ⟨z,nv',ys,rfl,o,E,aa,hT.trans H,hO2⟩
  |true=>
   rw [hc2] at t o;have hlt:=qgi hc2;simp only [if_true] at t o;have hsep2:zU z (xs++ys):=hsep;have hout:∀k,z.ownBlock=some k→k<w2.heap.size:=fun k J=>(hO2.blk k J).2;simp [qqf,r1,r5];refine x9 (f:=F) hcb (fs:=fs) (caps:=caps) (by simp [r1]) ?_;simp;have hb:bnd m (fun x=>fun i f=>(more L m n' i f).andThen (fun bs j g=> .ok ((Y++[x])++bs) j g)) (i'+1) f'=r:=by
    rw [←t];simp only [listed,bnd];cases m (i'+1) f' with
    |oof=>rfl
    |no g=>rfl
    |ok a j g=>
     have e2:(bnd (more L m n') fun xs=>ret (a::xs)) j g=(more L m n' j g).andThen fun bs j g=> .ok (a::bs) j g:=rfl;simp only [Rs.andThen];rw [e2];cases more L m n' j g<;>simp [Rs.andThen]
   refine qe7 (ys:=ys) (xs:=xs) (r:=r) (A':=p.ansL 9 1) (nv:=nv) (w:=w) (fun hno=>by simpa using V base w2 tv nv' (i'+1) f' (xs++ys) o hEw2 (by omega) hno) (hT.trans H) hb ho (fun c w' hp=>by simpa using hp) ?_;intro a j g v nv3 zs w3 hma U Z hfr3 hT3 W hv J;change v=p.ev (xs++ys).length a at hv;change zs.map (·.nd)=p.nodes (xs++ys).length a at Z;subst hv;have I:=hc (xs++ys).length a;have hO3:=o.keep hT3 hO2 (by decide) (by decide);have S:=hEw2.keep o hT3;have hzz:=hz _ _ _ _ _ hma;have hzl:zs.length=p.μ a:=by rw [←p.len (xs++ys).length a,←Z,List.length_map]
   have ac:zU z (xs++(ys++zs)):=by rw [←List.append_assoc];exact hsep2.app (zU.new hfr3 hout)
   have hyl:ys.length=(p.nodesL xs.length Y).length:=by rw [←E,List.length_map]
   have hil3:=U.il;have htl3:=U.tl;have hlen:(p.evL xs.length Y).length=(qk z)*1:=(L01.jO hO3).len;simp;refine jz qjE (by decide) (by decide) (by simpa using I.1) fun X W4 hX ab hb4 hsz4=> ?_;simp at hb4;have hS4:=U.ext ab;have hO4:=hO3.ext ab;have hsz4':w.heap.size≤W4.heap.size:=Nat.le_trans W.size ab.size;have hcl:(p.ev (xs++ys).length a).cells.toList.length=1:=by rw [Array.length_toList];exact I.1
   simp;refine qDa qkt (base:=w.heap.size) (sv:=z) (xv:= .slice (some ⟨X,0,none⟩) 1 1) (xs:=p.evL xs.length Y) (news:=(p.ev (xs++ys).length a).cells.toList) hsz4' (by simp [r5]) (by simp) hO4 (Blk.cells (by simpa using hb4) (by simpa using I.1)) I.2 ?_ ?_ fun out' W5 hO5 hg5 hr5=> ?_
   ·rw [p.evL_len (fun b a=>(hc b a).1),hcl];omega
   ·rw [p.evL_len (fun b a=>(hc b a).1),hcl];omega
   have hS5:=hS4.grown hO4 hg5 ac (by decide) (by decide) (by decide);have hEw5:=(S.ext ab).grown hO4 hg5 (by decide);have hT5:Tn base B nv nv3 w W5:=(W.extR ab h.bW).grown hg5 (fun k J=>(hO.blk k J).1) h.bW;have hsep5:zU out' (xs++(ys++zs)):=by
    rcases hr5 with e|e
    ·intro x hx k J;rw [e];exact ac x hx k J
    ·refine zU.old (w:=W4) hS4.old ?_;intro k J;rw [e] at J;cases J;exact Nat.le_refl _
   simp;refine ⟨⟨r0,r1,j,g,nv3,ys++zs,hS5,Y++[a], ?_, ?_,hT5,hEw5, ?_,hsep5, ?_, ?_,n',J⟩, ?_⟩
   ·rw [List.map_append,E,Z,Pu.nodesL_snoc,←hyl,List.length_append]
   ·intro y hy;rcases List.mem_append.1 hy with hy|hy
    ·exact aa y hy
    ·exact (hfr3 y hy).mono (hT.trans H).size
   ·rw [Pu.evL_snoc,←hyl,←List.length_append];exact hO5
   ·simp only [List.length_append] at hcnt⊢;omega
   ·simp;omega
   ·rw [hS5.atOf,hat];omega
theorem yG:xG Tryz.prog 40=some (3,1,8):=by kernel_rfl
theorem yB:xo Tryz.prog 40=some (3,1):=by kernel_rfl
section
variable {α β:Type} {A:Ans α} {A':Ans β} {L:List Tok} {m:M α} {k:α→M β} {r:Rs β} {base B:Nat} {w w1:World} {tv nv nv1:Value} {i f:Nat} {xs zs:List NV} {K:qa→World→Prop} {Q:Ks} {ρ:qa} {d:Option Nat}
theorem wU (J:∀b a,A.nodes b a=[]) {F:FuncId} {args:Array Value} (W:∃ys,zs=xs++ys) (U:m i f≠ .oof→Calls Tryz.prog F args w1 (PR A base B tv nv1 L zs w1 (m i f))) (E:Tn base B nv nv1 w w1) (z:bnd m k i f=r) (S:r≠ .oof)
  (hpn:∀c w',PR A' base B tv nv L xs w r (.panicked c) w'→Q.pn ρ c w')
  (h:∀a j g v nv2 w2,m i f= .ok a j g→PSt base B w2 tv nv2 L j g zs→Tn base B nv1 nv2 w1 w2→Tn base B nv nv2 w w2→A.val w1 w2 zs.length a v→k a j g=r→K (qm ρ d v) w2):
  Calls Tryz.prog F args w1 (xP Q d K ρ):=by
 obtain ⟨ys,rfl⟩:=W;refine qe7 (xs:=xs) (ys:=ys) (r:=r) (A':=A') U E z S hpn ?_;intro a j g v nv2 H w2 o y e _ u t V I;rw [J] at e;obtain rfl:H=[]:=by simpa using e
 simp only [List.append_nil] at y;exact h a j g v nv2 w2 o y u t V I
theorem yy {s:Bs} {x y:M β} (z:∃ys,zs=xs++ys) (t:PSt base B w1 tv nv1 L i f zs) (h:Tn base B nv nv1 w w1) (c:qH L s x y i f=r)
  (o:∀w2,jQ L i [s]=true→PSt base B w2 tv nv1 L (i+1) f zs→Tn base B nv1 nv1 w1 w2→Tn base B nv nv1 w w2→x (i+1) f=r→K (qm ρ d (.bool true)) w2)
  (u:∀w2,jQ L i [s]=false→PSt base B w2 tv nv1 L i f zs→Tn base B nv1 nv1 w1 w2→Tn base B nv nv1 w w2→y i f=r→K (qm ρ d (.bool false)) w2):
  Calls Tryz.prog 117 #[.pointer (some ⟨B,0,none⟩), .string (qc s)] w1 (xP Q d K ρ):=by
 refine (qfR t s).mono ?_;rintro _ w2 ⟨rfl,a,b⟩;rw [qiu];unfold qH at c;cases e:jQ L i [s] with
 |true=>
  rw [e] at c a;simp only [if_true] at c a;exact o w2 e a b (h.trans b) c
 |false=>
  rw [e] at c a;simp only [Bool.false_eq_true,if_false] at c a;exact u w2 e a b (h.trans b) c
theorem yS {ty:TypeId} (c:PSt base B w1 tv nv1 L i f zs) (o:Tn base B nv nv1 w w1) (e:base≤w.heap.size) (s:Bs) (h:∀v w2,qb w1 w2→PSt base B w2 tv nv1 L i f zs→Tn base B nv nv1 w w2→Own 0 9 1 w2 v ([s].map qi)→K (qm ρ d v) w2):
  qw Tryz.prog Q d (.buildSlice 51 1 #[(0, .const (.string ⟨s.toArray⟩))]) ty K ρ w1:=by
 refine jz wY (by decide) (by simp) (by simp [Value.cells]) fun X W t b a _=> ?_;simp [Value.cells] at a;exact h _ W b (c.ext b) (o.extR b e) (Own.lit (sz:=1) (cs:=[qi s]) (by simpa [qi,qc] using a) (by simp) (Nat.zero_le _) (by decide))
theorem yz {ss:List Bs} {k:Unit→M β} {v:Value} (I:∃ys,zs=xs++ys) (F:PSt base B w1 tv nv1 L i f zs) (a:Own 0 9 1 w1 v (ss.map qi)) (b:ss.length<4611686018427387904) (z:Tn base B nv nv1 w w1) (y:bnd (needs L ss) k i f=r) (H:r≠ .oof)
  (hpn:∀c w',PR A' base B tv nv L xs w r (.panicked c) w'→Q.pn ρ c w')
  (h:∀j g nv2 w2,needs L ss i f= .ok () j g→PSt base B w2 tv nv2 L j g zs→Tn base B nv1 nv2 w1 w2→Tn base B nv nv2 w w2→k () j g=r→K (qm ρ d (.tuple #[])) w2):
  Calls Tryz.prog 153 #[.pointer (some ⟨B,0,none⟩),v] w1 (xP Q d K ρ):=
 wU (A:=aU) (A':=A') (fun _ _=>rfl) I (fun _=>qwT F a b) z y H hpn fun _ j g v nv2 w2 o e u t a E=>by
  change v=_ at a;subst a;exact h j g nv2 w2 o e u t E
end
section
variable {L:List Tok} {base B:Nat} {w w':World} {tv nv nv':Value} {i f:Nat} {xs:List NV}
theorem yg {r:Rs Unit} (b:PSt base B w' tv nv' L i f xs) (c:Tn base B nv nv' w w') (a:ret () i f=r):PR aU base B tv nv L xs w r (.returned (.tuple #[])) w':=by
 rw [←a];exact ⟨_,nv',[],rfl,by simpa using b,rfl,by simp,c,rfl⟩
theorem qCM {r:Rs Bs} {s:Bs} (a:PSt base B w' tv nv' L i f xs) (c:Tn base B nv nv' w w') (b:ret s i f=r):PR aS base B tv nv L xs w r (.returned (.string (qc s))) w':=by
 rw [←b];exact ⟨_,nv',[],rfl,by simpa using a,rfl,by simp,c,rfl⟩
theorem vu (xs:List NV):∃ys,xs=xs++ys:=⟨[],by simp⟩
end
def pS:Pu Bs:=⟨fun _ _=>[],fun _ s=> .string (qc s),fun _=>0,fun _ _=>rfl⟩
@[simp] theorem qHx:qg Tryz.prog 72=true:=by kernel_rfl
@[simp] theorem qIa:qg Tryz.prog 156=true:=by kernel_rfl
theorem qwQ {L:List Tok} {k:M Unit} (hk:Mt aU L 72 me k) (hu:Up k):Mt aS L 155 me (zZ L k):=by
 intro base B w tv nv i f xs U hn a;generalize b:zZ L k i f=r at a;have hb:=U.bW;refine qBt fun ρ r0=> ?_;simp [qqc,r0];refine wU (A:=aS) (A':=aS) (nv:=nv) (w:=w) (fun _ _=>rfl) (vu xs) (fun _=>qk7 U) (Tn.refl _ _ _ _) b a (fun c w' t=>by simpa using t) ?_;intro s j g v nv2 w2 y z hT2 h hv b;simp [r0];refine yS z h hb [58] fun v2 w3 hE3 I o F=> ?_;simp;refine yz (A':=aS) (vu xs) I F (by simp) o b a (fun c w' t=>by simpa using t) ?_;intro j2 g2 H Z J E Y u b;simp [r0];have hj:=((xF _).ok J).1;have W:=(Jc.ok y).1;refine wU (A:=aU) (A':=aS) (nv:=nv) (w:=w) (fun _ _=>rfl) (vu xs) (fun a=>hk base B Z tv H j2 g2 xs E (by omega) a) u b a (fun c w' t=>by simpa using t) ?_;intro _ j5 g5 v5 nv5 w5 _ S V e hv5 b;simp;exact qCM (s:=[]) S e b
theorem qrC {L:List Tok} {k:M Unit} (e:Mt aU L 72 me k) (c:Up k) (B:Nat):FnM pS.ans none B L (.func (.func 155) #[.pointer (some ⟨B,0,none⟩)] #[]) (zZ L k):=
 ⟨155,_,_,rfl,by kernel_rfl,fun base w tv nv i f xs b _ h a=>qwQ e c base B w tv nv i f xs b h a⟩
theorem qjk {L:List Tok} {k:M Unit} (a:Up k):Sz pS.μ 0 (zZ L k):=qtY (qaN a)
theorem qlg (b:Nat) (s:Bs):(pS.ev b s).cells.size=1∧∀u∈(pS.ev b s).cells.toList,u.oneCell'=true:=⟨rfl,by simp [pS,Value.cells,Value.oneCell']⟩
theorem qf6:∀(b:Nat) (l:List Bs),(pS.ansL 9 1).nodes b l=[]
 |_,[]=>rfl
 |b,_::l=>qf6 b l
theorem qk9 {L:List Tok}:∀n,Mt aU L 72 me (kind L n)
 |0=>fun _ _ _ _ _ _ _ _ _ _ h=>absurd rfl h
 |n+1=>by
  have ih:=qk9 (L:=L) n;intro base B w tv nv i f xs hS hn o;generalize e:kind L (n+1) i f=r at o;have hb:=hS.bW;refine qy3 fun ρ r0=> ?_;simp [qm3,r0];refine yy (s:=[105,110,116]) (w:=w) (nv:=nv) (xs:=xs) (vu xs) hS (Tn.refl _ _ _ _) e (fun w1 Y J ad y e=> ?_) (fun w1 Y J ad y e=> ?_)
  ·simp;exact yg J y e
  simp [r0];refine yy (s:=[98,111,111,108]) (w:=w) (nv:=nv) (xs:=xs) (vu xs) J y e (fun w1 Y J ad y e=> ?_) (fun w1 Y J ad y e=> ?_)
  ·simp;exact yg J y e
  simp [r0];refine yy (s:=[110,117,108,108]) (w:=w) (nv:=nv) (xs:=xs) (vu xs) J y e (fun w1 Y J ad y e=> ?_) (fun w1 Y J ad y e=> ?_)
  ·simp;exact yg J y e
  simp [r0];refine yy (s:=[97,114,114,97,121]) (w:=w) (nv:=nv) (xs:=xs) (vu xs) J y e (fun w2 Y am hT2 ac e=> ?_) (fun w2 Y am hT2 ac e=> ?_)
  ·simp [r0];refine yS am ac hb [91] fun v3 w3 hE3 z t hv3=> ?_;simp;refine yz (A':=aU) (vu xs) z hv3 (by simp) t e o (fun c w' E=>by simpa using E) ?_;intro j g al w4 ag V hT4 S e;have hj:=((xF _).ok ag).1;simp [r0];refine wU (A:=aU) (A':=aU) (nv:=nv) (w:=w) (fun _ _=>rfl) (vu xs) (fun o=>ih base B w4 tv al j g xs V (by omega) o) S e o (fun c w' E=>by simpa using E) ?_;intro _ j5 g5 v5 ak w5 hk5 I ab u hv5 e;simp [r0];refine yS I u hb [93] fun v6 w6 hE6 Z F ai=> ?_;simp;refine yz (A':=aU) (k:=ret) (vu xs) Z ai (by simp) F (by rw [wZ];exact e) o (fun c w' E=>by simpa using E) ?_;intro j7 g7 nv7 w7 hne7 W hT7 H e;simp;exact yg W H e
  simp [r0];refine yy (s:=[114,101,99,111,114,100]) (w:=w) (nv:=nv) (xs:=xs) (vu xs) am ac e (fun w3 Y z af t e=> ?_) (fun w3 Y z af t e=> ?_)
  ·simp [r0];refine yS z t hb [91] fun v4 w4 hE4 V S ah=> ?_;simp;refine yz (A':=aU) (vu xs) V ah (by simp) S e o (fun c w' E=>by simpa using E) ?_;intro j g ak w5 ag I ab u e;have hj:=((xF _).ok ag).1;simp [r0];refine wU (A:=pS.ansL 9 1) (A':=aU) (m:=listed L n (zZ L (kind L n))) (nv:=nv) (w:=w) (fun _ a=>qf6 _ a) (vu xs) (fun o=>qk8 (qrC ih (yq n) B) (qaN (yq n)) (qjk (yq n)) qlg n I (fun b h=>by cases h) (by omega) o) u e o (fun c w' E=>by simpa using E) ?_;intro _ j6 g6 v6 nv6 w6 hk6 Z hT6 F ai e;simp [r0];refine yS Z F hb [93] fun v7 w7 hE7 W H ae=> ?_;simp;refine yz (A':=aU) (k:=ret) (vu xs) W ae (by simp) H (by rw [wZ];exact e) o (fun c w' E=>by simpa using E) ?_;intro j8 g8 nv8 w8 aj aa hT8 U e;simp;exact yg aa U e
  simp [r0];refine yy (s:=[111,110,101,111,102]) (w:=w) (nv:=nv) (xs:=xs) (vu xs) z t e (fun w3 Y z af t e=> ?_) (fun w3 Y z af t e=> ?_)
  ·simp [r0];refine yS z t hb [91] fun v4 w4 hE4 V S ah=> ?_;simp;refine yz (A':=aU) (vu xs) V ah (by simp) S e o (fun c w' E=>by simpa using E) ?_;intro j g ak w5 ag I ab u e;have hj:=((xF _).ok ag).1;simp [r0];refine wU (A:=pS.ansL 9 1) (A':=aU) (m:=listed L n (zZ L (kind L n))) (nv:=nv) (w:=w) (fun _ a=>qf6 _ a) (vu xs) (fun o=>qk8 (qrC ih (yq n) B) (qaN (yq n)) (qjk (yq n)) qlg n I (fun b h=>by cases h) (by omega) o) u e o (fun c w' E=>by simpa using E) ?_;intro _ j6 g6 v6 nv6 w6 hk6 Z hT6 F ai e;simp [r0];refine yS Z F hb [93] fun v7 w7 hE7 W H ae=> ?_;simp;refine yz (A':=aU) (k:=ret) (vu xs) W ae (by simp) H (by rw [wZ];exact e) o (fun c w' E=>by simpa using E) ?_;intro j8 g8 nv8 w8 aj aa hT8 U e;simp;exact yg aa U e
  simp [r0];refine yy (s:=[63]) (w:=w) (nv:=nv) (xs:=xs) (vu xs) z t e (fun w3 Y z af t e=> ?_) (fun w3 Y z af t e=> ?_)
  ·simp [r0];refine wU (A:=aU) (A':=aU) (nv:=nv) (w:=w) (k:=ret) (fun _ _=>rfl) (vu xs) (fun _=>qwR z) t (by rw [wZ];exact e) o (fun c w' E=>by simpa using E) ?_;intro _ j5 g5 v5 ak w5 _ I ab u hv5 e;simp;exact yg I u e
  simp [r0];refine wU (A:=aS) (A':=aU) (nv:=nv) (w:=w) (fun _ _=>rfl) (vu xs) (fun _=>qk7 z) t e o (fun c w' E=>by simpa using E) ?_;intro s j4 g4 v4 al w4 hna V hT4 S ah e;have hj:=(Jc.ok hna).1;simp [r0];refine yy (s:=[91]) (w:=w) (nv:=nv) (xs:=xs) (vu xs) V S e (fun w5 Y I ab u e=> ?_) (fun w5 Y I ab u e=> ?_)
  ·simp [r0];refine wU (A:=aU) (A':=aU) (nv:=nv) (w:=w) (fun _ _=>rfl) (vu xs) (fun o=>ih base B w5 tv al (j4+1) g4 xs I (by omega) o) u e o (fun c w' E=>by simpa using E) ?_;intro _ j6 g6 v6 nv6 w6 hk6 Z hT6 F ai e;simp [r0];refine yS Z F hb [93] fun v7 w7 hE7 W H ae=> ?_;simp;refine yz (A':=aU) (k:=ret) (vu xs) W ae (by simp) H (by rw [wZ];exact e) o (fun c w' E=>by simpa using E) ?_;intro j8 g8 nv8 w8 aj aa hT8 U e;simp;exact yg aa U e
  ·simp;exact yg I u e
@[simp] theorem qHw:qg Tryz.prog 73=true:=by kernel_rfl
@[simp] theorem qHr:qg Tryz.prog 89=true:=by kernel_rfl
@[simp] theorem qHq:qg Tryz.prog 90=true:=by kernel_rfl
theorem qs6:vL Tryz.prog 114=some #[.pointer none, .slice none 0 0]:=by kernel_rfl
theorem Bd.ext {B b:Nat} {t:Bs} {w w':World} (h:Bd B b t w) (a:qb w w'):Bd B b t w':=by
 rcases h with h|h
 all_goals
  have c:=h.lt;obtain ⟨z,v,u,e,o⟩:=h;have y:w'.ownsRow B 5 1 v (t.map ji).length (t.map ji):=by
   have:=e.kept (w':=w') (row:=none) ⟨a.os,a.tape,a.output,a.size,fun k E _=>a.block k E⟩ (by cases v.ownBlock<;>simp);simpa using this
 ·exact .inl ⟨z,v,(a.block b c).trans u,y,o⟩
 ·exact .inr ⟨z,v,(a.block b c).trans u,y,o⟩
def wK (L:List Tok):Prop:=∀t∈L,t.text.length≤20
theorem qlZ {L:List Tok} (h:wK L):(jK L).length≤20*L.length:=by
 induction L with
 |nil=>simp [jK]
 |cons t L a=>
  have c:=h t (by simp);have o:=a fun x b=>h x (by simp [b]);have e:jK (t::L)=t.text++jK L:=by simp [jK]
  rw [e,List.length_append,List.length_cons];omega
theorem qyq (L:List Tok) (t:Tok):jK (L++[t])=jK L++t.text:=by simp [jK]
theorem qwV {w:World} {v:Value} {a:List Tok} (U:SlK w v a) (I:wK a) (hn:a.length≤20000):Calls Tryz.prog 73 #[v] w fun e w'=>e= .returned (.string (qc (jK a)))∧qb w w':=by
 refine qy1 fun ρ r0=> ?_;simp [qm2,r0,U.is,U.len];refine qT qs6 fun b W hb hE S _=> ?_;have z:Bd b b [] W:= .inl ⟨Nat.le_refl _, .slice none 0 0,S.heap,World.ownsRow_nil _ _ _ _,by simp [Value.ownBlock]⟩;have hbW:=S.lt;simp [r0,U.is,U.len];refine js 8 a.length (fun k y w'=>y 3= .pointer (some ⟨b,0,none⟩)∧y 6=v∧y 7= .int .i64 (a.length:Int)∧Bd b b (jK (a.take k)) w'∧Below b W w') (by simp) ⟨by simp,by simp,by simp,by simpa [jK] using z,Below.refl _ _⟩ ?_;rintro k y w' hk r8 ⟨r3,r6,r7,hB,c⟩;have H:∀{w'},Below b W w'→qb w w':=fun h=>Below.trans hE (h.mono hb);have Y:=H c;have F:=U.ext Y;by_cases u:k<a.length
 ·obtain ⟨c0,c1,c2⟩:=F.cell k u;have hle:(jK (a.take k)).length≤20*k:=by
   have:=qlZ (L:=a.take k) (fun t ht=>I t (List.mem_of_mem_take ht));rw [List.length_take] at this;omega
  have hsl:=I a[k] (List.getElem_mem u);simp [qgs,qm0,r8,r7,r6,r3,u,F.is,F.len,c0,c1,c2];refine qT z53 fun X W2 hX hE2 V _=> ?_;simp;refine jn (B:=X) (by simp) V (by simp [Value.cells]) (by simp [Value.cells]) (by simpa [Value.cells] using Jf) fun W3 hO3 J=> ?_;simp [Value.cells] at J;have E:qb w' W3:=hO3.ext hE2 hX;simp [(qa8 J).2.1,r3];refine (L01.qEg a[k].text (Bd.ext hB E) (by omega) (by have:=c.size;have:=E.size;omega)).mono ?_;rintro _ W4 ⟨rfl,Z,o⟩;simp [qm1,r8,r3,r6,r7,qr (n:=(k:Int)+1) (by omega)];refine ⟨?_,c.trans ((E.mono (by have:=c.size;omega)).trans o)⟩;have:a.take (k+1)=a.take k++[a[k]]:=by rw [List.take_succ_eq_append_getElem u]
  rw [this,qyq];exact Z
 ·have hk':k=a.length:=by omega
  subst hk';simp [qgs,qmZ,r8,r7,r3];rw [List.take_length] at hB;refine (L01.b_string hB (by have:=c.size;omega)).mono ?_;rintro _ W4 ⟨rfl,o⟩;simp;exact H (c.trans o)
theorem quw {L:List Tok} (h:wK L) (i j:Nat):wK (vS L i j):=fun t a=>h t (List.mem_of_mem_take (List.mem_of_mem_drop a))
theorem qjB {W:World} {X:Nat} {l:List Bs} (a:Blk W X (l.map qi).toArray 9) (c:l.length≤1000):qQ W (.slice (some ⟨X,0,none⟩) l.length l.length) l:=by
 refine ⟨by simp [qn],by simp [qk],by omega,fun j b=> ?_⟩;simp only [qJ,Nat.zero_add];rw [a.cell];simp [b]
@[simp] theorem qHv:qg Tryz.prog 75=true:=by kernel_rfl
theorem qwW (s:Bs) (w:World):Calls Tryz.prog 75 #[.string (qc s)] w fun e w'=>e= .returned (.bool (vN.contains s))∧qb w w':=by
 refine qyX fun ρ r0=> ?_;simp [qmM,r0];refine jz wY (by decide) (by decide) (by simp [Value.cells]) fun X W c b a _=> ?_;simp [Value.cells] at a;simp [r0];refine (L01.qfi (l:=vN) s (qjB (l:=vN) (by simpa [vN,qi,qc] using a) (by decide))).mono ?_;rintro _ _ ⟨rfl,rfl⟩;simp;exact b
theorem qxZ (x y:Bs):qc x++qc y=qc (x++y):=by
 apply ByteArray.ext;show ((qc x).append (qc y)).data=_;rw [ByteArray.append_eq,ByteArray.data_append];simp [qc]
section
variable {base B:Nat} {w w':World} {tv nv nv':Value} {L:List Tok} {i f:Nat} {xs:List NV}
end
theorem Own.down {b a e sz:Nat} {w:World} {v:Value} {ys:List Value} (h:Own b e sz w v ys) (t:a≤b):Own a e sz w v ys:=by
 rcases h with h|⟨g,off,n,cap,cur,rfl,o,c⟩
 ·exact .inl h
 ·exact .inr ⟨g,off,n,cap,cur,rfl,by omega,c⟩
structure NVr (B X:Nat) (nv:Value) (W:World) (x:NV):Prop where
 blk:Blk W X (qe x).toArray 44
 neB:X≠B
 neR:nv.ownBlock≠some X
structure Cu (base B:Nat) (w:World) (tv nv:Value) (L:List Tok) (xs:List NV) (w1:World) (nv1:Value) (i f:Nat) (ys:List NV):Prop where
 st:PSt base B w1 tv nv1 L i f (xs++ys)
 tn:Tn base B nv nv1 w w1
 fr:∀y∈ys,wj w y.kv
 b0:base≤w.heap.size
section
variable {base B X:Nat} {w w1 w2:World} {tv nv nv1 nv2:Value} {L:List Tok} {i f j g:Nat} {xs ys zs:List NV} {x:NV}
theorem NVr.turn (h:NVr B X nv1 w1 x) (a:Tn base B nv1 nv2 w1 w2):NVr B X nv2 w2 x:=⟨a.blk h.blk h.neB h.neR,h.neB,a.ne h.blk.lt h.neR⟩
theorem NVr.ext (h:NVr B X nv1 w1 x) (a:qb w1 w2):NVr B X nv1 w2 x:=⟨h.blk.ext a,h.neB,h.neR⟩
theorem Cu.ext (h:Cu base B w tv nv L xs w1 nv1 i f ys) (a:qb w1 w2):Cu base B w tv nv L xs w2 nv1 i f ys:=⟨h.st.ext a,h.tn.extR a h.b0,h.fr,h.b0⟩
theorem Cu.more (h:Cu base B w tv nv L xs w1 nv1 i f ys) (b:PSt base B w2 tv nv2 L j g (xs++(ys++zs))) (c:Tn base B nv1 nv2 w1 w2) (e:∀z∈zs,wj w1 z.kv):Cu base B w tv nv L xs w2 nv2 j g (ys++zs):=
 ⟨b,h.tn.trans c,fun y a=>by
  rcases List.mem_append.1 a with a|a
  ·exact h.fr y a
  ·exact (e y a).mono h.tn.size,h.b0⟩
theorem Cu.size (h:Cu base B w tv nv L xs w1 nv1 i f ys):w.heap.size≤w1.heap.size:=h.tn.size
theorem Cu.keep (h:Cu base B w tv nv L xs w1 nv1 i f ys) (t:Tn base B nv1 nv2 w1 w2) {b e sz:Nat} {v:Value} {a:List Value} (o:Own b e sz w1 v a) (c:e≠44) (u:e≠85):Own b e sz w2 v a:=h.st.keep t o c u
theorem Cu.put (h:Cu base B w tv nv L xs w1 nv1 i f ys) (u:NVr B X nv1 w1 x) (I:w.heap.size≤X) (c:Only X w1 w2):Cu base B w tv nv L xs w2 nv1 i f ys:=by
 have keep:∀{b e sz:Nat} {v:Value} {y:List Value},e≠44→Own b e sz w1 v y→Own b e sz w2 v y:=fun F z=>Own.same z fun k t=>by
  obtain ⟨cur,E⟩:=Own.row z t;refine c.block k fun e=> ?_;subst e;have:=u.blk.heap;rw [E] at this;cases this;exact F rfl
 have a:=h.st;refine ⟨⟨c.blk a.blk u.neB.symm,keep (by decide) a.tok,Own.same a.own fun k t=>c.block k fun e=>u.neR (e▸t),fun x S=>keep (by decide) (a.kid x S),a.bB,by rw [c.size];exact a.bW,a.tl,a.il,a.fl⟩, ?_,h.fr,h.b0⟩;have o:=h.tn;have U:=o.size;refine ⟨o.below.trans (k9 c (Nat.le_trans h.b0 I)),fun k t H J=> ?_,o.row,o.gr⟩;rw [c.block k (by omega)];exact o.block k t H J
end
section
variable {α β:Type} {A:Ans α} {A':Ans β} {L:List Tok} {m:M α} {k:α→M β} {r:Rs β} {base B X:Nat} {w w1:World} {tv nv nv1:Value} {i f:Nat} {xs ys:List NV} {K:qa→World→Prop} {Q:Ks} {ρ:qa} {d:Option Nat}
end
section
variable {L:List Tok} {base B:Nat} {w w':World} {tv nv nv':Value} {i f:Nat} {xs ys:List NV}
end
theorem NVr.row {B X:Nat} {nv:Value} {W:World} {x:NV} (h:NVr B X nv W x):Eng.jk W ⟨X,0,none⟩ 0 6=some (qe x):=by
 have:=xr h.blk;simpa [qe] using this
theorem qe0:jG Tryz.prog 40 1=true:=by kernel_rfl
theorem sz9:jG Tryz.prog 9 1=true:=by kernel_rfl
def kdV (k:Nat) (nm vr ty:Bs) (n:Int) (kv:Value) (kids:List Int):NV:=⟨⟨⟨k,nm,vr,ty,n⟩,kids⟩,kv⟩
section
variable {P:Program} {Q:Ks} {d:Option Nat} {ty:TypeId} {K:qa→World→Prop} {ρ:qa} {w:World}
theorem qC5 {x:Operand} {t c:TypeId} (a:P.underlying t=some (.interface (P.methodsAt t))) (h:qd ρ x= .nilIface) (b:K (qm ρ d (.bool false)) w):qw P Q d (.binOp .neq t x (.const .nilIface) c) ty K ρ w:=by
 refine ju (v:= .bool false) (w':=w) ?_ b;have:=run_equal_nil_nil (P:=P) (w:=w) t a;simp [execOp,qD,h,eqGuard_nil_constR,binOp,this]
theorem qC4 {x:Operand} {t c u:TypeId} {v:Value} (a:P.underlying t=some (.interface (P.methodsAt t))) (h:qd ρ x= .iface u v) (b:K (qm ρ d (.bool true)) w):qw P Q d (.binOp .neq t x (.const .nilIface) c) ty K ρ w:=by
 refine ju (v:= .bool true) (w':=w) ?_ b;have:=run_equal_held_nil (P:=P) (w:=w) t u v a;simp [execOp,qD,h,eqGuard,binOp,this]
end
noncomputable def qdq (v:Value):IR:=zq [za 7 (.const v),zm 4 7,zm 8 4,zE 9 (.binOp .neq 20 (zt 8) (.const .nilIface) 20) 4] <| .cond (zv 9) (zq [zm 11 4,zE 12 (.typeAssert (zt 11) 20 153 true) 154,zm 10 12,za 13 (ze 0 (zv 10)),za 14 (ze 1 (zv 10)),zA 5 153,zw 153 (zt 5) (zt 13),zm 6 14,za 16 (zn (zv 6))] <| .seq (.cond (zv 16) (.reg [zm 17 4, .eff none none (.panic (zt 17)) 0]) .skip) (qq4)) .skip
theorem qyp (v:Value):(qY Tryz.prog Tryz.f116.ntmps qd1 [5] (Qp v (Tryz.f116.body.getD .skip))).map IR.norm=some (qdq v):=by kernel_rfl
theorem qlY {v0 b a v3:Value} {u:FrameMode} {w:World} {R:Ending→FrameMode→World→Prop} (h:∀ρ:qa,ρ 0=v0→ρ 1=b→ρ 2=a→ρ 3=v3→(qdq (vO u)).wp ⟨Tryz.prog,31,qd1,[]⟩ (yH [] (vZ u) R) (Jk [] (vZ u) R) ρ w):
  CallsDIn Fence.wide 0 Tryz.prog 116 #[v0,b,a,v3] u w R:=by
 obtain ⟨o,e,t⟩:=Option.map_eq_some_iff.1 (qyp (vO u));exact qss (args:= #[v0,b,a,v3]) Tryz.func116 (c:=Tryz.f116.body.getD .skip) rfl (by kernel_rfl) e t (by kernel_rfl) (show vv Tryz.prog qd1 Tryz.f116.results.toList=some [] by kernel_rfl) (Nat.le_of_ble_eq_true rfl) (h _ rfl rfl rfl rfl)
theorem qtu:∃ds,Tryz.prog.underlying 153=some ds∧∀m,ds≠ .interface m:=by
 have h:vo (Tryz.prog.underlying 153)=true:=by kernel_rfl
 unfold vo at h;split at h
 ·rename_i fs b;exact ⟨_,b,fun m a=>by cases a⟩
 ·cases h
theorem qs5:vL Tryz.prog 153=some #[]:=by kernel_rfl
theorem qt4:jG Tryz.prog 153 0=true:=by kernel_rfl
theorem z4:vL Tryz.prog 4=some #[.bool false]:=by kernel_rfl
theorem z3:vL Tryz.prog 3=some #[.int .i64 0]:=by kernel_rfl
theorem sz4:jG Tryz.prog 4 1=true:=by kernel_rfl
@[simp] theorem qHy:qg Tryz.prog 54=true:=by kernel_rfl
@[simp] theorem qen:qg Tryz.prog 116=true:=by kernel_rfl
theorem qsf {v0 c a v3:Value} {w:World}:CallsDIn Fence.wide 0 Tryz.prog 116 #[v0,c,a,v3] .returning w fun e b w'=>(∃v,e= .returned v)∧b= .returning∧w'=w:=by
 refine qlY fun ρ o h u t=> ?_;simp [qdq,vO,vZ];refine qC5 vp (by simp) ?_;simp
theorem qse {w:World} {A P N O B:Nat} {tv nv:Value} {a i f n:Nat} (hA:Blk w A #[.int .i64 (a:Int)] 3) (hP:Blk w P #[.pointer (some ⟨B,0,none⟩)] 83) (hN:Blk w N #[.int .i64 (n:Int)] 3) (hO:Blk w O #[.bool true] 4∨Blk w O #[.bool false] 4)
  (S:Blk w B #[tv, .int .i64 (i:Int), .int .i64 (f:Int),nv] 85) (o:qn nv=true) (hn:n≤qk nv):
  CallsDIn Fence.wide 0 Tryz.prog 116 #[.pointer (some ⟨A,0,none⟩), .pointer (some ⟨P,0,none⟩), .pointer (some ⟨N,0,none⟩), .pointer (some ⟨O,0,none⟩)] (.panicking yx) w fun e u' w'=>(∃v,e= .returned v)∧settle u'= .returning∧
   ∃W W2,qb w W∧Only B W W2∧Blk W2 B #[tv, .int .i64 (a:Int), .int .i64 (f:Int),qR nv 6 0 n (qo nv)] 85∧Only O W2 w'∧Blk w' O #[.bool false] 4:=by
 obtain ⟨ds,hu,hd⟩:=qtu;refine qlY fun ρ r0 r1 r2 r3=> ?_;simp [qdq,vO,vZ,yx];refine qC4 (u:=153) (v:= .agg #[]) vp (by simp) ?_;simp;refine qr2 (a:=153) (v:= .agg #[]) hu hd (by simp) ?_;simp;refine qT qs5 fun X W hX hE hb _=> ?_;simp;refine jn (B:=X) (by simp) hb (by simp [Value.cells]) (by simp [Value.cells]) (by simpa [Value.cells] using qt4) fun W1 V hb1=> ?_;have Y:qb w W1:=V.ext hE hX;have nX:∀{k:Nat} {cs:Array Value} {T:TypeId},Blk w k cs T→k≠X:=fun h=>by have:=h.lt;omega
 simp [qq4];refine vF qB8 (fun W=>(Blk W A #[.int .i64 (a:Int)] 3∧Blk W P #[.pointer (some ⟨B,0,none⟩)] 83)∧Blk W N #[.int .i64 (n:Int)] 3∧W.cell? ⟨B,3,none⟩=some nv) fun W2 ad _=> ?_;have b:=Y.trans' ad;have J:=S.ext b;have c3:W2.cell? ⟨B,3,none⟩=some nv:=by rw [J.cell];rfl
 have I:(Blk W2 A #[.int .i64 (a:Int)] 3∧Blk W2 P #[.pointer (some ⟨B,0,none⟩)] 83)∧Blk W2 N #[.int .i64 (n:Int)] 3∧W2.cell? ⟨B,3,none⟩=some nv:=⟨⟨hA.ext b,hP.ext b⟩,hN.ext b,c3⟩;refine ⟨I, ?_⟩;have cA:∀W,((Blk W A #[.int .i64 (a:Int)] 3∧Blk W P #[.pointer (some ⟨B,0,none⟩)] 83)∧Blk W N #[.int .i64 (n:Int)] 3∧W.cell? ⟨B,3,none⟩=some nv)→W.cell? ⟨A,0,none⟩=some (.int .i64 (a:Int))∧W.cell? ⟨P,0,none⟩=some (.pointer (some ⟨B,0,none⟩))∧W.cell? ⟨N,0,none⟩=some (.int .i64 (n:Int))∧W.cell? ⟨B,3,none⟩=some nv:=fun W h=>⟨by rw [h.1.1.cell];rfl,by rw [h.1.2.cell];rfl,by rw [h.2.1.cell];rfl,h.2.2⟩;simp+contextual -implicitDefEqProofs [qq3,cA,I,r0,r1,r2,r3];have hcap:=qyv o;have E:n≤qo nv:=by omega
 simp [o,E];have ae:B≠A:=fun e=>by subst e;have:=hA.heap;rw [S.heap] at this;cases this
 have ab:B≠P:=fun e=>by subst e;have:=hP.heap;rw [S.heap] at this;cases this
 have ac:B≠N:=fun e=>by subst e;have:=hN.heap;rw [S.heap] at this;cases this
 have t:O≠B:=fun e=>by subst e;rcases hO with h|h<;>(have:=h.heap;rw [S.heap] at this;cases this)
 refine qP (B:=B) (i:=1) (by simp) J (by simp) (by simp [Value.cells]) (by simp) vX fun W3 c y=> ?_;simp at y;refine ⟨⟨⟨c.blk I.1.1 ae.symm,c.blk I.1.2 ab.symm⟩,c.blk I.2.1 ac.symm,by rw [y.cell];rfl⟩, ?_⟩;simp;have Z:(qR nv 6 0 n (qo nv)).cells= #[qR nv 6 0 n (qo nv)]:=jR (QL o 6 0 n (qo nv) (Nat.zero_le _) E (Nat.le_refl _));have aa:(qR nv 6 0 n (qo nv)).oneCell=true:=vI (QL o 6 0 n (qo nv) (Nat.zero_le _) E (Nat.le_refl _));refine qP (B:=B) (i:=3) (by simp) y (by simp) (by simpa using Z) (by simpa using aa) qt1 fun W4 F H=> ?_;simp at H;simp;have z:Blk W4 O #[.bool true] 4∨Blk W4 O #[.bool false] 4:=by
  rcases hO with h|h
  ·exact .inl (F.blk (c.blk (h.ext b) t) t)
  ·exact .inr (F.blk (c.blk (h.ext b) t) t)
 rcases z with h|h
 all_goals
  refine qP (B:=O) (i:=0) (by simp [r3]) h (by simp) (by simp [Value.cells]) (by simp) sz4 fun W5 z U=> ?_;simp at U;exact ⟨rfl,W2,b,W4,c.trans F,H,z,U⟩
theorem Own.take {b e sz n:Nat} {w:World} {v:Value} {ys zs:List Value} (h:Own b e sz w v (ys++zs)) (c:ys.length=n*sz) (I:0<sz):Own b e sz w (qR v sz 0 n (qo v)) ys:=by
 rcases h with ⟨rfl,t⟩|⟨g,off,m,cap,cur,rfl,o,J,u,U,E,F,z⟩
 ·have o:ys=[]:=(List.append_eq_nil_iff.1 t).1;subst o;have y:n=0:=by
   have:=Nat.mul_eq_zero.1 c.symm;omega
  subst y;exact .inl ⟨by simp [qR,qo],rfl⟩
 ·have a:n*sz≤m*sz:=by rw [←c,←u,List.length_append];omega
  have H:n≤m:=Nat.le_of_mul_le_mul_right a I;refine .inr ⟨g,off,n,cap,cur, ?_,o,J,c,by omega,E,F, ?_⟩
  ·simp [qR,qo,Addr.add]
  ·have S:((cur.toList.drop off).take (m*sz)).take (n*sz)=ys:=by rw [z,List.take_left' c]
   rw [←S,List.take_take,Nat.min_eq_left a]
structure TnO (base B O:Nat) (nv nv':Value) (w w':World):Prop where
 below:Below base w w'
 block:∀k,k<w.heap.size→k≠B→nv.ownBlock≠some k→k≠O→w'.heap[k]? =w.heap[k]?
 row:∀k,nv'.ownBlock=some k→nv.ownBlock=some k∨w.heap.size≤k
structure TnW (base B:Nat) (nv nv':Value) (w w':World):Prop where
 below:Below base w w'
 block:∀k,k<w.heap.size→k≠B→nv.ownBlock≠some k→w'.heap[k]? =w.heap[k]?
 row:∀k,nv'.ownBlock=some k→nv.ownBlock=some k∨w.heap.size≤k
section
variable {base B O X:Nat} {w w1 w2:World} {tv nv nv1 nv2:Value} {L:List Tok} {i f j g:Nat} {xs ys zs:List NV} {x:NV}
theorem Tn.toW (h:Tn base B nv nv1 w w1):TnW base B nv nv1 w w1:=⟨h.below,h.block,h.row⟩
theorem TnW.trans (h:TnW base B nv nv1 w w1) (k:TnW base B nv1 nv2 w1 w2):TnW base B nv nv2 w w2:=by
 have t:=h.below.size;refine ⟨h.below.trans k.below,fun j b c o=> ?_,fun j b=> ?_⟩
 ·refine (k.block j (by omega) c fun e=> ?_).trans (h.block j b c o);rcases h.row j e with a|a
  ·exact o a
  ·omega
 ·rcases k.row j b with a|a
  ·exact h.row j a
  ·exact .inr (by omega)
theorem TnO.only (h:TnO base B O nv nv1 w w1) (a:Only X w1 w2) (o:X=O∨w.heap.size≤X) (c:base≤X):TnO base B O nv nv1 w w2:=by
 refine ⟨h.below.trans (k9 a c),fun k b y u t=> ?_,h.row⟩;rw [a.block k (by rintro rfl;rcases o with e|e<;>omega)];exact h.block k b y u t
theorem TnO.tn (h:TnO base B O nv nv1 w w1) (c:Tn base B nv1 nv2 w1 w2):TnO base B O nv nv2 w w2:=by
 have y:=h.below.size;refine ⟨h.below.trans c.below,fun j b o t u=> ?_,fun j b=> ?_⟩
 ·refine (c.block j (by omega) o fun e=> ?_).trans (h.block j b o t u);rcases h.row j e with a|a
  ·exact t a
  ·omega
 ·rcases c.row j b with a|a
  ·exact h.row j a
  ·exact .inr (by omega)
end
theorem qi3 {R:Ending→World→Prop} {l:List Nat} (e:∀d∈l,d≠gS∧d≠4):∀d∈l,∀ρ v c w,(zj Tryz.prog [.cell1 4] R).pn (qt ρ d v) c w→(zj Tryz.prog [.cell1 4] R).pn ρ c w:=by
 intro d b ρ v c w h;obtain ⟨a,o⟩:=e d b;refine qrV a (fun w=> ?_) h;simp [vC,RV.val,Ne.symm o]
@[simp] theorem qDL:qg Tryz.prog 273=true:=by kernel_rfl
theorem qxa {w:World} {s:Bs} {n:Int} (c:s.length≤20) (h:Lib.atoiAll s= .ok n):Calls Tryz.prog 273 #[.string (qc s)] w fun e w'=>qb w w'∧e= .returned (.tuple #[.int .i64 n, .nilIface]):=by
 refine (Tryz.atoi_ok (qc s) (by show s.length≤_;omega) n h w).mono ?_;rintro _ w' ⟨rfl,b⟩;refine ⟨?_,rfl⟩;rcases b with rfl|⟨t,rfl⟩
 ·exact qA _
 ·exact ⟨rfl,rfl,rfl,by rw [Lib.bytesWorld_size];omega,fun k a=>Lib.bytesWorld_at_old _ _ _ _ a⟩
section
variable {L:List Tok} {base B X:Nat} {w w1:World} {tv nv nv1:Value} {i f:Nat} {xs ys:List NV} {K:qa→World→Prop} {Q:Ks} {ρ:qa} {d:Option Nat}
end
theorem TnO.var {base B O X:Nat} {w1 w2:World} {tv nv1 nv2:Value} {L:List Tok} {i f:Nat} {xs:List NV} (b:TnO base B O nv1 nv2 w1 w2) (h:PSt base B w1 tv nv1 L i f xs) {cs:Array Value} {T:TypeId} (a:Blk w1 X cs T) (o:T≠44) (e:T≠85) (c:X≠O):Blk w2 X cs T:=
 ⟨(b.block X a.lt (h.blkNe a.heap e) (h.rowNe a.heap o) c).trans a.heap⟩
def rv (b:Nat) (t:T):Int:=(b:Int)+t.size - 1
section
variable {L:List Tok} {base B X:Nat} {w w1:World} {tv nv nv1:Value} {i f:Nat} {xs ys:List NV} {K:qa→World→Prop} {Q:Ks} {ρ:qa} {d:Option Nat}
end
section
variable {L:List Tok} {base B X:Nat} {w w1:World} {tv nv nv1:Value} {i f:Nat} {xs ys:List NV} {K:qa→World→Prop} {Q:Ks} {ρ:qa} {d:Option Nat}
end
structure NK (w:World) (B X:Nat) (nv:Value) (W:World) (x:NV) (all:List NV):Prop where
 var:NVr B X nv W x
 own:Own w.heap.size 3 1 W x.kv (x.nd.kids.map encI)
 sep:zU x.kv all
section
variable {L:List Tok} {base B X:Nat} {w w1 w2:World} {tv nv nv1 nv2:Value} {i f:Nat} {xs ys zs:List NV} {x:NV} {K:qa→World→Prop} {Q:Ks} {ρ:qa} {d:Option Nat}
theorem NK.ext {all:List NV} (h:NK w B X nv1 w1 x all) (a:qb w1 w2):NK w B X nv1 w2 x all:=⟨h.var.ext a,h.own.ext a,h.sep⟩
end
section
variable {α β:Type} {A:Ans α} {A':Ans β} {L:List Tok} {m:M α} {k:α→M β} {r:Rs β} {base B X:Nat} {w w1:World} {tv nv nv1:Value} {i f:Nat} {xs ys:List NV} {K:qa→World→Prop} {Q:Ks} {ρ:qa} {d:Option Nat}
end
section
variable {L:List Tok} {base B X:Nat} {w w1:World} {tv nv nv1:Value} {i f:Nat} {xs ys:List NV} {K:qa→World→Prop} {Q:Ks} {ρ:qa} {d:Option Nat}
theorem NK.add {w2:World} {nv2:Value} {x z:NV} (h:NK w B X nv1 w1 x (xs++ys)) (e:Cu base B w tv nv L xs w1 nv1 i f ys) (a:Tn base B nv1 nv2 w1 w2) (c:∀k,z.kv.ownBlock=some k→x.kv.ownBlock≠some k):NK w B X nv2 w2 x (xs++(ys++[z])):=
 ⟨h.var.turn a,e.keep a h.own (by decide) (by decide),by rw [←List.append_assoc];exact h.sep.app fun y b k o=>(by
  obtain rfl:y=z:=List.mem_singleton.1 b;exact c k o)⟩
end
theorem qiw (s:Bs):Tryz.prog.built 44 [(0, .int .u8 31),(1, .string (qc s))]=some (qe (kdV 31 s [] [] 0 (.slice none 0 0) [])).toArray:=by kernel_rfl
def qz (p:Nat→TypeId→Prop) (w w':World):Prop:=∀k cs T z,w.heap[k]? =some (.cells cs T z)→p k T→w'.heap[k]? =w.heap[k]?
theorem qz.mono {p q:Nat→TypeId→Prop} {w w':World} (h:qz p w w') (b:∀k T,q k T→p k T):qz q w w':=fun k cs T z a c=>h k cs T z a (b k T c)
theorem qz.trans {p:Nat→TypeId→Prop} {w w' a:World} (h:qz p w w') (o:qz p w' a):qz p w a:=fun k cs T z b c=>by
 have e:=h k cs T z b c;exact (o k cs T z (e.trans b) c).trans e
theorem qz.ext {p:Nat→TypeId→Prop} {w w':World} (h:qb w w'):qz p w w':=fun k _ _ _ a _=>h.block k (Array.getElem?_eq_some_iff.1 a).1
theorem qz.only {X:Nat} {w w':World} {cs:Array Value} {TX:TypeId} (h:Only X w w') (c:Blk w X cs TX):qz (fun k T=>k≠X∨T≠TX) w w':=fun k cs' T z b a=>by
 refine h.block k ?_;rintro rfl;have:=c.heap;rw [b] at this;cases this;rcases a with a|a<;>exact a rfl
theorem qz.grown {w w':World} {b e sz:Nat} {v:Value} {xs:List Value} (o:Own b e sz w v xs) (u:w.grownBy w' v.ownBlock):qz (fun k T=>v.ownBlock≠some k∨T≠e) w w':=fun k cs T z c a=>by
 refine u.block k (Array.getElem?_eq_some_iff.1 c).1 fun h=> ?_;obtain ⟨cur,t⟩:=Own.row o h.symm;rw [t] at c;cases c;rcases a with a|a
 ·exact a h.symm
 ·exact a rfl
theorem PSt.sameT {base B:Nat} {w w':World} {tv nv nv':Value} {L:List Tok} {i f:Nat} {xs:List NV} (h:PSt base B w tv nv L i f xs) (o:Tn base B nv nv' w w'):qz (fun k T=>T≠85∧(T≠44∨nv.ownBlock≠some k)) w w':=fun k cs T z b c=>by
 refine o.block k (Array.getElem?_eq_some_iff.1 b).1 (h.blkNe b c.1) fun e=> ?_;rcases c.2 with a|a
 ·exact h.rowNe b a e
 ·exact a e
theorem _root_.Go.Eng.Own.at' {p:Nat→TypeId→Prop} {w w':World} {b e sz:Nat} {v:Value} {xs:List Value} (h:Own b e sz w v xs) (o:qz p w w') (t:∀k,v.ownBlock=some k→p k e):Own b e sz w' v xs:=Own.same h fun k a=>by
 obtain ⟨cur,c⟩:=Own.row h a;exact o k _ _ _ c (t k a)
theorem _root_.Go.Eng.Blk.at' {p:Nat→TypeId→Prop} {w w':World} {X:Nat} {cs:Array Value} {T:TypeId} (h:Blk w X cs T) (a:qz p w w') (b:p X T):Blk w' X cs T:=⟨(a X _ _ _ h.heap b).trans h.heap⟩
def vt {α β:Type} (C:α→β→Prop):List α→List β→Prop
 |[],[]=>True
 |a::us,b::vs=>C a b∧vt C us vs
 |_,_=>False
section
variable {α β:Type} {C C':α→β→Prop}
theorem vt.imp (e:∀a b,C a b→C' a b):∀{c:List α} {vs:List β},vt C c vs→vt C' c vs
 |[],[],_=>trivial
 |_::_,_::_,h=>⟨e _ _ h.1,vt.imp e h.2⟩
 |[],_::_,h=>h.elim
 |_::_,[],h=>h.elim
theorem vt.len:∀{a:List α} {vs:List β},vt C a vs→a.length=vs.length
 |[],[],_=>rfl
 |_::_,_::_,h=>by simp [vt.len h.2]
 |[],_::_,h=>h.elim
 |_::_,[],h=>h.elim
theorem vt.get:∀{a:List α} {vs:List β},vt C a vs→∀(i:Nat) (b:i<a.length) (c:i<vs.length),C a[i] vs[i]
 |_::_,_::_,h,0,_,_=>h.1
 |_::_,_::_,h,i+1,b,c=>vt.get h.2 i (by simpa using b) (by simpa using c)
theorem vt.left {P:α→Prop} (o:∀a b,C a b→P a):∀{e:List α} {vs:List β},vt C e vs→∀a∈e,P a
 |[],[],_,a,c=>by cases c
 |_::_,_::_,h,a,c=>by
  rcases List.mem_cons.1 c with rfl|c
  ·exact o _ _ h.1
  ·exact vt.left o h.2 a c
 |[],_::_,h,_,_=>h.elim
 |_::_,[],h,_,_=>h.elim
end
def wJ {α:Type} (b T sz:Nat) (C:List Value→α→Prop) (w:World) (v:Value) (l:List α):Prop:=∃css:List (List Value),Own b T sz w v css.flatten∧vt C css l
def Qe (w:World) (cs:List Value) (s:Sig):Prop:=∃av sv,cs=[.bool s.iter,av, .string (qc s.result),sv]∧Own 0 9 1 w av (s.args.map qi)∧Own 0 9 1 w sv (s.signals.map qi)
def Qh (w:World) (cs:List Value) (n:Need):Prop:=∃c,cs= .string (qc n.op)::c∧Qe w c n.sig
def qb1 (w:World) (cs:List Value) (o:Opn):Prop:=∃c,cs= .string (qc o.name)::c∧Qe w c o.sig
def kG (q:Nat→Prop) (w:World) (v:Value) (l:List Nd):Prop:=∃xs:List NV,xs.map (·.nd)=l∧Own 0 44 6 w v (qZ xs)∧∀x∈xs,Own 0 3 1 w x.kv (x.nd.kids.map encI)∧∀k,x.kv.ownBlock=some k→q k
def qaE (N:Value→List Nd→Prop) (w:World) (cs:List Value) (r:Rout):Prop:=∃c pv ndv,cs= .string (qc r.name)::(c++[pv,ndv])∧Qe w c r.sig∧Own 0 9 1 w pv (r.params.map qi)∧N ndv r.nodes
def ym (N:Value→List Nd→Prop) (w:World) (cs:List Value) (m:Mod):Prop:=∃needv opv rv,cs=[.string (qc m.face.name), .int .u8 (m.face.kind:Int), .bool m.face.param,needv,opv, .string (qc m.rep),rv]∧
 wJ 0 132 5 (Qh w) w needv m.face.needs∧wJ 0 135 5 (qb1 w) w opv m.face.ops∧wJ 0 82 7 (qaE N w) w rv m.routs
section
variable {p:Nat→TypeId→Prop} {w w':World} {cs:List Value} {v:Value}
theorem wJ.at' {α:Type} {b T sz:Nat} {C C':List Value→α→Prop} {l:List α} (h:wJ b T sz C w v l) (o:qz p w w') (u:∀k,v.ownBlock=some k→p k T) (t:∀c a,C c a→C' c a):wJ b T sz C' w' v l:=by
 obtain ⟨css,e,y⟩:=h;exact ⟨css,e.at' o u,y.imp t⟩
theorem Qe.at' {s:Sig} (h:Qe w cs s) (a:qz p w w') (b:∀k,p k 9):Qe w' cs s:=by
 obtain ⟨e,sv,c,o,t⟩:=h;exact ⟨e,sv,c,o.at' a fun k _=>b k,t.at' a fun k _=>b k⟩
theorem Qh.at' {s:Need} (h:Qh w cs s) (b:qz p w w') (e:∀k,p k 9):Qh w' cs s:=by
 obtain ⟨c,a,o⟩:=h;exact ⟨c,a,o.at' b e⟩
theorem qb1.at' {s:Opn} (h:qb1 w cs s) (b:qz p w w') (e:∀k,p k 9):qb1 w' cs s:=by
 obtain ⟨c,a,o⟩:=h;exact ⟨c,a,o.at' b e⟩
theorem kG.at2 {q:Nat→Prop} {l:List Nd} (h:kG q w v l) (e:qz p w w') (u:∀k,q k→p k 3) (a:∀k,v.ownBlock=some k→p k 44):kG q w' v l:=by
 obtain ⟨xs,o,y,b⟩:=h;exact ⟨xs,o,y.at' e a,fun x c=>⟨(b x c).1.at' e fun k t=>u k ((b x c).2 k t),(b x c).2⟩⟩
theorem kG.at' {q:Nat→Prop} {l:List Nd} (h:kG q w v l) (b:qz p w w') (c:∀k,p k 3) (a:∀k,v.ownBlock=some k→p k 44):kG q w' v l:=h.at2 b (fun k _=>c k) a
theorem kG.mono {q q':Nat→Prop} {l:List Nd} (h:kG q w v l) (t:∀k,k<w.heap.size→q k→q' k):kG q' w v l:=by
 obtain ⟨xs,e,o,a⟩:=h;exact ⟨xs,e,o,fun x b=>⟨(a x b).1,fun k c=>t k ((a x b).1.blk k c).2 ((a x b).2 k c)⟩⟩
theorem qaE.at' {N N':Value→List Nd→Prop} {r:Rout} (h:qaE N w cs r) (b:qz p w w') (e:∀k,p k 9) (E:∀v l,N v l→N' v l):qaE N' w' cs r:=by
 obtain ⟨c,t,a,o,y,z,u⟩:=h;exact ⟨c,t,a,o,y.at' b e,z.at' b fun k _=>e k,E _ _ u⟩
end
section
variable {base B X:Nat} {w w1 w2:World} {tv nv nv1 nv2:Value} {L:List Tok} {i f j g:Nat} {xs ys zs:List NV}
theorem PSt.sep (h:PSt base B w1 tv nv1 L i f xs) {c:Value} {e sz b:Nat} {cs:List Value} (t:Own b e sz w1 c cs) (F:e≠3):zU c xs:=fun x E k z u=>by
 obtain ⟨cur,y⟩:=Own.row (h.kid x E) z;obtain ⟨o,a⟩:=Own.row t u;rw [y] at a;cases a;exact F rfl
end
def PRx {β:Type} (base B:Nat) (tv nv:Value) (L:List Tok) (xs:List NV) (w:World) (V:β→Nat→Nat→Value→World→Prop):Rs β→Ending→World→Prop
 | .oof,_,_=>False
 | .ok a j g,e,w'=>∃v,e= .returned v∧V a j g v w'
 | .no g,e,w'=>∃j nv' ys,e= .panicked yx∧PSt base B w' tv nv' L j g (xs++ys)∧Tn base B nv nv' w w'
section
variable {α β:Type} {A':Ans β} {L:List Tok} {m:M α} {k:α→M β} {r:Rs β} {base B X:Nat} {w w1:World} {tv nv nv1:Value} {i f:Nat} {xs ys:List NV} {K:qa→World→Prop} {Q:Ks} {ρ:qa} {d:Option Nat}
theorem qjv {V:α→Nat→Nat→Value→World→Prop} {F:FuncId} {args:Array Value} (H:m i f≠ .oof→Calls Tryz.prog F args w1 (PRx base B tv nv L xs w V (m i f))) (u:bnd m k i f=r) (E:r≠ .oof)
  (hpn:∀c w',PR A' base B tv nv L xs w r (.panicked c) w'→Q.pn ρ c w') (h:∀a j g v w2,m i f= .ok a j g→V a j g v w2→k a j g=r→K (qm ρ d v) w2):Calls Tryz.prog F args w1 (xP Q d K ρ):=by
 have o:m i f≠ .oof:=fun e=>E (by rw [←u,qsD e]);refine (H o).mono ?_;intro e w2 t;cases b:m i f with
 |oof=>exact absurd b o
 |no g=>
  rw [b] at t;obtain ⟨j,nv2,zs,rfl,y,z⟩:=t;rw [qst];refine hpn _ _ ?_;rw [←u,qeu b];exact ⟨j,nv2,zs,rfl,y,z⟩
 |ok a j g=>
  rw [b] at t;obtain ⟨v,rfl,I⟩:=t;rw [qiu];exact h a j g v w2 b I (by rw [←u,qet b])
end
def smX (X:Nat):Nat→TypeId→Prop:=fun k T=>T≠85∧T≠44∧k≠X
theorem Cu.sm {base B X:Nat} {w w1 w2:World} {tv nv nv1 nv2:Value} {L:List Tok} {i f:Nat} {xs ys:List NV} (h:Cu base B w tv nv L xs w1 nv1 i f ys) (a:Tn base B nv1 nv2 w1 w2):qz (smX X) w1 w2:=(h.st.sameT a).mono fun _ _ h=>⟨h.1, .inl h.2.1⟩
noncomputable def qgw:IR:= .cond (zv 24) (zq [za 4 (zQ false)] <| .ret) .skip
noncomputable def qnk:IR:= .reg [za 13 (zI .add (zv 13) (zK 1))]
noncomputable def qnj:IR:= .seq (.block 1 (zq [zm 5 13] <| .seq (.drw [za 24 (zI .neq (zl (zx 1 (zv 0) (zv 5))) (zl (zx 1 (zv 1) (zv 5))))]) (qgw))) (qnk)
noncomputable def qgv:IR:=zq [za 14 (zI .lss (zv 13) (zv 12))] <| .seq (.cond (zv 14) .skip (.exit 0)) (qnj)
noncomputable def qni:IR:=zq [za 4 (zQ true)] <| .ret
noncomputable def qnh:IR:=zq [za 12 (zL (zv 0)),za 13 (zK 0)] <| .seq (.block 0 (.loop qgv)) (qni)
noncomputable def qnl:IR:=zq [za 4 (zQ false),za 10 (zI .neq (zL (zv 0)) (zL (zv 1)))] <| .seq (.cond (zv 10) (zq [za 4 (zQ false)] <| .ret) .skip) (qnh)
def qzh:List Nat:=[0,1,4,5,10,12,13,14,24]
theorem qzg:C2 50 26 qzh qnl [.tmp 4]:=c2 [] Tryz.func50
noncomputable def qdV:IR:=zq [za 4 (zQ false),zm 5 0,zm 6 1,zc 7 229 #[zt 5,zt 6] #[51,9] 3,za 4 (zI .geq (zv 7) (zK 0))] <| .ret
def qhk:List Nat:=zV 8 [2,3]
theorem qp2:C2 160 9 qhk qdV [.tmp 4]:=c2 [] Tryz.func160
noncomputable def qdN:IR:= .reg [za 8 (zI .add (zv 8) (zK 1))]
noncomputable def qdM:IR:= .seq (.block 1 (zq [zm 5 8,za 16 (zS .eql (zv 1) (zl (zx 1 (zv 0) (zv 5))))] <| .cond (zv 16) (zq [zm 4 5] <| .ret) .skip)) (qdN)
noncomputable def qbJ:IR:=zq [za 9 (zI .lss (zv 8) (zv 7))] <| .seq (.cond (zv 9) .skip (.exit 0)) (qdM)
noncomputable def qdL:IR:=zq [za 4 (.const (.int .i64 (-1)))] <| .ret
noncomputable def qdO:IR:=zq [za 4 (zK 0),za 7 (zL (zv 0)),za 8 (zK 0)] <| .seq (.block 0 (.loop qbJ)) (qdL)
def qg0:List Nat:=[0,1,4,5,7,8,9,16]
theorem qo5:C2 229 19 qg0 qdO [.tmp 4]:=c2 [] Tryz.func229
noncomputable def qpE:IR:=zq [zE 5 (.buildSlice 40 0 #[]) 40,zm 6 0,zp 7 #[zt 5,zt 6] #[40,40] 40,zm 2 7] <| .ret
noncomputable def qpF:IR:=zq [za 2 (.const (.slice none 0 0)),zm 3 0,zE 4 (.binOp .eql 40 (zt 3) (.const (.slice none 0 0)) 40) 4] <| .seq (.cond (zv 4) (zq [za 2 (.const (.slice none 0 0))] <| .ret) .skip) (qpE)
def qAZ:List Nat:=zV 8 [1]
theorem qAY:C1 192 8 qAZ qpF [.tmp 2]:=c1 [] Tryz.func192
theorem qsW {cs:List Value} (h:∀c∈cs,c.cells= #[c]):(Value.agg cs.toArray).cells=cs.toArray:=by
 have:∀l:List Value,(∀c∈l,c.cells= #[c])→(l.flatMap fun c=>c.cells.toList)=l:=by
  intro l
  induction l with
  |nil=>intro _;rfl
  |cons a l e=>
   intro h;rw [List.flatMap_cons,h a (by simp),e fun c b=>h c (by simp [b])];rfl
 apply Array.toList_inj.1;simp [Value.cells,Array.toList_flatMap,this cs h]
theorem Qh.len {w:World} {cs:List Value} {s:Need} (h:Qh w cs s):cs.length=5:=by
 obtain ⟨c,rfl,a,sv,rfl,_⟩:=h;rfl
theorem qhM {n:Nat}:∀{css:List (List Value)},(∀c∈css,c.length=n)→css.flatten.length=css.length*n
 |[],_=>by simp
 |c::css,h=>by
  rw [List.flatten_cons,List.length_append,h c (by simp),qhM fun c a=>h c (by simp [a]),List.length_cons,Nat.add_mul];omega
def xE (q:Nat→Prop) (w:World) (nv:Value) (xs:List NV) (v:Value) (l:List Nd):Prop:=(v=nv∧l=xs.map (·.nd)∧∀x∈xs,∀k,x.kv.ownBlock=some k→q k)∨(kG q w v l∧∀k,v.ownBlock=some k→nv.ownBlock≠some k)
section
variable {base B X:Nat} {w w1 w2:World} {tv nv nv1 nv2 v:Value} {L:List Tok} {i f j g:Nat} {xs xs1 ys:List NV} {l:List Nd}
theorem xE.at' {q:Nat→Prop} (h:xE q w nv xs v l) {p:Nat→TypeId→Prop} (e:qz p w w1) (t:∀k,p k 3) (a:∀k,nv.ownBlock≠some k→p k 44):xE q w1 nv xs v l:=by
 rcases h with h|⟨c,b⟩
 ·exact .inl h
 ·exact .inr ⟨c.at' e t fun k o=>a k (b k o),b⟩
end
section
variable {w w1:World} {nv v:Value} {xs:List NV} {l:List Nd} {q q':Nat→Prop} {p:Nat→TypeId→Prop}
theorem xE.at2 (h:xE q w nv xs v l) (e:qz p w w1) (t:∀k,q k→p k 3) (a:∀k,nv.ownBlock≠some k→p k 44):xE q w1 nv xs v l:=by
 rcases h with h|⟨c,b⟩
 ·exact .inl h
 ·exact .inr ⟨c.at2 e t fun k o=>a k (b k o),b⟩
theorem xE.mono (h:xE q w nv xs v l) (u:∀x∈xs,∀k,x.kv.ownBlock=some k→k<w.heap.size) (o:∀k,k<w.heap.size→q k→q' k):xE q' w nv xs v l:=by
 rcases h with ⟨b,c,t⟩|⟨b,c⟩
 ·exact .inl ⟨b,c,fun x a k e=>o k (u x a k e) (t x a k e)⟩
 ·exact .inr ⟨b.mono o,c⟩
end
theorem PSt.kidLt {base B:Nat} {w:World} {tv nv:Value} {L:List Tok} {i f:Nat} {xs:List NV} (h:PSt base B w tv nv L i f xs):∀x∈xs,∀k,x.kv.ownBlock=some k→k<w.heap.size:=fun x b k a=>((h.kid x b).blk k a).2
section
variable {base B X:Nat} {w w1 w2:World} {tv nv nv1 nv2 v:Value} {L:List Tok} {i f j g:Nat} {xs xs1 ys:List NV} {l:List Nd}
structure Cm (base B:Nat) (w:World) (tv nv:Value) (L:List Tok) (xs:List NV) (w1:World) (nv1:Value) (i f:Nat) (xs1:List NV):Prop where
 st:PSt base B w1 tv nv1 L i f xs1
 ln:xs1.length≤2*i+2
 tn:TnW base B nv nv1 w w1
 nd:∀q v l,xE q w nv xs v l→xE q w1 nv1 xs1 v l
 b0:base≤w.heap.size
 fr:∀x∈xs1,x∈xs∨wj w x.kv
theorem Cm.trans (h:Cm base B w tv nv L xs w1 nv1 i f xs1) (a:Cm base B w1 tv nv1 L xs1 w2 nv2 j g ys):Cm base B w tv nv L xs w2 nv2 j g ys:=
 ⟨a.st,a.ln,h.tn.trans a.tn,fun q v l o=>a.nd q v l (h.nd q v l o),h.b0,fun y c=>by
  rcases a.fr y c with b|b
  ·exact h.fr y b
  ·exact .inr fun k e=>Nat.le_trans h.tn.below.size (b k e)⟩
end
section
variable {α β:Type} {A:Ans α} {A':Ans β} {L:List Tok} {m:M α} {k:α→M β} {r:Rs β} {base B X:Nat} {w w0 w1:World} {tv nv nv0 nv1:Value} {i f i0 f0:Nat} {xs xs0 ys:List NV} {K:qa→World→Prop} {Q:Ks} {ρ:qa} {d:Option Nat}
end
section
variable {base B X:Nat} {w w1 w2:World} {tv nv nv1:Value} {L:List Tok} {i f:Nat} {xs xs1:List NV}
theorem Cm.ext (h:Cm base B w tv nv L xs w1 nv1 i f xs1) (a:qb w1 w2):Cm base B w tv nv L xs w2 nv1 i f xs1:=
 ⟨h.st.ext a,h.ln,h.tn.trans (Tn.toW (Tn.ext a h.st.bW)),fun q v l b=>(h.nd q v l b).at' (qz.ext (p:=fun _ _=>True) a) (fun _=>trivial) fun _ _=>trivial,h.b0,h.fr⟩
theorem Cm.block {zs:List NV} {j g:Nat} {nv2:Value} (h:Cu base B w1 tv (.slice none 0 0) L [] w2 nv2 j g zs) (u:PSt base B w1 tv (.slice none 0 0) L i f []) (z:zs.length≤2*j+2):Cm base B w1 tv (.slice none 0 0) L [] w2 nv2 j g zs:=by
 refine ⟨by simpa using h.st,z,h.tn.toW,fun q v l F=> .inr ?_,h.b0,fun y t=> .inr (h.fr y t)⟩;have a:=u.sameT h.tn;rcases F with ⟨rfl,rfl,_⟩|⟨o,_⟩
 ·exact ⟨⟨[],rfl,Own.nil _ _ _ _,by simp⟩,fun k b=>by cases b⟩
 ·refine ⟨o.at' a (fun k=>⟨by decide, .inl (by decide)⟩) fun k _=>⟨by decide, .inr (by simp [Value.ownBlock])⟩,fun k b e=> ?_⟩;obtain ⟨I,_,E,_⟩:=o;have H:=(E.blk k b).2;rcases h.tn.row k e with c|c
  ·cases c
  ·omega
end
def mdA (nm:Bs) (k:Int) (pr:Bool) (nd op:Value) (rep:Bs) (rv:Value):Array Value:= #[.string (qc nm), .int .u8 k, .bool pr,nd,op, .string (qc rep),rv]
theorem sz5:jG Tryz.prog 5 1=true:=by kernel_rfl
section
variable {base B X:Nat} {w w1 w2:World} {tv nv nv1 nv2:Value} {L:List Tok} {i f j g:Nat} {xs xs1 ys:List NV} {p:Nat→TypeId→Prop} {N N':Value→List Nd→Prop} {cs:List Value}
theorem ym.at' {m:Mod} (h:ym N w cs m) (b:qz p w w1) (t:∀k,p k 9) (c:∀k,p k 132) (o:∀k,p k 135) (u:∀k,p k 82) (z:∀v l,N v l→N' v l):ym N' w1 cs m:=by
 obtain ⟨a,y,rv,e,F,H,E⟩:=h;exact ⟨a,y,rv,e,F.at' b (fun k _=>c k) fun _ _ h=>h.at' b t,H.at' b (fun k _=>o k) fun _ _ h=>h.at' b t,E.at' b (fun k _=>u k) fun _ _ h=>h.at' b t z⟩
theorem Cm.same (h:Cm base B w tv nv L xs w1 nv1 i f xs1) (b:PSt base B w tv nv L j g xs):qz (fun k T=>T≠85∧T≠44) w w1:=fun k cs T z a c=>
 h.tn.block k (Array.getElem?_eq_some_iff.1 a).1 (b.blkNe a c.1) (b.rowNe a c.2)
theorem Cm.var (h:Cm base B w tv nv L xs w1 nv1 i f xs1) (b:PSt base B w tv nv L j g xs) {Y:Nat} {cs:Array Value} {T:TypeId} (c:Blk w Y cs T) (a:T≠44) (e:T≠85):Blk w1 Y cs T:=c.at' (h.same b) ⟨e,a⟩
end
section
variable {base B X:Nat} {w w1 w2:World} {tv nv nv1:Value} {L:List Tok} {i f:Nat} {xs xs1:List NV}
end
structure ClS (L:List Tok) (base B R X:Nat) (w:World) (tv nv v7 v8:Value) (xs:List NV) (nm rep:Bs) (pr:Bool) (names:List Bs) (ws:List Need) (i f:Nat) (nv' rv:Value) (ys:List NV) (css:List (List Value)) (rs:List Rout) (w':World):Prop where
 m:Cm base B w tv nv L xs w' nv' i f ys
 bR:Blk w' R (mdA [] 0 false (.slice none 0 0) (.slice none 0 0) [] (.slice none 0 0)) 66
 bX:Blk w' X (mdA nm 3 pr v8 (.slice none 0 0) rep rv) 66
 own:Own w.heap.size 82 7 w' rv css.flatten
 all:vt (qaE (xE (fun k=>w.heap.size≤k) w' nv' ys) w') css rs
 bd:∀q∈rs,q.sig.args.length≤20001∧q.sig.signals.length≤20001
 nms:Own 0 9 1 w' v7 (names.map qi)
 nds:wJ 0 132 5 (Qh w') w' v8 ws
 len:rs.length≤i
 Xw:w.heap.size≤X
 Rw:w.heap.size≤R
 RX:R≠X
 nl:names.length≤20001
section
variable {L:List Tok} {base B R X n:Nat} {w:World} {tv nv v7 v8:Value} {xs:List NV} {nm rep:Bs} {pr:Bool} {names:List Bs} {ws:List Need} {r:Rs Mod}
theorem ClS.ext {i f:Nat} {nv' rv:Value} {ys:List NV} {css:List (List Value)} {rs:List Rout} {w1 w2:World} (h:ClS L base B R X w tv nv v7 v8 xs nm rep pr names ws i f nv' rv ys css rs w1) (a:qb w1 w2):ClS L base B R X w tv nv v7 v8 xs nm rep pr names ws i f nv' rv ys css rs w2:=
 have b:qz (fun _ _=>True) w1 w2:=qz.ext a
 ⟨h.m.ext a,h.bR.ext a,h.bX.ext a,h.own.ext a,h.all.imp fun _ _ h=>h.at' b (fun _=>trivial) fun v l c=>c.at' b (fun _=>trivial) fun _ _=>trivial,h.bd,h.nms.ext a,h.nds.at' b (fun _ _=>trivial) fun _ _ h=>h.at' b fun _=>trivial,h.len,h.Xw,h.Rw,h.RX,h.nl⟩
structure ClN (L:List Tok) (base B R X:Nat) (w:World) (tv nv v7 v8:Value) (xs:List NV) (nm rep:Bs) (pr:Bool) (names:List Bs) (ws:List Need) (i f:Nat) (nv' rv:Value) (ys:List NV) (css:List (List Value)) (rs:List Rout) (k:Nat) (w':World):Prop where
 m:Cm base B w tv nv L xs w' nv' i f ys
 bR:Blk w' R (mdA [] 0 false (.slice none 0 0) (.slice none 0 0) [] (.slice none 0 0)) 66
 bX:∃opv cs2,Blk w' X (mdA nm 3 pr v8 opv rep rv) 66∧Own w.heap.size 135 5 w' opv (List.flatten cs2)∧vt (qb1 w') cs2 ((qlm names rs).take k)
 own:Own w.heap.size 82 7 w' rv css.flatten
 all:vt (qaE (xE (fun k=>w.heap.size≤k) w' nv' ys) w') css rs
 nms:Own 0 9 1 w' v7 (names.map qi)
 nds:wJ 0 132 5 (Qh w') w' v8 ws
theorem ClN.ext {L:List Tok} {base B R X:Nat} {w:World} {tv nv v7 v8:Value} {xs:List NV} {nm rep:Bs} {pr:Bool} {names:List Bs} {ws:List Need} {i f k:Nat} {nv' rv:Value} {ys:List NV} {css:List (List Value)} {rs:List Rout} {w1 w2:World} (h:ClN L base B R X w tv nv v7 v8 xs nm rep pr names ws i f nv' rv ys css rs k w1) (a:qb w1 w2):ClN L base B R X w tv nv v7 v8 xs nm rep pr names ws i f nv' rv ys css rs k w2:=by
 have b:qz (fun _ _=>True) w1 w2:=qz.ext a;obtain ⟨e,c,t,u,o⟩:=h.bX;exact ⟨h.m.ext a,h.bR.ext a,⟨e,c,t.ext a,u.ext a,o.imp fun _ _ h=>h.at' b fun _=>trivial⟩,h.own.ext a,h.all.imp fun _ _ h=>h.at' b (fun _=>trivial) fun v l y=>y.at' b (fun _=>trivial) fun _ _=>trivial,h.nms.ext a,h.nds.at' b (fun _ _=>trivial) fun _ _ h=>h.at' b fun _=>trivial⟩
end
theorem ym.row {N:Value→List Nd→Prop} {w:World} {cs:List Value} {m:Mod} (h:ym N w cs m):cs.length=7∧∀c∈cs,c.cells= #[c]∧c.oneCell=true:=by
 obtain ⟨a,u,rv,rfl,⟨_,b,_⟩,⟨_,t,_⟩,⟨_,o,_⟩⟩:=h;refine ⟨rfl, ?_⟩;intro c e;simp only [List.mem_cons,List.mem_nil_iff,or_false] at e;rcases e with rfl|rfl|rfl|rfl|rfl|rfl|rfl
 ·exact ⟨rfl,rfl⟩
 ·exact ⟨rfl,rfl⟩
 ·exact ⟨rfl,rfl⟩
 ·exact ⟨jR b.isl,vI b.isl⟩
 ·exact ⟨jR t.isl,vI t.isl⟩
 ·exact ⟨rfl,rfl⟩
 ·exact ⟨jR o.isl,vI o.isl⟩
theorem qC6 {P:Program} {Q:Ks} {d:Option Nat} {ty:TypeId} {K:qa→World→Prop} {ρ:qa} {w:World} {a b:Operand} {k:IntKind} {x y:Int} {c:Array TypeId} (o:qd ρ a= .int k x) (e:qd ρ b= .int k y) (h:K (qm ρ d (.int k (if y<x then y else x))) w):
  qw P Q d (.call {callee:= .builtin .min,args:= #[a,b],argTypes:=c}) ty K ρ w:=by
 show jY P Q d _ ty K ρ w;refine ju (v:= .int k (if y<x then y else x)) (w':=w) ?_ h;simp [execOp,qD,resolve,invoke,builtin,o,e,Builtin.min_,Builtin.min2]
def qeO (_:Nat) (T:TypeId):Prop:=T=3∨T=4∨T=83
def qb5 (B:Nat) (tv:Value) (W:World) (ok:Bool) (g:Nat) (Ok:World→Prop) (e:Ending) (w2:World):Prop:=
 qz qeO W w2∧Below B W w2∧((ok=true∧e= .returned (.tuple #[])∧Ok w2)∨(ok=false∧e= .panicked yx∧∃(j:Nat) (nv2:Value),Blk w2 B #[tv, .int .i64 (j:Int), .int .i64 (g:Int),nv2] 85∧qn nv2=true∧Ok w2))
def qs0 (B:Nat) (w:World) (tv:Value) (ok:Bool) (g:Nat) (Ok:World→Prop) (e:Ending) (w':World):Prop:=
 e= .returned (.bool ok)∧Below B w w'∧∃w2,Ok w2∧qz (fun _ T=>T≠4∧(ok=true∨T≠85)) w2 w'∧(ok=false→∃a b,Blk w' B #[tv,a, .int .i64 (g:Int),b] 85)
theorem qhQ {B:Nat} {w w':World} (h:qb w w') (b:B≤w.heap.size):Below B w w':=⟨h.os,h.tape,h.output,h.size,fun k a=>h.block k (by omega)⟩
theorem qwM {L:List Tok} {base B:Nat} {w:World} {tv nv:Value} {i f g:Nat} (hS:PSt base B w tv nv L i f []) {ok:Bool} {F:FuncId} {caps:Array Value} {Ok:World→Prop} (hcb:qg Tryz.prog F=true) (ad:∀W,qb w W→Calls Tryz.prog F caps W (qb5 B tv W ok g Ok)):
  Calls Tryz.prog 54 #[.pointer (some ⟨B,0,none⟩), .func (.func F) #[] caps] w (qs0 B w tv ok g Ok):=by
 generalize hR:qs0 B w tv ok g Ok=R;refine qna fun ρ r0 r1 rg=> ?_;simp [qdy,r0];refine vz fun A W1 hA am hbA _=> ?_;simp [Value.cells,r0] at hbA;simp;refine qT z4 fun Y W2 hY ai hbY _=> ?_;simp;have hS2:=hS.ext (am.trans' ai);have hA2:=hbA.ext ai;refine vF (hpn:=qi3 (by decide)) qm9 (fun W=>Blk W A #[.pointer (some ⟨B,0,none⟩)] 83∧Blk W B #[tv, .int .i64 (i:Int), .int .i64 (f:Int),nv] 85) fun W3 U _=> ?_;have y:=hS2.ext U;have o:=hA2.ext U;have hJ:Blk W3 A #[.pointer (some ⟨B,0,none⟩)] 83∧Blk W3 B #[tv, .int .i64 (i:Int), .int .i64 (f:Int),nv] 85:=⟨o,y.blk⟩;refine ⟨hJ, ?_⟩;have cA:∀W,(Blk W A #[.pointer (some ⟨B,0,none⟩)] 83∧Blk W B #[tv, .int .i64 (i:Int), .int .i64 (f:Int),nv] 85)→W.cell? ⟨A,0,none⟩=some (.pointer (some ⟨B,0,none⟩))∧W.cell? ⟨B,1,none⟩=some (.int .i64 (i:Int))∧W.cell? ⟨B,3,none⟩=some nv:=fun W h=>⟨by rw [h.1.cell];rfl,by rw [h.2.cell];rfl,by rw [h.2.cell];rfl⟩;have hisl:=hS.own.isl;simp+contextual -implicitDefEqProofs [qgu,cA,hJ,hisl];have rest:∀(u:qa) (W4:World) (X5 X6:Nat),qb W3 W4→Blk W4 X5 #[.int .i64 (i:Int)] 3→Blk W4 X6 #[.int .i64 (0:Int)] 3→u 1=ρ 1→u 2= .pointer (some ⟨A,0,none⟩)→u 4= .pointer (some ⟨Y,0,none⟩)→u 5= .pointer (some ⟨X5,0,none⟩)→u 6= .pointer (some ⟨X6,0,none⟩)→u gS= .tuple #[]→qbF.wp ⟨Tryz.prog,19,qai,wF⟩ (ve Tryz.prog [.cell1 4] R .returning) (zj Tryz.prog [.cell1 4] R) u W4:=by
  intro u W4 X5 X6 a J t e1 e2 e4 e5 e6 eg;have hA4:=o.ext a;have hY4:=(hbY.ext U).ext a;have ab:qb w W4:=((am.trans' ai).trans' U).trans' a;have hBw:=hS.blk.lt;have hBY:B≤Y:=by have:=am.size;omega
  have aa:Below B w W4:=qhQ ab (by omega);simp [qbF];refine qhZ (f:=116) (caps:= #[.pointer (some ⟨X5,0,none⟩), .pointer (some ⟨A,0,none⟩), .pointer (some ⟨X6,0,none⟩), .pointer (some ⟨Y,0,none⟩)]) (by simp [e2,e4,e5,e6]) trivial ?_;have eg':u 1000000000= .tuple #[]:=eg;simp [gS,e1,r1,eg'];refine x9 (f:=F) hcb (fs:= #[]) (caps:=caps) (by simp) ?_;simp;refine (ad W4 ab).mono ?_;rintro e w5 ⟨S,ac,h|h⟩
  ·obtain ⟨rfl,rfl,ag⟩:=h;have H:=hY4.at' S (.inr (.inl rfl));simp;refine qP (B:=Y) (i:=0) (by simp [e4]) H (by simp) (by simp [Value.cells]) (by simp) sz4 fun W6 c t=> ?_;simp at t;simp [zj,ve,gS,e4];refine jX (by simp) qen (qsf.mono ?_);rintro e u' w' ⟨⟨v,rfl⟩,rfl,rfl⟩;refine qag ?_;have cY:w'.cell? ⟨Y,0,none⟩=some (.bool true):=by rw [t.cell];rfl
   simp [qC,vC,RV.val,e4,cY,wq,←hR];exact ⟨rfl,(aa.trans ac).trans (k9 c hBY),w5,ag,(qz.only c H).mono fun _ _ h=> .inr h.1,by simp⟩
  ·obtain ⟨rfl,rfl,j,nv2,V,hsl,ag⟩:=h;have H:=hY4.at' S (.inr (.inl rfl));have h55:=J.at' S (.inl rfl);have h56:=t.at' S (.inl rfl);have hA5:=hA4.at' S (.inr (.inr rfl));simp [zj,ve,gS,e4];refine jX (by simp) qen ((qse (n:=0) h55 hA5 h56 (.inr H) V hsl (Nat.zero_le _)).mono ?_);rintro e u' w' ⟨⟨v,rfl⟩,hu,W6,W7,Z,z,E,ah,hb8⟩;show jU _ _ _ _ [] (settle u') w';rw [hu];refine qag ?_;have cY:w'.cell? ⟨Y,0,none⟩=some (.bool false):=by rw [hb8.cell];rfl
   simp [qC,vC,RV.val,e4,cY,wq,←hR];have bYB:B≠Y:=fun e=>by
    subst e;have:=V.heap;rw [H.heap] at this;cases this
   have hY7:=z.blk (H.ext Z) (Ne.symm bYB);have hB8:=ah.blk E bYB;refine ⟨rfl,(((aa.trans ac).trans (qhQ Z (by have:=V.lt;omega))).trans (k9 z (Nat.le_refl _))).trans (k9 ah hBY),w5,ag, ?_,fun _=>⟨_,_,hB8⟩⟩;exact ((qz.ext Z).trans ((qz.only z (V.ext Z)).mono fun _ _ h=> .inr (by simpa using h.2))).trans ((qz.only ah hY7).mono fun _ _ h=> .inr h.1)
 have nvl:qk nv=0:=by
  have:=(L01.jO hS.own).len;rw [z6] at this;simp at this;omega
 refine ⟨?_, ?_⟩
 ·refine qT z3 fun X5 W4 ak a al hs4=>⟨⟨o.ext a,(y.ext a).blk⟩, ?_⟩;refine qT z3 fun X6 W5 hX6 b J hs5=>⟨⟨(o.ext a).ext b,((y.ext a).ext b).blk⟩, ?_⟩;have ae:=(y.ext a).ext b;have l5:W3.heap.size≤X5:=ak;have I:X5≠X6:=by omega
  refine qP (B:=X5) (i:=0) (by simp) (al.ext b) (by simp) (by simp [Value.cells]) (by simp) vX fun W6 c t=> ?_;simp at t;have aj:=c.blk ((o.ext a).ext b) (by have:=o.lt;omega);have af:=c.blk ae.blk (by have:=y.blk.lt;omega);refine ⟨⟨aj,af⟩, ?_⟩;refine qP (B:=X6) (i:=0) (by simp) (c.blk J (Ne.symm I)) (by simp) (by simp [Value.cells]) (by simp) vX fun W7 z E=> ?_;simp [nvl] at E;exact rest _ W7 X5 X6 (z.ext (c.ext (a.trans' b) l5) (by have:=a.size;omega)) (z.blk t I) E (by simp) (by simp) (by simp) (by simp) (by simp) (by simp [gS] at rg⊢;exact rg)
 ·refine qT z3 fun X6 W4 hX6 a al hs4=>⟨⟨o.ext a,(y.ext a).blk⟩, ?_⟩;refine qT z3 fun X5 W5 ak b J hs5=>⟨⟨(o.ext a).ext b,((y.ext a).ext b).blk⟩, ?_⟩;have ae:=(y.ext a).ext b;have l5:W3.heap.size≤X5:=Nat.le_trans a.size ak;have I:X6≠X5:=by omega
  refine qP (B:=X5) (i:=0) (by simp) J (by simp) (by simp [Value.cells]) (by simp) vX fun W6 c t=> ?_;simp at t;have aj:=c.blk ((o.ext a).ext b) (by have:=o.lt;omega);have af:=c.blk ae.blk (by have:=y.blk.lt;omega);refine ⟨⟨aj,af⟩, ?_⟩;refine qP (B:=X6) (i:=0) (by simp) (c.blk (al.ext b) I) (by simp) (by simp [Value.cells]) (by simp) vX fun W7 z E=> ?_;simp [nvl] at E;exact rest _ W7 X5 X6 (z.ext (c.ext (a.trans' b) l5) hX6) (z.blk t (Ne.symm I)) E (by simp) (by simp) (by simp) (by simp) (by simp) (by simp [gS] at rg⊢;exact rg)
theorem qtg:∀t∈L01.vM,t.length≤20:=by decide
theorem qus:∀t∈L01.qW,t.length≤20:=by decide
theorem qjL {L:List Tok} (h:xl L):wK L:=fun t a=>by
 have:=h t a;unfold L01.right at this;split at this
 ·unfold L01.qh at this;simp only [Bool.and_eq_true,decide_eq_true_eq] at this;omega
 ·split at this
  ·exact qtg _ (List.contains_iff_mem.1 this)
  ·split at this
   ·unfold L01.jw at this;simp only [Bool.and_eq_true,Bool.not_eq_true',Bool.or_eq_false_iff,decide_eq_false_iff_not] at this;omega
   ·split at this
    ·exact qus _ (List.contains_iff_mem.1 this)
    ·cases this
section
variable {α:Type} {A:Ans α} {L:List Tok} {m:M α} {B P:Nat} {w:World} {tv nv:Value} {g:Nat}
def kN (L:List Tok) (m:M α):Bool:=match bnd m (fun a=>bnd (fin L) fun _=>ret a) 0 0 with| .ok _ _ _=>true|_=>false
def qEw (A:Ans α) (L:List Tok) (B:Nat) (tv:Value) (m:M α) (w2:World):Prop:=∃(i f:Nat) (nv2:Value) (ys:List NV),PSt B B w2 tv nv2 L i f ys∧∀a j g,kN L m=true→m 0 0= .ok a j g→ys.map (·.nd)=A.nodes 0 a∧j≤L.length
def QT (L:List Tok) (m:M α):Nat:=match bnd m (fun a=>bnd (fin L) fun _=>ret a) 0 0 with| .no g=>g| .ok _ _ g=>g| .oof=>0
end
theorem qxd {L:List Tok} {m:M Unit} (hm:Mt aU L 72 me m) (W:m 0 0≠ .oof) {B P:Nat} {w:World} {tv:Value} (hS:PSt B B w tv (.slice none 0 0) L 0 0 []) (hP:Blk w P #[.pointer (some ⟨B,0,none⟩)] 83):
  Calls Tryz.prog 71 #[.pointer (some ⟨P,0,none⟩)] w (qb5 B tv w (kN L m) (QT L m) (qEw aU L B tv m)):=by
 refine qy5 fun ρ r0=> ?_;have cP:w.cell? ⟨P,0,none⟩=some (.pointer (some ⟨B,0,none⟩)):=by rw [hP.cell];rfl
 simp [qm4,r0,cP];have sm:∀{nv2:Value} {w2:World},Tn B B (.slice none 0 0) nv2 w w2→qz qeO w w2:=fun hT=>(hS.sameT hT).mono fun k T h=>by
  rcases h with rfl|rfl|rfl<;>exact ⟨by decide, .inl (by decide)⟩
 refine (hm B B w tv _ 0 0 [] hS (by simp) W).mono ?_;intro e w2 Z;cases h:m 0 0 with
 |oof=>exact absurd h W
 |no g=>
  rw [h] at Z;obtain ⟨j,nv2,ys,rfl,c,b⟩:=Z;have H:kN L m=false:=by simp [kN,bnd,h,Rs.andThen]
  have S:QT L m=g:=by simp [QT,bnd,h,Rs.andThen]
  rw [H,S];refine ⟨sm b,b.below, .inr ⟨rfl,rfl,j,nv2,c.blk,c.own.isl,j,g,nv2,_,c,fun a j g _ I=> ?_⟩⟩;cases h.symm.trans I
 |ok t j g=>
  rw [h] at Z;obtain ⟨v,nv2,ys,rfl,c,ab,_,b,hv⟩:=Z;have ac:=hP.at' (sm b) (.inr (.inr rfl));have aa:w2.cell? ⟨P,0,none⟩=some (.pointer (some ⟨B,0,none⟩)):=by rw [ac.cell];rfl
  simp [r0,aa];refine ⟨by kernel_rfl,(qw6 c).mono ?_⟩;intro e w3 o;cases F:fin L j g with
  |oof=>rw [F] at o;exact o.elim
  |no V=>
   rw [F] at o;obtain ⟨Y,E,U,rfl,z,y⟩:=o;have H:kN L m=false:=by simp [kN,bnd,h,F,Rs.andThen]
   have S:QT L m=V:=by simp [QT,bnd,h,F,Rs.andThen]
   rw [H,S];simp;exact ⟨sm (b.trans y),(b.trans y).below, .inr ⟨rfl,rfl,Y,E,z.blk,z.own.isl,Y,V,E,_,z,fun a j g I=>by rw [H] at I;cases I⟩⟩
  |ok u Y V=>
   rw [F] at o;obtain ⟨v3,E,U,rfl,z,J,_,y,hv3⟩:=o;have H:kN L m=true:=by simp [kN,bnd,h,F,ret,Rs.andThen]
   have S:QT L m=V:=by simp [QT,bnd,h,F,ret,Rs.andThen]
   rw [H,S];obtain rfl:U=[]:=by simpa [aU] using J
   simp;refine ⟨sm (b.trans y),(b.trans y).below, .inl ⟨rfl,rfl,Y,V,E,ys,by simpa using z,fun a j g _ I=> ?_⟩⟩;obtain ⟨_,rfl,_⟩:=Rs.ok.inj (h.symm.trans I);exact ⟨ab,c.il⟩
@[simp] theorem qGF:qg Tryz.prog 53=true:=by kernel_rfl
@[simp] theorem qGE:qg Tryz.prog 64=true:=by kernel_rfl
@[simp] theorem qGD:qg Tryz.prog 76=true:=by kernel_rfl
theorem qa1:∀(n:Nat) (s:Bs) (l e m:Int),L01.kK n s l= .bad e m→e≠0
 |0,_,_,_,_,h=>by cases h
 |_+1,[],_,_,_,h=>by cases h
 |n+1,c::r,l,e,m,h=>by
  have add:∀{o c:_} {x:L01.Res},x.add o c= .bad e m→x= .bad e m:=fun {o c x} h=>by cases x<;>simpa [L01.Res.add] using h
  unfold L01.kK at h;split at h
  ·exact qa1 n _ _ _ _ h
  ·split at h
   ·exact qa1 n _ _ _ _ h
   ·split at h
    ·exact qa1 n _ _ _ _ (add h)
    ·split at h
     ·rename_i a;simp only [L01.Res.bad.injEq] at h;rw [←h.1];exact a
     ·exact qa1 n _ _ _ _ (add h)
theorem qjV {s:Bs} {e l:Int} (h:qu s= .bad e l):e≠0:=by
 unfold L01.qu at h;split at h
 ·simp only [L01.Res.bad.injEq] at h;rw [←h.1];decide
 ·exact qa1 _ _ _ _ _ h
theorem qD1 {v:Value} (h:qn v=true):Tryz.prog.built 85 [(0,v)]=some #[v, .int .i64 0, .int .i64 0, .slice none 0 0]:=by
 rcases zz h with ⟨b,o,n,c,rfl,_⟩|rfl|⟨b,o,s,rfl⟩<;>kernel_rfl
theorem z83:vL Tryz.prog 83=some #[.pointer none]:=by kernel_rfl
theorem qt0:jG Tryz.prog 83 1=true:=by kernel_rfl
theorem qrT {B:Nat} {w w1 w2:World} (h:qb w w1) (a:Below B w1 w2) (c:w.heap.size≤B):qb w w2:=⟨a.os.trans h.os,a.tape.trans h.tape,a.output.trans h.output,Nat.le_trans h.size a.size,fun k b=>(a.block k (by omega)).trans (h.block k b)⟩
theorem qcZ {w:World} (hG:L01.G w) (s:Bs) (hs:s.length<4611686018427387904):Calls Tryz.prog 22 #[.string (qc s)] w fun e w'=>e= .returned (.bool (jg s))∧qb w w':=by
 refine qAw fun ρ r0=> ?_;simp -implicitDefEqProofs [qpn,r0];refine (L01.qjj hG s hs).mono ?_;rintro _ w1 ⟨v,rfl,hv,hE1⟩;simp -implicitDefEqProofs [fV];refine qT L01.z31 fun F w2 hF J hb2 _=> ?_;simp -implicitDefEqProofs;refine jn (B:=F) (by simp) hb2 (by simp [Value.cells]) (by simp [Value.cells]) (by simpa [Value.cells] using L01.kJ) fun w3 S Z=> ?_;simp [Value.cells] at Z;have o:qb w w3:=(S.ext J hF)|>hE1.trans'
 have hc0:w3.cell? ⟨F,0,none⟩=some (.int .i64 (qu s).err):=by rw [Z.cell];rfl
 simp -implicitDefEqProofs [hc0,r0];by_cases b:(qu s).err=0∧s.length≤100
 ·obtain ⟨Y,ah⟩:=b;have V:¬(100:Int)<(s.length:Int):=by omega
  obtain ⟨a,cs,y⟩:∃a cs,qu s= .ok a cs:=by
   cases h:qu s with
   |ok a cs=>exact ⟨a,cs,rfl⟩
   |bad e l=>rw [h] at Y;exact absurd Y (qjV h)
  rw [y] at hv;have H:Own w.heap.size 53 3 w1 v (qB a):=hv;have I:=qhL y;have ab:a.length≤20000:=by have:=(L01.qjT s).1;rw [y] at this;exact this
  have ad:=H.isl;have hic:=jR ad;simp -implicitDefEqProofs [Y,V,qo4,qD1 ad];refine vz fun B w4 hB hE4 ai _=> ?_;simp -implicitDefEqProofs [Value.cells,hic] at ai⊢;refine qT z83 fun P w5 hP hE5 hb5 _=> ?_;simp -implicitDefEqProofs;refine jn (B:=P) (by simp) hb5 (by simp [Value.cells]) (by simp [Value.cells]) (by simpa [Value.cells] using qt0) fun w6 hO6 U=> ?_;simp -implicitDefEqProofs [Value.cells] at U;have cP:w6.cell? ⟨P,0,none⟩=some (.pointer (some ⟨B,0,none⟩)):=by rw [U.cell];rfl
  have z:qb w4 w6:=hO6.ext hE5 hP;have E:qb w3 w6:=hE4.trans' z;have ag:=((H.ext ((S.ext J hF))).ext E);have ac:=ai.ext z;have hS:PSt B B w6 v (.slice none 0 0) a 0 0 []:=⟨ac,Own.down ag (Nat.zero_le _),Own.nil _ _ _ _,by simp,Nat.le_refl _,Nat.le_of_lt ac.lt,ab,Nat.zero_le _,Nat.zero_le _⟩;simp -implicitDefEqProofs [cP];have hkn:kind a (a.length+3) 0 0≠ .oof:=qlL (Nat.le_refl _) 0;refine (qwM hS (by kernel_rfl) fun W hE=>qxd (qk9 (a.length+3)) hkn (hS.ext hE) (U.ext hE)).mono ?_;rintro _ w7 ⟨rfl,af,w8,_,hsm,_⟩;have hB3:w3.heap.size≤B:=hB;have aa:qb w w7:=by
   exact qrT (o.trans' E) af (by have:=o.size;omega)
  have ae:kN a (kind a (a.length+3))=(match kind a (a.length+3) 0 0 with| .ok _ j _=>decide (a.length≤j)|_=>false):=by
   unfold kN bnd;cases h:kind a (a.length+3) 0 0 with
   |oof=>rfl
   |no g=>rfl
   |ok u j g=>
    simp only [Rs.andThen,bnd,fin];by_cases hj:j<a.length
    ·simp [hj,Rs.andThen]
    ·simp [hj,Rs.andThen,ret];omega
  have c:jg s=(kN a (kind a (a.length+3))&&decide (jK a=s)):=by
   unfold jg;rw [y,ae];simp [ah];rfl
  cases hk:kN a (kind a (a.length+3)) with
  |false=>
   rw [hk] at c;simp -implicitDefEqProofs [c];exact aa
  |true=>
   rw [hk] at c hsm;have hv7:Own w.heap.size 53 3 w7 v (qB a):=Own.same ag fun k hk=>af.block k (by have:=(H.blk k hk).2;have:=J.size;have:=S.size;omega);simp -implicitDefEqProofs [c];refine (qwV (SlK.own hv7 (by omega)) (qjL I) ab).mono ?_;rintro _ w9 ⟨rfl,hE9⟩;simp -implicitDefEqProofs [r0];exact ⟨jp,aa.trans' hE9⟩
 ·have t:jg s=false:=by
   unfold jg;split
   ·rename_i a cs h;have:¬s.length≤100:=fun h1=>b ⟨by rw [h];rfl,h1⟩;simp [this]
   ·rfl
  rw [t];have hor:((qu s).err=0→(100:Int)<s.length):=fun h=>by
   have:¬s.length≤100:=fun h1=>b ⟨h,h1⟩;omega
  by_cases Y:(qu s).err=0
  ·have:=hor Y;simp -implicitDefEqProofs [Y,this];exact o
  ·simp -implicitDefEqProofs [Y];exact o
end Go.L02
