/- Lemmas for a claim about layer 2 (tree). No conditions but those they state. -/
import Derived.Test.YtbcmiempigoooaaGreatDoorBao
import Derived.Lib.AtoiAll
import Derived.Lib.ItoaNum
import Derived.Test.YtbcmiempigoooaaGreatDoorProg
import Derived.KernelRfl
set_option linter.all false
namespace Go.L01
open Go.Eng Go.Lib
def vA (a:Nat) (l:Bs):Nat:=l.foldl (fun a c=>a*10+(c.toNat - 48)) a
theorem qa9 (a:Nat) (c:UInt8) (l:Bs):vA a (c::l)=vA (a*10+(c.toNat - 48)) l:=by unfold vA;rw [List.foldl_cons]
theorem qeK:∀(l:Bs) (a:Nat),a≤vA a l
 |[],a=>Nat.le_refl _
 |c::l,a=>by rw [qa9];have:=qeK l (a*10+(c.toNat - 48));omega
theorem qeJ:∀(l:Bs) (a:Nat),(∀c∈l,qw c=true)→vA a l<(a+1)*10^l.length
 |[],a,_=>by simp [vA]
 |c::l,a,h=>by
  have b:=h c (by simp);simp [qw] at b;rw [qa9];have:=qeJ l (a*10+(c.toNat - 48)) fun x e=>h x (by simp [e]);refine Nat.lt_of_lt_of_le this ?_;rw [List.length_cons,Nat.pow_succ,Nat.mul_comm (10^l.length) 10,←Nat.mul_assoc];exact Nat.mul_le_mul_right _ (by omega)
theorem qrw (a:Nat) (l:Bs) (c:UInt8):vA a (l++[c])=vA a l*10+(c.toNat - 48):=by simp [vA]
theorem qf0:∀(l:Bs) (a:Nat),(∀c∈l,qw c=true)→vA a l<10000000000→parseUint10 a l= .ok (vA a l)
 |[],a,_,_=>rfl
 |c::l,a,h,e=>by
  have b:=h c (by simp);simp [qw] at b;rw [qa9] at e⊢;have n:=qeK l (a*10+(c.toNat - 48));rw [parseUint10,if_pos b,if_neg (by omega),if_neg (by omega)];exact qf0 l _ (fun x o=>h x (by simp [o])) e
theorem qlk {c:UInt8} (h:qw c=true):UInt8.ofNat (48+(c.toNat - 48))=c:=by
 simp [qw] at h;have:48+(c.toNat - 48)=c.toNat:=by omega
 rw [this];simp
theorem qqd:∀(n:Nat) (l:Bs),l.length=n→l≠[]→(∀c∈l,qw c=true)→(l.length=1∨l.getD 0 0≠48)→decDigits (vA 0 l)=l:=by
 intro n
 induction n with
 |zero=>intro l z o;exact absurd (List.length_eq_zero_iff.1 z) o
 |succ n S=>
  intro l z o y J;rcases List.eq_nil_or_concat l with rfl|⟨t,c,rfl⟩
  ·exact absurd rfl o
  rw [List.concat_eq_append] at*;have q:qw c=true:=y c (by simp);rw [qrw];have u:=q;simp [qw] at u;by_cases C:t=[]
  ·subst C;simp only [vA,List.foldl_nil,List.nil_append];rw [decDigits,dif_pos (by omega),Nat.zero_mul,Nat.zero_add,qlk q]
  ·obtain ⟨a,b,rfl⟩:∃a b,t=a::b:=by cases t with|nil=>exact absurd rfl C|cons a b=>exact ⟨a,b,rfl⟩
   have F:a≠48:=by
    rcases J with h|h
    ·simp at h
    ·simpa using h
   have v:=y a (by simp);simp [qw] at v;have I:a.toNat≠48:=fun e=>F (UInt8.toNat_inj.1 e);have V:1≤vA 0 (a::b):=by
    rw [qa9];have:=qeK b (0*10+(a.toNat - 48));omega
   have U:=S (a::b) (by simp at z⊢;omega) (by simp) (fun x E=>y x (by simp at E⊢;rcases E with h|h<;>simp [h])) (.inr (by simpa using F));rw [decDigits,dif_neg (by omega)];have H:(vA 0 (a::b)*10+(c.toNat - 48)) / 10=vA 0 (a::b):=by omega
   have R:(vA 0 (a::b)*10+(c.toNat - 48))%10=c.toNat - 48:=by omega
   rw [H,R,U,qlk q]
theorem qAl (u:Nat):∀c∈decDigits u,qw c=true:=by
 induction u using Nat.strongRecOn with
 |_ u b=>
  have one:∀d,d<10→qw (UInt8.ofNat (48+d))=true:=by decide
  rw [decDigits];split
  ·intro c a;rw [List.mem_singleton] at a;subst a;exact one u (by omega)
  ·intro c a;simp only [List.mem_append,List.mem_singleton] at a;rcases a with a|a
   ·exact b (u / 10) (by omega) c a
   ·subst a;exact one _ (by omega)
theorem qAk (u:Nat) (h:0<u):decDigits u≠[]∧(decDigits u).getD 0 0≠48:=by
 induction u using Nat.strongRecOn with
 |_ u o=>
  have one:∀d,0<d→d<10→UInt8.ofNat (48+d)≠48:=by
   intro d e b
   match d,e,b with
   |1,_,_|2,_,_|3,_,_|4,_,_|5,_,_|6,_,_|7,_,_|8,_,_|9,_,_=>decide
  rw [decDigits];split
  ·rename_i c;exact ⟨by simp,one u h c⟩
  ·obtain ⟨e,b⟩:=o (u / 10) (by omega) (by omega);cases n:decDigits (u / 10) with
   |nil=>exact absurd n e
   |cons a t=>
    rw [n] at b;exact ⟨by simp,by simpa using b⟩
theorem qqe (u:Nat):(decDigits u).length=nDigits u:=by rw [decDigits_eq];simp
theorem qAj {u:Nat} (h:u≤1000000000):(decDigits u).length≤10∧((decDigits u).length<10∨u=1000000000):=by
 rw [qqe];have q:=nDigits_pos u;by_cases t:u=1000000000
 ·have:nDigits u=9+1:=nDigits_unique 9 u (by omega) (by omega);omega
 ·have:nDigits u<10:=by
   rcases Nat.lt_or_ge (nDigits u) 10 with c|c
   ·exact c
   ·exfalso;have key:∀(n u:Nat),nDigits u=n+1→(n=0∨10^n≤u):=by
     intro n
     induction n with
     |zero=>intro u _;exact .inl rfl
     |succ n o=>
      intro u e;right;have a:¬u<10:=fun h=>by rw [nDigits_small h] at e;omega
      rw [nDigits_big a] at e;rcases o (u / 10) (by omega) with b|b
      ·subst b;simpa using a
      ·rw [Nat.pow_succ];omega
    rcases key (nDigits u - 1) u (by omega) with b|b
    ·omega
    ·have:(10:Nat)^9≤10^(nDigits u - 1):=Nat.pow_le_pow_right (by decide) (by omega);omega
  omega
theorem qh4 {s:Bs}:q9 s=s.length↔∀c∈s,qw c=true:=by
 unfold q9;constructor
 ·intro h c a;have e:s.takeWhile qw=s:=(List.takeWhile_prefix qw).eq_of_length h;have b:c∈s.takeWhile qw:=by rw [e];exact a
  exact List.all_eq_true.1 (List.all_takeWhile (p:=qw) (l:=s)) c b
 ·intro h;have:s.takeWhile qw=s:=by
   have:=List.takeWhile_append_of_pos (p:=qw) (l₁:=s) (l₂:=[]) h;simpa using this
  rw [this]
def qbP (s:Bs):Bool:=match atoiAll s with
 | .ok v=>decide (0≤v)&&decide (v≤1000000000)&&decide (itoa v=s)
 |_=>false
theorem qvL:decDigits 1000000000=most:=by
 have:vA 0 most=1000000000:=by decide
 rw [←this];exact qqd 10 most rfl (by decide) (by decide) (.inr (by decide))
theorem qln (s:Bs):qbP s=qY s:=by
 rw [Bool.eq_iff_iff];constructor
 ·intro h;unfold qbP at h;split at h
  ·rename_i v R;simp only [Bool.and_eq_true,decide_eq_true_eq] at h;obtain ⟨⟨C,t⟩,b⟩:=h;rw [itoa,if_neg (by omega)] at b;have q:=qAl v.toNat;have F:=qAj (u:=v.toNat) (by omega);rw [b] at q F;have E:0<s.length:=by rw [←b,qqe];exact nDigits_pos _
   have J:=qh4.2 q;have y:1<s.length→s.getD 0 0≠48:=by
    intro t;rw [←b];refine (qAk v.toNat ?_).2;rcases Nat.eq_zero_or_pos v.toNat with h|h
    ·rw [←b,h,decDigits] at t;simp at t
    ·exact h
   have z:s.length<10∨s=most:=by
    rcases F.2 with h|h
    ·exact .inl h
    ·right;rw [←b,h,qvL]
   unfold qY;simp only [Bool.and_eq_true,Bool.not_eq_true',Bool.or_eq_false_iff,Bool.and_eq_false_iff,decide_eq_false_iff_not,Bool.or_eq_true,decide_eq_true_eq];exact ⟨⟨⟨⟨by omega,by omega⟩,by omega⟩,(Nat.lt_or_ge 1 s.length).elim (fun h=> .inr (y h)) fun h=> .inl (by omega)⟩,z⟩
  ·cases h
 ·intro h;unfold qY at h;simp only [Bool.and_eq_true,Bool.not_eq_true',Bool.or_eq_false_iff,Bool.and_eq_false_iff,decide_eq_false_iff_not,Bool.or_eq_true,decide_eq_true_eq] at h;obtain ⟨⟨⟨⟨C,S⟩,q⟩,y⟩,z⟩:=h;have a:=qh4.1 (Decidable.of_not_not q);have R:vA 0 s≤1000000000:=by
   rcases z with h|h
   ·have t:=qeJ s 0 a;have b:(10:Nat)^s.length≤10^9:=Nat.pow_le_pow_right (by decide) (by omega);omega
   ·rw [h];decide
  have o:s≠[]:=fun e=>C (by rw [e];rfl);have n:=qqd s.length s rfl o a (by
   rcases y with h|h
   ·left;omega
   ·exact .inr h)
  obtain ⟨c,r,rfl⟩:∃c r,s=c::r:=by cases s with|nil=>exact absurd rfl o|cons c r=>exact ⟨c,r,rfl⟩
  have H:=a c (by simp);simp [qw] at H;have I:atoiAll (c::r)= .ok (vA 0 (c::r):Int):=by
   unfold atoiAll;simp only [];rw [if_neg (by omega),parseMag,if_neg (by simp),qf0 _ 0 a (by omega)];simp only [];rw [if_neg (by omega),if_neg (by omega),if_neg (by omega)]
  unfold qbP;rw [I];simp only [Bool.and_eq_true,decide_eq_true_eq];refine ⟨⟨by omega,by omega⟩, ?_⟩;rw [itoa,if_neg (by omega)];exact n
end Go.L01
namespace Go.L01
open Go Go.Eng Go.Proofs Go.RowKit
set_option maxRecDepth 100000
set_option maxHeartbeats 2000000
theorem qr1 (l:List Bs) (k:Nat) (h:k<l.length) (s:Bs):(l.take (k+1)).contains s=((l.take k).contains s||decide (l[k]=s)):=by
 rw [List.take_add_one,List.getElem?_eq_getElem h,Bool.eq_iff_iff];simp only [Option.toList_some,List.contains_eq_mem,List.mem_append,List.mem_singleton,decide_eq_true_eq,Bool.or_eq_true];exact or_congr Iff.rfl ⟨fun h=>h.symm,fun h=>h.symm⟩
theorem qsb {w:World} (hG:G w):Calls Tryz.prog 233 #[] w fun e w'=>∃B ps,e= .returned (.map (some B))∧qc w w'∧MapB w' B ps∧∀s,jN ps (qb s)=if je s then some (.bool true) else none:=by
 refine qx2 fun ρ=> ?_;simp [qnP];refine qhA fun B W hB Z hm hsz=> ?_;simp;refine (qr7 (hG.ext Z)).mono ?_;rintro _ W2 ⟨v,rfl,hO,t⟩;have hl:=Own.sl (enc:=qi) (xs:=zR) hO (by decide);simp [hl.is,hl.len];refine ko 7 46 (fun k b w'=>qc w w'∧B<w'.heap.size∧b 1= .map (some B)∧b 5=v∧b 6= .int .i64 46∧Own W.heap.size 9 1 w' v (zR.map qi)∧∃ps,MapB w' B ps∧∀s,jN ps (qb s)=if (zR.take k).contains s then some (.bool true) else none)
  (by simp) ⟨Z.trans' t,by have:=t.size;omega,by simp,by simp,by simp [qrs],hO,[],hm.ext t,by simp⟩ ?_
 rintro k b w' hk S ⟨C,V,Y,h5,U,F,ps,y,q⟩;have o:=Own.sl (enc:=qi) (xs:=zR) F (by decide);by_cases z:k<46
 ·have a:k<zR.length:=z;have E:(k:Int)<46:=by omega
  simp [E,qgX,qnN,Y,h5,U,S,z,o.is,o.len,a,o.cell k a,qi];refine qhz (s:=qb zR[k]) (kt:=9) (et:=4) (by kernel_rfl) (by kernel_rfl) (by simp) (by simp) y fun W6 c H=> ?_;simp at H;simp [qnO,Y,h5,U,S,jG (n:=(k:Int)+1) (by omega)];refine ⟨c.ext C hB,by rw [c.size];exact V,by simpa [qi] using F.only c (by omega),_,H,fun s=> ?_⟩;have J:=qr1 zR k a s;simp only [List.contains_eq_mem] at J q;rw [qdr,q];by_cases I:zR[k]=s
  ·simp [I];have:s∈List.take (k+1) zR:=by simpa [I] using J
   exact this
  ·have:¬qb zR[k]=qb s:=fun h=>I (xH.1 h);simp [this];have u:(s∈List.take (k+1) zR)↔s∈List.take k zR:=by simpa [I] using J
   simp [u]
 ·have R:k=46:=by omega
  subst R;simp [qgX,U,S,qnM,Y];exact ⟨C,ps,y,q⟩
@[simp] theorem qEk:qf Tryz.prog 229=true:=by kernel_rfl
@[simp] theorem qAP:qf Tryz.prog 160=true:=by kernel_rfl
@[simp] theorem qEs:qf Tryz.prog 165=true:=by kernel_rfl
@[simp] theorem qEj:qf Tryz.prog 231=true:=by kernel_rfl
@[simp] theorem qEt:qf Tryz.prog 163=true:=by kernel_rfl
@[simp] theorem qDQ:qf Tryz.prog 77=true:=by kernel_rfl
@[simp] theorem qD3:qf Tryz.prog 309=true:=by kernel_rfl
@[simp] theorem qAO:qf Tryz.prog 273=true:=by kernel_rfl
@[simp] theorem qEq:qf Tryz.prog 171=true:=by kernel_rfl
theorem qjm {w:World} (n:G w) (s:Bs):Calls Tryz.prog 166 #[.string (qb s)] w fun e w'=>e= .returned (.bool (je s))∧qc w w':=by
 refine qyA fun ρ h=> ?_;simp [qow];refine (qsb n).mono ?_;rintro _ w1 ⟨B,ps,rfl,b,c,a⟩;simp [h];refine qhB (s:=qb s) (kt:=9) (et:=4) (z:= .bool false) (by kernel_rfl) (by kernel_rfl) (by kernel_rfl) (by simp) (by simp) c false ?_;simp [a];cases o:je s<;>simp [b]
theorem qtg {w:World} {v:Value} {l:List Bs} (s:Bs) (o:qP w v l):Calls Tryz.prog 229 #[v, .string (qb s)] w fun e w'=>∃n:Int,e= .returned (.int .i64 n)∧(0≤n↔l.contains s=true)∧w'=w:=by
 have I:=o.bd;refine qnW fun ρ t y=> ?_;simp [qdQ,t,o.is,o.len];refine ko 8 l.length (fun k a w'=>w'=w∧a 0=v∧a 1= .string (qb s)∧a 7= .int .i64 l.length∧∀j (q:j<l.length),j<k→l[j]≠s) (by simp) ⟨rfl,by simp [t],by simp [y],by simp,by simp⟩ ?_;rintro k a w' R F ⟨rfl,t,y,C,b⟩;by_cases u:k<l.length
 ·simp [qb0,qdO,F,C,t,y,o.is,o.len,u,o.cell k u,qi,xH];by_cases E:l[k]=s
  ·have c:s=l[k]:=E.symm;simp [c]
  ·have c:¬s=l[k]:=fun h=>E h.symm;simp [c,qdP,F,jG (n:=(k:Int)+1) (by omega),t,y,C];intro j q H;by_cases e:j=k
   ·subst e;exact E
   ·exact b j q (by omega)
 ·have z:k=l.length:=by omega
  subst z;simp [qb0,F,C,qdN];intro J;obtain ⟨j,q,rfl⟩:=List.getElem_of_mem J;exact b j q q rfl
theorem qfw {w:World} {v:Value} {l:List Bs} (s:Bs) (c:qP w v l):Calls Tryz.prog 160 #[v, .string (qb s)] w fun e w'=>e= .returned (.bool (l.contains s))∧w'=w:=by
 refine qoB fun ρ h b=> ?_;simp [qdS,h,b];refine (qtg s c).mono ?_;rintro _ _ ⟨n,rfl,a,rfl⟩;simp;simpa using a
theorem qrK (c:UInt8):IntKind.u8.wrap (c.toNat:Int)=c.toNat:=by
 have a:=c.toNat_lt;exact u8w (by omega)
theorem qse (c:UInt8) (w:World):Calls Tryz.prog 164 #[.int .i32 (c.toNat:Int)] w fun e w'=>e= .returned (.bool (!part c))∧w'=w:=by
 refine qoy fun ρ n=> ?_;by_cases h:c.toNat≤126
 ·have b:(c.toNat:Int)≤126:=by omega
  have a:¬126<(c.toNat:Int):=by omega
  simp [qdR,n,b,a,qrK];refine (qjl c w).mono ?_;rintro _ _ ⟨rfl,rfl⟩;simp [a]
 ·have b:¬(c.toNat:Int)≤126:=by omega
  have a:126<(c.toNat:Int):=by omega
  simp [qdR,n,b,a,part,jb,qw];omega
theorem qsd {r:Int} (c:126<r) (w:World):Calls Tryz.prog 164 #[.int .i32 r] w fun e w'=>e= .returned (.bool true)∧w'=w:=by
 refine qoy fun ρ a=> ?_;have b:¬r≤126:=by omega
 simp [qdR,a,b,c]
def qfV (w:World) (B:Nat):Nat:=match w.heap[B]? with
 |some (.stringIter _ k)=>k
 |_=>0
theorem qkQ {w:World} {B k:Nat} {s:ByteArray} (h:w.heap[B]? =some (.stringIter s k)):qfV w B=k:=by simp [qfV,h]
theorem qtf {w:World} (s:Bs):Calls Tryz.prog 231 #[.string (qb s), .func (.func 164) #[] #[], .bool true] w fun e w'=>∃n:Int,e= .returned (.int .i64 n)∧(n<0↔s.all part=true)∧qc w w':=by
 have c:(qb s).size=s.length:=rfl;refine qx6 fun ρ V H z=> ?_;simp [qnU,V];refine qzN (s:=qb s) (by kernel_rfl) (by simp) fun B W I Y hit=> ?_;simp;refine yR (fun q w'=>∃k,k≤s.length∧qc w w'∧q 1= .func (.func 164) #[] #[]∧q 2= .bool true∧q 10= .pointer (some ⟨B,0,none⟩)∧w'.heap[B]? =some (.stringIter (qb s) k)∧∀j (F:j<s.length),j<k→part s[j]=true)
  (fun _ w'=>s.length - qfV w' B) ⟨0,Nat.zero_le _,Y,by simp [H],by simp [z],by simp,hit,by simp⟩ ?_
 rintro q w' ⟨k,hk,t,H,z,E,hit,u⟩;have C:=qkQ hit;simp [qnR];refine qzO (s:=qb s) (by simpa using E) hit (fun b W2 J o=> ?_) (fun b=> ?_)
 ·rw [c] at b;have a:(qb s)[k]'(by rw [c];exact b)=s[k]:=by
   show (qb s).data[k]=_;simp [qb]
  simp [qnT,H,z];refine xT (f:=164) (by kernel_rfl) (fs:= #[]) (caps:= #[]) (by simp) ?_;simp;by_cases ha:s[k].toNat<128
  ·have S:=decode_ascii (qb s) k (by rw [c];exact b) (by rw [a];exact ha);rw [a] at S;rw [S] at o⊢;refine (qse s[k] W2).mono ?_;rintro _ _ ⟨rfl,rfl⟩;cases v:part s[k] with
   |true=>
    simp [v,z,C];refine ⟨⟨k+1,by omega,J.ext t I,H,E,o, ?_⟩, ?_⟩
    ·intro j F U;by_cases e:j=k
     ·subst e;exact v
     ·exact u j F (by omega)
    ·rw [qkQ o];omega
   |false=>
    simp [v,z];have y:¬∀x∈s,part x=true:=fun h=>by
     rw [h s[k] (List.getElem_mem _)] at v;cases v
    refine ⟨by simpa using y,J.ext t I⟩
  ·obtain ⟨R,hw⟩:=decode_high (qb s) k (by rw [c];exact b) (by rw [a];omega);refine (qsd (r:=((Utf8.decode (qb s) k).1:Int)) (by omega) W2).mono ?_;rintro _ _ ⟨rfl,rfl⟩;simp [z];have v:part s[k]=false:=by simp [part,jb,qw];omega
   have y:¬∀x∈s,part x=true:=fun h=>by
    rw [h s[k] (List.getElem_mem _)] at v;cases v
   refine ⟨by simpa using y,J.ext t I⟩
 ·rw [c] at b;simp [qnS];refine ⟨fun x Z=> ?_,t⟩;obtain ⟨j,F,rfl⟩:=List.getElem_of_mem Z;exact u j F (by omega)
theorem qti {w:World} (s:Bs):Calls Tryz.prog 163 #[.string (qb s), .func (.func 164) #[] #[]] w fun e w'=>∃n:Int,e= .returned (.int .i64 n)∧(n<0↔s.all part=true)∧qc w w':=by
 refine qyF fun ρ h c=> ?_;simp [qoz,h,c];refine (qtf s).mono ?_;rintro _ w' ⟨n,rfl,a,b⟩;simp;exact ⟨by simpa using a,b⟩
theorem qtN {s:Bs}:qC s=s.length↔s.all part=true:=by
 unfold qC;rw [List.all_eq_true];constructor
 ·intro h c a;have e:s.takeWhile part=s:=(List.takeWhile_prefix part).eq_of_length h;have b:c∈s.takeWhile part:=by rw [e];exact a
  exact List.all_eq_true.1 (List.all_takeWhile (p:=part) (l:=s)) c b
 ·intro h;have:s.takeWhile part=s:=by
   have:=List.takeWhile_append_of_pos (p:=part) (l₁:=s) (l₂:=[]) h;simpa using this
  rw [this]
theorem Qf {w:World} (H:G w) (s:Bs):Calls Tryz.prog 77 #[.string (qb s)] w fun e w'=>e= .returned (.bool (qo s))∧qc w w':=by
 refine qwN fun ρ t=> ?_;by_cases F:0<s.length∧s.length≤12
 ·obtain ⟨q,u⟩:=F;have a:0<(s.length:Int):=by omega
  have c:(s.length:Int)≤12:=by omega
  have C:s.getD 0 0=s[0]:=by simp [List.getD_eq_getElem?_getD,q]
  simp [qdI,t,q,u,a,c];refine (qe1 s[0] w).mono ?_;rintro _ _ ⟨rfl,rfl⟩;cases E:jb s[0] with
  |false=>
   have o:qo s=false:=by unfold qo;rw [C,E];simp
   simp [o];exact qV _
  |true=>
   simp [t];refine (qti s).mono ?_;rintro _ w1 ⟨n,rfl,o,v⟩;have z:(n<0)↔qC s=s.length:=o.trans qtN.symm;by_cases b:n<0
   ·simp [b,t];refine (qjm (H.ext v) s).mono ?_;rintro _ w2 ⟨rfl,y⟩;simp [qo,q,u,C,E,z.1 b];exact v.trans' y
   ·have:¬qC s=s.length:=fun h=>b (z.2 h);simp [b,qo,this];exact v
 ·have o:qo s=false:=by
   unfold qo;rcases Nat.eq_zero_or_pos s.length with h|h
   ·simp [h]
   ·have:¬s.length≤12:=fun u=>F ⟨h,u⟩;simp [this]
  by_cases q:0<s.length
  ·have a:0<(s.length:Int):=by omega
   have c:¬(s.length:Int)≤12:=by omega
   simp [qdI,t,q,a,c,o];exact qV _
  ·have a:¬0<(s.length:Int):=by omega
   simp [qdI,t,q,a,o];exact qV _
theorem qth {w:World} (y:G w) (s:Bs) (q:s.length≤281474976710656):Calls Tryz.prog 273 #[.string (qb s)] w fun e w'=>qc w w'∧∃(n:Int) (x:Value),e= .returned (.tuple #[.int .i64 n,x])∧
  ((Lib.atoiAll s= .ok n∧x= .nilIface)∨((∀v,Lib.atoiAll s≠ .ok v)∧∃u p,x= .iface u p)):=by
 cases h:Lib.atoiAll s
 ·rename_i v;refine (Tryz.atoi_ok (qb s) (by show s.length≤_;omega) v h w).mono ?_;rintro _ w' ⟨rfl,C⟩;refine ⟨?_,v,_,rfl, .inl ⟨rfl,rfl⟩⟩;rcases C with rfl|⟨t,rfl⟩
  ·exact qV _
  ·exact ⟨rfl,rfl,rfl,by rw [Lib.bytesWorld_size];omega,fun k z=>Lib.bytesWorld_at_old _ _ _ _ z⟩
 ·obtain ⟨b,c,o⟩:=y.es;refine (Tryz.atoi_syntax (qb s) q h _ w o (.inr ⟨b,c,rfl⟩)).mono ?_;rintro _ w' ⟨N,rfl,_,_,a⟩;exact ⟨a,_,_,rfl, .inr ⟨by simp,_,_,rfl⟩⟩
 ·obtain ⟨b,c,o⟩:=y.er;refine (Tryz.atoi_range (qb s) q h _ w o (.inr ⟨b,c,rfl⟩)).mono ?_;rintro _ w' ⟨N,rfl,_,_,a⟩;exact ⟨a,_,_,rfl, .inr ⟨by simp,_,_,rfl⟩⟩
theorem qte {w:World} (b:G w) {n:Int} (h:0≤n) (c:n≤9223372036854775807):Calls Tryz.prog 171 #[.int .i64 n] w fun e w'=>e= .returned (.string (qb (Lib.itoa n)))∧qc w w':=by
 refine (Tryz.itoa n (by omega) c w b.pow).mono ?_;rintro _ w' ⟨rfl,k,os,rfl⟩;refine ⟨rfl,rfl,rfl,rfl,by simp [Sort.grow,World.drewN],fun j a=> ?_⟩;rw [Sort.heap_grow_old _ _ (by simpa [World.drewN] using a)];rfl
theorem qsg {w:World} (z:G w) (s:Bs) (C:s.length≤281474976710656):Calls Tryz.prog 309 #[.string (qb s)] w fun e w'=>e= .returned (.bool (qY s))∧qc w w':=by
 refine qxr fun ρ y=> ?_;simp [qnc,y];refine (qth z s C).mono ?_;rintro _ w1 ⟨a,n,x,rfl,⟨q,rfl⟩|⟨q,u,p,rfl⟩⟩
 ·have b:qY s=(decide (0≤n)&&decide (n≤1000000000)&&decide (Lib.itoa n=s)):=by
   rw [←qln,qbP,q]
  simp;refine qpX (by kernel_rfl) (by simp) ?_;by_cases c:0≤n
  ·by_cases o:n≤1000000000
   ·simp [c,o];refine (qte (z.ext a) c (by omega)).mono ?_;rintro _ w2 ⟨rfl,t⟩;simp [y,b,c,o,xH];exact a.trans' t
   ·simp [c,o,b];exact a
  ·simp [c,b];exact a
 ·have b:qY s=false:=by
   rw [←qln,qbP];cases h:Lib.atoiAll s with
   |ok v=>exact absurd h (q v)
   |_=>rfl
  simp;refine qpW (by kernel_rfl) (by simp;exact ⟨rfl,rfl⟩) ?_;simp [b];exact a
def qaO (t:Tok):Value:= .agg #[.int .u8 (t.kind:Int), .string (qb t.text), .int .i64 t.line]
@[simp] theorem qD6:qf Tryz.prog 306=true:=by kernel_rfl
@[simp] theorem qD8:qf Tryz.prog 304=true:=by kernel_rfl
@[simp] theorem qD5:qf Tryz.prog 307=true:=by kernel_rfl
@[simp] theorem qD9:qf Tryz.prog 303=true:=by kernel_rfl
@[simp] theorem qD7:qf Tryz.prog 305=true:=by kernel_rfl
@[simp] theorem qD4:qf Tryz.prog 308=true:=by kernel_rfl
@[simp] theorem qD1:qf Tryz.prog 311=true:=by kernel_rfl
@[simp] theorem qEo:qf Tryz.prog 198=true:=by kernel_rfl
abbrev kV (s:Bs) (at' line:Int) (cv:Value):Array Value:= #[.string (qb s), .int .i64 at', .int .i64 line,cv]
theorem jS:jo Tryz.prog 3 1=true:=by kernel_rfl
theorem qAd (s:Bs) (k:Nat):(qb s).extract k s.length=qb (s.drop k):=by
 apply ByteArray.ext;apply Array.ext';show ((qb s).extract k s.length).data.toList=_;simp [qb];exact List.take_of_length_le (by simp)
theorem qh8 (s:Bs) (k n:Nat):(qb s).extract k (k+n)=qb ((s.drop k).take n):=by
 apply ByteArray.ext;apply Array.ext';show ((qb s).extract k (k+n)).data.toList=_;simp [qb]
theorem Q6 {w:World} {B k:Nat} {s:Bs} {line:Int} {cv:Value} (c:Blk w B (kV s k line cv) 217) (b:k≤s.length):
  Calls Tryz.prog 306 #[.pointer (some ⟨B,0,none⟩)] w fun e w'=>e= .returned (.string (qb (s.drop k)))∧qc w w':=by
 refine qxx fun ρ a=> ?_;simp [qnj,a,c.cell,b,qni,qAd]
theorem qsc {w:World} {B k n:Nat} {s:Bs} {line:Int} {cv:Value} (z:Blk w B (kV s k line cv) 217) (R:k+n≤s.length) (J:s.length<4611686018427387904) (S:0≤line∧line≤4611686018427387904):
  Calls Tryz.prog 304 #[.pointer (some ⟨B,0,none⟩), .int .i64 (n:Int)] w fun e w'=>e= .returned (.string (qb ((s.drop k).take n)))∧Blk w' B (kV s ((k:Int)+(n:Int)) (line+((((s.drop k).take n).count 10:Nat):Int)) cv) 217∧w.grownBy w' (some B):=by
 have u:(k:Int)+(n:Int)≤s.length:=by omega
 have o:(0:Int)≤(k:Int)+(n:Int):=by omega
 have y:(k:Int)≤(k:Int)+(n:Int):=by omega
 have F:((k:Int)+(n:Int)).toNat=k+n:=by omega
 refine qxA fun ρ t E=> ?_;simp [qnp,t,E,z.cell,jG (n:=(k:Int)+(n:Int)) (by omega),u,o,y,F,qh8];intro w1 b;simp [qnl];refine vS qxz (qc w1) fun w2 a _=>⟨a, ?_⟩;have I:∀w',qc w1 w'→∀i,w'.cell? ⟨B,i,none⟩=(kV s k line cv)[i]? :=fun w' h=>((z.ext b).ext h).cell;simp+contextual [qnk,t,I,a];refine (Tryz.count_one (qb ((s.drop k).take n)) 10 w2).mono ?_;rintro _ _ ⟨rfl,rfl⟩;have H:((s.drop k).take n).count 10≤s.length:=by
  refine Nat.le_trans List.count_le_length ?_;simp;omega
 simp+contextual [Lib.countByte,t,a,jG (n:=line+((((s.drop k).take n).count 10:Nat):Int)) (by omega)];refine qS (B:=B) (i:=2) (by simp) ((z.ext b).ext a) (by simp) rfl rfl jS fun W3 C c=> ?_;simp at c;simp [qnm,t,E,c.cell,jG (n:=(k:Int)+(n:Int)) (by omega)];refine qS (B:=B) (i:=1) (by simp) c (by simp) rfl rfl jS fun W4 v q=> ?_;simp at q⊢;exact ⟨q,qpx (qpx (qpy (qpy (qzu _ w) b) a) C) v⟩
def qiE (f:Value) (p:UInt8→Bool):Prop:=∃i,f= .func (.func i) #[] #[]∧qf Tryz.prog i=true∧∀c w,Calls Tryz.prog i #[jf c] w fun e w'=>e= .returned (.bool (p c))∧w'=w
theorem qAF:qiE (.func (.func 165) #[] #[]) part:=⟨165,rfl,by kernel_rfl,qjl⟩
theorem qAG:qiE (.func (.func 232) #[] #[]) qw:=⟨232,rfl,by kernel_rfl,qe3⟩
theorem qjk {w:World} {B k:Nat} {s:Bs} {line:Int} {cv f:Value} {p:UInt8→Bool} (U:Blk w B (kV s k line cv) 217) (H:k≤s.length) (W:s.length<4611686018427387904) (V:qiE f p):
  Calls Tryz.prog 307 #[.pointer (some ⟨B,0,none⟩),f] w fun e w'=>e= .returned (.int .i64 (((s.drop k).takeWhile p).length:Int))∧qc w w':=by
 obtain ⟨i,rfl,v,y⟩:=V;refine qxv fun ρ S t=> ?_;simp [qnh,S];refine (Q6 U H).mono ?_;rintro _ w1 ⟨rfl,F⟩;simp;generalize u:s.drop k=r;have J:r.length≤s.length:=by rw [←u];simp
 refine ko 11 r.length (fun k b w'=>w'=w1∧b 1= .func (.func i) #[] #[]∧b 5= .string (qb r)∧b 10= .int .i64 r.length∧∀j (q:j<r.length),j<k→p r[j]=true) (by simp) ⟨rfl,by simp [t],by simp [u],by simp [←u],by simp⟩ ?_;rintro k b w' H c ⟨rfl,t,E,o,a⟩;by_cases C:k<r.length
 ·simp [qgM,qnf,c,o,E,t,C];refine xT (f:=i) v (fs:= #[]) (caps:= #[]) (by simp) ?_;simp;refine (y r[k] _).mono ?_;rintro _ _ ⟨rfl,rfl⟩;cases I:p r[k] with
  |true=>
   simp [qng,c,t,E,o,jG (n:=(k:Int)+1) (by omega)];intro j q R;by_cases e:j=k
   ·subst e;exact I
   ·exact a j q (by omega)
  |false=>
   simp;exact ⟨(qeO r k (by omega) (fun j q h=>a j q h) fun _=>I).symm,F⟩
 ·have z:k=r.length:=by omega
  subst z;simp [qgM,c,o,E,qne];exact ⟨(qeO r r.length (Nat.le_refl _) (fun j q h=>a j q h) fun h=>by omega).symm,F⟩
theorem qR {t n B:Nat} {ρ:qa} {w:World} {cs:Array Value} {T:TypeId} {R:Ending→World→Prop} (b:ρ t= .pointer (some ⟨B,0,none⟩)) (c:Blk w B cs T) (a:cs.size=n) (h:R (.returned (.agg cs)) w):qz [.cellN t n] R ρ w:=by
 subst a;simp only [qz,vj,RV.val,b,qbF,kW c,Option.map_some,Option.bind_some];exact h
theorem qiI:vh Tryz.prog 289=some #[.nilFunc, .nilFunc, .nilFunc]:=by kernel_rfl
theorem qBj:Tryz.prog.built 289 [(0, .func (.func 165) #[] #[]),(1, .func (.func 232) #[] #[]),(2, .func (.func 346) #[] #[])]=some #[.func (.func 165) #[] #[], .func (.func 232) #[] #[], .func (.func 346) #[] #[]]:=by kernel_rfl
theorem qjy:jo Tryz.prog 289 3=true:=by kernel_rfl
theorem qqy (a b:Int):Tryz.prog.built 26 [(0, .int .i64 a),(1, .int .i64 b)]=some #[.int .i64 a, .int .i64 b]:=by kernel_rfl
theorem qA3 (a b:Int):Tryz.prog.built 212 [(0, .agg #[.int .i64 a, .int .i64 b])]=some #[.int .i64 a, .int .i64 b]:=by kernel_rfl
theorem qjn {w:World}:Calls Tryz.prog 303 #[] w fun e w'=>e= .returned (.agg #[.func (.func 165) #[] #[], .func (.func 232) #[] #[], .func (.func 346) #[] #[]])∧qc w w':=by
 refine qxB fun ρ=> ?_;simp [qnq];refine qK qiI fun B W h b n _=> ?_;simp [qBj];refine jg (B:=B) (by simp) n (by simp [Value.cells]) (by simp [Value.cells];decide) (by simpa [Value.cells] using qjy) fun W2 c a=> ?_;simp [Value.cells] at a;simp;refine qR (by simp) a rfl ?_;exact ⟨rfl,c.ext b h⟩
theorem qe2 {w:World} {B:Nat} {s:Bs} {a line e:Int} {cv:Value} (n:Blk w B (kV s a line cv) 217):
  Calls Tryz.prog 308 #[.pointer (some ⟨B,0,none⟩), .int .i64 e] w fun b w'=>b= .panicked [{v:= .iface 212 (.agg #[.int .i64 e, .int .i64 line]),recovered:=false}]∧w'=w:=by
 refine qxt fun ρ c h=> ?_;simp [qnd,c,h,n.cell,qqy,qA3];refine qhw (by simp;exact ⟨rfl,rfl⟩) ?_;simp
structure Sc (base B:Nat) (W:World) (s:Bs) (k:Nat) (line:Int) (coms:List Bs) (cv:Value):Prop where
 blk:Blk W B (kV s k line cv) 217
 own:Own base 9 1 W cv (coms.map qi)
 ne:cv.ownBlock≠some B
 bB:base≤B
 bW:base≤W.heap.size
 kl:k≤s.length
 sl:s.length≤20000
 l0:1≤line
 l1:line≤(k:Int)+1
 cl:coms.length≤k
structure Tn (B:Nat) (cv cv':Value) (W W':World):Prop where
 os:W'.os=W.os
 tape:W'.tape=W.tape
 output:W'.output=W.output
 size:W.heap.size≤W'.heap.size
 block:∀k,k<W.heap.size→k≠B→cv.ownBlock≠some k→W'.heap[k]? =W.heap[k]?
 own:cv'.ownBlock=cv.ownBlock∨∀k,cv'.ownBlock=some k→W.heap.size≤k
theorem Tn.refl (B:Nat) (cv:Value) (W:World):Tn B cv cv W W:=⟨rfl,rfl,rfl,Nat.le_refl _,fun _ _ _ _=>rfl, .inl rfl⟩
theorem Tn.trans {B:Nat} {a b c:Value} {U V W:World} (h:Tn B a b U V) (k:Tn B b c V W):Tn B a c U W:=by
 refine ⟨k.os.trans h.os,k.tape.trans h.tape,k.output.trans h.output,Nat.le_trans h.size k.size,fun i o u t=> ?_, ?_⟩
 ·rw [k.block i (Nat.lt_of_lt_of_le o h.size) u ?_,h.block i o u t];rcases h.own with n|n
  ·rw [n];exact t
  ·intro e;have:=n i e;omega
 ·rcases k.own with q|q
  ·rcases h.own with n|n
   ·exact .inl (q.trans n)
   ·exact .inr fun i o=>n i (q▸o)
  ·exact .inr fun i o=>Nat.le_trans h.size (q i o)
theorem Tn.ext {B:Nat} {a:Value} {U V:World} (h:qc U V):Tn B a a U V:=⟨h.os,h.tape,h.output,h.size,fun k b _ _=>h.block k b, .inl rfl⟩
theorem Tn.gb {B:Nat} {a:Value} {U V:World} (h:U.grownBy V (some B)):Tn B a a U V:=⟨h.os,h.tape,h.output,h.size,fun k c b _=>h.block k c (by simpa using b), .inl rfl⟩
theorem Sc.ext {base B:Nat} {W W':World} {s:Bs} {k:Nat} {line:Int} {coms:List Bs} {cv:Value} (h:Sc base B W s k line coms cv) (a:qc W W'):Sc base B W' s k line coms cv:=
 ⟨h.blk.ext a,h.own.ext a,h.ne,h.bB,Nat.le_trans h.bW a.size,h.kl,h.sl,h.l0,h.l1,h.cl⟩
theorem Sc.line {base B:Nat} {W:World} {s:Bs} {k:Nat} {line:Int} {coms:List Bs} {cv:Value} (h:Sc base B W s k line coms cv):0≤line∧line≤4611686018427387904:=by
 have:=h.l0;have:=h.l1;have:=h.kl;have:=h.sl;omega
theorem Sc.short {base B:Nat} {W:World} {s:Bs} {k:Nat} {line:Int} {coms:List Bs} {cv:Value} (h:Sc base B W s k line coms cv):s.length<4611686018427387904:=by
 have:=h.sl;omega
theorem qfu {base B:Nat} {W:World} {s:Bs} {k n:Nat} {line:Int} {coms:List Bs} {cv:Value} (h:Sc base B W s k line coms cv) (b:k+n≤s.length):
  Calls Tryz.prog 304 #[.pointer (some ⟨B,0,none⟩), .int .i64 (n:Int)] W fun e w'=>e= .returned (.string (qb ((s.drop k).take n)))∧Sc base B w' s (k+n) (line+((((s.drop k).take n).count 10:Nat):Int)) coms cv∧Tn B cv cv W w':=by
 refine (qsc h.blk b h.short h.line).mono ?_;rintro _ w' ⟨rfl,o,a⟩;have c:((s.drop k).take n).count 10≤n:=by
  refine Nat.le_trans List.count_le_length ?_;simp;omega
 have:=h.l0;have:=h.l1;have:=h.cl;have:=h.bW;have:=a.size;refine ⟨rfl,⟨by simpa using o,h.own.kept a (.inr h.ne),h.ne,h.bB,by omega,b,h.sl,by omega,by simp;omega,by omega⟩,Tn.gb a⟩
def atOf (w:World) (B:Nat):Nat:=match w.cell? ⟨B,1,none⟩ with
 |some (.int _ n)=>n.toNat
 |_=>0
theorem Sc.at {base B:Nat} {W:World} {s:Bs} {k:Nat} {line:Int} {coms:List Bs} {cv:Value} (h:Sc base B W s k line coms cv):atOf W B=k:=by
 simp [atOf,h.blk.cell]
structure Skipped (base B:Nat) (w0 w:World) (s:Bs) (k0:Nat) (l0:Int) (c0:List Bs) (v0:Value) (k:Nat) (l:Int) (new:List Bs) (v:Value):Prop where
 sc:Sc base B w s k l (c0++new) v
 tn:Tn B v0 v w0 w
 le:k0≤k
 eq:qp (s.drop k0) l0=(qp (s.drop k) l).add [] new
def wH (s:Bs) (k:Nat):Prop:=∀h:k<s.length,xe s[k]=false∧s[k]≠37
theorem wW {s:Bs} {k:Nat} (h:k<s.length):s.drop k=s[k]::s.drop (k+1):=List.drop_eq_getElem_cons h
theorem qs7 {c:UInt8} {r:Bs} {l:Int} (h:xe c=true):qp (c::r) l=qp r (l+(((c::r).take 1).count 10:Nat)):=by
 simp only [xe,Bool.or_eq_true,decide_eq_true_eq] at h;by_cases a:c=10
 ·subst a;rw [wm];simp
 ·have b:c=32∨c=9:=by
   rcases h with (h|h)|h
   ·exact .inl h
   ·exact .inr h
   ·exact absurd h a
  rw [wN r l b];have:((c::r).take 1).count 10=0:=by simp [a]
  rw [this];simp
section
variable {P:Program} {Q:Ks} {d:Option Nat} {ty:TypeId} {K:qa→World→Prop} {ρ:qa} {w:World}
theorem qp0 {t e sz bytes:Nat} (I:kF P t=some (e,sz,bytes)) {base:Nat} (b:base≤w.heap.size) {s x:Operand} {sv xv:Value} (C:qd ρ s=sv) (H:qd ρ x=xv) {xs news:List Value}
  (n:Own base e sz w sv xs) (o:Cells w xv sz news) (J:∀u∈news,u.oneCell'=true)
  (q:xs.length+news.length<4611686018427387904) (a:(xs.length+news.length)*bytes≤140737488355328*sz)
  (h:∀c W,Own base e sz W c (xs++news)→w.grownBy W sv.ownBlock→(c.ownBlock=sv.ownBlock∨c.ownBlock=some w.heap.size)→K (qk ρ d c) W):qm P Q d (.call {callee:= .builtin .append,args:= #[s,x],argTypes:= #[t,t]}) ty K ρ w:=by
 subst C;subst H;obtain ⟨c,W,z,F,E,y⟩:=qcY (P:=P) (ty:=ty) I n o J q a b;refine jk (v:=c) (w':=W) ?_ (h c W F E y);simp only [execOp,qA,resolve,invoke,builtin,Sem.run_bind,Sem.run_pure,Result.andThen_ok,List.map_toArray,List.map_cons,List.map_nil,z]
end
theorem qdg {base e sz:Nat} {w:World} {v:Value} {xs:List Value} (h:Own base e sz w v xs):v.cells= #[v]∧v.oneCell=true:=by
 rcases h with ⟨rfl,_⟩|⟨g,off,n,cap,cur,rfl,_⟩<;>exact ⟨rfl,rfl⟩
theorem vB {base e sz:Nat} {w:World} {v:Value} {xs:List Value} (h:Own base e sz w v xs):Cells w v sz xs:=by
 have b:=h.isl;rcases h with ⟨rfl,rfl⟩|⟨g,off,n,cap,cur,rfl,z,q,t,y,C,u,o⟩
 ·exact ⟨rfl,by simp [qh],fun j a=>by simp at a⟩
 ·refine ⟨b,t,fun j a=> ?_⟩;have c:((cur.toList.drop off).take (n*sz))[j]? =xs[j]? :=by rw [o]
  rw [List.getElem?_take,if_pos (by omega),List.getElem?_drop] at c;simp only [qM,xp,World.cell?,q];simpa [a] using c
theorem qt4:kF Tryz.prog 51=some (9,1,16):=by kernel_rfl
theorem qcJ:jo Tryz.prog 51 1=true:=by kernel_rfl
theorem qps:∀l:Bs,(Lib.indexByte l 10= -1∧jt l=l.length)∨(Lib.indexByte l 10=jt l)
 |[]=> .inl ⟨rfl,rfl⟩
 |c::l=>by
  by_cases h:c=10
  ·subst h;right;simp [Lib.indexByte,jt]
  ·have b:jt (c::l)=jt l+1:=by simp [jt,List.takeWhile_cons,h]
   rcases qps l with ⟨a,e⟩|a
   ·left;refine ⟨?_,by rw [b,e];rfl⟩;simp [Lib.indexByte,h,a]
   ·right;rw [b];have:¬(jt l:Int)= -1:=by omega
    simp [Lib.indexByte,h,this,a]
theorem qAB (s:Bs):((s.take (jt s)).count 10)=0:=by
 rw [List.count_eq_zero];intro h;rw [jt,qjg] at h;have:=List.all_eq_true.1 (List.all_takeWhile (p:=fun c=>decide (c≠10)) (l:=s)) 10 h;simp at this
theorem qs6 {r t:Bs} {l:Int} (h:r=37::t):qp r l=(qp (r.drop (jt r)) l).add [] [r.take (jt r)]:=by
 subst h;rw [Qj,if_neg (by decide),if_neg (by decide),if_pos rfl]
def qey (base B:Nat) (w:World) (s:Bs) (k0:Nat) (l0:Int) (c0:List Bs) (v0:Value):Ending→World→Prop:=
 fun e w'=>e= .returned (.tuple #[])∧∃k l new v,Skipped base B w w' s k0 l0 c0 v0 k l new v∧wH s k
def qez (base B:Nat) (w:World) (s:Bs) (k0:Nat) (l0:Int) (c0:List Bs) (v0:Value):qa→World→Prop:=
 fun ρ' w'=>ρ' 0= .pointer (some ⟨B,0,none⟩)∧ρ' 2= .func (.func 346) #[] #[]∧∃k l new v,Skipped base B w w' s k0 l0 c0 v0 k l new v
theorem qjj {base B:Nat} {w:World} {s:Bs} {S:Nat} {l0:Int} {c0:List Bs} {v0:Value} (h:Sc base B w s S l0 c0 v0):
  Calls Tryz.prog 266 #[.pointer (some ⟨B,0,none⟩)] w (qey base B w s S l0 c0 v0):=by
 refine qxZ fun ρ u=> ?_;simp [qgW];refine qjn.mono ?_;rintro _ w1 ⟨rfl,hE1⟩;simp;refine qzT (n:=3) (k:=2) (e:=288) (v:= .func (.func 346) #[] #[]) (cs:= #[.func (.func 165) #[] #[], .func (.func 232) #[] #[], .func (.func 346) #[] #[]]) (inf:=_) (by kernel_rfl) rfl (by kernel_rfl) (by simp) (by simp;rfl) (by decide) rfl (by kernel_rfl) ?_;simp;refine qkz ?_;simp [qnI];refine yR (qez base B w s S l0 c0 v0) (fun _ w'=>s.length - atOf w' B) ⟨by simp [u],by simp,S,l0,[],v0,⟨by simpa using h.ext hE1,Tn.ext hE1,Nat.le_refl _,by simp⟩⟩ ?_;rintro ρ' w' ⟨u,h2,k,l,new,v,z⟩;have hat:=z.sc.at
 have hb:=z.sc.blk;by_cases b:k<s.length
 ·simp [qgS,u,hb.cell,b];intro w2 E;have hb2:=hb.ext E;have hS2:=z.sc.ext E;have hT2:=z.tn.trans (Tn.ext E);simp [qgT,qnJ];refine vS qxY (qc w2) fun w3 F _=>⟨F, ?_⟩;have hc:∀w',qc w2 w'→∀i,w'.cell? ⟨B,i,none⟩=(kV s k l v)[i]? :=fun w' h=>(hb2.ext h).cell;simp+contextual [qnH,u,h2,hc,F,b,qcL b];refine xT (f:=346) (by kernel_rfl) (fs:= #[]) (caps:= #[]) (by simp) ?_;simp;refine (qsh s[k] w3).mono ?_;rintro _ w3 ⟨rfl,rfl⟩;have hS3:=hS2.ext F;have hT3:=hT2.trans (Tn.ext F);cases hbl:xe s[k] with
  |true=>
   simp [qdL,u];refine (qfu (n:=1) hS3 (by omega)).mono ?_;rintro _ w4 ⟨rfl,C,hT4⟩;simp;refine ⟨⟨by simp [u],by simp [h2],k+1,_,new,v,C,hT3.trans hT4,by have:=z.le;omega, ?_⟩, ?_⟩
   ·rw [z.eq,wW b,qs7 hbl]
   ·rw [C.at,hat];omega
  |false=>
   have hu:=qcx s[k] 37 (by decide);have hc3:=hc w3 F;have hst:∀w4,qc w3 w4→qey base B w s S l0 c0 v0 (Ending.returned (Value.tuple #[])) w4∨s[k]=37:=by
    intro w4 y;by_cases o:s[k]=37
    ·exact .inr o
    ·exact .inl ⟨rfl,k,l,new,v,⟨hS3.ext y,hT3.trans (Tn.ext y),z.le,z.eq⟩,fun _=>⟨hbl,o⟩⟩
   by_cases o:s[k]=37
   ·have R:(s[k].toNat:Int)=37:=hu.2 o;simp [qdL,u,hc3,b,qcL b,R,qgU];intro w4 y;have C:=hS3.ext y;have hT4:=hT3.trans (Tn.ext y);refine (Q6 C.blk C.kl).mono ?_;rintro _ w5 ⟨rfl,hE5⟩;have hS5:=C.ext hE5;have hT5:=hT4.trans (Tn.ext hE5);simp;refine (Tryz.indexByte (qb (s.drop k)) 10 w5).mono ?_;rintro _ w5 ⟨rfl,rfl⟩;have hix:Lib.indexByte (qb (s.drop k)).data.toList (Int.toNat 10).toUInt8=Lib.indexByte (s.drop k) 10:=rfl;rw [hix];have hn1:1≤jt (s.drop k):=by rw [wW b,o];exact qid _
    have hn2:jt (s.drop k)≤s.length - k:=by have:=qAD (s.drop k);simpa using this
    have H:∀(J:qa) (w6:World),J 0= .pointer (some ⟨B,0,none⟩)→J 2= .func (.func 346) #[] #[]→J 3= .int .i64 (jt (s.drop k):Int)→qc w5 w6→
     qgV.wp ⟨Tryz.prog,75,qaG,[]⟩ (fun q t=>qez base B w s S l0 c0 v0 q t∧s.length - atOf t B<s.length - atOf w' B) (((((jd [] (qey base B w s S l0 c0 v0)).blk 0 (qz [] (qey base B w s S l0 c0 v0))).blk 1 (fun q t=>qez base B w s S l0 c0 v0 q t∧s.length - atOf t B<s.length - atOf w' B)).blk 2 (fun q t=>qez base B w s S l0 c0 v0 q t∧s.length - atOf t B<s.length - atOf w' B))) J w6:=by
     intro J w6 u h2 h3 V;have U:=hS5.ext V;have hT6:=hT5.trans (Tn.ext V);simp only [qgV];refine vS qxX (fun W=>W.cell? ⟨B,3,none⟩=some v) fun w7 hE7 _=> ?_;have hS7:=U.ext hE7;have hT7:=hT6.trans (Tn.ext hE7);refine ⟨by simp [hS7.blk.cell], ?_⟩;simp+contextual [qnG,u,h3,hS7.blk.cell];refine (qfu (n:=jt (s.drop k)) hS7 (by omega)).mono ?_;rintro _ w8 ⟨rfl,Z,hT8⟩;rw [qAB] at Z;simp [Z.blk.cell];refine xc qsX (by decide) (by decide) (by simp [Value.cells]) fun B9 W9 hB9 hE9 hb9 _=> ?_;have a:=Z.ext hE9;simp [Value.cells] at hb9;simp [a.blk.cell];have hcl:=a.cl;have hO9:Own base 9 1 W9 (.slice (some ⟨B9,0,none⟩) 1 1) [qi ((s.drop k).take (jt (s.drop k)))]:=Own.lit (cs:=[qi ((s.drop k).take (jt (s.drop k)))]) hb9 rfl (Nat.le_trans Z.bW hB9) (by decide);have hnew:Cells W9 (.slice (some ⟨B9,0,none⟩) 1 1) 1 [qi ((s.drop k).take (jt (s.drop k)))]:=vB hO9;have hk9:=a.kl;have hs9:=a.sl;refine qp0 qt4 a.bW (by simp) (by simp) a.own hnew (by simp [qi];rfl) (by simp at hcl⊢;omega) (by simp at hcl⊢;omega) fun v' W10 af c ae=> ?_;have ad:Blk W10 B _ 217:=⟨(c.block B a.blk.lt (fun e=>a.ne e.symm)).trans a.blk.heap⟩;simp [ad.cell];have h1:=qdg af;refine qS (B:=B) (i:=3) (by simp) ad (by simp) (by simpa using h1.1) (by simpa using h1.2) qcJ fun W11 I ac=> ?_;simp at ac;have ab:v'.ownBlock≠some B:=by
      rcases ae with e|e
      ·rw [e];exact a.ne
      ·rw [e];have:=a.blk.lt;intro h;cases h;omega
     have Y:Own base 9 1 W11 v' ((c0++(new++[(s.drop k).take (jt (s.drop k))])).map qi):=by
      have:=af.kept (qdk I) (.inr ab);simpa using this
     have hsz10:=c.size;have aa:Sc base B W11 s (k+jt (s.drop k)) l (c0++(new++[(s.drop k).take (jt (s.drop k))])) v':=
      ⟨by simpa using ac,Y,ab,a.bB,by have:=a.bW;rw [I.size];omega,hk9,hs9,U.l0,by have:=U.l1;omega,by have:=U.cl;simp at this⊢;omega⟩
     have hT10:Tn B v v' W9 W10:=⟨c.os,c.tape,c.output,c.size,fun k hk _ hv=>c.block k hk (fun e=>hv e.symm),by
      rcases ae with e|e
      ·exact .inl e
      ·exact .inr fun i hi=>by rw [e] at hi;cases hi;exact Nat.le_refl _⟩
     have hT11:Tn B v0 v' w W11:=(((hT7.trans hT8).trans (Tn.ext hE9)).trans hT10).trans (Tn.gb (qdk I));simp;refine ⟨⟨by simp [u],by simp [h2],_,_,_,_,aa,hT11,by have:=z.le;omega, ?_⟩, ?_⟩
     ·rw [z.eq];have:qp (s.drop k) l=(qp (s.drop (k+jt (s.drop k))) l).add [] [(s.drop k).take (jt (s.drop k))]:=by
       rw [←List.drop_drop];exact qs6 (by rw [wW b,o])
      rw [this,Res.add_add];rfl
     ·rw [aa.at,hat];omega
    rcases qps (s.drop k) with ⟨e1,e2⟩|e1
    ·rw [e1];simp [u];refine (Q6 hS5.blk hS5.kl).mono ?_;rintro _ w6 ⟨rfl,V⟩;simp;exact H _ _ (by simp [u]) (by simp [h2]) (by simp [e2]) V
    ·rw [e1];simp;exact H _ _ (by simp [u]) (by simp [h2]) (by simp) (qV _)
   ·have R:¬(s[k].toNat:Int)=37:=fun h=>o (hu.1 h);simp [qdL,u,hc3,b,qcL b,R,qgU];intro w4 y;rcases hst w4 y with h|h
    ·exact h
    ·exact absurd h o
 ·simp [qgS,u,hb.cell,b,qgT];intro w2 E;exact ⟨rfl,k,l,new,v,⟨z.sc.ext E,z.tn.trans (Tn.ext E),z.le,z.eq⟩,fun h=>absurd h b⟩
theorem z38:vh Tryz.prog 53=some #[.int .u8 0, .string ⟨#[]⟩, .int .i64 0]:=by kernel_rfl
theorem qBf (l:Int):Tryz.prog.built 53 [(2, .int .i64 l)]=some #[.int .u8 0, .string ⟨#[]⟩, .int .i64 l]:=by kernel_rfl
theorem qfb:jo Tryz.prog 53 3=true:=by kernel_rfl
theorem sz5:jo Tryz.prog 5 1=true:=by kernel_rfl
theorem sz9:jo Tryz.prog 9 1=true:=by kernel_rfl
def clV:Array Value:= #[.func (.func 165) #[] #[], .func (.func 232) #[] #[], .func (.func 346) #[] #[]]
def brk (e l:Int):Ending:= .panicked [{v:= .iface 212 (.agg #[.int .i64 e, .int .i64 l]),recovered:=false}]
def yw (base B:Nat) (w:World) (s:Bs) (k:Nat) (l:Int) (coms:List Bs) (cv:Value):Ending→World→Prop:=fun e w'=>
 Tn B cv cv w w'∧
 (((first (s.drop k)).2.2=0∧e= .returned (qaO ⟨(first (s.drop k)).1,(s.drop k).take (first (s.drop k)).2.1,l⟩)∧Sc base B w' s (k+(first (s.drop k)).2.1) l coms cv)∨
  ((first (s.drop k)).2.2≠0∧e=brk (first (s.drop k)).2.2 l))
theorem Tn.blk {B C:Nat} {cv a:Value} {W W':World} {cs:Array Value} {t:TypeId} (h:Tn B cv a W W') (b:Blk W C cs t) (e:C≠B) (c:cv.ownBlock≠some C):Blk W' C cs t:=⟨(h.block C b.lt e c).trans b.heap⟩
theorem Sc.off {base B:Nat} {W:World} {s:Bs} {k:Nat} {line:Int} {coms:List Bs} {cv:Value} (h:Sc base B W s k line coms cv) {C:Nat} (a:W.heap.size≤C):C≠B∧cv.ownBlock≠some C:=by
 refine ⟨?_, ?_⟩
 ·have:=h.blk.lt;omega
 ·intro e;have:=(h.own.blk C e).2;omega
theorem Sc.only {base B C:Nat} {W W':World} {s:Bs} {k:Nat} {line:Int} {coms:List Bs} {cv:Value} (h:Sc base B W s k line coms cv) (a:Only C W W') (c:C≠B) (b:cv.ownBlock≠some C):Sc base B W' s k line coms cv:=
 ⟨a.blk h.blk (Ne.symm c),h.own.kept (qdk a) (.inr b),h.ne,h.bB,by rw [a.size];exact h.bW,h.kl,h.sl,h.l0,h.l1,h.cl⟩
theorem Tn.new {B C:Nat} {a b:Value} {U V W:World} (h:Tn B a b U V) (c:Only C V W) (q:U.heap.size≤C):Tn B a b U W:=
 ⟨c.os.trans h.os,c.tape.trans h.tape,c.output.trans h.output,by rw [c.size];exact h.size,fun k n o e=>(c.block k (by omega)).trans (h.block k n o e),h.own⟩
section
variable {base B:Nat} {w:World} {s:Bs} {k:Nat} {l:Int} {coms:List Bs} {cv:Value}
theorem qvs {ρ:qa} {W:World} {B2 B3:Nat} {z:Array Value} {o:Int} {tx:Bs} {Q:Ks} {R:Ending→World→Prop} (c:ρ 2= .pointer (some ⟨B2,0,none⟩)) (q:ρ 3= .pointer (some ⟨B3,0,none⟩)) (a:Blk W B2 z 53) (e:z.size=3)
  (b:Blk W B3 #[.int .u8 o, .string (qb tx), .int .i64 l] 53) (t:∀ρ w,Q.rt ρ w=qz [.cellN 2 3] R ρ w) (h:∀W',Only B2 W W'→R (.returned (.agg #[.int .u8 o, .string (qb tx), .int .i64 l])) W') {KK:qa→World→Prop}:
  QE.wp ⟨Tryz.prog,114,xQ,[]⟩ KK Q ρ W:=by
 simp [QE,q,b.cell];refine jg (B:=B2) (by simpa using c) a (by simp [Value.cells,e]) (by simp [Value.cells]) (by rw [e];exact qfb) fun W2 u n=> ?_;simp [Value.cells] at n;simp [t];refine qR (by simpa using c) n rfl ?_;exact h W2 u
theorem qd4 (a:k<s.length):(s.drop k).getD 0 0=s[k]:=by rw [wW a];rfl
theorem qr0 {b n:Nat} {r:Bs} (h:right b (r.take n)=true):(r.take n).count 10=0:=by
 rw [List.count_eq_zero];intro a;exact (wo h 10 a).1 rfl
structure Nx (base B:Nat) (w:World) (s:Bs) (k:Nat) (l:Int) (coms:List Bs) (cv:Value) (B2 B3 B4:Nat) (kd:Int) (ρ:qa) (W:World):Prop where
 r0:ρ 0= .pointer (some ⟨B,0,none⟩)
 r2:ρ 2= .pointer (some ⟨B2,0,none⟩)
 r3:ρ 3= .pointer (some ⟨B3,0,none⟩)
 r4:ρ 4= .pointer (some ⟨B4,0,none⟩)
 sc:Sc base B W s k l coms cv
 b2:Blk W B2 #[.int .u8 0, .string ⟨#[]⟩, .int .i64 0] 53
 b3:Blk W B3 #[.int .u8 kd, .string ⟨#[]⟩, .int .i64 l] 53
 b4:Blk W B4 clV 289
 tn:Tn B cv cv w W
 n2:w.heap.size≤B2∧B2<B3∧B3<B4
 n3:B3≠B∧B2≠B
 n4:cv.ownBlock≠some B3∧cv.ownBlock≠some B2
 g:G W
 gw:G w
theorem Nx.env {B2 B3 B4:Nat} {b:Int} {ρ a:qa} {W:World} (h:Nx base B w s k l coms cv B2 B3 B4 b ρ W) (n:a 0=ρ 0) (o:a 2=ρ 2) (c:a 3=ρ 3) (e:a 4=ρ 4):Nx base B w s k l coms cv B2 B3 B4 b a W:=
 ⟨n.trans h.r0,o.trans h.r2,c.trans h.r3,e.trans h.r4,h.sc,h.b2,h.b3,h.b4,h.tn,h.n2,h.n3,h.n4,h.g,h.gw⟩
theorem Nx.ext {B2 B3 B4:Nat} {b:Int} {ρ:qa} {W W':World} (h:Nx base B w s k l coms cv B2 B3 B4 b ρ W) (a:qc W W'):Nx base B w s k l coms cv B2 B3 B4 b ρ W':=
 ⟨h.r0,h.r2,h.r3,h.r4,h.sc.ext a,h.b2.ext a,h.b3.ext a,h.b4.ext a,h.tn.trans (Tn.ext a),h.n2,h.n3,h.n4,h.g.ext a,h.gw⟩
theorem Nx.kind {B2 B3 B4:Nat} {o e:Int} {ρ:qa} {W W':World} (h:Nx base B w s k l coms cv B2 B3 B4 o ρ W) (u:qc w W) (n:Only B3 W W') (t:Blk W' B3 #[.int .u8 e, .string ⟨#[]⟩, .int .i64 l] 53) (q:G W'):Nx base B w s k l coms cv B2 B3 B4 e ρ W':=by
 obtain ⟨a,b,c⟩:=h.n2;exact ⟨h.r0,h.r2,h.r3,h.r4,h.sc.only n h.n3.1 h.n4.1,n.blk h.b2 (by omega),t,n.blk h.b4 (by omega),h.tn.new n (by omega),h.n2,h.n3,h.n4,q,h.gw⟩
theorem qdm {B2 B3 B4 n kd:Nat} {ρ:qa} {W:World} (h:Nx base B w s k l coms cv B2 B3 B4 (kd:Int) ρ W) (t:first (s.drop k)=(kd,n,0)) (C:s.drop k≠[]) {q R S H vn:Nat} (V:ρ vn= .int .i64 (n:Int))
  (hd:5≤q∧5≤R∧5≤S∧5≤H∧q≠vn∧q≠R∧S≠H) {KK:qa→World→Prop} {Q:Ks} (hK:∀ρ W,KK ρ W=QE.wp ⟨Tryz.prog,114,xQ,[]⟩ (qz [.cellN 2 3] (yw base B w s k l coms cv)) (jd [.cellN 2 3] (yw base B w s k l coms cv)) ρ W):
  (IR.reg [.asg none q (.op1 (.fadr 0) (.op1 .nilc (.var 0))), .asg none R (.var vn),
   .eff none (some S) (.call {callee:= .value (.func 304),args:= #[(.tmp q),(.tmp R)],argTypes:= #[215,3]}) 9,
   .asg none H (.op1 (.fadr 1) (.var 3)), .eff none none (.store 9 (.tmp H) (.tmp S)) 0]).wp ⟨Tryz.prog,114,xQ,[]⟩ KK Q ρ W:=by
 have c:=qb6 (s:=s.drop k) (by rw [t]) C;have a:=(qpG C (by rw [t])).1;rw [t] at c a;simp only [List.length_drop] at c;have hkl:=h.sc.kl;obtain ⟨U,e2,e3,e4,e5,e6,I⟩:=hd;have u:=qr0 a;have f0:(0:Nat)≠q:=by omega
 have b:∀d,5≤d→(3:Nat)≠d:=by omega
 have J:∀d,5≤d→(2:Nat)≠d:=by omega
 simp [h.r0,V,f0,e5,e6,I,Ne.symm e5];refine (qfu (n:=n) h.sc (by omega)).mono ?_;rintro _ W1 ⟨rfl,z,e⟩;rw [u] at z;have v:=e.blk h.b3 h.n3.1 h.n4.1;have y:=e.blk h.b2 h.n3.2 h.n4.2;simp [h.r3,b _ U,b _ e2,b _ e3,b _ e4];refine qS (B:=B3) (i:=1) (by simp) v (by simp) (by simp [I];rfl) (by simp [I]) sz9 fun W2 o E=> ?_;simp [I] at E;show KK _ _;rw [hK];obtain ⟨n1,n2,n3⟩:=h.n2;refine qvs (by simp [J _ U,J _ e2,J _ e3,J _ e4,h.r2]) (by simp [b _ U,b _ e2,b _ e3,b _ e4,h.r3]) (o.blk y (by omega)) rfl E (fun _ _=>rfl) fun W3 F=> ?_;have Y:=(z.only o h.n3.1 h.n4.1).only F h.n3.2 h.n4.2;have Z:=((h.tn.trans e).new o (by omega)).new F n1;refine ⟨Z, .inl ⟨by rw [t], ?_, ?_⟩⟩
 ·rw [t];simp [qaO]
 ·rw [t];simpa using Y
theorem Nx.brk {B2 B3 B4:Nat} {b:Int} {ρ:qa} {W:World} (h:Nx base B w s k l coms cv B2 B3 B4 b ρ W) {e:Int} (a:(first (s.drop k)).2.2=e) (c:e≠0):yw base B w s k l coms cv (brk e l) W:=
 ⟨h.tn, .inr ⟨by rw [a];exact c,by rw [a]⟩⟩
abbrev nxR (base B:Nat) (w:World) (s:Bs) (k:Nat) (l:Int) (coms:List Bs) (cv:Value):qa→World→Prop:=qz [.cellN 2 3] (yw base B w s k l coms cv)
abbrev nxQ (base B:Nat) (w:World) (s:Bs) (k:Nat) (l:Int) (coms:List Bs) (cv:Value):Ks:=jd [.cellN 2 3] (yw base B w s k l coms cv)
theorem qvr {B2 B3 B4:Nat} {ρ:qa} {W:World} (h:Nx base B w s k l coms cv B2 B3 B4 0 ρ W) (hE:qc w W) (I:k<s.length) (hc:jb s[k]=true) {Q:Ks} (hQ:∀ρ c w',Q.pn ρ c w'=yw base B w s k l coms cv (.panicked c) w') {KK:qa→World→Prop} (hK:∀ρ W,KK ρ W=QE.wp (Cx.mk Tryz.prog 114 xQ []) (nxR base B w s k l coms cv) (nxQ base B w s k l coms cv) ρ W):
  (IR.raw (qI qaF 16)).wp (Cx.mk Tryz.prog 114 xQ []) (qgR.wp (Cx.mk Tryz.prog 114 xQ []) KK Q) Q ρ W:=by
 have V:s.drop k≠[]:=by rw [wW I];exact List.cons_ne_nil _ _
 have a:first (s.drop k)=if je ((s.drop k).take (qC (s.drop k))) then (2,qC (s.drop k),0) else if 12<qC (s.drop k) then (0,0,12) else (1,qC (s.drop k),0):=by
  unfold first
  rw [if_pos (by rw [qd4 I];exact hc)]
 have R:=h.sc.kl;refine vS qxT (qc W) (fun w3 o _=>⟨o, ?_⟩) (fun _ _ ρ v c w h=>by rw [hQ] at h⊢;exact h);have h3:=h.ext o;have ad:∀w',qc W w'→∀i,w'.cell? ⟨B4,i,none⟩=clV[i]? :=fun w' hh=>(h.b4.ext hh).cell;simp -implicitDefEqProofs [qnA,h.r0];refine y0 (n:=3) (k:=0) (e:=288) (inf:=_) (by kernel_rfl) rfl (by kernel_rfl) (by simp;exact h.r4) (by simp;rfl) (by decide) ?_;simp+contextual -implicitDefEqProofs [ad,o,clV];refine (qjk h3.sc.blk R h3.sc.short qAF).mono ?_;rintro _ W4 ⟨rfl,H⟩;have h4:=h3.ext H;have S:=(hE.trans' o).trans' H;have aa:((s.drop k).takeWhile part).length=qC (s.drop k):=rfl;simp [aa,qgR,h.r0];refine (Q6 h4.sc.blk R).mono ?_;rintro _ W5 ⟨rfl,y⟩;have h5:=h4.ext y;have t:=S.trans' y;have hrl:qC (s.drop k)≤s.length - k:=by have:=Q5 part (s.drop k);simpa [qC] using this
 have ab:(qb (s.drop k)).extract 0 (qC (s.drop k))=qb ((s.drop k).take (qC (s.drop k))):=by
  have:=qh8 (s.drop k) 0 (qC (s.drop k));simpa using this
 simp [h.r3,hrl,ab];refine qS (B:=B3) (i:=0) (by simp) h5.b3 (by simp) rfl rfl sz5 fun W6 C E=> ?_;simp at E;obtain ⟨n1,n2,n3⟩:=h.n2;have u:qc w W6:=C.ext t (by omega);have ac:G W6:=h.gw.ext u;have h6:Nx base B w s k l coms cv B2 B3 B4 ((1:Nat):Int) ρ W6:=h5.kind t C E ac;simp;refine (qjm ac _).mono ?_;rintro _ W7 ⟨rfl,z⟩;have J:=h6.ext z;have q:=u.trans' z;cases hw:je ((s.drop k).take (qC (s.drop k))) with
 |true=>
  rw [hw,if_pos rfl] at a;simp [h.r3];refine qS (B:=B3) (i:=0) (by simp) J.b3 (by simp) rfl rfl sz5 fun W8 Z U=> ?_;simp at U⊢;have Y:qc w W8:=Z.ext q (by omega);have h8:Nx base B w s k l coms cv B2 B3 B4 ((2:Nat):Int) ρ W8:=J.kind q Z U (h.gw.ext Y);exact qdm (h8.env (by simp) (by simp) (by simp) (by simp)) a V (by simp) (by omega) hK
 |false=>
  rw [hw,if_neg (by simp)] at a;by_cases F:12<qC (s.drop k)
  ·rw [if_pos F] at a;have b:(12:Int)<(qC (s.drop k):Int):=by omega
   simp [b,h.r0];refine (qe2 J.sc.blk).mono ?_;rintro _ _ ⟨rfl,rfl⟩;simp [hQ];exact J.brk (by rw [a]) (by decide)
  ·rw [if_neg F] at a;have b:¬(12:Int)<(qC (s.drop k):Int):=by omega
   simp [b];exact qdm (J.env (by simp) (by simp) (by simp) (by simp)) a V (by simp) (by omega) hK
theorem qvt {B2 B3 B4:Nat} {ρ:qa} {W:World} (h:Nx base B w s k l coms cv B2 B3 B4 0 ρ W) (hE:qc w W) (y:k<s.length) (hl:jb s[k]=false) (hc:qw s[k]=true) {Q:Ks} (hQ:∀ρ c w',Q.pn ρ c w'=yw base B w s k l coms cv (.panicked c) w') {KK:qa→World→Prop} (hK:∀ρ W,KK ρ W=QE.wp (Cx.mk Tryz.prog 114 xQ []) (nxR base B w s k l coms cv) (nxQ base B w s k l coms cv) ρ W):
  (IR.raw (qI qaF 25)).wp (Cx.mk Tryz.prog 114 xQ []) (qgQ.wp (Cx.mk Tryz.prog 114 xQ []) KK Q) Q ρ W:=by
 have Z:s.drop k≠[]:=by rw [wW y];exact List.cons_ne_nil _ _
 have a:first (s.drop k)=if qY ((s.drop k).take (q9 (s.drop k))) then (3,q9 (s.drop k),0) else (0,0,11):=by
  unfold first
  rw [qd4 y,if_neg (by rw [hl];simp),if_pos hc]
 have z:=h.sc.kl;refine vS qxS (qc W) (fun w3 b _=>⟨b, ?_⟩) (fun _ _ ρ v c w h=>by rw [hQ] at h⊢;exact h);have V:=h.ext b;have U:∀w',qc W w'→∀i,w'.cell? ⟨B4,i,none⟩=clV[i]? :=fun w' hh=>(h.b4.ext hh).cell;simp -implicitDefEqProofs [qnz,h.r0];refine y0 (n:=3) (k:=1) (e:=288) (inf:=_) (by kernel_rfl) rfl (by kernel_rfl) (by simp;exact h.r4) (by simp;rfl) (by decide) ?_;simp+contextual -implicitDefEqProofs [U,b,clV];refine (qjk V.sc.blk z V.sc.short qAG).mono ?_;rintro _ W4 ⟨rfl,u⟩;have h4:=V.ext u;have C:=(hE.trans' b).trans' u;have I:((s.drop k).takeWhile qw).length=q9 (s.drop k):=rfl;simp [I,qgQ,h.r0];refine (Q6 h4.sc.blk z).mono ?_;rintro _ W5 ⟨rfl,t⟩;have h5:=h4.ext t;have o:=C.trans' t;have Y:q9 (s.drop k)≤s.length - k:=by have:=Q5 qw (s.drop k);simpa [q9] using this
 have R:(qb (s.drop k)).extract 0 (q9 (s.drop k))=qb ((s.drop k).take (q9 (s.drop k))):=by
  have:=qh8 (s.drop k) 0 (q9 (s.drop k));simpa using this
 simp [Y,R];have hs20:=h.sc.sl;refine (qsg (h.gw.ext o) _ (by simp;omega)).mono ?_;rintro _ W6 ⟨rfl,J⟩;have S:=h5.ext J;have q:=o.trans' J;obtain ⟨n1,n2,n3⟩:=h.n2;cases hw:qY ((s.drop k).take (q9 (s.drop k))) with
 |false=>
  rw [hw,if_neg (by simp)] at a;simp [h.r0];refine (qe2 S.sc.blk).mono ?_;rintro _ _ ⟨rfl,rfl⟩;simp [hQ];exact S.brk (by rw [a]) (by decide)
 |true=>
  rw [hw,if_pos rfl] at a;simp [qnD,h.r3];refine qS (B:=B3) (i:=0) (by simp) S.b3 (by simp) rfl rfl sz5 fun W8 H E=> ?_;simp at E;have F:qc w W8:=H.ext q (by omega);have h8:Nx base B w s k l coms cv B2 B3 B4 ((3:Nat):Int) ρ W8:=S.kind q H E (h.gw.ext F);exact qdm (h8.env (by simp) (by simp) (by simp) (by simp)) a Z (vn:=8) (by simp) (by omega) hK
def jY (s:Bs):List Bs→Nat
 |[]=>0
 |g::l=>if Lib.hasPrefix s g then max (jY s l) g.length else jY s l
theorem qlA (s:Bs) (g:Bs):∀l,jY s (l++[g])=if Lib.hasPrefix s g then max (jY s l) g.length else jY s l
 |[]=>by simp [jY]
 |a::l=>by
  have b:=qlA s g l;simp only [List.cons_append,jY,b];split<;>split<;>omega
theorem qlz (s:Bs):∀l:List Bs,(∀g∈l,g.length=1∨g.length=2)→(jY s l=2↔∃g∈l,g.length=2∧Lib.hasPrefix s g=true)∧(jY s l=0↔∀g∈l,Lib.hasPrefix s g=false)∧jY s l≤2
 |[],_=>by simp [jY]
 |a::l,h=>by
  obtain ⟨o,t,q⟩:=qlz s l fun g b=>h g (by simp [b]);have v:=h a (by simp);simp only [jY];cases e:Lib.hasPrefix s a with
  |false=>
   simp only [Bool.false_eq_true,if_false];refine ⟨o.trans ⟨fun ⟨g,b,x⟩=>⟨g,by simp [b],x⟩, ?_⟩,t.trans ⟨fun c g b=> ?_,fun c g b=>c g (by simp [b])⟩,q⟩
   ·rintro ⟨g,b,x,y⟩;rcases List.mem_cons.1 b with rfl|b
    ·rw [e] at y;cases y
    ·exact ⟨g,b,x,y⟩
   ·rcases List.mem_cons.1 b with rfl|b
    ·exact e
    ·exact c g b
  |true=>
   simp only [if_true];refine ⟨⟨fun u=> ?_, ?_⟩,⟨fun u=>by omega,fun c=> ?_⟩,by omega⟩
   ·by_cases n:a.length=2
    ·exact ⟨a,by simp,n,e⟩
    ·obtain ⟨g,b,x⟩:=o.1 (by omega);exact ⟨g,by simp [b],x⟩
   ·rintro ⟨g,b,x,y⟩;rcases List.mem_cons.1 b with rfl|b
    ·omega
    ·have:=o.2 ⟨g,b,x,y⟩;omega
   ·have:=c a (by simp);rw [e] at this;cases this
theorem qda {s g:Bs}:Lib.hasPrefix s g=true↔g.length≤s.length∧s.take g.length=g:=by
 unfold Lib.hasPrefix;rw [List.isPrefixOf_iff_prefix];constructor
 ·intro h;exact ⟨h.length_le,(List.prefix_iff_eq_take.1 h).symm⟩
 ·rintro ⟨_,h⟩;rw [←h];exact List.take_prefix _ _
theorem qjX {g:Bs} (h:g∈qU):g.length=1∨g.length=2:=(yG g h).1
theorem qvP {s:Bs} (E:s≠[]):jY s qU=if 1<s.length∧qy (s.take 2)=true then 2 else if qy (s.take 1) then 1 else 0:=by
 have J:0<s.length:=List.length_pos_iff.2 E;obtain ⟨q,u,I⟩:=qlz s qU fun g b=>qjX b;have v:(∃g∈qU,g.length=2∧Lib.hasPrefix s g=true)↔(1<s.length∧qy (s.take 2)=true):=by
  constructor
  ·rintro ⟨g,b,x,y⟩;obtain ⟨t,e⟩:=qda.1 y;rw [x] at t e;exact ⟨by omega,by rw [e];simpa [qy] using b⟩
  ·rintro ⟨x,y⟩;have a:(s.take 2).length=2:=by rw [List.length_take];omega
   exact ⟨s.take 2,by simpa [qy] using y,a,qda.2 ⟨by omega,by rw [a]⟩⟩
 have C:qy (s.take 1)=true→jY s qU≠0:=by
  intro c F;have a:(s.take 1).length=1:=by rw [List.length_take];omega
  have:=u.1 F (s.take 1) (by simpa [qy] using c);rw [qda.2 ⟨by omega,by rw [a]⟩] at this;cases this
 split
 ·rename_i h;exact q.2 (v.2 h)
 ·rename_i h;have o:jY s qU≠2:=fun H=>h (v.1 (q.1 H));split
  ·rename_i c;have:=C c;omega
  ·rename_i c;refine u.2 fun g b=> ?_;cases z:Lib.hasPrefix s g with
   |false=>rfl
   |true=>
    obtain ⟨t,e⟩:=qda.1 z;rcases qjX b with n|n
    ·rw [n] at e;exact absurd (by rw [e];simpa [qy] using b) c
    ·exact absurd (q.2 ⟨g,b,n,z⟩) o
theorem qvq {B2 B3 B4:Nat} {ρ:qa} {W:World} (h:Nx base B w s k l coms cv B2 B3 B4 0 ρ W) (hE:qc w W) (S:k<s.length) (hl:jb s[k]=false) (hc:qw s[k]=false) {Q:Ks} (hQ:∀ρ c w',Q.pn ρ c w'=yw base B w s k l coms cv (.panicked c) w') {KK:qa→World→Prop} (hK:∀ρ W,KK ρ W=QE.wp (Cx.mk Tryz.prog 114 xQ []) (nxR base B w s k l coms cv) (nxQ base B w s k l coms cv) ρ W):
  (IR.reg [.asg none 9 (.const (.int .i64 0)),
      .eff none (some 30) (.call {callee:= .value (.func 310),args:= #[],argTypes:= #[]}) 51,
      .asg none 31 (.op1 .lenS (.var 30)),
      .asg none 32 (.const (.int .i64 0))]).wp (Cx.mk Tryz.prog 114 xQ []) ((IR.block 1 (.loop qbZ)).wp (Cx.mk Tryz.prog 114 xQ []) (qdK.wp (Cx.mk Tryz.prog 114 xQ []) KK Q) Q) Q ρ W:=by
 have Y:s.drop k≠[]:=by rw [wW S];exact List.cons_ne_nil _ _
 have hfr:first (s.drop k)=if 1<(s.drop k).length∧qy ((s.drop k).take 2)=true then (4,2,0) else if qy ((s.drop k).take 1) then (4,1,0) else (0,0,10):=by
  unfold first
  rw [qd4 S,if_neg (by rw [hl];simp),if_neg (by rw [hc];simp)]
 have hkl:=h.sc.kl;simp;refine (qr9 (h.gw.ext hE)).mono ?_;rintro _ W1 ⟨v,rfl,hO,R⟩;have J:=Own.sl (enc:=qi) (xs:=qU) hO (by decide);simp [J.is,J.len];refine ko 32 21 (fun j e W'=>qc W1 W'∧e 0=ρ 0∧e 2=ρ 2∧e 3=ρ 3∧e 4=ρ 4∧e 30=v∧e 31= .int .i64 21∧e 9= .int .i64 (jY (s.drop k) (qU.take j):Nat)) (by simp) ⟨qV _,by simp,by simp,by simp,by simp,by simp,by simp [qsS],by simp [jY]⟩ ?_;rintro j e W' hj q ⟨y,h0,h2,h3,h4,I,t,H⟩;have E:=(h.ext (R.trans' y)).env h0 h2 h3 h4;by_cases C:j<21
 ·have Z:(j:Int)<21:=by omega
  have z:j<qU.length:=C;have F:=J.ext y;simp [qbZ,qnC,t,q,Z,C,I,F.is,F.len,z,F.cell j z,qi,E.r0];refine (Q6 E.sc.blk hkl).mono ?_;rintro _ W2 ⟨rfl,ac⟩;simp;refine (Tryz.hasPrefix (qb (s.drop k)) (qb qU[j]) W2).mono ?_;rintro _ W2 ⟨rfl,rfl⟩;have o:jY (s.drop k) (qU.take (j+1))=if Lib.hasPrefix (s.drop k) qU[j] then max (jY (s.drop k) (qU.take j)) qU[j].length else jY (s.drop k) (qU.take j):=by
   rw [List.take_add_one,List.getElem?_eq_getElem z];exact qlA _ _ _
  cases hp:Lib.hasPrefix (s.drop k) qU[j] with
  |true=>
   rw [hp,if_pos rfl] at o;simp [hp,H];refine qhy (a:=(jY (s.drop k) (qU.take j):Nat)) (b:=(qU[j].length:Nat)) (k:= .i64) (by simp) (by simp) ?_;simp [qgP,q,jG (n:=(j:Int)+1) (by omega),h0,h2,h3,h4,I,t];refine ⟨y.trans' ac, ?_⟩;rw [o];split<;>omega
  |false=>
   rw [hp,if_neg (by simp)] at o;simp [hp,qgP,q,jG (n:=(j:Int)+1) (by omega),h0,h2,h3,h4,I,t,H,o];exact y.trans' ac
 ·have hj':j=21:=by omega
  subst hj';have o:jY (s.drop k) (qU.take 21)=jY (s.drop k) qU:=rfl;rw [o] at H;have u:(jY (s.drop k) qU=0∧first (s.drop k)=(0,0,10))∨(jY (s.drop k) qU≠0∧first (s.drop k)=(4,jY (s.drop k) qU,0)):=by
   rw [hfr,qvP Y];split
   ·exact .inr ⟨by decide,rfl⟩
   ·split
    ·exact .inr ⟨by decide,rfl⟩
    ·exact .inl ⟨rfl,rfl⟩
  generalize jY (s.drop k) qU=m at H u;rcases u with ⟨rfl,hf⟩|⟨hm,hf⟩
  ·simp [qbZ,t,q,qdK,H,E.r0];refine (qe2 E.sc.blk).mono ?_;rintro _ _ ⟨rfl,rfl⟩;simp [hQ];exact E.brk (by rw [hf]) (by decide)
  ·simp [qbZ,t,q,qdK,H,hm,qnB,E.r3];obtain ⟨n1,n2,n3⟩:=h.n2;have V:qc w W':=(hE.trans' R).trans' y;refine qS (B:=B3) (i:=0) (by simp) E.b3 (by simp) rfl rfl sz5 fun W8 ab U=> ?_;simp at U;have aa:qc w W8:=ab.ext V (by omega);have h8:Nx base B w s k l coms cv B2 B3 B4 ((4:Nat):Int) e W8:=E.kind V ab U (h.gw.ext aa);exact qdm (h8.env (by simp) (by simp) (by simp) (by simp)) hf Y (vn:=9) (by simp [H]) (by omega) hK
theorem qsf (hG:G w) (h:Sc base B w s k l coms cv) (a:k<s.length):Calls Tryz.prog 267 #[.pointer (some ⟨B,0,none⟩)] w (yw base B w s k l coms cv):=by
 have hs64:=h.short;have hs20:=h.sl;have hfk:=qd4 a;have hne:s.drop k≠[]:=by rw [wW a];exact List.cons_ne_nil _ _
 refine qxV fun ρ H=> ?_;simp [qnF];refine qK z38 fun B2 W2 S c R _=> ?_;have F:=h.ext c;simp [H,F.blk.cell,qBf];refine qK z38 fun B3 W3 hB3 v hb3 _=> ?_;have hS3:=F.ext v;have Y:=R.ext v;simp;refine jg (B:=B3) (by simp) hb3 (by simp [Value.cells]) (by simp [Value.cells]) (by simpa [Value.cells] using qfb) fun W4 u z=> ?_;have Z:B2<B3:=by have:=R.lt;omega
 have o3:=F.off hB3;have o2:=h.off S;have hS4:=hS3.only u o3.1 o3.2;have W:=u.blk Y (by omega);have hT4:Tn B cv cv w W4:=(Tn.ext (c.trans' v)).new u (by have:=c.size;omega);simp [Value.cells] at z;simp;refine qjn.mono ?_;rintro _ W5 ⟨rfl,n⟩;simp;refine qK qiI fun B4 W6 hB4 t J _=> ?_;simp;have y:=z.ext n;have hl4:B3<B4:=by have:=y.lt;omega
 refine jg (B:=B4) (by simp) J (by simp [Value.cells]) (by simp [Value.cells];decide) (by simpa [Value.cells] using qjy) fun W7 o C=> ?_;have U:=hS4.ext n;have o4:=U.off hB4;have aa:=(U.ext t).only o o4.1 o4.2;have V:=o.blk (y.ext t) (by omega);have I:=o.blk ((W.ext n).ext t) (by omega);have hT7:Tn B cv cv w W7:=((hT4.trans (Tn.ext n)).trans (Tn.ext t)).new o (by have:=c.size;omega);have E:qc w W7:=by
  have e4:qc w W4:=u.ext (c.trans' v) (by have:=c.size;omega);exact o.ext ((e4.trans' n).trans' t) (by have:=c.size;omega)
 simp [Value.cells] at C;simp [H,aa.blk.cell,a,qcL a];intro W8 b;have hN:∀e:qa,e 0= .pointer (some ⟨B,0,none⟩)→e 2= .pointer (some ⟨B2,0,none⟩)→e 3= .pointer (some ⟨B3,0,none⟩)→e 4= .pointer (some ⟨B4,0,none⟩)→Nx base B w s k l coms cv B2 B3 B4 0 e W8:=fun e a0 a2 a3 a4=>
  ⟨a0,a2,a3,a4,aa.ext b,I.ext b,V.ext b,C.ext b,hT7.trans (Tn.ext b),⟨S,Z,hl4⟩,⟨o3.1,o2.1⟩,⟨o3.2,o2.2⟩,hG.ext (E.trans' b),hG⟩
 have q:=E.trans' b;simp [qnE];refine (qe1 s[k] W8).mono ?_;rintro _ W8 ⟨rfl,rfl⟩;cases hl:jb s[k] with
 |true=>
  simp;refine qvr (hN _ (by simp [H]) (by simp) (by simp) (by simp)) q a hl (fun _ _ _=>rfl) fun _ _=>rfl
 |false=>
  simp;refine (qe3 s[k] W8).mono ?_;rintro _ W8 ⟨rfl,rfl⟩;cases hc:qw s[k] with
  |true=>
   simp;refine qvt (hN _ (by simp [H]) (by simp) (by simp) (by simp)) q a hl hc (fun _ _ _=>rfl) fun _ _=>rfl
  |false=>
   simp only [jR];refine qvq (hN _ (by simp [H]) (by simp) (by simp) (by simp)) q a hl hc (fun _ _ _=>rfl) fun _ _=>rfl
end
end Go.L01
namespace Go.L01
open Go Go.Eng Go.Proofs
set_option maxRecDepth 100000
noncomputable def ql8:Code:=(Tryz.f200.body).getD .skip
noncomputable def qdD (v:Value):IR:=zq [za 6 (.const v)] <| .block 0 (zq [zE 8 (.binOp .eql 20 (zt 6) (.const .nilIface) 20) 4] <| .cond (zv 8) (.reg [zm 3 6]) (zq [zE 9 (.typeAssert (zt 6) 20 212 true) 0,za 10 (ze 1 (zv 9)),za 11 (ze 0 (zv 9))] <| .cond (zv 10) (zq [zA 4 212,zw 212 (zt 4) (zt 11)] <| .raw (qI ql8 7)) (.reg [zm 5 6,zm 7 5, .eff none none (.panic (zt 7)) 0])))
def qdC:List Nat:=zV 14 []
theorem qwv (v:Value):(qN Tryz.prog Tryz.f200.ntmps qdC [7] (Qh v (Tryz.f200.body.getD .skip))).map IR.norm=some (qdD v):=by kernel_rfl
theorem ql7 {v0 a b:Value} {u:FrameMode} {w:World} {R:Ending→FrameMode→World→Prop} (h:∀ρ:qa,ρ 0=v0→ρ 1=a→ρ 2=b→(qdD (vR u)).wp ⟨Tryz.prog,14,qdC,[]⟩ (yH [] (zD u) R) (qam [] (zD u) R) ρ w):
  CallsDIn Fence.wide 0 Tryz.prog 200 #[v0,a,b] u w R:=by
 obtain ⟨e,n,o⟩:=Option.map_eq_some_iff.1 (qwv (vR u));exact qqp (args:= #[v0,a,b]) Tryz.func200 (c:=Tryz.f200.body.getD .skip) rfl (by kernel_rfl) n o (by kernel_rfl) (show vu Tryz.prog qdC Tryz.f200.results.toList=some [] by kernel_rfl) (Nat.le_of_ble_eq_true rfl) (h _ rfl rfl rfl)
noncomputable def ql6:OT:=zy 12 (zf 0 (zv 4))<|zy 13 (zM 2 (zv 12))<| .step (zw 48 (zt 0) (.const (.slice none 0 0))) true<| .step (zw 51 (zt 1) (.const (.slice none 0 0))) true<| .step (zw 26 (zt 2) (zt 13)) false<| .done
theorem qww:vT Tryz.prog 14 qdC 4 (qI ql8 7)=some ql6:=by kernel_rfl
end Go.L01
namespace Go.L01
open Go Go.Eng Go.Proofs Go.RowKit
set_option maxRecDepth 100000
set_option maxHeartbeats 2000000
@[simp] theorem qEg:qf Tryz.prog 266=true:=by kernel_rfl
@[simp] theorem qEf:qf Tryz.prog 267=true:=by kernel_rfl
theorem qt7 {cx:Cx} {g:Operand} {ps:Array Tmp} {assign body:Code} {gf:FuncId} {fs lb:Array Value} {K:qa→World→Prop} {Q:Ks} {ρ:qa} {w:World} (hD:cx.D≠[]) (Z:qd ρ g= .func (.func gf) fs lb) (H:vF cx.V g=false)
  (o:qf cx.P gf=true)
  (h:∀(a:Act) (r:Loop) (W1:World),Agree cx.n cx.V ρ a→r.tmps=a.tmps→r.params=ps→r.assign=assign→r.body=body→r.state= .ready→r.pending=none→qc w W1→W1.heap.size=w.heap.size+2→LoopB W1 (w.heap.size+1) w.heap.size r→
   Calls cx.P gf (fs++ #[.func (.yield (w.heap.size+1)) #[] #[]]++lb) W1 (qvT cx (w.heap.size+1) w.heap.size r K Q (qn ρ gS (wx (yQ w.heap.size) (ρ gS))))):
  (IR.raw (.rangeFunc g ps assign body)).wp cx K Q ρ w:=by
 intro a J hDa hdf;refine (wpIn_wide (n:=0)).1 (wpIn_rangeFunc fun fn _=> ?_);obtain ⟨rec,b⟩:∃rec:Loop,rec={state:= .ready,pending:=none,fn,tmps:=a.tmps,params:=ps,assign,body,defers:=w.heap.size}:=⟨_,rfl⟩;obtain ⟨W1,y⟩:∃W1,(w.alloc (.deferred (some []))).alloc (.loop rec)=W1:=⟨_,rfl⟩;have hE:qc w W1:=by rw [←y];exact (wU _ _).trans' (wU _ _)
 have I:W1.heap.size=w.heap.size+2:=by rw [←y];simp
 have hL:LoopB W1 (w.heap.size+1) w.heap.size rec:=by
  rw [←y];refine ⟨?_, ?_⟩
  ·have:=World.alloc_heap_new (w.alloc (.deferred (some []))) (.loop rec);rwa [World.size_alloc] at this
  ·exact (Below.heap_alloc _ _ _ (by simp)).trans (World.alloc_heap_new w _)
 have F:a.eval g= .func (.func gf) fs lb:=by
  rw [←Z];cases g with
  |tmp t=>
   have Y:t∈cx.V:=by simpa [vF] using H
   simp [Act.eval,qd,J.at Y]
  |const v=>rfl
  |global v=>rfl
  |func v=>rfl
 refine ⟨w.heap.size+1,[yQ w.heap.size],W1,{target:= .fn (.func gf) lb,args:=fs++ #[.func (.yield (w.heap.size+1)) #[] #[]]},W1,gf,fs++ #[.func (.yield (w.heap.size+1)) #[] #[]]++lb,W1, ?_, ?_,fun _ _=>trivial, ?_,fun h0=>(by cases h0), ?_⟩
 ·rw [←y,b];exact run_enterLoop_outer _ _ _ _ _
 ·simp only [resolve,F];simp [Deferred.ofValue,Act.eval]
 ·unfold qf at o;split at o
  ·rename_i f2 R;simp only [Bool.and_eq_true,Bool.not_eq_true',beq_eq_false_iff_ne,ne_eq] at o;cases W:f2.body with
   |none=>simp [W] at o
   |some c=>simp [invoke,callFunc,R,o.1,W]
  ·cases o
 ·refine (callsIn_wide (n:=0 - 1)).2 ((h a rec W1 J (by rw [b]) (by rw [b]) (by rw [b]) (by rw [b]) (by rw [b]) (by rw [b]) hE I hL).mono ?_);have u:=J.defer (yQ w.heap.size);have q:jQ cx {a with defers:=[yQ w.heap.size]++a.defers}:=fun e=>absurd e hD;intro e W3 S;cases e with
  |returned v=>
   obtain ⟨st,z,U,E,C⟩:=S;have C:=C _ (qau _ _ _) (E.put _);refine ⟨z,_,run_endLoop E.rcd U, ?_⟩;cases z with
   |none=>exact ⟨q,_,u,C⟩
   |some c=>
    cases c<;>first|exact C.elim|skip
    ·exact wpIn_exit ⟨q,_,u,C⟩
    ·exact wpIn_ret ⟨q,_,u,C⟩
  |panicked c=>exact ⟨q,_,u,S⟩
  |outgrown=>exact qdt S
def qBG (base B:Nat) (s:Bs) (J:List Tok→Value→World→Prop):Ending→World→Prop:=fun e W'=>
 (∃v ts coms cv line,e= .returned v∧qp s 1= .ok ts coms∧J ts cv W'∧Sc base B W' s s.length line coms cv)∨
 (∃er line ts cv,e=brk er line∧qp s 1= .bad er line∧J ts cv W')
def qBH (base B l:Nat) (s:Bs) (J:List Tok→Value→World→Prop) (ρ':qa) (W':World):Prop:=
 ρ' 0= .pointer (some ⟨B,0,none⟩)∧ρ' 1= .func (.yield l) #[] #[]∧∃ts k line coms cv,Sc base B W' s k line coms cv∧J ts cv W'∧wH s k∧qp s 1=(qp (s.drop k) line).add ts coms∧ts.length≤k
theorem qwA {W:World} {base B l:Nat} {s:Bs} {cv0:Value} (J:List Tok→Value→World→Prop) (hg:∀b cv W,J b cv W→G W) (C:∀b cv E W W',J b cv W→Tn B cv E W W'→J b E W')
  (hY:∀b cv t W k line coms,J b cv W→Sc base B W s k line coms cv→b.length≤20000→qaZ Tryz.prog l #[qaO t] W fun e W'=>e= .returned (.bool true)∧J (b++[t]) cv W'∧Sc base B W' s k line coms cv)
  (h0:J [] cv0 W) (q:Sc base B W s 0 1 [] cv0):
  Calls Tryz.prog 201 #[.pointer (some ⟨B,0,none⟩), .func (.yield l) #[] #[]] W (qBG base B s J):=by
 refine qyw fun ρ r0 r1=> ?_;simp [qon,r0];refine (qjj q).mono ?_;rintro _ W1 ⟨rfl,k,line,new,cv,R,u⟩;simp;refine yR (qBH base B l s J) (fun _ w'=>s.length - atOf w' B) ⟨by simp [r0],by simp [r1],[],k,line,new,cv,by simpa using R.sc,C _ _ _ _ _ h0 R.tn,u,by simpa using R.eq,by simp⟩ ?_;clear R u;rintro ρ' W' ⟨r0,r1,b,k,line,coms,cv,q,hj,u,z,hlen⟩;have U:=q.at
 by_cases c:k<s.length
 ·simp [qg3,r0,q.blk.cell,c];intro W2 o;have ac:=q.ext o;have v:=C _ _ _ _ _ hj (Tn.ext o);obtain ⟨Y,Z⟩:=u c;have I:=Y;simp only [xe,Bool.or_eq_false_iff,decide_eq_false_iff_not] at I;obtain ⟨⟨b1,b2⟩,b3⟩:=I;have n:=Qj s[k] (s.drop (k+1)) line;rw [←wW c,if_neg b3,if_neg (by rintro (h|h)<;>contradiction),if_neg Z] at n;simp [qg4,qol,r0,r1];refine (qsf (hg _ _ _ v) ac c).mono ?_;rintro e W3 ⟨F,⟨S,rfl,V⟩|⟨S,rfl⟩⟩
  ·rw [if_neg (by simpa using S)] at n;have ab:=C _ _ _ _ _ v F;simp;refine qzM (l:=l) (by simp) (by simp) ?_;simp;refine (hY b cv _ W3 _ _ _ ab V (by have:=q.kl;have:=q.sl;omega)).mono ?_;rintro _ W4 ⟨rfl,aa,ad⟩;simp [qom,r0];refine (qjj ad).mono ?_;rintro _ W5 ⟨rfl,k5,y,af,ae,a,H⟩;have hpos:=qb6 S (by rw [wW c];exact List.cons_ne_nil _ _);simp;refine ⟨⟨by simp [r0],by simp [r1],_,k5,y,_,ae,a.sc,C _ _ _ _ _ aa a.tn,H, ?_, ?_⟩, ?_⟩
   ·rw [z,n,List.drop_drop,a.eq,Res.add_add,Res.add_add];simp
   ·have:=a.le;simp;omega
   ·rw [a.sc.at,U];have:=a.le;omega
  ·rw [if_pos S] at n;simp [brk];exact .inr ⟨_,_,b,cv,rfl,by rw [z,n];rfl,C _ _ _ _ _ v F⟩
 ·have hk:k=s.length:=by have:=q.kl;omega
  subst hk;simp [qg3,r0,q.blk.cell,qg4];intro W2 o;refine .inl ⟨_,b,coms,cv,line,rfl, ?_,C _ _ _ _ _ hj (Tn.ext o),q.ext o⟩;rw [z,List.drop_length,qbp];simp [Res.add]
theorem vE:Tryz.prog.underlying 20=some (.interface (Tryz.prog.methodsAt 20)):=by kernel_rfl
def vx:Option TypeDesc→Bool|some (.struct _)=>true|_=>false
theorem qrI:∃ds,Tryz.prog.underlying 212=some ds∧∀m,ds≠ .interface m:=by
 have h:vx (Tryz.prog.underlying 212)=true:=by kernel_rfl
 unfold vx at h;split at h
 ·rename_i fs b;exact ⟨_,b,fun m a=>by cases a⟩
 ·cases h
theorem z84:vh Tryz.prog 212=some #[.int .i64 0, .int .i64 0]:=by kernel_rfl
theorem qsp:jo Tryz.prog 212 2=true:=by kernel_rfl
theorem qaa:jo Tryz.prog 26 2=true:=by kernel_rfl
theorem qcI:jo Tryz.prog 48 1=true:=by kernel_rfl
def qim (e l:Int):List PanicEntry:=[{v:= .iface 212 (.agg #[.int .i64 e, .int .i64 l]),recovered:=false}]
theorem qAo {v0 a c:Value} {w:World}:CallsDIn Fence.wide 0 Tryz.prog 200 #[v0,a,c] .returning w fun e b w'=>(∃v,e= .returned v)∧b= .returning∧w'=w:=by
 refine ql7 fun ρ n h o=> ?_;simp [qdD,vR,zD];refine qpX vE (by simp) ?_;simp
theorem qAp {w:World} {L C F:Nat} {x y:Value} {f:Array Value} {er ln:Int} (R:Blk w L #[x] 48) (U:Blk w C #[y] 51) (hF:Blk w F f 26) (hf:f.size=2) (h1:L≠C) (h2:L≠F) (h3:C≠F):
  CallsDIn Fence.wide 0 Tryz.prog 200 #[.pointer (some ⟨L,0,none⟩), .pointer (some ⟨C,0,none⟩), .pointer (some ⟨F,0,none⟩)] (.panicking (qim er ln)) w fun e u' w'=>(∃v,e= .returned v)∧settle u'= .returning∧
   (∃W,qc w W∧∃W2,Only L W W2∧∃W3,Only C W2 W3∧Only F W3 w')∧Blk w' L #[.slice none 0 0] 48∧Blk w' C #[.slice none 0 0] 51∧Blk w' F #[.int .i64 er, .int .i64 ln] 26:=by
 obtain ⟨ds,hu,hd⟩:=qrI;refine ql7 fun ρ r0 r1 r2=> ?_;simp [qdD,vR,zD,qim];refine qpW (u:=212) (v:= .agg #[.int .i64 er, .int .i64 ln]) vE (by simp) ?_;simp;refine qpZ (a:=212) (v:= .agg #[.int .i64 er, .int .i64 ln]) hu hd (by simp) ?_;simp;refine qK z84 fun B W hB J hb _=> ?_;simp;refine jg (B:=B) (by simp) hb (by simp [Value.cells]) (by simp [Value.cells]) (by simpa [Value.cells] using qsp) fun W1 q I=> ?_;simp [Value.cells] at I;have S:=q.blk (R.ext J) (by have:=R.lt;omega);have Z:=q.blk (U.ext J) (by have:=U.lt;omega);have ab:=q.blk (hF.ext J) (by have:=hF.lt;omega);simp;refine vS qww (fun W=>Blk W B #[.int .i64 er, .int .i64 ln] 212) fun W2 c _=> ?_;have o:=I.ext c;refine ⟨o, ?_⟩;have aa:∀w',Blk w' B #[.int .i64 er, .int .i64 ln] 212→∀i,w'.cell? ⟨B,i,none⟩= #[Value.int .i64 er, .int .i64 ln][i]? :=fun w' h=>h.cell;simp+contextual -implicitDefEqProofs [ql6,o.cell,aa];refine qS (B:=L) (i:=0) (by simp [r0]) (S.ext c) (by simp) rfl rfl qcI fun W3 b H=> ?_;refine ⟨b.blk o (by have:=R.lt;omega), ?_⟩;simp;have V:=b.blk (Z.ext c) (Ne.symm h1);refine qS (B:=C) (i:=0) (by simp [r1]) V (by simp) rfl rfl qcJ fun W4 n E=> ?_;refine ⟨n.blk (b.blk o (by have:=R.lt;omega)) (by have:=U.lt;omega), ?_⟩;simp;have Y:=n.blk (b.blk (ab.ext c) (Ne.symm h2)) (Ne.symm h3);refine jg (B:=F) (by simp [r2]) Y (by simp [Value.cells,hf]) (by simp [Value.cells]) (by rw [hf];exact qaa) fun W5 t z=> ?_;simp [Value.cells] at H E z⊢;refine ⟨by rfl,⟨W2,(q.ext J hB).trans' c,W3,b,W4,n,t⟩,t.blk (n.blk H h1) h2,t.blk E h3,z⟩
def qB (ts:List Tok):List Value:=ts.flatMap fun t=>[.int .u8 (t.kind:Int), .string (qb t.text), .int .i64 t.line]
@[simp] theorem qBS:qB []=[]:=rfl
theorem qrZ (a:List Tok) (t:Tok):qB (a++[t])=qB a++[.int .u8 (t.kind:Int), .string (qb t.text), .int .i64 t.line]:=by simp [qB]
theorem jn (a:List Tok):(qB a).length=a.length*3:=by
 induction a with
 |nil=>rfl
 |cons t a b=>
  have:qB (t::a)=[.int .u8 (t.kind:Int), .string (qb t.text), .int .i64 t.line]++qB a:=rfl;rw [this,List.length_append,b];simp;omega
theorem Own.same {base e sz:Nat} {w w':World} {v:Value} {xs:List Value} (h:Own base e sz w v xs) (c:∀k,v.ownBlock=some k→w'.heap[k]? =w.heap[k]?):Own base e sz w' v xs:=by
 rcases h with h|⟨g,off,n,cap,cur,rfl,a,b,r⟩
 ·exact .inl h
 ·exact .inr ⟨g,off,n,cap,cur,rfl,a,(c g rfl).trans b,r⟩
structure SJ (w:World) (B L C F l Db:Nat) (rec:Loop) (ts:List Tok) (cv:Value) (lv:Value) (W:World):Prop where
 ext:qc w W
 lp:LoopB W l Db rec
 bl:Blk W L #[lv] 48
 bc:Blk W C #[.slice none 0 0] 51
 bf:Blk W F #[.int .i64 0, .int .i64 0] 26
 own:Own w.heap.size 53 3 W lv (qB ts)
 ne:∀X∈[B,L,C,F,l,Db],lv.ownBlock≠some X
 nc:∀X∈[L,C,F,l,Db],cv.ownBlock≠some X∧X≠B
 nn:∀k,lv.ownBlock=some k→cv.ownBlock≠some k
theorem SJ.turn {w:World} {B L C F l Db:Nat} {rec:Loop} {v:List Tok} {cv n u:Value} {W W':World} (h:SJ w B L C F l Db rec v cv u W) (b:Tn B cv n W W') (J:w.heap.size≤B) (z:∀k,cv.ownBlock=some k→w.heap.size≤k):SJ w B L C F l Db rec v n u W':=by
 have o:=h.lp.lt;have keep:∀X∈[L,C,F,l,Db],X<W.heap.size→W'.heap[X]? =W.heap[X]? :=fun X c I=>b.block X I (h.nc X c).2 (h.nc X c).1;have H:=h.bl.lt;have E:=h.bc.lt;have y:=h.bf.lt;refine ⟨⟨b.os.trans h.ext.os,b.tape.trans h.ext.tape,b.output.trans h.ext.output,Nat.le_trans h.ext.size b.size,fun k a=>(b.block k (Nat.lt_of_lt_of_le a h.ext.size) (by omega) fun e=>by have:=z k e;omega).trans (h.ext.block k a)⟩,
  h.lp.keep (keep l (by simp) o.1) (keep Db (by simp) o.2),⟨(keep L (by simp) H).trans h.bl.heap⟩,⟨(keep C (by simp) E).trans h.bc.heap⟩,⟨(keep F (by simp) y).trans h.bf.heap⟩, ?_,h.ne, ?_, ?_⟩
 ·refine Own.same h.own fun k a=> ?_;have q:=(h.own.blk k a).2;exact b.block k q (fun e=>h.ne B (by simp) (by rw [a,e])) (h.nn k a)
 ·intro X c;refine ⟨?_,(h.nc X c).2⟩;rcases b.own with e|e
  ·rw [e];exact (h.nc X c).1
  ·intro t;have:=e X t;simp only [List.mem_cons,List.mem_nil_iff,or_false] at c;rcases c with rfl|rfl|rfl|rfl|rfl<;>omega
 ·intro k a;rcases b.own with e|e
  ·rw [e];exact h.nn k a
  ·intro t;have S:=e k t;have R:=(h.own.blk k a).2;omega
theorem SJ.round {w:World} {B L C F l Db:Nat} {rec a:Loop} {o:List Tok} {cv n:Value} {W W':World} (h:SJ w B L C F l Db rec o cv n W) (b:Only l W W') (u:w.heap.size≤l) (c:L≠l∧C≠l∧F≠l) (t:LoopB W' l Db a):SJ w B L C F l Db a o cv n W':=
 ⟨b.ext h.ext u,t,b.blk h.bl c.1,b.blk h.bc c.2.1,b.blk h.bf c.2.2,Own.same h.own fun k q=>b.block k (fun e=>h.ne l (by simp) (by rw [q,e])),h.ne,h.nc,h.nn⟩
theorem SJ.app {w:World} {B L C F l Db:Nat} {rec:Loop} {Z t:List Tok} {cv v a:Value} {W W1 W':World} (h:SJ w B L C F l Db rec Z cv v W) (J:W.grownBy W1 v.ownBlock) (Y:Own w.heap.size 53 3 W1 a (qB t)) (S:a.ownBlock=v.ownBlock∨a.ownBlock=some W.heap.size)
  (E:Only L W1 W') (hb:Blk W' L #[a] 48) (u:C≠L∧F≠L∧l≠L∧Db≠L) (U:B<W.heap.size) (V:∀k,cv.ownBlock=some k→k<W.heap.size) (H:w.heap.size≤L):SJ w B L C F l Db rec t cv a W':=by
 have b:=h.lp.lt;have hL:=h.bl.lt;have R:=h.bc.lt;have I:=h.bf.lt;have keep:∀X∈[C,F,l,Db],X<W.heap.size→X≠L→W'.heap[X]? =W.heap[X]? :=by
  intro X c hl z;rw [E.block X z];refine J.block X hl fun e=>h.ne X ?_ e.symm;simp only [List.mem_cons,List.mem_nil_iff,or_false] at c⊢;rcases c with rfl|rfl|rfl|rfl<;>simp
 have q:∀X∈[B,L,C,F,l,Db],X<W.heap.size:=by
  intro X c;simp only [List.mem_cons,List.mem_nil_iff,or_false] at c;rcases c with rfl|rfl|rfl|rfl|rfl|rfl
  ·exact U
  ·exact hL
  ·exact R
  ·exact I
  ·exact b.1
  ·exact b.2
 have n:∀X∈[B,L,C,F,l,Db],a.ownBlock≠some X:=by
  intro X c;rcases S with e|e
  ·rw [e];exact h.ne X c
  ·rw [e];intro y;cases y;have:=q _ c;omega
 refine ⟨?_,h.lp.keep (keep l (by simp) b.1 u.2.2.1) (keep Db (by simp) b.2 u.2.2.2),hb,⟨(keep C (by simp) R u.1).trans h.bc.heap⟩,⟨(keep F (by simp) I u.2.1).trans h.bf.heap⟩, ?_,n,h.nc, ?_⟩
 ·exact E.ext (h.ext.grown J h.ext.size fun k o=>(h.own.blk k o).1) H
 ·exact Own.same Y fun k o=>E.block k fun e=>n L (by simp) (by rw [o,e])
 ·intro k o;rcases S with e|e
  ·exact h.nn k (e▸o)
  ·rw [e] at o;cases o;intro y;have:=V _ y;omega
theorem Sc.gb {base B:Nat} {W W':World} {s:Bs} {k:Nat} {line:Int} {coms:List Bs} {cv:Value} {row:Option Nat} (h:Sc base B W s k line coms cv) (a:W.grownBy W' row) (c:row≠some B) (b:cv.ownBlock=none∨cv.ownBlock≠row):Sc base B W' s k line coms cv:=
 ⟨⟨(a.block B h.blk.lt (fun e=>c e.symm)).trans h.blk.heap⟩,h.own.kept a b,h.ne,h.bB,Nat.le_trans h.bW a.size,h.kl,h.sl,h.l0,h.l1,h.cl⟩
theorem qt3:∃b,kF Tryz.prog 48=some (53,3,b)∧b≤64:=by
 have h:(match kF Tryz.prog 48 with|some (e,s,b)=>decide (e=53)&&decide (s=3)&&decide (b≤64)|none=>false)=true:=by kernel_rfl
 split at h
 ·rename_i e s b a;simp only [Bool.and_eq_true,decide_eq_true_eq] at h;obtain ⟨⟨rfl,rfl⟩,c⟩:=h;exact ⟨b,a,c⟩
 ·cases h
theorem qsW:xX Tryz.prog 48=some (53,3):=by kernel_rfl
theorem qBg:Tryz.prog.built 26 [(0, .int .i64 2)]=some #[.int .i64 2, .int .i64 0]:=by kernel_rfl
theorem qik:Tryz.prog.built 26 []=some #[.int .i64 0, .int .i64 0]:=by kernel_rfl
theorem qA2 (s:Bs):Tryz.prog.built 215 [(0, .string (qb s)),(2, .int .i64 1)]=some #[.string (qb s), .int .i64 0, .int .i64 1]:=by kernel_rfl
theorem qA1 (s:Bs):Tryz.prog.built 217 [(0, .agg #[.string (qb s), .int .i64 0, .int .i64 1])]=some #[.string (qb s), .int .i64 0, .int .i64 1, .slice none 0 0]:=by kernel_rfl
theorem z28:vh Tryz.prog 48=some #[.slice none 0 0]:=by kernel_rfl
theorem z25:vh Tryz.prog 51=some #[.slice none 0 0]:=by kernel_rfl
theorem z31:vh Tryz.prog 26=some #[.int .i64 0, .int .i64 0]:=by kernel_rfl
@[simp] theorem qqk:qf Tryz.prog 200=true:=by kernel_rfl
@[simp] theorem qEn:qf Tryz.prog 201=true:=by kernel_rfl
def QQ (w:World) (src:Bs):Ending→World→Prop:=fun e w'=>∃v c,e= .returned (.tuple #[v,c, .agg #[.int .i64 (qr src).err, .int .i64 (qr src).at]])∧
 Own w.heap.size 53 3 w' v (qB (qr src).toks)∧Own w.heap.size 9 1 w' c ((qr src).coms.map qi)∧qc w w'
theorem qfN {t u z A B C:Nat} {x y:Value} {cs:Array Value} {T U V:TypeId} {R:Ending→World→Prop} {ρ:qa} {w:World} (E:ρ t= .pointer (some ⟨A,0,none⟩)) (o:Blk w A #[x] T) (b:ρ u= .pointer (some ⟨B,0,none⟩)) (e:Blk w B #[y] U)
  (n:ρ z= .pointer (some ⟨C,0,none⟩)) (v:Blk w C cs V) (q:cs.size=2) (h:R (.returned (.tuple #[x,y, .agg cs])) w):qz [.cell1 t, .cell1 u, .cellN z 2] R ρ w:=by
 have F:w.cell? ⟨A,0,none⟩=some x:=by rw [o.cell];rfl
 have c:w.cell? ⟨B,0,none⟩=some y:=by rw [e.cell];rfl
 have a:qJ w (.loadN 2) (.pointer (some ⟨C,0,none⟩))=some (.agg cs):=by rw [qbF,←q,kW v];rfl
 simp only [qz,vj,RV.val,E,b,n,qud,F,c,a,Option.map_some,Option.bind_some];exact h
theorem jO {P:Program} {rs:List RV} {R:Ending→World→Prop} {ρ:qa} {w:World} {f:FuncId} {caps:Array Value} {u:FrameMode} (o:u≠ .run) (a:qf P f=true)
  (h:CallsDIn Fence.wide 0 P f caps u w fun
   | .returned _,e,w'=>jK P rs R ρ [] (settle e) w'
   | .panicked b,e,w'=>jK P rs R ρ [] (raised e b) w'
   | .outgrown,_,w'=>R .outgrown w'):jK P rs R ρ [.func (.func f) #[] caps] u w:=by
 refine ⟨o,f,caps, ?_,h⟩;unfold qf at a;split at a
 ·rename_i fn q;simp only [Bool.and_eq_true,Bool.not_eq_true',beq_eq_false_iff_ne,ne_eq] at a;cases n:fn.body with
  |none=>simp [n] at a
  |some c=>simp [invoke,callFunc,q,a.1,n]
 ·cases a
theorem qs9 {R:Ending→World→Prop} {l:List Nat} (q:∀d∈l,d≠gS∧d≠2∧d≠3∧d≠4):∀d∈l,∀ρ v c w,(vD Tryz.prog [.cell1 2, .cell1 3, .cellN 4 2] R).pn (qn ρ d v) c w→(vD Tryz.prog [.cell1 2, .cell1 3, .cellN 4 2] R).pn ρ c w:=by
 intro d a ρ v c w h;obtain ⟨o,e,b,n⟩:=q d a;refine qpT o (fun w=> ?_) h;simp [vj,RV.val,Ne.symm e,Ne.symm b,Ne.symm n]
theorem qsa {w:World} (hG:G w) (src:Bs) (hs:src.length<4611686018427387904):Calls Tryz.prog 115 #[.string (qb src)] w (QQ w src):=by
 refine qzj fun ρ r0 rg=> ?_;have rg':ρ 1000000000= .tuple #[]:=rg;simp [qhm,r0];refine qK z28 fun L W1 hL hE1 hbL hs1=> ?_;simp;refine qK z25 fun C W2 hC hE2 hbC hs2=> ?_;simp;refine qK z31 fun F W3 hF hE3 hbF hs3=> ?_;have hE13:=(hE1.trans' hE2).trans' hE3;have hbL3:=(hbL.ext hE2).ext hE3;have hbC3:=hbC.ext hE3;have z1:=hE1.size;have z2:=hE2.size;have z3:=hE3.size;by_cases hlen:20000<src.length
 ·have hlI:(20000:Int)<src.length:=by omega
  have V:qr src= .bad 2 0:=by rw [qr,if_pos hlen]
  simp [hlI,qBg,r0];refine qS (B:=L) (i:=0) (by simp) hbL3 (by simp) rfl rfl qcI fun W4 hO4 hb4=> ?_;simp;refine qS (B:=C) (i:=0) (by simp) (hO4.blk hbC3 (by omega)) (by simp) rfl rfl qcJ fun W5 hO5 hb5=> ?_;simp;refine jg (B:=F) (by simp) (hO5.blk (hO4.blk hbF (by omega)) (by omega)) (by simp [Value.cells]) (by simp [Value.cells]) (by simpa [Value.cells] using qaa) fun W6 hO6 hb6=> ?_;simp [Value.cells] at hb4 hb5 hb6⊢;refine qzL (by simp [gS,rg']) ?_;refine qfN (by simp) (hO6.blk (hO5.blk hb4 (by omega)) (by omega)) (by simp) (hO6.blk hb5 (by omega)) (by simp) hb6 rfl ?_;refine ⟨_,_,by rw [V];rfl,by rw [V];exact Own.nil _ _ _ _,by rw [V];exact Own.nil _ _ _ _, ?_⟩;exact hO6.ext (hO5.ext (hO4.ext hE13 hL) (by omega)) (by omega)
 ·have hlI:¬(20000:Int)<src.length:=by omega
  have V:qr src=qp src 1:=by rw [qr,if_neg hlen]
  simp [hlI,r0,qpm];refine qd8 (f:=200) (caps:= #[.pointer (some ⟨L,0,none⟩), .pointer (some ⟨C,0,none⟩), .pointer (some ⟨F,0,none⟩)]) (by simp) trivial ?_;simp [gS,rg',r0,qA2,qA1];refine vY fun B W4 hB hE4 hbB hs4=> ?_;simp [Value.cells] at hbB⊢;have u:=hE13.trans' hE4;have hbL4:=hbL3.ext hE4;have hbC4:=hbC3.ext hE4;have hbF4:=hbF.ext hE4;have hS4:Sc w.heap.size B W4 src 0 1 [] (.slice none 0 0):=⟨by simpa using hbB,Own.nil _ _ _ _,by simp [Value.ownBlock],by omega,u.size,Nat.zero_le _,by omega,by omega,by omega,by simp⟩;obtain ⟨Q,hQ⟩:∃Q,Q=vD Tryz.prog [.cell1 2, .cell1 3, .cellN 4 2] (QQ w src):=⟨_,rfl⟩;have hQrt:Q.rt=jH Tryz.prog [.cell1 2, .cell1 3, .cellN 4 2] (QQ w src) .returning:=by rw [hQ];rfl
  have hQpn:∀ρ c w',Q.pn ρ c w'=jH Tryz.prog [.cell1 2, .cell1 3, .cellN 4 2] (QQ w src) (.panicking c) ρ w':=by rw [hQ];intros;rfl
  have key:∀o:qa,o 2= .pointer (some ⟨L,0,none⟩)→o 3= .pointer (some ⟨C,0,none⟩)→o 4= .pointer (some ⟨F,0,none⟩)→o 5= .pointer (some ⟨B,0,none⟩)→o 17= .func (.func 201) #[.pointer (some ⟨B,0,none⟩)] #[]→
    o gS= .tuple #[.func (.func 200) #[] #[.pointer (some ⟨L,0,none⟩), .pointer (some ⟨C,0,none⟩), .pointer (some ⟨F,0,none⟩)]]→
    (IR.raw qb2).wp ⟨Tryz.prog,29,yp,ww⟩ (qdZ.wp ⟨Tryz.prog,29,yp,ww⟩ (jH Tryz.prog [.cell1 2, .cell1 3, .cellN 4 2] (QQ w src) .returning) Q) (Q.blk 0 (qdZ.wp ⟨Tryz.prog,29,yp,ww⟩ (jH Tryz.prog [.cell1 2, .cell1 3, .cellN 4 2] (QQ w src) .returning) Q)) o W4:=by
   intro o e2 e3 e4 e5 e17 eg;obtain ⟨bA,bB,hrf,hpA,hpB⟩:=qzg;rw [hrf];refine qt7 (gf:=201) (fs:= #[.pointer (some ⟨B,0,none⟩)]) (lb:= #[]) (by simp [ww]) (by simpa using e17) (by decide) (by simp) fun a rec W5 hag hrt hrp hra hrb hrs hrpd aa hsz5 hL5=> ?_;have hJ0:SJ w B L C F (W4.heap.size+1) W4.heap.size rec [] (.slice none 0 0) (.slice none 0 0) W5:=
    ⟨u.trans' aa,hL5,hbL4.ext aa,hbC4.ext aa,hbF4.ext aa,Own.nil _ _ _ _,by simp [Value.ownBlock],by simp [Value.ownBlock];omega,by simp [Value.ownBlock]⟩
   simp only [List.append_toArray,List.cons_append,List.nil_append,Array.append_empty];refine (qwA (base:=w.heap.size) (B:=B) (l:=W4.heap.size+1) (s:=src) (cv0:= .slice none 0 0) (fun Z cv W=>(∃q,SJ w B L C F (W4.heap.size+1) W4.heap.size rec Z cv q W)∧∀k,cv.ownBlock=some k→w.heap.size≤k) (fun Z cv W h=> ?_) (fun Z cv cv' W W' h hT=> ?_) (fun Z cv t W k line coms hJ hS hlen'=> ?_) ⟨⟨_,hJ0⟩,by simp [Value.ownBlock]⟩ (hS4.ext aa)).mono ?_
   ·obtain ⟨⟨q,h⟩,_⟩:=h;exact hG.ext h.ext
   ·obtain ⟨⟨q,h⟩,hc⟩:=h;refine ⟨⟨q,h.turn hT (by omega) hc⟩,fun k y=> ?_⟩;rcases hT.own with e|e
    ·exact hc k (e▸y)
    ·have:=e k y;have:=h.ext.size;omega
   ·obtain ⟨⟨q,h⟩,hc⟩:=hJ;refine qrf h.lp hrs hag hrt hrp (by rfl) (by decide) (by rw [hra];exact hpA) (by rw [hrb];exact hpB) ?_;simp [qdc,qpp];refine qK z38 fun Bt W6 hBt hE6 hbt _=> ?_;simp;refine jg (B:=Bt) (by simp) hbt (by simp [Value.cells,qaO]) (by simp [Value.cells,qaO]) (by simpa [Value.cells] using qfb) fun W7 ac hb7=> ?_;simp [Value.cells,qaO] at hb7;have off:=hS.off hBt;have hS7:=(hS.ext hE6).only ac off.1 off.2;have h7:SJ w B L C F (W4.heap.size+1) W4.heap.size rec Z cv q W7:=h.turn ((Tn.ext hE6).new ac hBt) (by omega) hc;simp;refine ⟨h7.lp,fun W8 hO8 hL8=> ?_⟩;have h4s:=h7.nc (W4.heap.size+1) (by simp);have z:SJ w B L C F (W4.heap.size+1) W4.heap.size _ Z cv q W8:=h7.round hO8 (by have:=u.size;omega) ⟨by omega,by omega,by omega⟩ hL8;have J:=hS7.only hO8 h4s.2 h4s.1;have hltl:=h7.lp.lt;have hb8:=hO8.blk hb7 (by have:=h.lp.lt;omega);simp [qpo,e2,z.bl.cell,hb8.cell];refine xc qsW (by decide) (by decide) (by simp [Value.cells]) fun B9 W9 hB9 hE9 hb9 _=> ?_;simp [Value.cells] at hb9;have h9:=z.turn (Tn.ext hE9) (by omega) hc;have hS9:=J.ext hE9;have n:Own w.heap.size 53 3 W9 (.slice (some ⟨B9,0,none⟩) 1 1) [.int .u8 (t.kind:Int), .string (qb t.text), .int .i64 t.line]:=Own.lit hb9 rfl (by have:=z.ext.size;omega) (by decide);obtain ⟨U,ri,hbb⟩:=qt3;simp;refine qp0 ri h9.ext.size (by simp) (by simp) h9.own (vB n) (by simp;exact ⟨rfl,rfl,rfl⟩) (by rw [jn];simp;omega) (by
     rw [jn];have:(Z.length*3+3)*U≤(Z.length*3+3)*64:=Nat.mul_le_mul_left _ hbb;simp;omega) fun lv' W10 ho10 hg10 hf10=> ?_
    have hbl10:Blk W10 L #[q] 48:=⟨(hg10.block L h9.bl.lt (fun e=>h9.ne L (by simp) e.symm)).trans h9.bl.heap⟩;have I:=qdg ho10;simp [e2];refine qS (B:=L) (i:=0) (by simp [e2]) hbl10 (by simp) (by simpa using I.1) (by simpa using I.2) qcI fun W11 hO11 hb11=> ?_;simp at hb11;have h11:SJ w B L C F (W4.heap.size+1) W4.heap.size _ (Z++[t]) cv lv' W11:=h9.app hg10 (by rw [qrZ];exact ho10) hf10 hO11 hb11 ⟨by omega,by omega,by omega,by omega⟩ hS9.blk.lt (fun k y=>(hS9.own.blk k y).2) hL;have hcl:cv.ownBlock=none∨cv.ownBlock≠q.ownBlock:=by
     cases y:cv.ownBlock with
     |none=>exact .inl rfl
     |some k=>exact .inr fun e=>h9.nn k e.symm y
    have hnL:=h9.nc L (by simp);have hS11:=(hS9.gb hg10 (h9.ne B (by simp)) hcl).only hO11 hnL.2 hnL.1;simp [qkr];refine ⟨h11.lp,fun W12 hO12 hL12=> ?_⟩;exact ⟨⟨⟨lv',h11.round hO12 (by have:=u.size;omega) ⟨by omega,by omega,by omega⟩ (hL12.ready hrs hrpd)⟩,hc⟩,hS11.only hO12 h4s.2 h4s.1⟩
   ·rintro e W6 (⟨v,Z,coms,cv,line,rfl,hsc',⟨⟨q,h⟩,hc⟩,hS6⟩|⟨er,line,Z,cv,rfl,hsc',⟨⟨q,h⟩,hc⟩⟩)
    ·refine ⟨.ready,none,by simp,h.lp.ready' hrs hrpd,fun W7 ac hL7=> ?_⟩;have hl4:=h.nc (W4.heap.size+1) (by simp);have h7:=h.round ac (by have:=u.size;omega) ⟨by omega,by omega,by omega⟩ hL7;have hS7:=hS6.only ac hl4.2 hl4.1;have nB:=(h7.nc L (by simp)).2;have nC:=(h7.nc C (by simp)).2;simp only [qdZ,qpn,qrp];refine vS qzi (fun W=>Blk W L #[q] 48∧Blk W B (kV src src.length line cv) 217) (fun W8 hE8 _=> ?_) (by rw [hQ];exact qs9 (by simp [OT.takes,qhk,gS]));have z:=h7.turn (Tn.ext hE8) (by omega) hc;have J:=hS7.ext hE8;refine ⟨⟨z.bl,J.blk⟩, ?_⟩;have cL:∀W,Blk W L #[q] 48→W.cell? ⟨L,0,none⟩=some q:=fun W h=>by rw [h.cell];rfl
     have cB:∀W,Blk W B (kV src src.length line cv) 217→W.cell? ⟨B,3,none⟩=some cv:=fun W h=>by rw [h.cell];rfl
     have I:=qdg z.own;have honc:=qdg J.own;have hLB:=(z.nc L (by simp)).2;have hCB:=(z.nc C (by simp)).2;have fin:∀(b:qa) (Wa Wb Wc:World),b 2= .pointer (some ⟨L,0,none⟩)→b 3= .pointer (some ⟨C,0,none⟩)→b 4= .pointer (some ⟨F,0,none⟩)→
       b gS= .tuple #[.int .i64 W4.heap.size, .func (.func 200) #[] #[.pointer (some ⟨L,0,none⟩), .pointer (some ⟨C,0,none⟩), .pointer (some ⟨F,0,none⟩)]]→
       Only L W8 Wa→Blk Wa L #[q] 48→Only C Wa Wb→Blk Wb C #[cv] 51→Only F Wb Wc→Blk Wc F #[.int .i64 0, .int .i64 0] 26→jH Tryz.prog [.cell1 2, .cell1 3, .cellN 4 2] (QQ w src) .returning b Wc:=by
      intro b Wa Wb Wc f2 f3 f4 fg E R ob U oc bc;have hcol:Wc.heap[W4.heap.size]? =some (.deferred (some [])):=by
       rw [oc.block _ (by omega),ob.block _ (by omega),E.block _ (by omega)];exact z.lp.col
      simp only [jH,fg];refine qlM (by simp) hcol fun W9 n=> ?_;refine jO (by simp) qqk (qAo.mono ?_);rintro e u' w' ⟨⟨v,rfl⟩,rfl,rfl⟩;refine yT (qfN f2 (n.blk (oc.blk (ob.blk R (by omega)) (by omega)) (by omega)) f3 (n.blk (oc.blk U (by omega)) (by omega)) f4 (n.blk bc (by omega)) rfl ?_);have H:∀k,k∈[L,C,F,W4.heap.size]→q.ownBlock≠some k∧cv.ownBlock≠some k:=by
       intro k y;simp only [List.mem_cons,List.mem_nil_iff,or_false] at y;rcases y with rfl|rfl|rfl|rfl
       ·exact ⟨z.ne _ (by simp),(z.nc _ (by simp)).1⟩
       ·exact ⟨z.ne _ (by simp),(z.nc _ (by simp)).1⟩
       ·exact ⟨z.ne _ (by simp),(z.nc _ (by simp)).1⟩
       ·exact ⟨z.ne _ (by simp),(z.nc _ (by simp)).1⟩
      have same:∀k,k≠L→k≠C→k≠F→k≠W4.heap.size→w'.heap[k]? =W8.heap[k]? :=fun k k1 k2 k3 k4=>by
       rw [n.block k k4,oc.block k k3,ob.block k k2,E.block k k1]
      have S:qr src= .ok Z coms:=V.trans hsc';refine ⟨q,cv,by rw [S];rfl, ?_, ?_, ?_⟩
      ·rw [S];refine Own.same z.own fun k y=>same k ?_ ?_ ?_ ?_
       ·rintro rfl;exact (H k (by simp)).1 y
       ·rintro rfl;exact (H k (by simp)).1 y
       ·rintro rfl;exact (H k (by simp)).1 y
       ·rintro rfl;exact (H _ (by simp)).1 y
      ·rw [S];refine Own.same J.own fun k y=>same k ?_ ?_ ?_ ?_
       ·rintro rfl;exact (H k (by simp)).2 y
       ·rintro rfl;exact (H k (by simp)).2 y
       ·rintro rfl;exact (H k (by simp)).2 y
       ·rintro rfl;exact (H _ (by simp)).2 y
      ·exact n.ext (oc.ext (ob.ext (E.ext z.ext hL) (by omega)) (by omega)) (by have:=u.size;omega)
     have stL:∀(K:qa→World→Prop) (b:qa),b 2= .pointer (some ⟨L,0,none⟩)→b 23=q→(∀Wa,Only L W8 Wa→Blk Wa L #[q] 48→(Blk Wa L #[q] 48∧Blk Wa B (kV src src.length line cv) 217)→K b Wa)→qm Tryz.prog Q.noRd none (.store 48 (.tmp 2) (.tmp 23)) 0 K b W8:=by
      intro K b f2 f23 y;refine qS (B:=L) (i:=0) (by simpa using f2) z.bl (by simp) (by simp [f23,I.1]) (by simp [f23,I.2]) qcI fun Wa E R=> ?_;have ba':Blk Wa L #[q] 48:=by simpa [f23] using R
      exact y Wa E ba' ⟨ba',E.blk J.blk (Ne.symm hLB)⟩
     have stC:∀(K:qa→World→Prop) (b:qa) (Wa:World),Only L W8 Wa→Blk Wa L #[q] 48→b 3= .pointer (some ⟨C,0,none⟩)→b 27=cv→(∀Wb,Only C Wa Wb→Blk Wb C #[cv] 51→(Blk Wb L #[q] 48∧Blk Wb B (kV src src.length line cv) 217)→K b Wb)→qm Tryz.prog Q.noRd none (.store 51 (.tmp 3) (.tmp 27)) 0 K b Wa:=by
      intro K b Wa E R f3 f27 y;refine qS (B:=C) (i:=0) (by simpa using f3) (E.blk z.bc (by omega)) (by simp) (by simp [f27,honc.1]) (by simp [f27,honc.2]) qcJ fun Wb ob U=> ?_;have bb':Blk Wb C #[cv] 51:=by simpa [f27] using U
      exact y Wb ob bb' ⟨ob.blk R (by omega),ob.blk (E.blk J.blk (Ne.symm hLB)) (Ne.symm hCB)⟩
     have stF:∀(b:qa) (Wa Wb:World),Only L W8 Wa→Blk Wa L #[q] 48→Only C Wa Wb→Blk Wb C #[cv] 51→b 2= .pointer (some ⟨L,0,none⟩)→b 3= .pointer (some ⟨C,0,none⟩)→b 4= .pointer (some ⟨F,0,none⟩)→b 28= .agg #[.int .i64 0, .int .i64 0]→
       b gS= .tuple #[.int .i64 W4.heap.size, .func (.func 200) #[] #[.pointer (some ⟨L,0,none⟩), .pointer (some ⟨C,0,none⟩), .pointer (some ⟨F,0,none⟩)]]→qm Tryz.prog Q.noRd none (.store 26 (.tmp 4) (.tmp 28)) 0 (fun ρ' w'=>Q.rt ρ' w') b Wb:=by
      intro b Wa Wb E R ob U f2 f3 f4 f28 fg;refine jg (B:=F) (by simpa using f4) (ob.blk (E.blk z.bf (by omega)) (by omega)) (by simp [f28,Value.cells]) (by simp [f28,Value.cells]) (by simpa [Value.cells] using qaa) fun Wc oc bc=> ?_;simp [f28,Value.cells] at bc;simp [hQrt];exact fin _ Wa Wb Wc f2 f3 f4 fg E R ob U oc bc
     have ab:(wx (yQ W4.heap.size) (o gS))= .tuple #[.int .i64 W4.heap.size, .func (.func 200) #[] #[.pointer (some ⟨L,0,none⟩), .pointer (some ⟨C,0,none⟩), .pointer (some ⟨F,0,none⟩)]]:=by rw [eg];simp
     simp -implicitDefEqProofs+contextual [qhk,e2,e5,cL,cB,z.bl,J.blk];refine ⟨?_, ?_⟩
     ·rw [qik];dsimp only [jF];refine stL _ _ (by simp [e2]) (by simp) fun Wa E R hSa=>⟨hSa, ?_⟩;refine stC _ _ Wa E R (by simp [e3]) (by simp) fun Wb ob U Y=>⟨Y, ?_⟩;exact stF _ Wa Wb E R ob U (by simp [e2]) (by simp [e3]) (by simp [e4]) (by simp) (by simp [ab])
     ·refine stL _ _ (by simp [e2]) (by simp) fun Wa E R hSa=>⟨hSa, ?_, ?_⟩
      ·rw [qik];dsimp only [jF];refine ⟨hSa, ?_⟩;refine stC _ _ Wa E R (by simp [e3]) (by simp) fun Wb ob U Y=>⟨Y, ?_⟩;exact stF _ Wa Wb E R ob U (by simp [e2]) (by simp [e3]) (by simp [e4]) (by simp) (by simp [ab])
      ·refine stC _ _ Wa E R (by simp [e3]) (by simp) fun Wb ob U Y=>⟨Y, ?_⟩;rw [qik];exact ⟨Y,stF _ Wa Wb E R ob U (by simp [e2]) (by simp [e3]) (by simp [e4]) (by simp) (by simp [ab])⟩
    ·show Q.pn _ (qim er line) _;have ab:(wx (yQ W4.heap.size) (o gS))= .tuple #[.int .i64 W4.heap.size, .func (.func 200) #[] #[.pointer (some ⟨L,0,none⟩), .pointer (some ⟨C,0,none⟩), .pointer (some ⟨F,0,none⟩)]]:=by rw [eg];simp
     have hgs:qn o gS (wx (yQ W4.heap.size) (o gS)) gS= .tuple #[.int .i64 W4.heap.size, .func (.func 200) #[] #[.pointer (some ⟨L,0,none⟩), .pointer (some ⟨C,0,none⟩), .pointer (some ⟨F,0,none⟩)]]:=by simp [ab]
     rw [hQpn];simp only [jH,hgs];have hlt:=h.lp.lt;refine qlM (by simp) h.lp.col fun W9 n=> ?_;refine jO (by simp) qqk ((qAp (n.blk h.bl (by omega)) (n.blk h.bc (by omega)) (n.blk h.bf (by omega)) rfl (by omega) (by omega) (by omega)).mono ?_);rintro e u' w' ⟨⟨v,rfl⟩,hu,⟨Wx,ex,Wy,oy,Wz,oz,ow⟩,cl,cc,cf⟩;show jK _ _ _ _ [] (settle u') w';rw [hu];refine yT (qfN (by simp [e2]) cl (by simp [e3]) cc (by simp [e4]) cf rfl ?_);have S:qr src= .bad er line:=V.trans hsc';refine ⟨_,_,by rw [S];rfl,by rw [S];exact Own.nil _ _ _ _,by rw [S];exact Own.nil _ _ _ _, ?_⟩;have h9:qc w W9:=n.ext h.ext (by have:=u.size;omega);exact ow.ext (oz.ext (oy.ext (h9.trans' ex) hL) (by omega)) (by omega)
  rw [hQ] at key;exact key _ (by simp) (by simp) (by simp) (by simp) (by simp) (by simp [gS])
structure SlK (w:World) (v:Value) (ts:List Tok):Prop where
 is:qt v=true
 len:qh v=ts.length
 bd:ts.length<1537228672809129301
 cell:∀(i:Nat) (h:i<ts.length),w.cell? (qM v (i*3))=some (.int .u8 (ts[i].kind:Int))∧w.cell? (qM v (i*3+1))=some (.string (qb ts[i].text))∧w.cell? (qM v (i*3+2))=some (.int .i64 ts[i].line)
theorem SlK.ext {w w':World} {v:Value} {n:List Tok} (h:SlK w v n) (e:qc w w'):SlK w' v n:=
 ⟨h.is,h.len,h.bd,fun i o=>let ⟨a,b,c⟩:=h.cell i o;⟨e.cell a,e.cell b,e.cell c⟩⟩
theorem jx:∀(a:List Tok) (i:Nat) (h:i<a.length),(qB a)[i*3]? =some (.int .u8 (a[i].kind:Int))∧(qB a)[i*3+1]? =some (.string (qb a[i].text))∧(qB a)[i*3+2]? =some (.int .i64 a[i].line)
 |t::a,0,_=>by simp [qB]
 |t::a,i+1,h=>by
  have:=jx a i (by simpa using h);have e:∀j,(qB (t::a))[(i+1)*3+j]? =(qB a)[i*3+j]? :=fun j=>by
   rw [show (i+1)*3+j=(i*3+j)+3 by omega];simp [qB]
  have b:=e 0;simp only [Nat.add_zero] at b;rw [b,e 1,e 2];simpa using this
theorem SlK.own {base:Nat} {w:World} {v:Value} {a:List Tok} (h:Own base 53 3 w v (qB a)) (t:a.length<1537228672809129301):SlK w v a:=by
 have b:=vB h;have y:=b.len;rw [jn] at y;refine ⟨b.is,by omega,t,fun i u=> ?_⟩;obtain ⟨n,e,q⟩:=jx a i u;have c:(qB a).length=a.length*3:=jn a;have g:∀j x,j<a.length*3→(qB a)[j]? =some x→w.cell? (qM v j)=some x:=fun j x z o=>by
  rw [b.cell j (by omega),←List.getElem?_eq_getElem,o]
 exact ⟨g _ _ (by omega) n,g _ _ (by omega) e,g _ _ (by omega) q⟩
theorem SlK.nil (w:World):SlK w (.slice none 0 0) []:=⟨rfl,rfl,by simp,fun i h=>by simp at h⟩
theorem qrY (s:Bs) (l:Int):(qp s l).toks.length≤s.length∧(qp s l).coms.length≤s.length:=by
 refine qcT (P:=fun s l=>(qp s l).toks.length≤s.length∧(qp s l).coms.length≤s.length) ?_ ?_ ?_ ?_ ?_ ?_ s l
 ·intro l;simp [qbp,Res.toks,Res.coms]
 ·intro r l h;rw [wm];simp;omega
 ·intro c r l u h;rw [wN r l u];simp;omega
 ·intro a r l y b h;rw [qaj l y b];cases n:qp r l with
  |bad e x=>simp [Res.add,Res.toks,Res.coms]
  |ok v cs=>
   rw [n] at h;simp [Res.add,Res.toks,Res.coms] at h⊢;omega
 ·intro c r l C t o q h;rw [qbq l C t o q h];simp [Res.toks,Res.coms]
 ·intro k s r l b z h;rw [ym (jB b).1 z (wo b)];have E:0<s.length:=List.length_pos_iff.2 (jB b).1;cases n:qp r l with
  |bad e x=>simp [Res.add,Res.toks,Res.coms]
  |ok v cs=>
   rw [n] at h;simp [Res.add,Res.toks,Res.coms] at h⊢;omega
theorem qj6 (s:Bs):(qr s).toks.length≤20000∧(qr s).coms.length≤20000:=by
 unfold qr;split
 ·simp [Res.toks,Res.coms]
 ·have:=qrY s 1;omega
@[simp] theorem qEF:qf Tryz.prog 115=true:=by kernel_rfl
theorem jM {b a e sz:Nat} {w:World} {v:Value} {xs:List Value} (o:b≤a) (h:Own a e sz w v xs):Own b e sz w v xs:=by
 rcases h with h|⟨g,off,n,cap,cur,rfl,c,r⟩
 ·exact .inl h
 ·exact .inr ⟨g,off,n,cap,cur,rfl,by omega,r⟩
def fV (src:Bs):Value:= .agg #[.int .i64 (qr src).err, .int .i64 (qr src).at]
def qcj (w:World) (src:Bs):Ending→World→Prop:=fun e w'=>∃v,e= .returned (.tuple #[v,fV src])∧Own w.heap.size 53 3 w' v (qB (qr src).toks)∧qc w w'
theorem jE {t z C:Nat} {x:Value} {cs:Array Value} {V:TypeId} {R:Ending→World→Prop} {ρ:qa} {w:World} (e:ρ t=x) (n:ρ z= .pointer (some ⟨C,0,none⟩)) (b:Blk w C cs V) (a:cs.size=2) (h:R (.returned (.tuple #[x, .agg cs])) w):qz [.tmp t, .cellN z 2] R ρ w:=by
 have c:qJ w (.loadN 2) (.pointer (some ⟨C,0,none⟩))=some (.agg cs):=by rw [qbF,←a,kW b];rfl
 simp only [qz,vj,RV.val,e,n,c,Option.map_some,Option.bind_some];exact h
theorem qe4 {w:World} (Z:G w) (src:Bs) (J:src.length<4611686018427387904):Calls Tryz.prog 53 #[.string (qb src)] w (qcj w src):=by
 refine qxb fun ρ r0=> ?_;simp [qmU,r0];refine qK z31 fun B W R C E _=> ?_;simp [r0];refine (qsa (Z.ext C) src J).mono ?_;rintro _ W1 ⟨v,c,rfl,I,_,n⟩;simp;refine qK z31 fun B2 W2 Y y F _=> ?_;simp;refine jg (B:=B2) (by simp) F (by simp [Value.cells]) (by simp [Value.cells]) (by simpa [Value.cells] using qaa) fun W3 u o=> ?_;simp [Value.cells] at o⊢;have H:=u.blk ((E.ext n).ext y) (by have:=E.lt;have:=n.size;omega);refine vS qxa (fun W=>Blk W B2 #[.int .i64 (qr src).err, .int .i64 (qr src).at] 26) fun W4 a _=>⟨o.ext a, ?_⟩;have S:∀W,Blk W B2 #[.int .i64 (qr src).err, .int .i64 (qr src).at] 26→∀i,W.cell? ⟨B2,i,none⟩= #[Value.int .i64 (qr src).err, .int .i64 (qr src).at][i]? :=fun W h=>h.cell;simp+contextual -implicitDefEqProofs [qmQ,S,o.ext a];refine jg (B:=B) (by simp) (H.ext a) (by simp [Value.cells]) (by simp [Value.cells]) (by simpa [Value.cells] using qaa) fun W5 t q=> ?_;simp [Value.cells] at q;simp [qmR];refine jE (x:=v) (by simp) (by simp) q rfl ?_;have z:=C.size;have b:qc W1 W4:=(u.ext y (by omega)).trans' a;have U:Own w.heap.size 53 3 W5 v (qB (qr src).toks):=by
  refine Own.same (w:=W4) ?_ fun k V=>t.block k fun e=> ?_
  ·have h1:Own W.heap.size 53 3 W4 v (qB (qr src).toks):=I.ext b;exact jM z h1
  ·have:=(I.blk k V).1;have:=E.lt;omega
 exact ⟨v,rfl,U,t.ext ((C.trans' n).trans' b) R⟩
theorem jT {t u z C:Nat} {x y:Value} {cs:Array Value} {V:TypeId} {R:Ending→World→Prop} {ρ:qa} {w:World} (n:ρ t=x) (e:ρ u=y) (o:ρ z= .pointer (some ⟨C,0,none⟩)) (b:Blk w C cs V) (a:cs.size=2) (h:R (.returned (.tuple #[x,y, .agg cs])) w):qz [.tmp t, .tmp u, .cellN z 2] R ρ w:=by
 have c:qJ w (.loadN 2) (.pointer (some ⟨C,0,none⟩))=some (.agg cs):=by rw [qbF,←a,kW b];rfl
 simp only [qz,vj,RV.val,n,e,o,c,Option.map_some,Option.bind_some];exact h
end Go.L01
namespace Go.L02
open Go Go.Eng Go.RowKit
open Go.Proofs hiding encI
open Go.L01 (Bd Bs Own.same SlK Tok jE jM jO jT jn jx qB qP qR qi vE vx)
set_option maxRecDepth 100000
set_option maxHeartbeats 4000000
structure NV where
 nd:Nd
 kv:Value
def qj (x:NV):List Value:=[.int .u8 (x.nd.d.kind:Int), .string (qb x.nd.d.name), .string (qb x.nd.d.vr), .string (qb x.nd.d.typ), .int .i64 x.nd.d.n,x.kv]
def ji (xs:List NV):List Value:=xs.flatMap qj
theorem yo (xs:List NV):(ji xs).length=xs.length*6:=by
 induction xs with
 |nil=>rfl
 |cons x xs a=>
  have:ji (x::xs)=qj x++ji xs:=rfl;rw [this,List.length_append,a];simp [qj];omega
theorem qll (a b:List NV):ji (a++b)=ji a++ji b:=by simp [ji]
structure Tn (base B:Nat) (nv nv':Value) (w w':World):Prop where
 below:Below base w w'
 block:∀k,k<w.heap.size→k≠B→nv.ownBlock≠some k→w'.heap[k]? =w.heap[k]?
 row:∀k,nv'.ownBlock=some k→nv.ownBlock=some k∨w.heap.size≤k
 gr:nv'=nv∨qh nv<qh nv'
theorem Tn.size {base B:Nat} {nv nv':Value} {w w':World} (h:Tn base B nv nv' w w'):w.heap.size≤w'.heap.size:=h.below.size
theorem Tn.trans {base B:Nat} {a b c:Value} {w w' o:World} (h:Tn base B a b w w') (k:Tn base B b c w' o):Tn base B a c w o:=by
 have y:=h.size;refine ⟨h.below.trans k.below,fun j q u t=> ?_,fun j q=> ?_,by
  rcases k.gr with e|e
  ·rw [e];exact h.gr
  ·rcases h.gr with v|v
   ·rw [v] at e;exact .inr e
   ·exact .inr (by omega)⟩
 ·refine (k.block j (by omega) u fun e=> ?_).trans (h.block j q u t);rcases h.row j e with n|n
  ·exact t n
  ·omega
 ·rcases k.row j q with n|n
  ·exact h.row j n
  ·exact .inr (by omega)
theorem Tn.refl (base B:Nat) (nv:Value) (w:World):Tn base B nv nv w w:=⟨Below.refl _ _,fun _ _ _ _=>rfl,fun _ h=> .inl h, .inl rfl⟩
theorem Tn.ext {base B:Nat} {nv:Value} {w w':World} (h:qc w w') (b:base≤w.heap.size):Tn base B nv nv w w':=⟨h.mono b,fun k a _ _=>h.block k a,fun _ h=> .inl h, .inl rfl⟩
theorem Tn.ne {base B X:Nat} {nv nv':Value} {w w':World} (h:Tn base B nv nv' w w') (c:X<w.heap.size) (a:nv.ownBlock≠some X):nv'.ownBlock≠some X:=fun e=>by
 rcases h.row X e with b|b
 ·exact a b
 ·omega
theorem Tn.blk {base B X:Nat} {nv nv':Value} {w w':World} {cs:Array Value} {T:TypeId} (h:Tn base B nv nv' w w') (b:Blk w X cs T) (c:X≠B) (a:nv.ownBlock≠some X):Blk w' X cs T:=
 ⟨(h.block X b.lt c a).trans b.heap⟩
structure PSt (base B:Nat) (W:World) (tv nv:Value) (L:List Tok) (i f:Nat) (xs:List NV):Prop where
 blk:Blk W B #[tv, .int .i64 (i:Int), .int .i64 (f:Int),nv] 85
 tok:Own 0 53 3 W tv (qB L)
 own:Own base 44 6 W nv (ji xs)
 kid:∀x∈xs,Own 0 3 1 W x.kv (x.nd.kids.map encI)
 bB:base≤B
 bW:base≤W.heap.size
 tl:L.length≤20000
 il:i≤L.length
 fl:f≤L.length
section
variable {base B:Nat} {w w':World} {tv nv nv':Value} {L:List Tok} {i f:Nat} {xs:List NV}
theorem Own.row {b e sz:Nat} {w:World} {v:Value} {ys:List Value} {k:Nat} (h:Own b e sz w v ys) (a:v.ownBlock=some k):∃cur,w.heap[k]? =some (.cells cur e (0,0)):=by
 rcases h with ⟨rfl,_⟩|⟨g,off,n,cap,cur,rfl,_,c,_⟩
 ·cases a
 ·cases a;exact ⟨cur,c⟩
theorem PSt.rowNe (h:PSt base B w tv nv L i f xs) {k:Nat} {cs:Array Value} {T:TypeId} {z:Nat×Nat} (a:w.heap[k]? =some (.cells cs T z)) (c:T≠44):nv.ownBlock≠some k:=fun e=>by
 obtain ⟨cur,b⟩:=Own.row h.own e;rw [b] at a;cases a;exact c rfl
theorem PSt.blkNe (h:PSt base B w tv nv L i f xs) {k:Nat} {cs:Array Value} {T:TypeId} {z:Nat×Nat} (a:w.heap[k]? =some (.cells cs T z)) (b:T≠85):k≠B:=fun e=>by
 subst e;rw [h.blk.heap] at a;cases a;exact b rfl
theorem PSt.keep (h:PSt base B w tv nv L i f xs) (n:Tn base B nv nv' w w') {b e sz:Nat} {v:Value} {ys:List Value} (c:Own b e sz w v ys) (t:e≠44) (o:e≠85):Own b e sz w' v ys:=by
 refine Own.same c fun k q=> ?_;obtain ⟨cur,a⟩:=Own.row c q;exact n.block k (Array.getElem?_eq_some_iff.1 a).1 (h.blkNe a o) (h.rowNe a t)
theorem PSt.var (h:PSt base B w tv nv L i f xs) (b:Tn base B nv nv' w w') {X:Nat} {cs:Array Value} {T:TypeId} (a:Blk w X cs T) (e:T≠44) (c:T≠85):Blk w' X cs T:=
 b.blk a (h.blkNe a.heap c) (h.rowNe a.heap e)
theorem PSt.slk (h:PSt base B w tv nv L i f xs):SlK w tv L:=SlK.own h.tok (by have:=h.tl;omega)
theorem PSt.ext (h:PSt base B w tv nv L i f xs) (a:qc w w'):PSt base B w' tv nv L i f xs:=
 ⟨h.blk.ext a,h.tok.ext a,h.own.ext a,fun x b=>(h.kid x b).ext a,h.bB,Nat.le_trans h.bW a.size,h.tl,h.il,h.fl⟩
theorem PSt.only (h:PSt base B w tv nv L i f xs) {X:Nat} (o:Only X w w') {cs:Array Value} {T:TypeId} {z:Nat×Nat} (F:X<w.heap.size→w.heap[X]? =some (.cells cs T z)) (H:T≠44) (y:T≠85) (t:T≠3) (u:T≠53):PSt base B w' tv nv L i f xs:=by
 have ne:∀k cur e,e≠T→w.heap[k]? =some (.cells cur e (0,0))→k≠X:=fun k cur e n a c=>by
  subst c;have:=F (Array.getElem?_eq_some_iff.1 a).1;rw [a] at this;cases this;exact n rfl
 have keep:∀{b e sz:Nat} {v:Value} {ys:List Value},e≠T→Own b e sz w v ys→Own b e sz w' v ys:=fun n q=>Own.same q fun k a=>by
  obtain ⟨cur,C⟩:=Own.row q a;exact o.block k (ne k cur _ n C)
 refine ⟨o.blk h.blk (ne B _ 85 (Ne.symm y) h.blk.heap),keep (Ne.symm u) h.tok,keep (Ne.symm H) h.own,fun x E=>keep (Ne.symm t) (h.kid x E),h.bB,by rw [o.size];exact h.bW,h.tl,h.il,h.fl⟩
theorem PSt.move (h:PSt base B w tv nv L i f xs) {q o:Nat} (c:Only B w w') (z:Blk w' B #[tv, .int .i64 (q:Int), .int .i64 (o:Int),nv] 85) (F:q≤L.length) (C:o≤L.length):
  PSt base B w' tv nv L q o xs∧Tn base B nv nv w w':=by
 have keep:∀{b e sz:Nat} {v:Value} {ys:List Value},e≠85→Own b e sz w v ys→Own b e sz w' v ys:=fun E t=>Own.same t fun k a=>by
  obtain ⟨cur,u⟩:=Own.row t a;exact c.block k (h.blkNe u E)
 refine ⟨⟨z,keep (by decide) h.tok,keep (by decide) h.own,fun x y=>keep (by decide) (h.kid x y),h.bB,by rw [c.size];exact h.bW,h.tl,F,C⟩, ?_,fun k a n _=>c.block k n,fun k a=> .inl a, .inl rfl⟩;exact kY c h.bB
end
@[simp] theorem qEz:qf Tryz.prog 142=true:=by kernel_rfl
@[simp] theorem qEA:qf Tryz.prog 141=true:=by kernel_rfl
@[simp] theorem qEE:qf Tryz.prog 117=true:=by kernel_rfl
@[simp] theorem qEy:qf Tryz.prog 143=true:=by kernel_rfl
@[simp] theorem qED:qf Tryz.prog 120=true:=by kernel_rfl
@[simp] theorem qEx:qf Tryz.prog 153=true:=by kernel_rfl
@[simp] theorem qAP:qf Tryz.prog 160=true:=by kernel_rfl
theorem Qd:vh Tryz.prog 53=some #[.int .u8 0, .string ⟨#[]⟩, .int .i64 0]:=by kernel_rfl
theorem yD:jo Tryz.prog 53 3=true:=by kernel_rfl
theorem jS:jo Tryz.prog 3 1=true:=by kernel_rfl
theorem qA5:Tryz.prog.built 53 []=some #[.int .u8 0, .string ⟨#[]⟩, .int .i64 0]:=by kernel_rfl
theorem qah:xX Tryz.prog 51=some (9,1):=by kernel_rfl
def xg (t:Tok):Value:= .agg #[.int .u8 (t.kind:Int), .string (qb t.text), .int .i64 t.line]
theorem Qu {base B:Nat} {w:World} {tv nv:Value} {L:List Tok} {i f:Nat} {xs:List NV} (h:PSt base B w tv nv L i f xs) (n:Nat) (hn:n≤1):
  Calls Tryz.prog 142 #[.pointer (some ⟨B,0,none⟩), .int .i64 (n:Int)] w fun e w'=>e= .returned (xg (tk L (i+n)))∧qc w w':=by
 have U:=h.tl;have V:=h.il;refine qy3 fun ρ r0 r1=> ?_;simp [qo5,r0,r1];refine qK Qd fun X W S H Y _=> ?_;have I:=h.ext H;have R:=I.slk;have J:IntKind.i64.wrap ((i:Int)+(n:Int))=((i+n:Nat):Int):=by rw [jG (by omega)];push_cast;rfl
 simp [I.blk.cell,r0,r1,R.is,R.len,J];intro W2 q;have y:=I.ext q;have F:=y.slk;have C:=Y.ext q;by_cases t:i+n<L.length
 ·have c:=F.cell (i+n) t;have a:((i:Int)+(n:Int)<(L.length:Int)):=by omega
  simp [qhh,a];refine vS qy2 (fun W=>PSt base B W tv nv L i f xs) fun W3 o _=>⟨y.ext o, ?_⟩;have z:=y.ext o;have v:=z.slk;have c:=v.cell (i+n) t;have E:∀W,PSt base B W tv nv L i f xs→∀j,W.cell? ⟨B,j,none⟩= #[tv,Value.int .i64 (i:Int), .int .i64 (f:Int),nv][j]? :=fun W h=>h.blk.cell;simp+contextual -implicitDefEqProofs [qo0,E,z,r0,r1,J];have Z:((i:Int)+(n:Int)).toNat=i+n:=by omega
  rw [if_pos ⟨v.is,by omega,by rw [v.len];omega⟩,Z];simp [c.1,c.2.1,c.2.2];refine jg (B:=X) (by simp) (C.ext o) (by simp [Value.cells]) (by simp [Value.cells]) (by simpa [Value.cells] using yD) fun W4 u b=> ?_;simp [Value.cells] at b;simp [qo2];refine qR (by simp) b rfl ⟨?_, ?_⟩
  ·rw [kz t];rfl
  ·exact u.ext (((H.trans' q).trans' o)) S
 ·have a:¬((i:Int)+(n:Int)<(L.length:Int)):=by omega
  simp [qhh,qo1,a];rw [qA5];dsimp only [jF];refine jg (B:=X) (by simp) C (by simp [Value.cells]) (by simp [Value.cells]) (by simpa [Value.cells] using yD) fun W4 u b=> ?_;simp [Value.cells] at b;simp;refine qR (by simp) b rfl ⟨?_, ?_⟩
  ·rw [kw (by omega)];rfl
  ·exact u.ext (H.trans' q) S
section
variable {base B:Nat} {w:World} {tv nv:Value} {L:List Tok} {i f:Nat} {xs:List NV}
theorem xE {w:World} {X:Nat} {a b c:Value} {T:TypeId} (h:Blk w X #[a,b,c] T):w.cell? ⟨X,0,none⟩=some a∧w.cell? ⟨X,1,none⟩=some b∧w.cell? ⟨X,2,none⟩=some c:=
 ⟨by rw [h.cell];rfl,by rw [h.cell];rfl,by rw [h.cell];rfl⟩
theorem qk6 (h:PSt base B w tv nv L i f xs) {v:Value} {ss:List Bs} (E:qP w v ss):
  Calls Tryz.prog 141 #[.pointer (some ⟨B,0,none⟩),v] w fun e w'=>e= .returned (.bool (qg L i ss))∧qc w w':=by
 refine qy4 fun ρ r0 r1=> ?_;simp [qo6,r0,r1];refine (Qu h 0 (by decide)).mono ?_;rintro _ w1 ⟨rfl,z⟩;simp;refine qK Qd fun X W H q F _=> ?_;simp;refine jg (B:=X) (by simp) F (by simp [Value.cells,xg]) (by simp [Value.cells,xg]) (by simpa [Value.cells] using yD) fun W2 t o=> ?_;simp [Value.cells,xg] at o;obtain ⟨c0,c1,c2⟩:=xE o;have a:qc w W2:=t.ext (z.trans' q) (by have:=z.size;omega);have C:∀n:Nat,(((tk L i).kind:Int)=(n:Int))↔(tk L i).kind=n:=fun n=>by omega
 have c:=C 2;have b:=C 4;simp only [Int.cast_ofNat_Int] at c b;simp [c0,c1,r1];unfold qg;by_cases y:(tk L i).kind=2∨(tk L i).kind=4
 ·have u:((tk L i).kind:Int)=2∨((tk L i).kind:Int)=4:=by omega
  simp [u,r1];refine (L01.qfw (tk L i).text (E.ext a)).mono ?_;rintro _ _ ⟨rfl,rfl⟩;simp [y];refine ⟨?_,a⟩;simp only [c,b]
 ·have u:¬(((tk L i).kind:Int)=2∨((tk L i).kind:Int)=4):=by omega
  simp [u,y];exact a
def qiz (base B:Nat) (w:World) (tv nv:Value) (L:List Tok) (i f:Nat) (xs:List NV) (b:Bool):Ending→World→Prop:=fun e w'=>e= .returned (.bool b)∧PSt base B w' tv nv L (if b then i+1 else i) f xs∧Tn base B nv nv w w'
theorem qdd (h:PSt base B w tv nv L i f xs) (s:Bs):Calls Tryz.prog 117 #[.pointer (some ⟨B,0,none⟩), .string (qb s)] w (qiz base B w tv nv L i f xs (qg L i [s])):=by
 have E:=h.tl;have H:=h.il;refine qzd fun ρ r0 r1=> ?_;simp [qpi,r0,r1];refine xc qah (by decide) (by decide) (by simp [Value.cells]) fun X W J y z _=> ?_;simp [Value.cells] at z⊢;have C:qP W (.slice (some ⟨X,0,none⟩) 1 1) [s]:=⟨rfl,rfl,by simp,fun j F=>by
  have:j=0:=by simpa using F
  subst this;simp [qM,z.cell,qi]⟩
 refine (qk6 (h.ext y) C).mono ?_;rintro _ w1 ⟨rfl,e⟩;have a:=y.trans' e;have c:=h.ext a;simp;cases I:qg L i [s] with
 |false=>
  simp [qiz];exact ⟨c,Tn.ext a h.bW⟩
 |true=>
  have o:=xn I;have n:IntKind.i64.wrap ((i:Int)+1)=((i+1:Nat):Int):=by rw [jG (by omega)];push_cast;rfl
  simp [qph,r0,c.blk.cell,n];refine qS (B:=B) (i:=1) (by simp) c.blk (by simp) rfl rfl jS fun W2 q b=> ?_;simp at b;have t:Blk W2 B #[tv, .int .i64 ((i+1:Nat):Int), .int .i64 (f:Int),nv] 85:=by rw [←n];simpa [n] using b
  obtain ⟨v,u⟩:=c.move q t o h.fl;simp [qiz];exact ⟨v,(Tn.ext a h.bW).trans u⟩
end
def yk:List PanicEntry:=[{v:= .iface 153 (.agg #[]),recovered:=false}]
structure Ans (α:Type) where
 nodes:Nat→α→List Nd
 val:World→World→Nat→α→Value→Prop
def aU:Ans Unit:=⟨fun _ _=>[],fun _ _ _ _ v=>v= .tuple #[]⟩
def aS:Ans Bs:=⟨fun _ _=>[],fun _ _ _ s v=>v= .string (qb s)⟩
def aT:Ans T:=⟨fun b t=>t.flat b,fun _ _ b t v=>v= .int .i64 ((b:Int)+t.size - 1)⟩
def wf:Ans (T×Nat):=⟨fun b t=>t.1.flat b,fun _ _ b t v=>v= .tuple #[.int .i64 ((b:Int)+t.1.size - 1), .int .i64 (t.2:Int)]⟩
def xz:Ans (T×Bool):=⟨fun b t=>t.1.flat b,fun _ _ b t v=>v= .tuple #[.int .i64 ((b:Int)+t.1.size - 1), .bool t.2]⟩
def aTs:Ans (List T):=⟨fun b ts=>flats b ts,fun w w' b ts v=>Own w.heap.size 3 1 w' v ((qu b ts).map encI)⟩
def kr (w:World) (v:Value):Prop:=∀k,v.ownBlock=some k→w.heap.size≤k
theorem kr.mono {w w':World} {v:Value} (h:kr w' v) (a:w.heap.size≤w'.heap.size):kr w v:=fun k b=>Nat.le_trans a (h k b)
theorem Own.fresh {e sz:Nat} {w w':World} {v:Value} {xs:List Value} (h:Own w.heap.size e sz w' v xs):kr w v:=fun k a=>(h.blk k a).1
def PR {α:Type} (A:Ans α) (base B:Nat) (tv nv:Value) (L:List Tok) (xs:List NV) (w:World):Rs α→Ending→World→Prop
 | .oof,_,_=>False
 | .ok a j g,e,w'=>∃v nv' ys,e= .returned v∧PSt base B w' tv nv' L j g (xs++ys)∧ys.map (·.nd)=A.nodes xs.length a∧(∀y∈ys,kr w y.kv)∧Tn base B nv nv' w w'∧A.val w w' xs.length a v
 | .no g,e,w'=>∃j nv' ys,e= .panicked yk∧PSt base B w' tv nv' L j g (xs++ys)∧Tn base B nv nv' w w'
def Mt {α:Type} (A:Ans α) (L:List Tok) (F:FuncId) (args:Value→Array Value) (m:M α):Prop:=∀base B w tv nv i f xs,PSt base B w tv nv L i f xs→xs.length≤2*i+2→m i f≠ .oof→
 Calls Tryz.prog F (args (.pointer (some ⟨B,0,none⟩))) w (PR A base B tv nv L xs w (m i f))
def me (v:Value):Array Value:= #[v]
theorem qae {α β:Type} {A:Ans α} {A':Ans β} {L:List Tok} {m:M α} {k:α→M β} {r:Rs β} {base B:Nat} {w w1:World} {tv nv nv1:Value} {i f:Nat} {xs ys:List NV} {K:qa→World→Prop} {Q:Ks} {ρ:qa} {d:Option Nat}
  {F:FuncId} {args:Array Value} (J:m i f≠ .oof→Calls Tryz.prog F args w1 (PR A base B tv nv1 L (xs++ys) w1 (m i f))) (y:Tn base B nv nv1 w w1) (u:bnd m k i f=r) (I:r≠ .oof)
  (hpn:∀c w',PR A' base B tv nv L xs w r (.panicked c) w'→Q.pn ρ c w')
  (h:∀a j g v nv2 zs w2,m i f= .ok a j g→PSt base B w2 tv nv2 L j g (xs++(ys++zs))→zs.map (·.nd)=A.nodes (xs++ys).length a→(∀z∈zs,kr w1 z.kv)→Tn base B nv1 nv2 w1 w2→Tn base B nv nv2 w w2→A.val w1 w2 (xs++ys).length a v→k a j g=r→
   K (qk ρ d v) w2):Calls Tryz.prog F args w1 (jR Q d K ρ):=by
 have q:m i f≠ .oof:=fun e=>I (by rw [←u,vg e]);refine (J q).mono ?_;intro e w2 t;cases b:m i f with
 |oof=>exact absurd b q
 |no g=>
  rw [b] at t;obtain ⟨j,nv2,zs,rfl,o,n⟩:=t;rw [qqq];refine hpn _ _ ?_;rw [←u,jJ b];exact ⟨j,nv2,ys++zs,rfl,by simpa using o,y.trans n⟩
 |ok a j g=>
  rw [b] at t;obtain ⟨v,nv2,zs,rfl,o,E,H,n,C⟩:=t;rw [qcd];refine h a j g v nv2 zs w2 b (by simpa using o) E H n (y.trans n) C ?_;rw [←u,qT b]
theorem qBi:Tryz.prog.built 153 []=some #[]:=by kernel_rfl
section
variable {base B:Nat} {w:World} {tv nv:Value} {L:List Tok} {i f:Nat} {xs:List NV}
def qq6 (base B:Nat) (w:World) (tv nv:Value) (L:List Tok) (i f:Nat) (xs:List NV):Ending→World→Prop:=fun e w'=>e= .panicked yk∧PSt base B w' tv nv L i (max f i) xs∧Tn base B nv nv w w'
theorem qbK (h:PSt base B w tv nv L i f xs):Calls Tryz.prog 143 #[.pointer (some ⟨B,0,none⟩)] w (qq6 base B w tv nv L i f xs):=by
 have E:=h.tl;have u:=h.il;have H:=h.fl;refine qy1 fun ρ r0=> ?_;simp [qoZ];refine vS qy0 (fun W=>PSt base B W tv nv L i f xs) fun W3 e _=>⟨h.ext e, ?_⟩;have c:=h.ext e;have o:∀W,PSt base B W tv nv L i f xs→∀j,W.cell? ⟨B,j,none⟩= #[tv,Value.int .i64 (i:Int), .int .i64 (f:Int),nv][j]? :=fun W h=>h.blk.cell;simp+contextual -implicitDefEqProofs [qoV,o,c,r0];refine qhy (k:= .i64) (a:=(f:Int)) (b:=(i:Int)) (by simp) (by simp) ?_;have F:(if (i:Int)>(f:Int) then (i:Int) else (f:Int))=((max f i:Nat):Int):=by split<;>omega
 rw [F];refine ⟨c, ?_⟩;simp [r0];refine qS (B:=B) (i:=2) (by simp) c.blk (by simp) (by simp [Value.cells]) (by simp) jS fun W4 y n=> ?_;simp at n;have q:Blk W4 B #[tv, .int .i64 (i:Int), .int .i64 ((max f i:Nat):Int),nv] 85:=by simpa using n
 obtain ⟨C,z⟩:=c.move y q u (by omega);simp [qoW];rw [qBi];dsimp only [jF];refine qhw (t:=153) (v:= .agg #[]) (by simp) ?_;simp [qq6,yk];exact ⟨C,(Tn.ext e h.bW).trans z⟩
theorem qr3 {s:Bs} {ss:List Bs}:needs L (s::ss) i f=if qg L i [s] then needs L ss (i+1) f else .no (max f i):=rfl
theorem quH (h:PSt base B w tv nv L i f xs) {v:Value} {ss:List Bs} (u:Own 0 9 1 w v (ss.map qi)) (y:ss.length<4611686018427387904):Calls Tryz.prog 153 #[.pointer (some ⟨B,0,none⟩),v] w (PR aU base B tv nv L xs w (needs L ss i f)):=by
 have z:qP w v ss:=Own.sl u y;refine qyP fun ρ r0 r1=> ?_;simp [qoL,r1,z.is,z.len];refine ko 8 ss.length (fun k b w'=>b 0= .pointer (some ⟨B,0,none⟩)∧b 6=v∧b 7= .int .i64 (ss.length:Int)∧PSt base B w' tv nv L (i+k) f xs∧Tn base B nv nv w w'∧Own 0 9 1 w' v (ss.map qi)∧needs L ss i f=needs L (ss.drop k) (i+k) f) (by simp)
  ⟨by simp [r0],by simp [r1],by simp [z.len],h,Tn.refl _ _ _ _,u,by simp⟩ ?_
 rintro k b w' W H ⟨r0,U,r7,I,R,e,a⟩;have o:qP w' v ss:=Own.sl e y;by_cases q:k<ss.length
 ·have J:=List.drop_eq_getElem_cons q;rw [J,qr3] at a;simp [qg7,qoJ,H,r7,q,U,o.is,o.len,o.cell k q,qi,r0];refine (qdd I ss[k]).mono ?_;rintro _ w2 ⟨rfl,c,t⟩;cases S:qg L (i+k) [ss[k]] with
  |true=>
   rw [S] at a c;simp [qoK,H,jG (n:=(k:Int)+1) (by omega),r0,U,r7];exact ⟨c,R.trans t,I.keep t e (by decide) (by decide),by rw [a];rfl⟩
  |false=>
   rw [S] at a c;simp [r0];refine (qbK c).mono ?_;rintro _ V ⟨rfl,E,F⟩;simp;rw [a];exact ⟨i+k,nv,[],rfl,by simpa using E,(R.trans t).trans F⟩
 ·have C:k=ss.length:=by omega
  subst C;simp [qg7,H,r7];rw [a];simp only [List.drop_length,needs,ret,PR,aU];exact ⟨_,nv,[],rfl,by simpa using I,rfl,by simp,R,rfl⟩
theorem qaq (h:PSt base B w tv nv L i f xs):Calls Tryz.prog 120 #[.pointer (some ⟨B,0,none⟩)] w (PR aS base B tv nv L xs w (name L i f)):=by
 have I:=h.tl;have R:=h.il;refine qzb fun ρ r0=> ?_;simp [qpg,r0];refine (Qu h 0 (by decide)).mono ?_;rintro _ w1 ⟨rfl,y⟩;simp;refine qK Qd fun X W Y v S _=> ?_;simp;refine jg (B:=X) (by simp) S (by simp [Value.cells,xg]) (by simp [Value.cells,xg]) (by simpa [Value.cells] using yD) fun W2 E c=> ?_;simp [Value.cells,xg] at c;obtain ⟨c0,c1,c2⟩:=xE c;have n:qc w W2:=E.ext (y.trans' v) (by have:=y.size;omega);have t:=h.ext n;have V:(((tk L i).kind:Int)=1)↔(tk L i).kind=1:=by omega
 simp [c0,r0];by_cases u:(tk L i).kind=1
 ·have z:=xM u (by decide);have J:IntKind.i64.wrap ((i:Int)+1)=((i+1:Nat):Int):=by rw [jG (by omega)];push_cast;rfl
  have e:X≠B:=by have:=h.blk.lt;have:=y.size;omega
  simp [u,qpf,r0,t.blk.cell,J];refine qS (B:=B) (i:=1) (by simp) t.blk (by simp) (by simp [Value.cells]) (by simp) jS fun W3 q o=> ?_;simp at o;have C:Blk W3 B #[tv, .int .i64 ((i+1:Nat):Int), .int .i64 (f:Int),nv] 85:=by simpa using o
  obtain ⟨a,b⟩:=t.move q C z h.fl;have F:W3.cell? ⟨X,1,none⟩=some (.string (qb (tk L i).text)):=(xE (q.blk c e)).2.1;simp [F];rw [qvI u];exact ⟨_,nv,[],rfl,by simpa using a,rfl,by simp,(Tn.ext n h.bW).trans b,rfl⟩
 ·have e:name L i f= .no (max f i):=by unfold name;rw [if_neg u]
  have H:¬((tk L i).kind:Int)=1:=by omega
  simp [H,r0];refine (qbK t).mono ?_;rintro _ U ⟨rfl,a,b⟩;simp;rw [e];exact ⟨i,nv,[],rfl,by simpa using a,(Tn.ext n h.bW).trans b⟩
theorem quD (h:PSt base B w tv nv L i f xs):Calls Tryz.prog 156 #[.pointer (some ⟨B,0,none⟩)] w (PR aU base B tv nv L xs w (param L i f)):=by
 have R:=h.tl;have U:=h.il;refine qyJ fun ρ r0=> ?_;simp [qoD,r0];refine (Qu h 0 (by decide)).mono ?_;rintro _ w1 ⟨rfl,H⟩;simp;refine qK Qd fun X W Z u Y _=> ?_;simp;refine jg (B:=X) (by simp) Y (by simp [Value.cells,xg]) (by simp [Value.cells,xg]) (by simpa [Value.cells] using yD) fun W2 C o=> ?_;simp [Value.cells,xg] at o;obtain ⟨c0,c1,c2⟩:=xE o;have c:qc w W2:=C.ext (H.trans' u) (by have:=H.size;omega);have t:=h.ext c;have I:(⟨#[116]⟩:ByteArray)=qb [116]:=rfl;simp [c0,c1,r0];unfold param;by_cases n:(tk L i).kind=1∧(tk L i).text=[116]
 ·have v:=xM n.1 (by decide);have S:IntKind.i64.wrap ((i:Int)+1)=((i+1:Nat):Int):=by rw [jG (by omega)];push_cast;rfl
  rw [if_pos n];simp [n.1,n.2,I,qoC,r0,t.blk.cell,S];refine qS (B:=B) (i:=1) (by simp) t.blk (by simp) (by simp [Value.cells]) (by simp) jS fun W3 E q=> ?_;simp at q;have z:Blk W3 B #[tv, .int .i64 ((i+1:Nat):Int), .int .i64 (f:Int),nv] 85:=by simpa using q
  obtain ⟨a,b⟩:=t.move E z v h.fl;simp;exact ⟨_,nv,[],rfl,by simpa using a,rfl,by simp,(Tn.ext c h.bW).trans b,rfl⟩
 ·rw [if_neg n];by_cases F:(tk L i).kind=1
  ·have J:(tk L i).text≠[116]:=fun e=>n ⟨F,e⟩;simp [F,I,xH,J,r0];refine (qbK t).mono ?_;rintro _ V ⟨rfl,a,b⟩;simp;exact ⟨i,nv,[],rfl,by simpa using a,(Tn.ext c h.bW).trans b⟩
  ·have y:¬((tk L i).kind:Int)=1:=by omega
   simp [y,r0];refine (qbK t).mono ?_;rintro _ V ⟨rfl,a,b⟩;simp;exact ⟨i,nv,[],rfl,by simpa using a,(Tn.ext c h.bW).trans b⟩
theorem qk8 (h:PSt base B w tv nv L i f xs):Calls Tryz.prog 63 #[.pointer (some ⟨B,0,none⟩)] w (PR aU base B tv nv L xs w (fin L i f)):=by
 have q:=h.tl;have t:=h.il;refine qw1 fun ρ r0=> ?_;have n:=h.slk;simp [qmI,r0,h.blk.cell,n.is,n.len];intro W2 b;have o:=h.ext b;unfold fin;by_cases a:i<L.length
 ·rw [if_pos a];simp [qgF,a,r0];refine (qbK o).mono ?_;rintro _ u ⟨rfl,c,e⟩;simp;exact ⟨i,nv,[],rfl,by simpa using c,(Tn.ext b h.bW).trans e⟩
 ·rw [if_neg a];simp [qgF,a];exact ⟨_,nv,[],rfl,by simpa using o,rfl,by simp,Tn.ext b h.bW,rfl⟩
theorem qe9:jo Tryz.prog 44 6=true:=by kernel_rfl
theorem qjx:jo Tryz.prog 29 1=true:=by kernel_rfl
theorem qsV:xX Tryz.prog 29=some (44,6):=by kernel_rfl
theorem qt2:kF Tryz.prog 29=some (44,6,88):=by kernel_rfl
theorem qcW {w:World} {X:Nat} {cs:Array Value} {T:TypeId} {n:Nat} (h:Blk w X cs T) (a:cs.size=n):qJ w (.loadN n) (.pointer (some ⟨X,0,none⟩))=some (.agg cs):=by
 rw [qbF,←a,kW h];rfl
theorem qhC {P:Program} {t e sz bytes:Nat} (I:kF P t=some (e,sz,bytes)) {base:Nat} {w:World} {ρ:qa} {Q:Ks} {d:Option Nat} {ty:TypeId} {K:qa→World→Prop} (b:base≤w.heap.size) {s x:Operand} {sv xv:Value} (C:qd ρ s=sv) (H:qd ρ x=xv) {xs news:List Value}
  (n:Own base e sz w sv xs) (o:Cells w xv sz news) (y:∀u∈news,u.oneCell'=true)
  (q:xs.length+news.length<4611686018427387904) (a:(xs.length+news.length)*bytes≤140737488355328*sz)
  (h:∀c W,Own base e sz W c (xs++news)→w.grownBy W sv.ownBlock→(c.ownBlock=sv.ownBlock∨c.ownBlock=some w.heap.size)→K (qk ρ d c) W):qm P Q d (.call {callee:= .builtin .append,args:= #[s,x],argTypes:= #[t,t]}) ty K ρ w:=by
 obtain ⟨c,W,y,F,z,E⟩:=qcY (ty:=ty) I n o y q a b;refine jk (v:=c) (w':=W) ?_ (h c W F z E);simp [execOp,qA,resolve,invoke,builtin,C,H,y]
def qra (base B:Nat) (w:World) (tv nv:Value) (L:List Tok) (i f:Nat) (xs:List NV) (x:NV):Ending→World→Prop:=fun e w'=>e= .returned (.int .i64 (xs.length:Int))∧∃nv',PSt base B w' tv nv' L i f (xs++[x])∧Tn base B nv nv' w w'
theorem quZ (h:PSt base B w tv nv L i f xs) (x:NV) (hx:Own 0 3 1 w x.kv (x.nd.kids.map encI)) (hn:xs.length≤1000000):Calls Tryz.prog 140 #[.pointer (some ⟨B,0,none⟩), .agg (qj x).toArray] w (qra base B w tv nv L i f xs x):=by
 refine qy7 fun ρ r0 r1=> ?_;have hkc:x.kv.cells= #[x.kv]:=zH hx.isl;have hk1:x.kv.oneCell=true:=xO hx.isl;simp [qpb,r0,r1];refine vY fun X W hX hE hb hsz=> ?_;simp [r1,Value.cells] at hb;have hS:=h.ext hE;simp;have hXr:nv.ownBlock≠some X:=fun e=>by
  have:=(h.own.blk X e).2;omega
 have hXB:X≠B:=by have:=h.blk.lt;omega
 refine vS qy6 (fun W'=>Blk W' B #[tv,Value.int .i64 (i:Int), .int .i64 (f:Int),nv] 85∧Blk W' X (qj x).toArray 44) (fun W3 o _=>⟨⟨hS.blk.ext o,hb.ext o⟩, ?_⟩);have J:=hS.ext o;have q:=hb.ext o;have hcB:∀W,Blk W B #[tv,Value.int .i64 (i:Int), .int .i64 (f:Int),nv] 85∧Blk W X (qj x).toArray 44→∀j,W.cell? ⟨B,j,none⟩= #[tv,Value.int .i64 (i:Int), .int .i64 (f:Int),nv][j]? :=fun W h=>h.1.cell;have hcX:∀W,Blk W B #[tv,Value.int .i64 (i:Int), .int .i64 (f:Int),nv] 85∧Blk W X (qj x).toArray 44→qJ W (.loadN 6) (.pointer (some ⟨X,0,none⟩))=some (.agg (qj x).toArray):=fun W h=>qcW h.2 (by simp [qj]);have hSS:Blk W3 B #[tv,Value.int .i64 (i:Int), .int .i64 (f:Int),nv] 85∧Blk W3 X (qj x).toArray 44:=⟨J.blk,q⟩;simp+contextual -implicitDefEqProofs [qo7,hcB,hcX,hSS,r0];refine xc qsV (by decide) (by decide) (by simp [Value.cells,qj]) fun Y W4 hY c R hsz4=> ?_;simp [Value.cells] at R;have a:=J.ext c;refine ⟨⟨a.blk,q.ext c⟩, ?_⟩;have hnl:=yo xs;have hnd:(qj x).length=6:=rfl;refine qhC qt2 (base:=base) (sv:=nv) (xv:= .slice (some ⟨Y,0,none⟩) 1 1) (xs:=ji xs) (news:=qj x) a.bW (by simp) (by simp) a.own (Blk.cells R (by simp [qj])) ?_ (by omega) (by omega) fun nv2 W5 b t E=> ?_
 ·intro u hu;simp only [qj,List.mem_cons,List.mem_nil_iff,or_false] at hu;rcases hu with rfl|rfl|rfl|rfl|rfl|rfl<;>first|rfl|skip
  have:=hx.isl
  revert this
  cases x.kv<;>simp [Value.oneCell',qt]
 have hBne:B≠X:=Ne.symm hXB;have z:=a.rowNe a.blk.heap (by decide);have V:Blk W5 B #[tv,Value.int .i64 (i:Int), .int .i64 (f:Int),nv] 85:=⟨(t.block B a.blk.lt (fun e=>z e.symm)).trans a.blk.heap⟩;have hX5:Blk W5 X (qj x).toArray 44:=⟨(t.block X (q.ext c).lt (fun e=>hXr e.symm)).trans (q.ext c).heap⟩;refine ⟨⟨V,hX5⟩, ?_⟩;simp [r0];have hv2:(nv2.cells= #[nv2]):=zH b.isl;refine qS (B:=B) (i:=3) (by simp) V (by simp) (by simp [hv2]) (by simpa using xO b.isl) qjx fun W6 C F=> ?_;simp at F;have S:Blk W6 B #[tv, .int .i64 (i:Int), .int .i64 (f:Int),nv2] 85:=by simpa using F
 have U:=b.isl;have H:=(L01.vB b).len;have hl2:qh nv2=xs.length+1:=by
  rw [List.length_append,hnl,hnd] at H;omega
 have e1:IntKind.i64.wrap ((qh nv2:Int) - 1)=(xs.length:Int):=by rw [hl2,jG (by omega)];push_cast;omega
 have hT4:Tn base B nv nv2 W4 W6:=by
  refine ⟨(qpw (v:=nv) t (fun k n=>(a.own.blk k n).1) a.bW).trans (kY C h.bB),fun k n hkB hkr=> ?_,fun k n=> ?_, .inr (by have h1:=(L01.vB a.own).len;omega)⟩
  ·rw [C.block k hkB];exact t.block k n fun e=>hkr e.symm
  ·rcases E with e|e
   ·exact .inl (e▸n)
   ·rw [e] at n;cases n;exact .inr (Nat.le_refl _)
 have I:Tn base B nv nv2 w W6:=(Tn.ext ((hE.trans' o).trans' c) h.bW).trans hT4;have ho6:Own base 44 6 W6 nv2 (ji (xs++[x])):=by
  rw [qll,show ji [x]=qj x by simp [ji]];refine Own.same b fun k n=>C.block k fun e=> ?_;subst e;rcases E with e|e
  ·exact z (e▸n)
  ·rw [e] at n;cases n;have:=a.blk.lt;omega
 simp [qo8,r0,S.cell,U,e1,qra];refine ⟨nv2,⟨S,h.keep I h.tok (by decide) (by decide),ho6,fun y Z=> ?_,h.bB,Nat.le_trans h.bW I.size,h.tl,h.il,h.fl⟩,I⟩;rcases List.mem_append.1 Z with Z|Z
 ·exact h.keep I (h.kid y Z) (by decide) (by decide)
 ·have:y=x:=by simpa using Z
  subst this;exact h.keep I hx (by decide) (by decide)
end
noncomputable def qmN:IR:=zq [zm 8 0,zm 9 1,za 12 (zI .sub (zL (zv 0)) (zK 1)),zE 13 (.call {callee:= .builtin .min,args:= #[zt 9,zt 12],argTypes:= #[3,3]}) 3,za 4 (zo 2 (zx 3 (zv 8) (zv 13)))] <| .ret
noncomputable def qmO:IR:=zq [za 4 (zK 0),za 7 (zI .eql (zL (zv 0)) (zK 0))] <| .seq (.cond (zv 7) (zq [za 4 (zK 1)] <| .ret) .skip) (qmN)
def qw8:List Nat:=[0,1,4,7,8,9,12,13]
theorem qw7:C2 57 17 qw8 qmO [.tmp 4]:=c2 [] Tryz.func57
noncomputable def qmM:IR:= .reg [za 1 (zl (zv 0)),zc 2 62 #[zt 1] #[83] 3,za 3 (zl (zv 0)),zc 4 63 #[zt 3] #[83] 0]
def qw6:List Nat:=zV 5 []
theorem qw5:C1 61 5 qw6 qmM []:=c1 [] Tryz.func61
noncomputable def qot:Code:=((Tryz.f17.body).getD .skip)
noncomputable def qos:IR:= .ret
noncomputable def qor:IR:=zq [za 40 (zo 3 (zN (zl (zv 6)))),zE 41 (.build 26 #[]) 26,zm 2 40,zw 26 (zt 3) (zt 41)] <| .ret
noncomputable def qoq:IR:=zq [za 33 (zo 3 (zN (zl (zv 6)))),zc 34 64 #[zt 33,(.func 65)] #[29,98] 4,za 35 (zn (zv 34))] <| .seq (.cond (zv 35) (zq [zE 36 (.build 26 #[(0,(zO 21)),(1,(zO 1))]) 26,za 2 (.const (.slice none 0 0)),zw 26 (zt 3) (zt 36)] <| .ret) .skip) (qor)
noncomputable def qop:IR:=zq [zm 16 4,zE 17 (.build 85 #[(0,(zt 16))]) 85,zE 18 (.box 85 (zt 17)) 83,zA 6 83,zw 83 (zt 6) (zt 18),za 19 (zl (zv 6)),zE 20 (.makeFunc (.func 61) #[] #[zt 6]) 1,zc 21 54 #[zt 19,zt 20] #[83,1] 4,za 22 (zn (zv 21))] <| .seq (.cond (zv 22) (zq [zm 23 4,za 27 (zo 2 (zN (zl (zv 6)))),zc 28 57 #[zt 23,zt 27] #[48,3] 3,zE 29 (.build 26 #[(0,(zO 20)),(1,(zt 28))]) 26,za 2 (.const (.slice none 0 0)),zw 26 (zt 3) (zt 29)] <| .ret) .skip) (qoq)
noncomputable def qov:IR:=zq [za 2 (.const (.slice none 0 0)),zA 3 26,zm 8 0,zc 9 53 #[zt 8] #[9] 49,zm 7 9,za 10 (ze 0 (zv 7)),za 11 (ze 1 (zv 7)),zA 5 26,zm 4 10,zw 26 (zt 5) (zt 11),za 14 (zI .neq (zo 0 (zv 5)) (zK 0))] <| .seq (.cond (zv 14) (.seq (.raw (qI qot 3)) (qos)) .skip) (qop)
def qou:List Nat:=zV 42 [1,12,13,24,25,26,30,31,32,37,38,39]
theorem qyz:C1 17 42 qou qov [.tmp 2, .cellN 3 2]:=c1 [3] Tryz.func17
noncomputable def qoo:OT:=zy 15 (zM 2 (zv 5))<|zy 2 (.const (.slice none 0 0))<| .step (zw 26 (zt 3) (zt 15)) false<| .done
theorem qyy:vT Tryz.prog 42 qou 2 (qI qot 3)=some qoo:=by kernel_rfl
noncomputable def qmE:IR:= .reg [za 1 (zl (zv 0)),zc 2 72 #[zt 1] #[83] 0,za 3 (zl (zv 0)),zc 4 63 #[zt 3] #[83] 0]
def qwW:List Nat:=zV 5 []
theorem qwV:C1 71 5 qwW qmE []:=c1 [] Tryz.func71
noncomputable def qnV:IR:=zq [zm 19 3,zE 20 (.build 85 #[(0,(zt 19))]) 85,zE 21 (.box 85 (zt 20)) 83,zA 5 83,zw 83 (zt 5) (zt 21),za 22 (zl (zv 5)),zE 23 (.makeFunc (.func 71) #[] #[zt 5]) 1,zc 24 54 #[zt 22,zt 23] #[83,1] 4,zm 25 24,zg 25 true 26 (zv 3),zh 25 true 27 73 #[zt 26] #[48] 9,za 2 (.ite (zv 25) (zS .eql (zv 27) (zv 0)) (zQ false))] <| .ret
noncomputable def qn9:IR:=zq [za 2 (zQ false),zm 7 0,zc 8 53 #[zt 7] #[9] 49,zm 6 8,za 9 (ze 0 (zv 6)),za 10 (ze 1 (zv 6)),zA 4 26,zm 3 9,zw 26 (zt 4) (zt 10),za 18 (.ite (zI .neq (zo 0 (zv 4)) (zK 0)) (zQ true) (zI .gtr (zT (zv 0)) (zK 100)))] <| .seq (.cond (zv 18) (zq [za 2 (zQ false)] <| .ret) .skip) (qnV)
def qx9:List Nat:=zV 28 [1,11,12,13,14,15,16,17]
theorem qx8:C1 22 31 qx9 qn9 [.tmp 2]:=c1 [] Tryz.func22
noncomputable def qmy:IR:=zq [za 2 (zQ false),zE 3 (.buildSlice 51 4 #[(0,(zY #[109,111,100])),(1,(zY #[97,110,100])),(2,(zY #[111,114])),(3,(zY #[110,111,116]))]) 51,zm 4 0,zc 5 160 #[zt 3,zt 4] #[51,9] 4,zm 2 5] <| .ret
def qwQ:List Nat:=zV 6 [1]
theorem qwP:C1 75 6 qwQ qmy [.tmp 2]:=c1 [] Tryz.func75
noncomputable def qnK:IR:=zq [zm 9 0,zc 10 76 #[zt 9,zY #[95]] #[9,9] 107,zm 8 10,za 11 (ze 0 (zv 8)),za 12 (ze 1 (zv 8)),za 13 (ze 2 (zv 8)),zm 3 11,zm 4 12,zm 5 13,zm 14 3,zc 15 77 #[zt 14] #[9] 4,zm 16 15,zg 16 true 19 (zn (zv 5)),zg 19 false 20 (zv 4),zh 19 false 21 77 #[zt 20] #[9] 4,za 2 (.ite (zv 16) (.ite (zv 19) (zQ true) (zv 21)) (zQ false))] <| .ret
noncomputable def qnL:IR:=zq [za 2 (zQ false),zm 6 0,zc 7 75 #[zt 6] #[9] 4] <| .seq (.cond (zv 7) (zq [za 2 (zQ true)] <| .ret) .skip) (qnK)
def qx1:List Nat:=zV 22 [1,17,18]
theorem qx0:C1 24 24 qx1 qnL [.tmp 2]:=c1 [] Tryz.func24
section
variable {base B:Nat} {w w':World} {tv nv nv':Value} {L:List Tok} {i f:Nat} {xs:List NV}
def j9 (out:Value) (xs:List NV):Prop:=∀x∈xs,∀k,x.kv.ownBlock=some k→out.ownBlock≠some k
theorem j9.app {c:Value} {a b:List NV} (o:j9 c a) (n:j9 c b):j9 c (a++b):=fun x e=>by
 rcases List.mem_append.1 e with h|h
 ·exact o x h
 ·exact n x h
theorem j9.old {b:Value} {a:List NV} (h:∀x∈a,∀k,x.kv.ownBlock=some k→k<w.heap.size) (c:kr w b):j9 b a:=fun x n k o e=>by
 have:=h x n k o;have:=c k e;omega
theorem j9.new {b:Value} {a:List NV} (h:∀x∈a,kr w x.kv) (c:∀k,b.ownBlock=some k→k<w.heap.size):j9 b a:=fun x n k o e=>by
 have:=h x n k o;have:=c k e;omega
theorem PSt.old (h:PSt base B w tv nv L i f xs):∀x∈xs,∀k,x.kv.ownBlock=some k→k<w.heap.size:=fun x a k b=>((h.kid x a).blk k b).2
theorem PSt.grown (h:PSt base B w tv nv L i f xs) {a:Value} {e sz b:Nat} {cs:List Value} (I:Own b e sz w a cs) (q:w.grownBy w' a.ownBlock) (F:j9 a xs) (S:e≠44) (H:e≠85) (E:e≠53):PSt base B w' tv nv L i f xs:=by
 have ne:∀k cur T,T≠e→w.heap[k]? =some (.cells cur T (0,0))→some k≠a.ownBlock:=fun k cur T R c t=>by
  obtain ⟨z,n⟩:=Own.row I t.symm;rw [c] at n;cases n;exact R rfl
 have keep:∀{C y wl:Nat} {v:Value} {ys:List Value},y≠e→Own C y wl w v ys→Own C y wl w' v ys:=fun J o=>Own.same o fun k c=>by
  obtain ⟨cur,n⟩:=Own.row o c;exact q.block k (Array.getElem?_eq_some_iff.1 n).1 (ne k cur _ J n)
 refine ⟨⟨(q.block B h.blk.lt (ne B _ 85 (Ne.symm H) h.blk.heap)).trans h.blk.heap⟩,keep (Ne.symm E) h.tok,keep (Ne.symm S) h.own,fun x u=>Own.same (h.kid x u) fun k c=>q.block k ((h.kid x u).blk k c).2 fun e=>F x u k c e.symm,h.bB,Nat.le_trans h.bW q.size,h.tl,h.il,h.fl⟩
theorem Tn.grown (h:Tn base B nv nv' w w') {W:World} {row:Option Nat} (a:w'.grownBy W row) (c:∀k,row=some k→w.heap.size≤k) (t:base≤w.heap.size):Tn base B nv nv' w W:=by
 have n:=h.size;refine ⟨⟨a.os.trans h.below.os,a.tape.trans h.below.tape,a.output.trans h.below.output,Nat.le_trans n a.size,fun k b=> ?_⟩,fun k b q o=> ?_,h.row,h.gr⟩
 ·exact (a.block k (by omega) fun e=>by have:=c k e.symm;omega).trans (h.below.block k b)
 ·exact (a.block k (by omega) fun e=>by have:=c k e.symm;omega).trans (h.block k b q o)
theorem Tn.extR (h:Tn base B nv nv' w w') {W:World} (a:qc w' W) (e:base≤w.heap.size):Tn base B nv nv' w W:=
 ⟨h.below.trans (a.mono (Nat.le_trans e h.size)),fun k b n c=>(a.block k (Nat.lt_of_lt_of_le b h.size)).trans (h.block k b n c),h.row,h.gr⟩
end
structure Pu (α:Type) where
 nodes:Nat→α→List Nd
 ev:Nat→α→Value
 μ:α→Nat
 len:∀b a,(nodes b a).length=μ a
section
variable {α:Type} (p:Pu α)
def Pu.ans:Ans α:=⟨p.nodes,fun _ _ b a v=>v=p.ev b a⟩
def Pu.nodesL:Nat→List α→List Nd
 |_,[]=>[]
 |b,a::ls=>p.nodes b a++Pu.nodesL (b+p.μ a) ls
def Pu.evL:Nat→List α→List Value
 |_,[]=>[]
 |b,a::ls=>(p.ev b a).cells.toList++Pu.evL (b+p.μ a) ls
def Pu.ansL (e sz:Nat):Ans (List α):=⟨p.nodesL,fun w w' b l v=>Own w.heap.size e sz w' v (p.evL b l)⟩
theorem Pu.nodesL_snoc (a:α):∀(l:List α) (b:Nat),p.nodesL b (l++[a])=p.nodesL b l++p.nodes (b+(p.nodesL b l).length) a
 |[],b=>by simp [Pu.nodesL]
 |x::l,b=>by
  simp only [List.cons_append,Pu.nodesL,Pu.nodesL_snoc a l,List.length_append,p.len,List.append_assoc,Nat.add_assoc]
theorem Pu.evL_len {sz:Nat} (h:∀b a,(p.ev b a).cells.size=sz):∀(l:List α) (b:Nat),(p.evL b l).length=l.length*sz
 |[],b=>by simp [Pu.evL]
 |x::l,b=>by simp only [Pu.evL,List.length_append,Pu.evL_len h l,List.length_cons,Array.length_toList,h,Nat.add_mul];omega
theorem Pu.evL_snoc (a:α):∀(l:List α) (b:Nat),p.evL b (l++[a])=p.evL b l++(p.ev (b+(p.nodesL b l).length) a).cells.toList
 |[],b=>by simp [Pu.evL,Pu.nodesL]
 |x::l,b=>by
  simp only [List.cons_append,Pu.evL,Pu.evL_snoc a l,Pu.nodesL,List.length_append,p.len,List.append_assoc,Nat.add_assoc]
end
def Bx (B:Nat) (bx:Option Nat) (w:World):Prop:=∀b,bx=some b→Blk w b #[.pointer (some ⟨B,0,none⟩)] 83
theorem Bx.keep {base B:Nat} {w w':World} {tv nv nv':Value} {L:List Tok} {i f:Nat} {xs:List NV} {a:Option Nat} (h:Bx B a w) (n:PSt base B w tv nv L i f xs) (c:Tn base B nv nv' w w'):Bx B a w':=fun b e=>n.var c (h b e) (by decide) (by decide)
theorem Bx.ext {B:Nat} {w w':World} {a:Option Nat} (h:Bx B a w) (c:qc w w'):Bx B a w':=fun b e=>(h b e).ext c
theorem Bx.grown {B:Nat} {w w':World} {o:Option Nat} (h:Bx B o w) {a:Value} {e sz b:Nat} {cs:List Value} (q:Own b e sz w a cs) (u:w.grownBy w' a.ownBlock) (t:e≠83):Bx B o w':=fun b v=>by
 have c:=h b v;refine ⟨(u.block b c.lt fun y=> ?_).trans c.heap⟩;obtain ⟨cur,n⟩:=Own.row q y.symm;rw [c.heap] at n;cases n;exact t rfl
structure FnM {α:Type} (A:Ans α) (bx:Option Nat) (B:Nat) (L:List Tok) (fv:Value) (m:M α):Prop where
 fn:∃F fs caps,fv= .func (.func F) fs caps∧qf Tryz.prog F=true∧∀base w tv nv i f xs,PSt base B w tv nv L i f xs→Bx B bx w→xs.length≤2*i+2→m i f≠ .oof→Calls Tryz.prog F (fs++caps) w (PR A base B tv nv L xs w (m i f))
def atOf (B:Nat) (w:World):Nat:=match w.cell? ⟨B,1,none⟩ with|some (.int _ n)=>n.toNat|_=>0
theorem PSt.atOf {base B:Nat} {w:World} {tv nv:Value} {L:List Tok} {i f:Nat} {xs:List NV} (h:PSt base B w tv nv L i f xs):atOf B w=i:=by
 unfold L02.atOf;rw [h.blk.cell];rfl
theorem qt1:kF Tryz.prog 51=some (9,1,16):=by kernel_rfl
theorem qjS:xX Tryz.prog 51=some (9,1):=by kernel_rfl
@[simp] theorem qEw:qf Tryz.prog 154=true:=by kernel_rfl
theorem qk3 {α:Type} {p:Pu α} {bx:Option Nat} {base B:Nat} {w:World} {tv nv fv:Value} {L:List Tok} {i f:Nat} {xs:List NV} {m:M α} (hf:FnM p.ans bx B L fv m) (hu:Up m) (hz:Sz p.μ 0 m)
  (hc:∀b a,(p.ev b a).cells.size=1∧∀u∈(p.ev b a).cells.toList,u.oneCell'=true) (n:Nat) (h:PSt base B w tv nv L i f xs) (hEw:Bx B bx w) (hn:xs.length≤2*i+2) (ho:listed L n m i f≠ .oof):
  Calls Tryz.prog 154 #[.pointer (some ⟨B,0,none⟩),fv] w (PR (p.ansL 9 1) base B tv nv L xs w (listed L n m i f)):=by
 obtain ⟨F,fs,caps,rfl,hcb,U⟩:=hf.fn;generalize hr:listed L n m i f=r at ho;refine qyN fun ρ r0 r1=> ?_;simp [qoI,r0,r1];refine xT (f:=F) hcb (fs:=fs) (caps:=caps) (by simp) ?_;simp;refine qae (ys:=[]) (xs:=xs) (r:=r) (A':=p.ansL 9 1) (nv:=nv) (w:=w) (k:=fun x=>bnd (more L m n) fun xs=>ret (x::xs)) (fun hno=>by simpa using U base w tv nv i f xs h hEw hn hno) (Tn.refl _ _ _ _) hr ho (fun c w' hp=>by simpa using hp) ?_;intro a j g v nv2 zs w2 hma o C R z Z hv E;simp only [List.append_nil,List.nil_append] at o C hv;change v=p.ev xs.length a at hv;change zs.map (·.nd)=p.nodes xs.length a at C;subst hv;have H:=hc xs.length a;simp;refine xc qjS (by decide) (by decide) (by simpa using H.1) fun X W3 hX hE3 hb3 hsz3=> ?_;simp at hb3;have J:=o.ext hE3;have I:=(hEw.keep h z).ext hE3;have hzz:=hz _ _ _ _ _ hma;have hzl:zs.length=p.μ a:=by rw [←p.len xs.length a,←C,List.length_map]
 simp;refine yR (fun ρ' w'=>∃i' f' nv' ys t S n',ρ' 0= .pointer (some ⟨B,0,none⟩)∧ρ' 1= .func (.func F) fs caps∧ρ' 5=t∧PSt base B w' tv nv' L i' f' (xs++ys)∧ys.map (·.nd)=p.nodesL xs.length S∧(∀y∈ys,kr w y.kv)∧Tn base B nv nv' w w'∧Bx B bx w'∧
   Own w.heap.size 9 1 w' t (p.evL xs.length S)∧j9 t (xs++ys)∧(xs++ys).length≤2*i'+2∧S.length≤i'+1∧(more L m n' i' f').andThen (fun bs j g=> .ok (S++bs) j g)=r) (fun _ w'=>L.length - atOf B w')
  ⟨j,g,nv2,zs, .slice (some ⟨X,0,none⟩) 1 1,[a],n,by simp [r0],by simp [r1],by simp,J,by simpa [Pu.nodesL] using C,R,Z.extR hE3 h.bW,I, ?_, ?_,by simp;omega,by simp, ?_⟩ ?_
 ·have:=Own.lit (base:=w.heap.size) (sz:=1) (n:=1) (cs:=(p.ev xs.length a).cells.toList) (by simpa using hb3) (by simp [H.1]) (by have:=z.size;omega) (by decide);simpa [Pu.evL] using this
 ·refine j9.old (w:=w2) o.old ?_;intro k E;cases E;exact hX
 ·rw [←E];simp only [bnd];cases more L m n j g<;>rfl
 clear E o C R z Z hb3 J I hX hE3 hma hzz hzl hsz3;rintro ρ' w' ⟨i',f',nv',ys,t,S,n',r0,r1,r5,hS,C,R,hT,hEw',hO,hsep,hcnt,hll,hsp⟩;have hat:=hS.atOf;simp [qoF,r0];refine (qdd hS [44]).mono ?_;rintro _ w2 ⟨rfl,o,z⟩;have hEw2:=hEw'.keep hS z;have hO2:=hS.keep z hO (by decide) (by decide);cases n' with
 |zero=>exact absurd hsp.symm ho
 |succ n'=>
  have q:(qe L [44] (listed L n' m) (ret []) i' f').andThen (fun bs j g=> .ok (S++bs) j g)=r:=hsp;unfold qe at q;cases hc2:qg L i' [[44]] with
  |false=>
   rw [hc2] at q o;simp only [Bool.false_eq_true,if_false,ret,Rs.andThen,List.append_nil] at q o;simp [qoG,r5];rw [←q];exact ⟨t,nv',ys,rfl,o,C,R,hT.trans z,hO2⟩
  |true=>
   rw [hc2] at q o;have hlt:=xn hc2;simp only [if_true] at q o;have hsep2:j9 t (xs++ys):=hsep;have hout:∀k,t.ownBlock=some k→k<w2.heap.size:=fun k E=>(hO2.blk k E).2;simp [qoH,r1,r5];refine xT (f:=F) hcb (fs:=fs) (caps:=caps) (by simp [r1]) ?_;simp;have hb:bnd m (fun x=>fun i f=>(more L m n' i f).andThen (fun bs j g=> .ok ((S++[x])++bs) j g)) (i'+1) f'=r:=by
    rw [←q];simp only [listed,bnd];cases m (i'+1) f' with
    |oof=>rfl
    |no g=>rfl
    |ok a j g=>
     have e2:(bnd (more L m n') fun xs=>ret (a::xs)) j g=(more L m n' j g).andThen fun bs j g=> .ok (a::bs) j g:=rfl;simp only [Rs.andThen];rw [e2];cases more L m n' j g<;>simp [Rs.andThen]
   refine qae (ys:=ys) (xs:=xs) (r:=r) (A':=p.ansL 9 1) (nv:=nv) (w:=w) (fun hno=>by simpa using U base w2 tv nv' (i'+1) f' (xs++ys) o hEw2 (by omega) hno) (hT.trans z) hb ho (fun c w' hp=>by simpa using hp) ?_;intro a j g v nv3 zs w3 hma J V hfr3 hT3 Z hv E;change v=p.ev (xs++ys).length a at hv;change zs.map (·.nd)=p.nodes (xs++ys).length a at V;subst hv;have H:=hc (xs++ys).length a;have hO3:=o.keep hT3 hO2 (by decide) (by decide);have I:=hEw2.keep o hT3;have hzz:=hz _ _ _ _ _ hma;have hzl:zs.length=p.μ a:=by rw [←p.len (xs++ys).length a,←V,List.length_map]
   have Y:j9 t (xs++(ys++zs)):=by rw [←List.append_assoc];exact hsep2.app (j9.new hfr3 hout)
   have hyl:ys.length=(p.nodesL xs.length S).length:=by rw [←C,List.length_map]
   have hil3:=J.il;have htl3:=J.tl;have hlen:(p.evL xs.length S).length=(qh t)*1:=(L01.vB hO3).len;simp;refine xc qjS (by decide) (by decide) (by simpa using H.1) fun X W4 hX W hb4 hsz4=> ?_;simp at hb4;have hS4:=J.ext W;have hO4:=hO3.ext W;have hsz4':w.heap.size≤W4.heap.size:=Nat.le_trans Z.size W.size;have hcl:(p.ev (xs++ys).length a).cells.toList.length=1:=by rw [Array.length_toList];exact H.1
   simp;refine qhC qt1 (base:=w.heap.size) (sv:=t) (xv:= .slice (some ⟨X,0,none⟩) 1 1) (xs:=p.evL xs.length S) (news:=(p.ev (xs++ys).length a).cells.toList) hsz4' (by simp [r5]) (by simp) hO4 (Blk.cells (by simpa using hb4) (by simpa using H.1)) H.2 ?_ ?_ fun out' W5 hO5 hg5 hr5=> ?_
   ·rw [p.evL_len (fun b a=>(hc b a).1),hcl];omega
   ·rw [p.evL_len (fun b a=>(hc b a).1),hcl];omega
   have hS5:=hS4.grown hO4 hg5 Y (by decide) (by decide) (by decide);have hEw5:=(I.ext W).grown hO4 hg5 (by decide);have hT5:Tn base B nv nv3 w W5:=(Z.extR W h.bW).grown hg5 (fun k E=>(hO.blk k E).1) h.bW;have hsep5:j9 out' (xs++(ys++zs)):=by
    rcases hr5 with e|e
    ·intro x hx k E;rw [e];exact Y x hx k E
    ·refine j9.old (w:=W4) hS4.old ?_;intro k E;rw [e] at E;cases E;exact Nat.le_refl _
   simp;refine ⟨⟨r0,r1,j,g,nv3,ys++zs,hS5,S++[a], ?_, ?_,hT5,hEw5, ?_,hsep5, ?_, ?_,n',E⟩, ?_⟩
   ·rw [List.map_append,C,V,Pu.nodesL_snoc,←hyl,List.length_append]
   ·intro y hy;rcases List.mem_append.1 hy with hy|hy
    ·exact R y hy
    ·exact (hfr3 y hy).mono (hT.trans z).size
   ·rw [Pu.evL_snoc,←hyl,←List.length_append];exact hO5
   ·simp only [List.length_append] at hcnt⊢;omega
   ·simp;omega
   ·rw [hS5.atOf,hat];omega
theorem qkw:kF Tryz.prog 40=some (3,1,8):=by kernel_rfl
theorem qbl:xX Tryz.prog 40=some (3,1):=by kernel_rfl
@[simp] theorem qDW:qf Tryz.prog 364=true:=by kernel_rfl
theorem quK {α:Type} {p:Pu α} {bx:Option Nat} {base B:Nat} {w:World} {tv nv fv:Value} {L:List Tok} {i f:Nat} {xs:List NV} {m:M α} (hf:FnM p.ans bx B L fv m) (hu:Up m) (hz:Sz p.μ 0 m)
  (hc:∀b a,(p.ev b a).cells.size=1∧∀u∈(p.ev b a).cells.toList,u.oneCell'=true) (n:Nat) (h:PSt base B w tv nv L i f xs) (hEw:Bx B bx w) (hn:xs.length≤2*i+2) (ho:listed L n m i f≠ .oof):
  Calls Tryz.prog 364 #[.pointer (some ⟨B,0,none⟩),fv] w (PR (p.ansL 3 1) base B tv nv L xs w (listed L n m i f)):=by
 obtain ⟨F,fs,caps,rfl,hcb,U⟩:=hf.fn;generalize hr:listed L n m i f=r at ho;refine qxg fun ρ r0 r1=> ?_;simp [qm3,r0,r1];refine xT (f:=F) hcb (fs:=fs) (caps:=caps) (by simp) ?_;simp;refine qae (ys:=[]) (xs:=xs) (r:=r) (A':=p.ansL 3 1) (nv:=nv) (w:=w) (k:=fun x=>bnd (more L m n) fun xs=>ret (x::xs)) (fun hno=>by simpa using U base w tv nv i f xs h hEw hn hno) (Tn.refl _ _ _ _) hr ho (fun c w' hp=>by simpa using hp) ?_;intro a j g v nv2 zs w2 hma o C R z Z hv E;simp only [List.append_nil,List.nil_append] at o C hv;change v=p.ev xs.length a at hv;change zs.map (·.nd)=p.nodes xs.length a at C;subst hv;have H:=hc xs.length a;simp;refine xc qbl (by decide) (by decide) (by simpa using H.1) fun X W3 hX hE3 hb3 hsz3=> ?_;simp at hb3;have J:=o.ext hE3;have I:=(hEw.keep h z).ext hE3;have hzz:=hz _ _ _ _ _ hma;have hzl:zs.length=p.μ a:=by rw [←p.len xs.length a,←C,List.length_map]
 simp;refine yR (fun ρ' w'=>∃i' f' nv' ys t S n',ρ' 0= .pointer (some ⟨B,0,none⟩)∧ρ' 1= .func (.func F) fs caps∧ρ' 5=t∧PSt base B w' tv nv' L i' f' (xs++ys)∧ys.map (·.nd)=p.nodesL xs.length S∧(∀y∈ys,kr w y.kv)∧Tn base B nv nv' w w'∧Bx B bx w'∧
   Own w.heap.size 3 1 w' t (p.evL xs.length S)∧j9 t (xs++ys)∧(xs++ys).length≤2*i'+2∧S.length≤i'+1∧(more L m n' i' f').andThen (fun bs j g=> .ok (S++bs) j g)=r) (fun _ w'=>L.length - atOf B w')
  ⟨j,g,nv2,zs, .slice (some ⟨X,0,none⟩) 1 1,[a],n,by simp [r0],by simp [r1],by simp,J,by simpa [Pu.nodesL] using C,R,Z.extR hE3 h.bW,I, ?_, ?_,by simp;omega,by simp, ?_⟩ ?_
 ·have:=Own.lit (base:=w.heap.size) (sz:=1) (n:=1) (cs:=(p.ev xs.length a).cells.toList) (by simpa using hb3) (by simp [H.1]) (by have:=z.size;omega) (by decide);simpa [Pu.evL] using this
 ·refine j9.old (w:=w2) o.old ?_;intro k E;cases E;exact hX
 ·rw [←E];simp only [bnd];cases more L m n j g<;>rfl
 clear E o C R z Z hb3 J I hX hE3 hma hzz hzl hsz3;rintro ρ' w' ⟨i',f',nv',ys,t,S,n',r0,r1,r5,hS,C,R,hT,hEw',hO,hsep,hcnt,hll,hsp⟩;have hat:=hS.atOf;simp [qm0,r0];refine (qdd hS [44]).mono ?_;rintro _ w2 ⟨rfl,o,z⟩;have hEw2:=hEw'.keep hS z;have hO2:=hS.keep z hO (by decide) (by decide);cases n' with
 |zero=>exact absurd hsp.symm ho
 |succ n'=>
  have q:(qe L [44] (listed L n' m) (ret []) i' f').andThen (fun bs j g=> .ok (S++bs) j g)=r:=hsp;unfold qe at q;cases hc2:qg L i' [[44]] with
  |false=>
   rw [hc2] at q o;simp only [Bool.false_eq_true,if_false,ret,Rs.andThen,List.append_nil] at q o;simp [qm1,r5];rw [←q];exact ⟨t,nv',ys,rfl,o,C,R,hT.trans z,hO2⟩
  |true=>
   rw [hc2] at q o;have hlt:=xn hc2;simp only [if_true] at q o;have hsep2:j9 t (xs++ys):=hsep;have hout:∀k,t.ownBlock=some k→k<w2.heap.size:=fun k E=>(hO2.blk k E).2;simp [qm2,r1,r5];refine xT (f:=F) hcb (fs:=fs) (caps:=caps) (by simp [r1]) ?_;simp;have hb:bnd m (fun x=>fun i f=>(more L m n' i f).andThen (fun bs j g=> .ok ((S++[x])++bs) j g)) (i'+1) f'=r:=by
    rw [←q];simp only [listed,bnd];cases m (i'+1) f' with
    |oof=>rfl
    |no g=>rfl
    |ok a j g=>
     have e2:(bnd (more L m n') fun xs=>ret (a::xs)) j g=(more L m n' j g).andThen fun bs j g=> .ok (a::bs) j g:=rfl;simp only [Rs.andThen];rw [e2];cases more L m n' j g<;>simp [Rs.andThen]
   refine qae (ys:=ys) (xs:=xs) (r:=r) (A':=p.ansL 3 1) (nv:=nv) (w:=w) (fun hno=>by simpa using U base w2 tv nv' (i'+1) f' (xs++ys) o hEw2 (by omega) hno) (hT.trans z) hb ho (fun c w' hp=>by simpa using hp) ?_;intro a j g v nv3 zs w3 hma J V hfr3 hT3 Z hv E;change v=p.ev (xs++ys).length a at hv;change zs.map (·.nd)=p.nodes (xs++ys).length a at V;subst hv;have H:=hc (xs++ys).length a;have hO3:=o.keep hT3 hO2 (by decide) (by decide);have I:=hEw2.keep o hT3;have hzz:=hz _ _ _ _ _ hma;have hzl:zs.length=p.μ a:=by rw [←p.len (xs++ys).length a,←V,List.length_map]
   have Y:j9 t (xs++(ys++zs)):=by rw [←List.append_assoc];exact hsep2.app (j9.new hfr3 hout)
   have hyl:ys.length=(p.nodesL xs.length S).length:=by rw [←C,List.length_map]
   have hil3:=J.il;have htl3:=J.tl;have hlen:(p.evL xs.length S).length=(qh t)*1:=(L01.vB hO3).len;simp;refine xc qbl (by decide) (by decide) (by simpa using H.1) fun X W4 hX W hb4 hsz4=> ?_;simp at hb4;have hS4:=J.ext W;have hO4:=hO3.ext W;have hsz4':w.heap.size≤W4.heap.size:=Nat.le_trans Z.size W.size;have hcl:(p.ev (xs++ys).length a).cells.toList.length=1:=by rw [Array.length_toList];exact H.1
   simp;refine qhC qkw (base:=w.heap.size) (sv:=t) (xv:= .slice (some ⟨X,0,none⟩) 1 1) (xs:=p.evL xs.length S) (news:=(p.ev (xs++ys).length a).cells.toList) hsz4' (by simp [r5]) (by simp) hO4 (Blk.cells (by simpa using hb4) (by simpa using H.1)) H.2 ?_ ?_ fun out' W5 hO5 hg5 hr5=> ?_
   ·rw [p.evL_len (fun b a=>(hc b a).1),hcl];omega
   ·rw [p.evL_len (fun b a=>(hc b a).1),hcl];omega
   have hS5:=hS4.grown hO4 hg5 Y (by decide) (by decide) (by decide);have hEw5:=(I.ext W).grown hO4 hg5 (by decide);have hT5:Tn base B nv nv3 w W5:=(Z.extR W h.bW).grown hg5 (fun k E=>(hO.blk k E).1) h.bW;have hsep5:j9 out' (xs++(ys++zs)):=by
    rcases hr5 with e|e
    ·intro x hx k E;rw [e];exact Y x hx k E
    ·refine j9.old (w:=W4) hS4.old ?_;intro k E;rw [e] at E;cases E;exact Nat.le_refl _
   simp;refine ⟨⟨r0,r1,j,g,nv3,ys++zs,hS5,S++[a], ?_, ?_,hT5,hEw5, ?_,hsep5, ?_, ?_,n',E⟩, ?_⟩
   ·rw [List.map_append,C,V,Pu.nodesL_snoc,←hyl,List.length_append]
   ·intro y hy;rcases List.mem_append.1 hy with hy|hy
    ·exact R y hy
    ·exact (hfr3 y hy).mono (hT.trans z).size
   ·rw [Pu.evL_snoc,←hyl,←List.length_append];exact hO5
   ·simp only [List.length_append] at hcnt⊢;omega
   ·simp;omega
   ·rw [hS5.atOf,hat];omega
section
variable {α β:Type} {A:Ans α} {A':Ans β} {L:List Tok} {m:M α} {k:α→M β} {r:Rs β} {base B:Nat} {w w1:World} {tv nv nv1:Value} {i f:Nat} {xs zs:List NV} {K:qa→World→Prop} {Q:Ks} {ρ:qa} {d:Option Nat}
theorem kD (C:∀b a,A.nodes b a=[]) {F:FuncId} {args:Array Value} (E:∃ys,zs=xs++ys) (I:m i f≠ .oof→Calls Tryz.prog F args w1 (PR A base B tv nv1 L zs w1 (m i f))) (J:Tn base B nv nv1 w w1) (u:bnd m k i f=r) (z:r≠ .oof)
  (hpn:∀c w',PR A' base B tv nv L xs w r (.panicked c) w'→Q.pn ρ c w')
  (h:∀a j g v nv2 w2,m i f= .ok a j g→PSt base B w2 tv nv2 L j g zs→Tn base B nv1 nv2 w1 w2→Tn base B nv nv2 w w2→A.val w1 w2 zs.length a v→k a j g=r→K (qk ρ d v) w2):
  Calls Tryz.prog F args w1 (jR Q d K ρ):=by
 obtain ⟨ys,rfl⟩:=E;refine qae (xs:=xs) (ys:=ys) (r:=r) (A':=A') I J u z hpn ?_;intro a j g v nv2 y w2 n t e _ q o R H;rw [C] at e;obtain rfl:y=[]:=by simpa using e
 simp only [List.append_nil] at t;exact h a j g v nv2 w2 n t q o R H
theorem wI {s:Bs} {x y:M β} (t:∃ys,zs=xs++ys) (o:PSt base B w1 tv nv1 L i f zs) (h:Tn base B nv nv1 w w1) (c:qe L s x y i f=r)
  (q:∀w2,qg L i [s]=true→PSt base B w2 tv nv1 L (i+1) f zs→Tn base B nv1 nv1 w1 w2→Tn base B nv nv1 w w2→x (i+1) f=r→K (qk ρ d (.bool true)) w2)
  (n:∀w2,qg L i [s]=false→PSt base B w2 tv nv1 L i f zs→Tn base B nv1 nv1 w1 w2→Tn base B nv nv1 w w2→y i f=r→K (qk ρ d (.bool false)) w2):
  Calls Tryz.prog 117 #[.pointer (some ⟨B,0,none⟩), .string (qb s)] w1 (jR Q d K ρ):=by
 refine (qdd o s).mono ?_;rintro _ w2 ⟨rfl,a,b⟩;rw [qcd];unfold qe at c;cases e:qg L i [s] with
 |true=>
  rw [e] at c a;simp only [if_true] at c a;exact q w2 e a b (h.trans b) c
 |false=>
  rw [e] at c a;simp only [Bool.false_eq_true,if_false] at c a;exact n w2 e a b (h.trans b) c
theorem wR {ty:TypeId} (c:PSt base B w1 tv nv1 L i f zs) (e:Tn base B nv nv1 w w1) (n:base≤w.heap.size) (s:Bs) (h:∀v w2,qc w1 w2→PSt base B w2 tv nv1 L i f zs→Tn base B nv nv1 w w2→Own 0 9 1 w2 v ([s].map qi)→K (qk ρ d v) w2):
  qm Tryz.prog Q d (.buildSlice 51 1 #[(0, .const (.string ⟨s.toArray⟩))]) ty K ρ w1:=by
 refine xc qah (by decide) (by simp) (by simp [Value.cells]) fun X W o b a _=> ?_;simp [Value.cells] at a;exact h _ W b (c.ext b) (e.extR b n) (Own.lit (sz:=1) (cs:=[qi s]) (by simpa [qi,qb] using a) (by simp) (Nat.zero_le _) (by decide))
theorem wJ {ss:List Bs} {k:Unit→M β} {v:Value} (y:∃ys,zs=xs++ys) (C:PSt base B w1 tv nv1 L i f zs) (a:Own 0 9 1 w1 v (ss.map qi)) (b:ss.length<4611686018427387904) (E:Tn base B nv nv1 w w1) (t:bnd (needs L ss) k i f=r) (u:r≠ .oof)
  (hpn:∀c w',PR A' base B tv nv L xs w r (.panicked c) w'→Q.pn ρ c w')
  (h:∀j g nv2 w2,needs L ss i f= .ok () j g→PSt base B w2 tv nv2 L j g zs→Tn base B nv1 nv2 w1 w2→Tn base B nv nv2 w w2→k () j g=r→K (qk ρ d (.tuple #[])) w2):
  Calls Tryz.prog 153 #[.pointer (some ⟨B,0,none⟩),v] w1 (jR Q d K ρ):=
 kD (A:=aU) (A':=A') (fun _ _=>rfl) y (fun _=>quH C a b) E t u hpn fun _ j g v nv2 w2 e q o n a z=>by
  change v=_ at a;subst a;exact h j g nv2 w2 e q o n z
end
section
variable {L:List Tok} {base B:Nat} {w w':World} {tv nv nv':Value} {i f:Nat} {xs:List NV}
theorem yr {r:Rs Unit} (c:PSt base B w' tv nv' L i f xs) (a:Tn base B nv nv' w w') (b:ret () i f=r):PR aU base B tv nv L xs w r (.returned (.tuple #[])) w':=by
 rw [←b];exact ⟨_,nv',[],rfl,by simpa using c,rfl,by simp,a,rfl⟩
theorem qaN {r:Rs Bs} {s:Bs} (c:PSt base B w' tv nv' L i f xs) (b:Tn base B nv nv' w w') (a:ret s i f=r):PR aS base B tv nv L xs w r (.returned (.string (qb s))) w':=by
 rw [←a];exact ⟨_,nv',[],rfl,by simpa using c,rfl,by simp,b,rfl⟩
theorem jD (xs:List NV):∃ys,xs=xs++ys:=⟨[],by simp⟩
end
def pS:Pu Bs:=⟨fun _ _=>[],fun _ s=> .string (qb s),fun _=>0,fun _ _=>rfl⟩
@[simp] theorem qDT:qf Tryz.prog 72=true:=by kernel_rfl
@[simp] theorem qEv:qf Tryz.prog 156=true:=by kernel_rfl
theorem quC {L:List Tok} {k:M Unit} (S:Mt aU L 72 me k) (hu:Up k):Mt aS L 155 me (z6 L k):=by
 intro base B w tv nv i f xs I hn a;generalize b:z6 L k i f=r at a;have U:=I.bW;refine qyL fun ρ r0=> ?_;simp [qoE,r0];refine kD (A:=aS) (A':=aS) (nv:=nv) (w:=w) (fun _ _=>rfl) (jD xs) (fun _=>qaq I) (Tn.refl _ _ _ _) b a (fun c w' q=>by simpa using q) ?_;intro s j g v nv2 w2 t E Y e hv b;simp [r0];refine wR E e U [58] fun v2 w3 V y h u=> ?_;simp;refine wJ (A':=aS) (jD xs) y u (by simp) h b a (fun c w' q=>by simpa using q) ?_;intro W g2 z J C F Z o b;simp [r0];have hj:=((jC _).ok C).1;have R:=(kf.ok t).1;refine kD (A:=aU) (A':=aS) (nv:=nv) (w:=w) (fun _ _=>rfl) (jD xs) (fun a=>S base B J tv z W g2 xs F (by omega) a) o b a (fun c w' q=>by simpa using q) ?_;intro _ j5 g5 v5 aa w5 _ H hT5 n hv5 b;simp;exact qaN (s:=[]) H n b
theorem qpz {L:List Tok} {k:M Unit} (e:Mt aU L 72 me k) (c:Up k) (B:Nat):FnM pS.ans none B L (.func (.func 155) #[.pointer (some ⟨B,0,none⟩)] #[]) (z6 L k):=
 ⟨155,_,_,rfl,by kernel_rfl,fun base w tv nv i f xs h _ b a=>quC e c base B w tv nv i f xs h b a⟩
theorem qjr {L:List Tok} {k:M Unit} (a:Up k):Sz pS.μ 0 (z6 L k):=qjo (qbb a)
theorem qlc (b:Nat) (s:Bs):(pS.ev b s).cells.size=1∧∀u∈(pS.ev b s).cells.toList,u.oneCell'=true:=⟨rfl,by simp [pS,Value.cells,Value.oneCell']⟩
theorem qgd:∀(b:Nat) (l:List Bs),(pS.ansL 9 1).nodes b l=[]
 |_,[]=>rfl
 |b,_::l=>qgd b l
theorem qf3 {L:List Tok}:∀n,Mt aU L 72 me (kind L n)
 |0=>fun _ _ _ _ _ _ _ _ _ _ h=>absurd rfl h
 |n+1=>by
  have ih:=qf3 (L:=L) n;intro base B w tv nv i f xs hS hn o;generalize e:kind L (n+1) i f=r at o;have hb:=hS.bW;refine qwT fun ρ r0=> ?_;simp [qmD,r0];refine wI (s:=[105,110,116]) (w:=w) (nv:=nv) (xs:=xs) (jD xs) hS (Tn.refl _ _ _ _) e (fun w1 R z aa t e=> ?_) (fun w1 R z aa t e=> ?_)
  ·simp;exact yr z t e
  simp [r0];refine wI (s:=[98,111,111,108]) (w:=w) (nv:=nv) (xs:=xs) (jD xs) z t e (fun w1 R z aa t e=> ?_) (fun w1 R z aa t e=> ?_)
  ·simp;exact yr z t e
  simp [r0];refine wI (s:=[110,117,108,108]) (w:=w) (nv:=nv) (xs:=xs) (jD xs) z t e (fun w1 R z aa t e=> ?_) (fun w1 R z aa t e=> ?_)
  ·simp;exact yr z t e
  simp [r0];refine wI (s:=[97,114,114,97,121]) (w:=w) (nv:=nv) (xs:=xs) (jD xs) z t e (fun w2 R hS2 hT2 V e=> ?_) (fun w2 R hS2 hT2 V e=> ?_)
  ·simp [r0];refine wR hS2 V hb [91] fun v3 w3 hE3 v q hv3=> ?_;simp;refine wJ (A':=aU) (jD xs) v hv3 (by simp) q e o (fun c w' y=>by simpa using y) ?_;intro j g nv4 w4 W S hT4 E e;have hj:=((jC _).ok W).1;simp [r0];refine kD (A:=aU) (A':=aU) (nv:=nv) (w:=w) (fun _ _=>rfl) (jD xs) (fun o=>ih base B w4 tv nv4 j g xs S (by omega) o) E e o (fun c w' y=>by simpa using y) ?_;intro _ j5 g5 v5 nv5 w5 hk5 C Z u hv5 e;simp [r0];refine wR C u hb [93] fun v6 w6 hE6 J H ae=> ?_;simp;refine wJ (A':=aU) (k:=ret) (jD xs) J ae (by simp) H (by rw [Ql];exact e) o (fun c w' y=>by simpa using y) ?_;intro j7 g7 nv7 w7 hne7 U hT7 F e;simp;exact yr U F e
  simp [r0];refine wI (s:=[114,101,99,111,114,100]) (w:=w) (nv:=nv) (xs:=xs) (jD xs) hS2 V e (fun w3 R v ab q e=> ?_) (fun w3 R v ab q e=> ?_)
  ·simp [r0];refine wR v q hb [91] fun v4 w4 hE4 S E ad=> ?_;simp;refine wJ (A':=aU) (jD xs) S ad (by simp) E e o (fun c w' y=>by simpa using y) ?_;intro j g nv5 w5 W C Z u e;have hj:=((jC _).ok W).1;simp [r0];refine kD (A:=pS.ansL 9 1) (A':=aU) (m:=listed L n (z6 L (kind L n))) (nv:=nv) (w:=w) (fun _ a=>qgd _ a) (jD xs) (fun o=>qk3 (qpz ih (wE n) B) (qbb (wE n)) (qjr (wE n)) qlc n C (fun b h=>by cases h) (by omega) o) u e o (fun c w' y=>by simpa using y) ?_;intro _ j6 g6 v6 nv6 w6 hk6 J hT6 H ae e;simp [r0];refine wR J H hb [93] fun v7 w7 hE7 U F Y=> ?_;simp;refine wJ (A':=aU) (k:=ret) (jD xs) U Y (by simp) F (by rw [Ql];exact e) o (fun c w' y=>by simpa using y) ?_;intro j8 g8 nv8 w8 af ac hT8 I e;simp;exact yr ac I e
  simp [r0];refine wI (s:=[111,110,101,111,102]) (w:=w) (nv:=nv) (xs:=xs) (jD xs) v q e (fun w3 R v ab q e=> ?_) (fun w3 R v ab q e=> ?_)
  ·simp [r0];refine wR v q hb [91] fun v4 w4 hE4 S E ad=> ?_;simp;refine wJ (A':=aU) (jD xs) S ad (by simp) E e o (fun c w' y=>by simpa using y) ?_;intro j g nv5 w5 W C Z u e;have hj:=((jC _).ok W).1;simp [r0];refine kD (A:=pS.ansL 9 1) (A':=aU) (m:=listed L n (z6 L (kind L n))) (nv:=nv) (w:=w) (fun _ a=>qgd _ a) (jD xs) (fun o=>qk3 (qpz ih (wE n) B) (qbb (wE n)) (qjr (wE n)) qlc n C (fun b h=>by cases h) (by omega) o) u e o (fun c w' y=>by simpa using y) ?_;intro _ j6 g6 v6 nv6 w6 hk6 J hT6 H ae e;simp [r0];refine wR J H hb [93] fun v7 w7 hE7 U F Y=> ?_;simp;refine wJ (A':=aU) (k:=ret) (jD xs) U Y (by simp) F (by rw [Ql];exact e) o (fun c w' y=>by simpa using y) ?_;intro j8 g8 nv8 w8 af ac hT8 I e;simp;exact yr ac I e
  simp [r0];refine wI (s:=[63]) (w:=w) (nv:=nv) (xs:=xs) (jD xs) v q e (fun w3 R v ab q e=> ?_) (fun w3 R v ab q e=> ?_)
  ·simp [r0];refine kD (A:=aU) (A':=aU) (nv:=nv) (w:=w) (k:=ret) (fun _ _=>rfl) (jD xs) (fun _=>quD v) q (by rw [Ql];exact e) o (fun c w' y=>by simpa using y) ?_;intro _ j5 g5 v5 nv5 w5 _ C Z u hv5 e;simp;exact yr C u e
  simp [r0];refine kD (A:=aS) (A':=aU) (nv:=nv) (w:=w) (fun _ _=>rfl) (jD xs) (fun _=>qaq v) q e o (fun c w' y=>by simpa using y) ?_;intro s j4 g4 v4 nv4 w4 hna S hT4 E ad e;have hj:=(kf.ok hna).1;simp [r0];refine wI (s:=[91]) (w:=w) (nv:=nv) (xs:=xs) (jD xs) S E e (fun w5 R C Z u e=> ?_) (fun w5 R C Z u e=> ?_)
  ·simp [r0];refine kD (A:=aU) (A':=aU) (nv:=nv) (w:=w) (fun _ _=>rfl) (jD xs) (fun o=>ih base B w5 tv nv4 (j4+1) g4 xs C (by omega) o) u e o (fun c w' y=>by simpa using y) ?_;intro _ j6 g6 v6 nv6 w6 hk6 J hT6 H ae e;simp [r0];refine wR J H hb [93] fun v7 w7 hE7 U F Y=> ?_;simp;refine wJ (A':=aU) (k:=ret) (jD xs) U Y (by simp) F (by rw [Ql];exact e) o (fun c w' y=>by simpa using y) ?_;intro j8 g8 nv8 w8 af ac hT8 I e;simp;exact yr ac I e
  ·simp;exact yr C u e
@[simp] theorem qDS:qf Tryz.prog 73=true:=by kernel_rfl
@[simp] theorem qDP:qf Tryz.prog 89=true:=by kernel_rfl
@[simp] theorem qDO:qf Tryz.prog 90=true:=by kernel_rfl
theorem qrd:vh Tryz.prog 114=some #[.pointer none, .slice none 0 0]:=by kernel_rfl
theorem Bd.ext {B b:Nat} {o:Bs} {w w':World} (h:Bd B b o w) (a:qc w w'):Bd B b o w':=by
 rcases h with h|h
 all_goals
  have e:=h.lt;obtain ⟨u,v,t,n,c⟩:=h;have q:w'.ownsRow B 5 1 v (o.map jf).length (o.map jf):=by
   have:=n.kept (w':=w') (row:=none) ⟨a.os,a.tape,a.output,a.size,fun k y _=>a.block k y⟩ (by cases v.ownBlock<;>simp);simpa using this
 ·exact .inl ⟨u,v,(a.block b e).trans t,q,c⟩
 ·exact .inr ⟨u,v,(a.block b e).trans t,q,c⟩
def xf (L:List Tok):Prop:=∀t∈L,t.text.length≤20
theorem qwz {L:List Tok} (h:xf L):(vm L).length≤20*L.length:=by
 induction L with
 |nil=>simp [vm]
 |cons t L a=>
  have n:=h t (by simp);have c:=a fun x b=>h x (by simp [b]);have e:vm (t::L)=t.text++vm L:=by simp [vm]
  rw [e,List.length_append,List.length_cons];omega
theorem qwy (L:List Tok) (t:Tok):vm (L++[t])=vm L++t.text:=by simp [vm]
theorem qk4 {w:World} {v:Value} {a:List Tok} (E:SlK w v a) (I:xf a) (hn:a.length≤20000):Calls Tryz.prog 73 #[v] w fun e w'=>e= .returned (.string (qb (vm a)))∧qc w w':=by
 refine qwR fun ρ r0=> ?_;simp [qmC,r0,E.is,E.len];refine qK qrd fun b W hb hE J _=> ?_;have y:Bd b b [] W:= .inl ⟨Nat.le_refl _, .slice none 0 0,J.heap,World.ownsRow_nil _ _ _ _,by simp [Value.ownBlock]⟩;have hbW:=J.lt;simp [r0,E.is,E.len];refine ko 8 a.length (fun k q w'=>q 3= .pointer (some ⟨b,0,none⟩)∧q 6=v∧q 7= .int .i64 (a.length:Int)∧Bd b b (vm (a.take k)) w'∧Below b W w') (by simp) ⟨by simp,by simp,by simp,by simpa [vm] using y,Below.refl _ _⟩ ?_;rintro k q w' hk r8 ⟨r3,r6,r7,S,c⟩;have F:∀{w'},Below b W w'→qc w w':=fun h=>Below.trans hE (h.mono hb);have V:=F c;have z:=E.ext V;by_cases u:k<a.length
 ·obtain ⟨c0,c1,c2⟩:=z.cell k u;have hle:(vm (a.take k)).length≤20*k:=by
   have:=qwz (L:=a.take k) (fun t ht=>I t (List.mem_of_mem_take ht));rw [List.length_take] at this;omega
  have hsl:=I a[k] (List.getElem_mem u);simp [qgE,qmA,r8,r7,r6,r3,u,z.is,z.len,c0,c1,c2];refine qK Qd fun X W2 hX hE2 Y _=> ?_;simp;refine jg (B:=X) (by simp) Y (by simp [Value.cells]) (by simp [Value.cells]) (by simpa [Value.cells] using yD) fun W3 Z H=> ?_;simp [Value.cells] at H;have C:qc w' W3:=Z.ext hE2 hX;simp [(xE H).2.1,r3];refine (L01.qBq a[k].text (Bd.ext S C) (by omega) (by have:=c.size;have:=C.size;omega)).mono ?_;rintro _ W4 ⟨rfl,R,o⟩;simp [qmB,r8,r3,r6,r7,jG (n:=(k:Int)+1) (by omega)];refine ⟨?_,c.trans ((C.mono (by have:=c.size;omega)).trans o)⟩;have:a.take (k+1)=a.take k++[a[k]]:=by rw [List.take_succ_eq_append_getElem u]
  rw [this,qwy];exact R
 ·have U:k=a.length:=by omega
  subst U;simp [qgE,qmz,r8,r7,r3];rw [List.take_length] at S;refine (L01.b_string S (by have:=c.size;omega)).mono ?_;rintro _ W4 ⟨rfl,o⟩;simp;exact F (c.trans o)
theorem qsO {w:World} {v:Value} {b:List Tok} (h:SlK w v b) {l r:Nat} (o:l≤r) (t:r≤b.length):SlK w (qL v 3 l r (qx v)) (vZ b l r):=by
 have u:=qgx h.is;have y:=h.len;have a:(vZ b l r).length=r - l:=by unfold vZ;rw [List.length_drop,List.length_take];omega
 refine ⟨QA h.is 3 l r (qx v) o (by omega) (Nat.le_refl _),by rw [qcP 3 l r _ h.is,a],by rw [a];have:=h.bd;omega,fun j e=> ?_⟩;rw [a] at e;have n:(vZ b l r)[j]'(by rw [a];exact e)=b[l+j]'(by omega):=by
  unfold vZ;rw [List.getElem_drop,List.getElem_take]
 obtain ⟨c0,c1,c2⟩:=h.cell (l+j) (by omega);have c:∀q,qM (qL v 3 l r (qx v)) q=qM v (l*3+q):=fun q=>qcQ 3 l r (qx v) q h.is (by omega) (by omega);rw [c,c,c,n];refine ⟨?_, ?_, ?_⟩
 ·rw [←c0];congr 2;omega
 ·rw [←c1];congr 2;omega
 ·rw [←c2];congr 2;omega
theorem qsY {L:List Tok} (h:xf L) (i j:Nat):xf (vZ L i j):=fun t a=>h t (List.mem_of_mem_take (List.mem_of_mem_drop a))
@[simp] theorem qEm:qf Tryz.prog 202=true:=by kernel_rfl
@[simp] theorem qEc:qf Tryz.prog 276=true:=by kernel_rfl
@[simp] theorem qDZ:qf Tryz.prog 327=true:=by kernel_rfl
theorem qkZ {L:List Tok} (U:xf L) (n:Nat):Mt aS L 202 me (jw L n):=by
 intro base B w tv nv i f xs q S a;have R:=q.bW;have F:=q.tl;generalize t:jw L n i f=r at a;have z:bnd (kind L n) (fun _=>fun j g=> .ok (vm (vZ L i j)) j g) i f=r:=t;refine qyu fun ρ r0=> ?_;simp [qok,r0,q.blk.cell];refine kD (A:=aU) (A':=aS) (nv:=nv) (w:=w) (fun _ _=>rfl) (jD xs) (fun a=>qf3 n base B w tv nv i f xs q S a) (Tn.refl _ _ _ _) z a (fun c w' W=>by simpa using W) ?_;intro _ j g v nv2 w2 J e V h Y t;have y:=((wE n).ok J).1;have o:=e.slk;have u:=e.il;have C:=qgx o.is;have H:=o.len;simp;simp [r0,e.blk.cell];rw [if_pos ⟨o.is,by omega,by omega⟩];simp;refine ⟨.string (qb (vm (vZ L i j))),fun w' E=> ?_,fun I b=> ?_⟩
 ·refine (qk4 (qsO (o.ext E) y u) (qsY U i j) (by unfold vZ;rw [List.length_drop,List.length_take];omega)).mono ?_;rintro _ I ⟨rfl,b⟩;exact ⟨rfl,E.trans' b⟩
 ·simp [qoj];exact qaN (e.ext b) (h.extR b R) t
theorem qcN {W:World} {X:Nat} {l:List Bs} (b:Blk W X (l.map qi).toArray 9) (c:l.length≤1000):qP W (.slice (some ⟨X,0,none⟩) l.length l.length) l:=by
 refine ⟨by simp [qt],by simp [qh],by omega,fun j a=> ?_⟩;simp only [qM,Nat.zero_add];rw [b.cell];simp [a]
@[simp] theorem qDR:qf Tryz.prog 75=true:=by kernel_rfl
theorem qk5 (s:Bs) (w:World):Calls Tryz.prog 75 #[.string (qb s)] w fun e w'=>e= .returned (.bool (ke.contains s))∧qc w w':=by
 refine qwP fun ρ r0=> ?_;simp [qmy,r0];refine xc qah (by decide) (by decide) (by simp [Value.cells]) fun X W c b a _=> ?_;simp [Value.cells] at a;simp [r0];refine (L01.qfw (l:=ke) s (qcN (l:=ke) (by simpa [ke,qi,qb] using a) (by decide))).mono ?_;rintro _ _ ⟨rfl,rfl⟩;simp;exact b
theorem qgj (x y:Bs):qb x++qb y=qb (x++y):=by
 apply ByteArray.ext;show ((qb x).append (qb y)).data=_;rw [ByteArray.append_eq,ByteArray.data_append];simp [qb]
section
variable {base B:Nat} {w w':World} {tv nv nv':Value} {L:List Tok} {i f:Nat} {xs:List NV}
theorem qjd (a:xf L) (i:Nat):(tk L i).text.length≤20:=by
 by_cases h:i<L.length
 ·rw [kz h];exact a _ (List.getElem_mem h)
 ·rw [kw (by omega)];simp
theorem qlx (a:xf L) {i f j g:Nat} {s:Bs} (h:name L i f= .ok s j g):s.length≤20:=by
 unfold name at h;split at h
 ·cases h;exact qjd a i
 ·cases h
end
theorem quG {L:List Tok} (hL:xf L):Mt aS L 327 me (op L):=by
 intro base B w tv nv i f xs h hn F;have htl:=h.tl;have hil:=h.il;have E:=h.bW;generalize o:op L i f=r at F;refine qxm fun ρ r0=> ?_;simp [qm9,r0];refine (Qu h 0 (by decide)).mono ?_;rintro _ w1 ⟨rfl,hE⟩;simp;refine qK Qd fun X W hX hE1 hb _=> ?_;simp;refine jg (B:=X) (by simp) hb (by simp [Value.cells,xg]) (by simp [Value.cells,xg]) (by simpa [Value.cells] using yD) fun W2 hO2 I=> ?_;simp [Value.cells,xg] at I;obtain ⟨c0,c1,c2⟩:=xE I;have q:qc w W2:=hO2.ext (hE.trans' hE1) (by have:=hE.size;omega);have hS:=h.ext q;have hXB:X≠B:=by have:=h.blk.lt;have:=hE.size;omega
 have e:∀J,PSt base B J tv nv L i f xs→Tn base B nv nv w J→¬((tk L i).kind=2∧ke.contains (tk L i).text=true)→∀H:qa,H 0= .pointer (some ⟨B,0,none⟩)→
   qgK.wp ⟨Tryz.prog,31,qm8,[]⟩ (qz [.tmp 2] (PR aS base B tv nv L xs w r)) (jd [.tmp 2] (PR aS base B tv nv L xs w r)) H J:=by
  intro J a hT3 t H r0;have y:bnd (name L) (fun s=>qe L [95] (bnd (name L) fun u=>ret (s++([95]++u))) (ret s)) i f=r:=by
   rw [←o,←Ql (op L)];exact (qvk t).symm
  simp [qgK,r0];refine kD (A:=aS) (A':=aS) (nv:=nv) (w:=w) (fun _ _=>rfl) (jD xs) (fun _=>qaq a) hT3 y F (fun c w' hp=>by simpa using hp) ?_;intro s j g v nv4 w4 hna C U R hv o;change v=_ at hv;subst hv;have hsl:=qlx hL hna;simp [r0];refine wI (s:=[95]) (w:=w) (nv:=nv) (xs:=xs) (jD xs) C R o (fun w5 t z hT5 n o=> ?_) (fun w5 t z hT5 n o=> ?_)
  ·simp [r0];refine kD (A:=aS) (A':=aS) (nv:=nv) (w:=w) (fun _ _=>rfl) (jD xs) (fun _=>qaq z) n o F (fun c w' hp=>by simpa using hp) ?_;intro u j6 g6 v6 nv6 w6 ab hS6 hT6 Y Z o;change v6=_ at Z;subst Z;have hul:=qlx hL ab;have e1:(⟨#[95]⟩:ByteArray)=qb [95]:=rfl;simp only [qiS,qiL,gd,if_true,Ex.ev,qrA,e1];simp [qgj,e1];rw [if_pos (by unfold maxLen;omega)];simp [qgj,kj];rw [if_pos (by unfold maxLen;omega)];simp [qgL];exact qaN hS6 Y (by simpa using o)
  ·simp [qgL];exact qaN z n o
 by_cases h2:(tk L i).kind=2
 ·simp [c0,c1,h2];refine (qk5 (tk L i).text W2).mono ?_;rintro _ J ⟨rfl,b⟩;have a:=hS.ext b;have c1':=b.cell c1;by_cases t:ke.contains (tk L i).text=true
  ·have hlt:=xM h2 (by decide);have e1:IntKind.i64.wrap ((i:Int)+1)=((i+1:Nat):Int):=by rw [jG (by omega)];push_cast;rfl
   have y:r= .ok (tk L i).text (i+1) f:=by rw [←o];exact qvj h2 t
   rw [t];simp [r0,a.blk.cell,e1];refine qS (B:=B) (i:=1) (by simp) a.blk (by simp) (by simp [Value.cells]) (by simp) jS fun W4 aa S=> ?_;simp at S;have hb5:Blk W4 B #[tv, .int .i64 ((i+1:Nat):Int), .int .i64 (f:Int),nv] 85:=by simpa using S
   obtain ⟨C,U⟩:=a.move aa hb5 hlt h.fl;have V:W4.cell? ⟨X,1,none⟩=some (.string (qb (tk L i).text)):=(xE (aa.blk (I.ext b) hXB)).2.1;simp [V];exact qaN C ((Tn.ext (q.trans' b) E).trans U) y.symm
  ·have hc':ke.contains (tk L i).text=false:=by simpa using t
   rw [hc'];simp;exact e J a (Tn.ext (q.trans' b) E) (fun h=>t h.2) _ (by simp [r0])
 ·have h2':¬((tk L i).kind:Int)=2:=by omega
  simp [c0,h2'];exact e W2 hS (Tn.ext q E) (fun h=>h2 h.1) _ (by simp [r0])
theorem qk1 {L:List Tok} (S:xf L) (n:Nat):Mt aS L 276 me (q7 L n):=by
 intro base B w tv nv i f xs E J a;have H:=E.bW;generalize b:q7 L n i f=r at a;refine qxN fun ρ r0=> ?_;simp [qnv,r0];refine kD (A:=aS) (A':=aS) (nv:=nv) (w:=w) (fun _ _=>rfl) (jD xs) (fun a=>qkZ S n base B w tv nv i f xs E J a) (Tn.refl _ _ _ _) b a (fun c w' z=>by simpa using z) ?_;intro s j g v nv2 w2 _ u U e C b;change v=_ at C;subst C;simp [r0];refine wR u e H [36] fun v3 Z I t h q=> ?_;simp;refine wJ (A':=aS) (jD xs) t q (by simp) h b a (fun c w' z=>by simpa using z) ?_;intro j4 W F Y R y V o b;simp;exact qaN y o b
theorem Own.down {b a e sz:Nat} {w:World} {v:Value} {ys:List Value} (h:Own b e sz w v ys) (q:a≤b):Own a e sz w v ys:=by
 rcases h with h|⟨g,off,n,cap,cur,rfl,o,c⟩
 ·exact .inl h
 ·exact .inr ⟨g,off,n,cap,cur,rfl,by omega,c⟩
def pT:Pu T:=⟨fun b t=>t.flat b,fun b t=> .int .i64 ((b:Int)+t.size - 1),T.size,fun b t=>T.flat_len t b⟩
theorem qu4 (b:Nat) (t:T):(pT.ev b t).cells.size=1∧∀u∈(pT.ev b t).cells.toList,u.oneCell'=true:=⟨rfl,by simp [pT,Value.cells,Value.oneCell']⟩
theorem qlq:∀(l:List T) (b:Nat),pT.nodesL b l=flats b l
 |[],_=>rfl
 |t::l,b=>by simp only [Pu.nodesL,flats,qlq l];rfl
theorem qpR:∀(l:List T) (b:Nat),pT.evL b l=(qu b l).map encI
 |[],_=>rfl
 |t::l,b=>by
  simp only [Pu.evL,qu,qpR l,List.map_cons];rfl
structure NVr (B X:Nat) (nv:Value) (W:World) (x:NV):Prop where
 blk:Blk W X (qj x).toArray 44
 neB:X≠B
 neR:nv.ownBlock≠some X
structure Cu (base B:Nat) (w:World) (tv nv:Value) (L:List Tok) (xs:List NV) (w1:World) (nv1:Value) (i f:Nat) (ys:List NV):Prop where
 st:PSt base B w1 tv nv1 L i f (xs++ys)
 tn:Tn base B nv nv1 w w1
 fr:∀y∈ys,kr w y.kv
 b0:base≤w.heap.size
section
variable {base B X:Nat} {w w1 w2:World} {tv nv nv1 nv2:Value} {L:List Tok} {i f j g:Nat} {xs ys zs:List NV} {x:NV}
theorem NVr.turn (h:NVr B X nv1 w1 x) (a:Tn base B nv1 nv2 w1 w2):NVr B X nv2 w2 x:=⟨a.blk h.blk h.neB h.neR,h.neB,a.ne h.blk.lt h.neR⟩
theorem NVr.ext (h:NVr B X nv1 w1 x) (a:qc w1 w2):NVr B X nv1 w2 x:=⟨h.blk.ext a,h.neB,h.neR⟩
theorem Cu.start (h:PSt base B w tv nv L i f xs):Cu base B w tv nv L xs w nv i f []:=⟨by simpa using h,Tn.refl _ _ _ _,by simp,h.bW⟩
theorem Cu.ext (h:Cu base B w tv nv L xs w1 nv1 i f ys) (a:qc w1 w2):Cu base B w tv nv L xs w2 nv1 i f ys:=⟨h.st.ext a,h.tn.extR a h.b0,h.fr,h.b0⟩
theorem Cu.more (h:Cu base B w tv nv L xs w1 nv1 i f ys) (e:PSt base B w2 tv nv2 L j g (xs++(ys++zs))) (c:Tn base B nv1 nv2 w1 w2) (b:∀z∈zs,kr w1 z.kv):Cu base B w tv nv L xs w2 nv2 j g (ys++zs):=
 ⟨e,h.tn.trans c,fun y a=>by
  rcases List.mem_append.1 a with a|a
  ·exact h.fr y a
  ·exact (b y a).mono h.tn.size,h.b0⟩
theorem Cu.size (h:Cu base B w tv nv L xs w1 nv1 i f ys):w.heap.size≤w1.heap.size:=h.tn.size
theorem Cu.keep (h:Cu base B w tv nv L xs w1 nv1 i f ys) (n:Tn base B nv1 nv2 w1 w2) {b e sz:Nat} {v:Value} {a:List Value} (c:Own b e sz w1 v a) (q:e≠44) (o:e≠85):Own b e sz w2 v a:=h.st.keep n c q o
theorem Cu.newN (h:Cu base B w tv nv L xs w1 nv1 i f ys) (c:w1.heap.size≤X) (b:qc w1 w2) (a:Blk w2 X (qj x).toArray 44):NVr B X nv1 w2 x:=
 ⟨a,fun e=>by have:=h.st.blk.lt;omega,fun e=>by have:=(h.st.own.blk X e).2;omega⟩
theorem Cu.put (h:Cu base B w tv nv L xs w1 nv1 i f ys) (q:NVr B X nv1 w1 x) (F:w.heap.size≤X) (c:Only X w1 w2):Cu base B w tv nv L xs w2 nv1 i f ys:=by
 have keep:∀{b e sz:Nat} {v:Value} {t:List Value},e≠44→Own b e sz w1 v t→Own b e sz w2 v t:=fun E u=>Own.same u fun k o=>by
  obtain ⟨cur,z⟩:=Own.row u o;refine c.block k fun e=> ?_;subst e;have:=q.blk.heap;rw [z] at this;cases this;exact E rfl
 have a:=h.st;refine ⟨⟨c.blk a.blk q.neB.symm,keep (by decide) a.tok,Own.same a.own fun k o=>c.block k fun e=>q.neR (e▸o),fun x C=>keep (by decide) (a.kid x C),a.bB,by rw [c.size];exact a.bW,a.tl,a.il,a.fl⟩, ?_,h.fr,h.b0⟩;have n:=h.tn;have I:=n.size;refine ⟨n.below.trans (kY c (Nat.le_trans h.b0 F)),fun k o H y=> ?_,n.row,n.gr⟩;rw [c.block k (by omega)];exact n.block k o H y
end
section
variable {α β:Type} {A:Ans α} {A':Ans β} {L:List Tok} {m:M α} {k:α→M β} {r:Rs β} {base B X:Nat} {w w1:World} {tv nv nv1:Value} {i f:Nat} {xs ys:List NV} {K:qa→World→Prop} {Q:Ks} {ρ:qa} {d:Option Nat}
theorem qaf {F:FuncId} {args:Array Value} (E:m i f≠ .oof→Calls Tryz.prog F args w1 (PR A base B tv nv1 L (xs++ys) w1 (m i f))) (o:Cu base B w tv nv L xs w1 nv1 i f ys) (q:bnd m k i f=r) (t:r≠ .oof)
  (hpn:∀c w',PR A' base B tv nv L xs w r (.panicked c) w'→Q.pn ρ c w')
  (h:∀a j g v nv2 zs w2,m i f= .ok a j g→Cu base B w tv nv L xs w2 nv2 j g (ys++zs)→zs.map (·.nd)=A.nodes (xs++ys).length a→Tn base B nv1 nv2 w1 w2→A.val w1 w2 (xs++ys).length a v→k a j g=r→K (qk ρ d v) w2):
  Calls Tryz.prog F args w1 (jR Q d K ρ):=
 qae (xs:=xs) (ys:=ys) (r:=r) (A':=A') E o.tn q t hpn fun a j g v nv2 zs w2 e C n y b z H u=>
  h a j g v nv2 zs w2 e (o.more C b y) n b H u
theorem qsF (z:∀b a,A.nodes b a=[]) {F:FuncId} {args:Array Value} (E:m i f≠ .oof→Calls Tryz.prog F args w1 (PR A base B tv nv1 L (xs++ys) w1 (m i f))) (y:Cu base B w tv nv L xs w1 nv1 i f ys) (t:bnd m k i f=r) (u:r≠ .oof)
  (hpn:∀c w',PR A' base B tv nv L xs w r (.panicked c) w'→Q.pn ρ c w')
  (h:∀a j g v nv2 w2,m i f= .ok a j g→Cu base B w tv nv L xs w2 nv2 j g ys→Tn base B nv1 nv2 w1 w2→A.val w1 w2 (xs++ys).length a v→k a j g=r→K (qk ρ d v) w2):
  Calls Tryz.prog F args w1 (jR Q d K ρ):=
 qaf (A':=A') E y t u hpn fun a j g v nv2 zs w2 o e n q H C=>by
  rw [z] at n;obtain rfl:zs=[]:=by simpa using n
  simp only [List.append_nil] at e;exact h a j g v nv2 w2 o e q H C
theorem wK {F:FuncId} (q:Mt A L F me m) (e:Cu base B w tv nv L xs w1 nv1 i f ys) (o:(xs++ys).length≤2*i+2) (n:bnd m k i f=r) (t:r≠ .oof)
  (hpn:∀c w',PR A' base B tv nv L xs w r (.panicked c) w'→Q.pn ρ c w')
  (h:∀a j g v nv2 zs w2,m i f= .ok a j g→Cu base B w tv nv L xs w2 nv2 j g (ys++zs)→zs.map (·.nd)=A.nodes (xs++ys).length a→Tn base B nv1 nv2 w1 w2→A.val w1 w2 (xs++ys).length a v→k a j g=r→K (qk ρ d v) w2):
  Calls Tryz.prog F #[.pointer (some ⟨B,0,none⟩)] w1 (jR Q d K ρ):=
 qaf (A':=A') (fun b=>q base B w1 tv nv1 i f (xs++ys) e.st o b) e n t hpn h
theorem qbi (t:∀b a,A.nodes b a=[]) {F:FuncId} (y:Mt A L F me m) (n:Cu base B w tv nv L xs w1 nv1 i f ys) (u:(xs++ys).length≤2*i+2) (o:bnd m k i f=r) (q:r≠ .oof)
  (hpn:∀c w',PR A' base B tv nv L xs w r (.panicked c) w'→Q.pn ρ c w')
  (h:∀a j g v nv2 w2,m i f= .ok a j g→Cu base B w tv nv L xs w2 nv2 j g ys→Tn base B nv1 nv2 w1 w2→A.val w1 w2 (xs++ys).length a v→k a j g=r→K (qk ρ d v) w2):
  Calls Tryz.prog F #[.pointer (some ⟨B,0,none⟩)] w1 (jR Q d K ρ):=
 qsF (A':=A') t (fun e=>y base B w1 tv nv1 i f (xs++ys) n.st u e) n o q hpn h
theorem yi {s:Bs} {x y:M β} (b:Cu base B w tv nv L xs w1 nv1 i f ys) (c:qe L s x y i f=r)
  (q:∀w2,qg L i [s]=true→Cu base B w tv nv L xs w2 nv1 (i+1) f ys→Tn base B nv1 nv1 w1 w2→x (i+1) f=r→K (qk ρ d (.bool true)) w2)
  (o:∀w2,qg L i [s]=false→Cu base B w tv nv L xs w2 nv1 i f ys→Tn base B nv1 nv1 w1 w2→y i f=r→K (qk ρ d (.bool false)) w2):
  Calls Tryz.prog 117 #[.pointer (some ⟨B,0,none⟩), .string (qb s)] w1 (jR Q d K ρ):=
 wI (xs:=xs) ⟨ys,rfl⟩ b.st b.tn c (fun w2 e n h a c=>q w2 e ⟨n,a,b.fr,b.b0⟩ h c) (fun w2 e n h a c=>o w2 e ⟨n,a,b.fr,b.b0⟩ h c)
theorem yS {ty:TypeId} (a:Cu base B w tv nv L xs w1 nv1 i f ys) (s:Bs) (h:∀v w2,qc w1 w2→Cu base B w tv nv L xs w2 nv1 i f ys→Own 0 9 1 w2 v ([s].map qi)→K (qk ρ d v) w2):
  qm Tryz.prog Q d (.buildSlice 51 1 #[(0, .const (.string ⟨s.toArray⟩))]) ty K ρ w1:=
 wR a.st a.tn a.b0 s fun v w2 b n c e=>h v w2 b ⟨n,c,a.fr,a.b0⟩ e
theorem Qx {ss:List Bs} {k:Unit→M β} {v:Value} (a:Cu base B w tv nv L xs w1 nv1 i f ys) (z:Own 0 9 1 w1 v (ss.map qi)) (b:ss.length<4611686018427387904) (o:bnd (needs L ss) k i f=r) (q:r≠ .oof)
  (hpn:∀c w',PR A' base B tv nv L xs w r (.panicked c) w'→Q.pn ρ c w')
  (h:∀j g nv2 w2,needs L ss i f= .ok () j g→Cu base B w tv nv L xs w2 nv2 j g ys→Tn base B nv1 nv2 w1 w2→k () j g=r→K (qk ρ d (.tuple #[])) w2):
  Calls Tryz.prog 153 #[.pointer (some ⟨B,0,none⟩),v] w1 (jR Q d K ρ):=
 wJ (A':=A') ⟨ys,rfl⟩ a.st z b a.tn o q hpn fun j g nv2 w2 e u y n t=>h j g nv2 w2 e ⟨u,n,a.fr,a.b0⟩ y t
theorem kL (b:Cu base B w tv nv L xs w1 nv1 i f ys) (x:NV) (c:Own w.heap.size 3 1 w1 x.kv (x.nd.kids.map encI)) (n:(xs++ys).length≤1000000)
  (h:∀nv2 w2,Cu base B w tv nv L xs w2 nv2 i f (ys++[x])→Tn base B nv1 nv2 w1 w2→K (qk ρ d (.int .i64 ((xs++ys).length:Int))) w2):
  Calls Tryz.prog 140 #[.pointer (some ⟨B,0,none⟩), .agg (qj x).toArray] w1 (jR Q d K ρ):=by
 refine (quZ b.st x (Own.down c (Nat.zero_le _)) n).mono ?_;rintro _ w2 ⟨rfl,nv2,o,e⟩;rw [qcd];refine h nv2 w2 ⟨by simpa using o,b.tn.trans e,fun y a=> ?_,b.b0⟩ e;rcases List.mem_append.1 a with a|a
 ·exact b.fr y a
 ·obtain rfl:y=x:=by simpa using a
  exact Own.fresh c
theorem qbG {t:TypeId} {ty:TypeId} {p v:Operand} {c:Nat} {x x':NV} (y:Cu base B w tv nv L xs w1 nv1 i f ys) (a:NVr B X nv1 w1 x) (C:w.heap.size≤X) (z:qd ρ p= .pointer (some ⟨X,c,none⟩)) (o:c<(qj x).toArray.size)
  (u:(qd ρ v).cells= #[qd ρ v]) (E:(qd ρ v).oneCell=true) (q:jo Tryz.prog t 1=true) (b:(qj x).toArray.set c (qd ρ v) o=(qj x').toArray)
  (h:∀W,Only X w1 W→Cu base B w tv nv L xs W nv1 i f ys→NVr B X nv1 W x'→K (qk ρ d undef) W):qm Tryz.prog Q d (.store t p v) ty K ρ w1:=by
 refine qS z a.blk o u E q fun W n e=> ?_;rw [b] at e;exact h W n (y.put a C n) ⟨e,a.neB,a.neR⟩
theorem qf9 {b e sz:Nat} {w2:World} {v:Value} {c:List Value} {x:NV} (t:NVr B X nv1 w1 x) (n:Only X w1 w2) (a:Own b e sz w1 v c) (o:e≠44):Own b e sz w2 v c:=Own.same a fun k q=>by
 obtain ⟨cur,h⟩:=Own.row a q;refine n.block k fun e=> ?_;subst e;have:=t.blk.heap;rw [h] at this;cases this;exact o rfl
end
section
variable {L:List Tok} {base B:Nat} {w w':World} {tv nv nv':Value} {i f:Nat} {xs ys:List NV}
theorem qpI {r:Rs T} {t:T} {v:Value} (a:Cu base B w tv nv L xs w' nv' i f ys) (b:ys.map (·.nd)=t.flat xs.length) (e:v= .int .i64 ((xs.length:Int)+t.size - 1)) (c:ret t i f=r):PR aT base B tv nv L xs w r (.returned v) w':=by
 rw [←c];exact ⟨_,nv',ys,rfl,a.st,b,a.fr,a.tn,e⟩
theorem qb5 {x:NV} {d:D} {ks:List T} {b:Nat} (h:ys.map (·.nd)=flats b ks) (a:x.nd=⟨d,qu b ks⟩):(ys++[x]).map (·.nd)=(T.mk d ks).flat b:=by
 rw [List.map_append,h];simp [T.flat,a]
theorem qbu {d:D} {ks:List T} (h:ys.map (·.nd)=flats xs.length ks):Value.int .i64 ((xs.length:Int)+(ys.length:Int))= .int .i64 ((xs.length:Int)+(T.mk d ks).size - 1):=by
 have e:ys.length=sizes ks:=by rw [←flats_len ks xs.length,←h,List.length_map]
 rw [e,xY];congr 1;omega
theorem qd6 {r:Rs T} {x:NV} {d:D} {ks:List T} (c:Cu base B w tv nv L xs w' nv' i f (ys++[x])) (a:ys.map (·.nd)=flats xs.length ks) (e:x.nd=⟨d,qu xs.length ks⟩) (b:ret (T.mk d ks) i f=r):
  PR aT base B tv nv L xs w r (.returned (.int .i64 ((xs.length:Int)+(ys.length:Int)))) w':=
 qpI c (qb5 a e) (qbu a) b
end
@[simp] theorem qDX:qf Tryz.prog 353=true:=by kernel_rfl
theorem quX {α:Type} {p:Pu α} {bx:Option Nat} {base B:Nat} {w:World} {tv nv fv:Value} {L:List Tok} {i f:Nat} {xs:List NV} {m:M α} (hf:FnM p.ans bx B L fv m) (hu:Up m) (hz:Sz p.μ 0 m)
  (hc:∀b a,(p.ev b a).cells.size=1∧∀u∈(p.ev b a).cells.toList,u.oneCell'=true) (n:Nat) (h:PSt base B w tv nv L i f xs) (V:Bx B bx w) (hn:xs.length≤2*i+2) (o:vM L n m i f≠ .oof):
  Calls Tryz.prog 353 #[.pointer (some ⟨B,0,none⟩),fv] w (PR (p.ansL 3 1) base B tv nv L xs w (vM L n m i f)):=by
 generalize hr:vM L n m i f=r at o;have ac:bnd (needs L [[40]]) (fun _=>qe L [41] (ret []) (bnd (listed L n m) fun l=>bnd (needs L [[41]]) fun _=>ret l)) i f=r:=hr;have hC:=Cu.start h;refine qxi fun ρ r0 r1=> ?_;simp [qm6,r0,r1];refine yS hC [40] fun v1 w1 S F ae=> ?_;simp;refine Qx (A':=p.ansL 3 1) F ae (by simp) ac o (fun c w' C=>by simpa using C) ?_;intro j g nv2 w2 Y J Z U;have hj:=(qaU _ _ _ _ _ Y);have E:=(V.ext S).keep F.st Z;simp [r0];refine yi J U (fun w3 W e I t=> ?_) (fun w3 W e I t=> ?_)
 ·simp;rw [←t];exact ⟨.slice none 0 0,nv2,[],rfl,e.st,rfl,by simp,e.tn,Own.nil _ _ _ _⟩
 ·simp [qm5,r0,r1];refine qaf (A:=p.ansL 3 1) (A':=p.ansL 3 1) (fun ho=>quK hf hu hz hc n e.st (E.keep J.st I) (by simp;omega) ho) e t o (fun c w' C=>by simpa using C) ?_;intro l j4 g4 v4 nv4 zs w4 hl z q hT4 y ag;simp only [List.nil_append,List.append_nil] at z q y;simp [r0];refine yS z [41] fun v5 w5 R H ad=> ?_;simp;refine Qx (A':=p.ansL 3 1) H ad (by simp) ag o (fun c w' C=>by simpa using C) ?_;intro j6 g6 aa w6 hne6 v af ab;simp;rw [←ab];refine ⟨v4,aa,zs,rfl,v.st,q,v.fr,v.tn, ?_⟩;exact H.keep af ((Own.down y e.size).ext R) (by decide) (by decide)
theorem NVr.row {B X:Nat} {nv:Value} {W:World} {x:NV} (h:NVr B X nv W x):Eng.jq W ⟨X,0,none⟩ 0 6=some (qj x):=by
 have:=kW h.blk;simpa [qj] using this
@[simp] theorem qEB:qf Tryz.prog 140=true:=by kernel_rfl
@[simp] theorem qDU:qf Tryz.prog 62=true:=by kernel_rfl
@[simp] theorem qD0:qf Tryz.prog 326=true:=by kernel_rfl
@[simp] theorem qEe:qf Tryz.prog 274=true:=by kernel_rfl
@[simp] theorem qEb:qf Tryz.prog 277=true:=by kernel_rfl
theorem z44:vh Tryz.prog 44=some #[.int .u8 0, .string ⟨#[]⟩, .string ⟨#[]⟩, .string ⟨#[]⟩, .int .i64 0, .slice none 0 0]:=by kernel_rfl
theorem qfa:jo Tryz.prog 40 1=true:=by kernel_rfl
theorem sz9:jo Tryz.prog 9 1=true:=by kernel_rfl
theorem qzw {L:List Tok} {e:M T} (c:Mt aT L 62 me e) (B:Nat):FnM pT.ans none B L (.func (.func 62) #[.pointer (some ⟨B,0,none⟩)] #[]) e:=
 ⟨62,_,_,rfl,by kernel_rfl,fun base w tv nv i f xs h _ b a=>c base B w tv nv i f xs h b a⟩
theorem qla {L:List Tok} {e:M T} (H:Mt aT L 62 me e) (C:Up e) (E:Sz T.size 0 e) (n:Nat):Mt aTs L 326 me (vM L n e):=by
 intro base B w tv nv i f xs u F a;have R:=u.bW;generalize t:vM L n e i f=r at a;refine qxn fun ρ r0=> ?_;simp [qna,r0];refine qaf (A:=pT.ansL 3 1) (A':=aTs) (k:=ret) (fun z=>quX (qzw H B) C E qu4 n (by simpa using u) (fun b h=>by cases h) (by simpa using F) z) (Cu.start u) (by rw [Ql];exact t) a (fun c w' I=>by simpa using I) ?_;intro l j g v nv2 zs w2 S q o J y t;simp only [List.nil_append,List.append_nil] at q o y;simp;rw [←t];refine ⟨v,nv2,zs,rfl,q.st, ?_,q.fr,q.tn, ?_⟩
 ·rw [o];exact qlq l _
 ·have:Own w.heap.size 3 1 w2 v (pT.evL xs.length l):=y;rw [qpR] at this;exact this
def q4 (k:Nat) (nm vr ty:Bs) (n:Int) (kv:Value) (kids:List Int):NV:=⟨⟨⟨k,nm,vr,ty,n⟩,kids⟩,kv⟩
theorem quI {L:List Tok} (hL:xf L) {e:M T} (he:Mt aT L 62 me e) (hu:Up e) (hz:Sz T.size 0 e) (n:Nat):Mt aT L 274 me (x6 L n e):=by
 intro base B w tv nv i f xs hS hn u;generalize hr:x6 L n e i f=r at u;have hil:=hS.il;have htl:=hS.tl;refine qxR fun ρ r0=> ?_;simp [qny,r0];refine qbi (A:=aS) (A':=aT) (fun _ _=>rfl) (F:=120) (fun _ _ _ _ _ _ _ _ h _ _=>qaq h) (Cu.start hS) (by simpa using hn) hr u (fun c w' E=>by simpa using E) ?_;intro s j g v nv1 w1 hna H hT1 hv hr1;change v=_ at hv;subst hv;have hj:=qaV _ _ _ _ _ hna;simp;have bu:Tryz.prog.built 44 [(0, .int .u8 5),(1, .string (qb s))]=some (qj (q4 5 s [] [] 0 (.slice none 0 0) [])).toArray:=by kernel_rfl
 rw [bu];dsimp only [jF];refine qb8 z44 (by simp) (by simp [Value.cells,qj]) (by simp [Value.cells,qj,q4]) (by kernel_rfl) fun X w2 hX ae ac _=> ?_;simp [Value.cells] at ac;have ab:=H.newN hX ae ac;have hC2:=H.ext ae;have Z:w.heap.size≤X:=Nat.le_trans H.size hX;simp [r0];have rest:∀(ty:Bs) z C j3 g3 y,Cu base B w tv nv L xs z C j3 g3 []→NVr B X C z (q4 5 s [] ty 0 (.slice none 0 0) [])→i≤j3→bnd (vM L n e) (fun ks=>ret (T.mk {kind:=5,name:=s,typ:=ty} ks)) j3 g3=r→
   y 0= .pointer (some ⟨B,0,none⟩)→y 3= .pointer (some ⟨X,0,none⟩)→qgO.wp ⟨Tryz.prog,21,qnx,[]⟩ (qz [.tmp 2] (PR aT base B tv nv L xs w r)) (jd [.tmp 2] (PR aT base B tv nv L xs w r)) y z:=by
  intro ty z C j3 g3 y b R hij t r0 r3;have hjl:=b.st.il;simp [qgO,r0,r3];refine wK (A:=aTs) (A':=aT) (qla he hu hz n) b (by simp;omega) t u (fun c w' E=>by simpa using E) ?_;intro ks j4 g4 v4 nv4 zs w4 hks q o I a W;simp only [List.nil_append,List.append_nil] at q o a;change Own _ _ _ _ _ _ at a;change zs.map (·.nd)=flats xs.length ks at o;have Y:=R.turn I;have hz4:=qbd hz n _ _ _ _ _ hks;have hjl4:=q.st.il;have hzl:zs.length=sizes ks:=by rw [←flats_len ks xs.length,←o,List.length_map]
  simp [r3];refine qbG (c:=5) (x':=q4 5 s [] ty 0 v4 (qu xs.length ks)) q Y Z (by simp) (by simp [qj]) (by simpa using zH a.isl) (by simpa using xO a.isl) qfa (by simp [qj,q4]) fun w5 aa J U=> ?_;simp [r0,r3,U.row];refine kL J (q4 5 s [] ty 0 v4 (qu xs.length ks)) (qf9 Y aa (Own.down a b.size) (by decide)) (by simp;omega) fun nv6 w6 S hT6=> ?_;simp;exact qd6 S o rfl W
 refine yi hC2 hr1 (fun z hc3 b V t=> ?_) (fun z hc3 b V t=> ?_)
 ·have R:=ab.turn V;simp [r0];refine qbi (A:=aS) (A':=aT) (fun _ _=>rfl) (qkZ hL n) b (by simp;omega) t u (fun c w' E=>by simpa using E) ?_;intro ty j4 g4 v4 nv4 w4 hty q I a W;change v4=_ at a;subst a;have hj4:=((QZ n).ok hty).1;simp;refine qbG (c:=3) (x':=q4 5 s [] ty 0 (.slice none 0 0) []) q (R.turn I) Z (by simp) (by simp [qj]) (by simp [Value.cells]) (by simp) sz9 (by simp [qj,q4]) fun w5 aa J U=> ?_;simp [r0];refine yS J [125] fun v6 w6 hE6 S hv6=> ?_;simp;refine Qx (A':=aT) S hv6 (by simp) W u (fun c w' E=>by simpa using E) ?_;intro j7 g7 nv7 w7 ad hC7 hT7 hr7;have hj7:=qaU _ _ _ _ _ ad;exact rest ty w7 nv7 j7 g7 _ hC7 ((U.ext hE6).turn hT7) (by omega) hr7 (by simp [r0]) (by simp)
 ·exact rest [] z nv1 j g _ b (ab.turn V) (by omega) t (by simp [r0]) (by simp)
theorem qk2 {L:List Tok} (hL:xf L) {e:M T} (he:Mt aT L 62 me e) (hu:Up e) (hz:Sz T.size 0 e) (n:Nat) (o:Bs):Mt aT L 277 (fun v=> #[v, .string (qb o)]) (vk L n e o):=by
 intro base B w tv nv i f xs J hn t;generalize hr:vk L n e o i f=r at t;have hil:=J.il;have htl:=J.tl;refine qxL fun ρ r0 r1=> ?_;simp [qnu,r0,r1];refine qbi (A:=aS) (A':=aT) (fun _ _=>rfl) (F:=327) (quG hL) (Cu.start J) (by simpa using hn) hr t (fun c w' E=>by simpa using E) ?_;intro s j g v nv1 w1 Z h hT1 hv Y;change v=_ at hv;subst hv;have hj:=qia _ _ _ _ _ Z;have hil1:=h.st.il;simp;have bu:Tryz.prog.built 44 [(0, .int .u8 5),(2, .string (qb o)),(1, .string (qb s))]=some (qj (q4 5 s o [] 0 (.slice none 0 0) [])).toArray:=by kernel_rfl
 rw [bu];dsimp only [jF];refine qb8 z44 (by simp) (by simp [Value.cells,qj]) (by simp [Value.cells,qj,q4]) (by kernel_rfl) fun X w2 hX C y _=> ?_;simp [Value.cells] at y;have V:=h.newN hX C y;have z:=h.ext C;have H:w.heap.size≤X:=Nat.le_trans h.size hX;simp [r0];refine wK (A:=aTs) (A':=aT) (qla he hu hz n) z (by simp;omega) Y t (fun c w' E=>by simpa using E) ?_;intro ks j4 g4 v4 nv4 zs w4 aa q a I b ab;simp only [List.nil_append,List.append_nil] at q a b;change Own _ _ _ _ _ _ at b;change zs.map (·.nd)=flats xs.length ks at a;have u:=V.turn I;have hz4:=qbd hz n _ _ _ _ _ aa;have ac:=q.st.il;have hzl:zs.length=sizes ks:=by rw [←flats_len ks xs.length,←a,List.length_map]
 simp;refine qbG (c:=5) (x':=q4 5 s o [] 0 v4 (qu xs.length ks)) q u H (by simp) (by simp [qj]) (by simpa using zH b.isl) (by simpa using xO b.isl) qfa (by simp [qj,q4]) fun w5 S R W=> ?_;simp [r0,W.row];refine kL R (q4 5 s o [] 0 v4 (qu xs.length ks)) (qf9 u S (Own.down b z.size) (by decide)) (by simp;omega) fun nv6 w6 U hT6=> ?_;simp;exact qd6 U a rfl ab
theorem quE {L:List Tok} (J:xf L) {e:M T} (he:Mt aT L 62 me e) (W:Up e) (Z:Sz T.size 0 e) (n:Nat) {base B:Nat} {w w1:World} {tv nv nv1:Value} {i f:Nat} {xs ys:List NV} {β:Type} {A':Ans β} {k:T→M β} {r:Rs β} {K:qa→World→Prop} {Q:Ks} {ρ:qa} {d:Option Nat} (Y:Cu base B w tv nv L xs w1 nv1 i f ys) (hn:(xs++ys).length≤2*i+2)
  (S:bnd (q7 L n) (fun s=>bnd (vk L n e s) k) i f=r) (I:r≠ .oof)
  (hpn:∀ρ c w',PR A' base B tv nv L xs w r (.panicked c) w'→Q.pn ρ c w')
  (h1:∀s w2 nv2 j g,Cu base B w tv nv L xs w2 nv2 j g ys→Tn base B nv1 nv2 w1 w2→(∀{u:Option Nat} {K2:qa→World→Prop} {a:qa},(∀t j g v nv2 zs w2,Cu base B w tv nv L xs w2 nv2 j g (ys++zs)→zs.map (·.nd)=t.flat (xs++ys).length→v= .int .i64 (((xs++ys).length:Int)+t.size - 1)→k t j g=r→K2 (qk a u v) w2)→Calls Tryz.prog 277 #[.pointer (some ⟨B,0,none⟩), .string (qb s)] w2 (jR Q u K2 a))→K (qk ρ d (.string (qb s))) w2):
  Calls Tryz.prog 276 #[.pointer (some ⟨B,0,none⟩)] w1 (jR Q d K ρ):=by
 refine qbi (A:=aS) (A':=A') (fun _ _=>rfl) (qk1 J n) Y hn S I (hpn ρ) ?_;intro s j g v nv2 w2 F b E R o;change v=_ at R;subst R;have hj:=((yB n).ok F).1;refine h1 s w2 nv2 j g b E fun {u K2 a} U=> ?_;refine qaf (A:=aT) (A':=A') (fun z=>qk2 J he W Z n s base B w2 tv nv2 j g (xs++ys) b.st (by omega) z) b o I (hpn a) ?_;intro t j3 g3 v3 C zs w3 ht y h V q H;exact U t j3 g3 v3 C zs w3 y h q H
section
variable {P:Program} {Q:Ks} {d:Option Nat} {ty:TypeId} {K:qa→World→Prop} {ρ:qa} {w:World}
theorem qzQ {x:Operand} {t b:TypeId} (a:P.underlying t=some (.interface (P.methodsAt t))) (h:qd ρ x= .nilIface) (c:K (qk ρ d (.bool false)) w):qm P Q d (.binOp .neq t x (.const .nilIface) b) ty K ρ w:=by
 refine jk (v:= .bool false) (w':=w) ?_ c;have:=run_equal_nil_nil (P:=P) (w:=w) t a;simp [execOp,qA,h,eqGuard_nil_constR,binOp,this]
theorem qzP {x:Operand} {t b u:TypeId} {v:Value} (a:P.underlying t=some (.interface (P.methodsAt t))) (h:qd ρ x= .iface u v) (c:K (qk ρ d (.bool true)) w):qm P Q d (.binOp .neq t x (.const .nilIface) b) ty K ρ w:=by
 refine jk (v:= .bool true) (w':=w) ?_ c;have:=run_equal_held_nil (P:=P) (w:=w) t u v a;simp [execOp,qA,h,eqGuard,binOp,this]
end
noncomputable def qdE (v:Value):IR:=zq [za 7 (.const v),zm 4 7,zm 8 4,zE 9 (.binOp .neq 20 (zt 8) (.const .nilIface) 20) 4] <| .cond (zv 9) (zq [zm 11 4,zE 12 (.typeAssert (zt 11) 20 153 true) 154,zm 10 12,za 13 (ze 0 (zv 10)),za 14 (ze 1 (zv 10)),zA 5 153,zw 153 (zt 5) (zt 13),zm 6 14,za 16 (zn (zv 6))] <| .seq (.cond (zv 16) (.reg [zm 17 4, .eff none none (.panic (zt 17)) 0]) .skip) (qpk)) .skip
theorem qwx (v:Value):(qN Tryz.prog Tryz.f116.ntmps qdY [5] (Qh v (Tryz.f116.body.getD .skip))).map IR.norm=some (qdE v):=by kernel_rfl
theorem ql9 {v0 a b v3:Value} {u:FrameMode} {w:World} {R:Ending→FrameMode→World→Prop} (h:∀ρ:qa,ρ 0=v0→ρ 1=a→ρ 2=b→ρ 3=v3→(qdE (vR u)).wp ⟨Tryz.prog,31,qdY,[]⟩ (yH [] (zD u) R) (qam [] (zD u) R) ρ w):
  CallsDIn Fence.wide 0 Tryz.prog 116 #[v0,a,b,v3] u w R:=by
 obtain ⟨e,n,o⟩:=Option.map_eq_some_iff.1 (qwx (vR u));exact qqp (args:= #[v0,a,b,v3]) Tryz.func116 (c:=Tryz.f116.body.getD .skip) rfl (by kernel_rfl) n o (by kernel_rfl) (show vu Tryz.prog qdY Tryz.f116.results.toList=some [] by kernel_rfl) (Nat.le_of_ble_eq_true rfl) (h _ rfl rfl rfl rfl)
theorem qrJ:∃ds,Tryz.prog.underlying 153=some ds∧∀m,ds≠ .interface m:=by
 have h:vx (Tryz.prog.underlying 153)=true:=by kernel_rfl
 unfold vx at h;split at h
 ·rename_i fs b;exact ⟨_,b,fun m a=>by cases a⟩
 ·cases h
theorem qrc:vh Tryz.prog 153=some #[]:=by kernel_rfl
theorem qst:jo Tryz.prog 153 0=true:=by kernel_rfl
theorem z4:vh Tryz.prog 4=some #[.bool false]:=by kernel_rfl
theorem z3:vh Tryz.prog 3=some #[.int .i64 0]:=by kernel_rfl
theorem z9:vh Tryz.prog 9=some #[.string ⟨#[]⟩]:=by kernel_rfl
theorem sz4:jo Tryz.prog 4 1=true:=by kernel_rfl
@[simp] theorem qDV:qf Tryz.prog 54=true:=by kernel_rfl
@[simp] theorem qaX:qf Tryz.prog 116=true:=by kernel_rfl
@[simp] theorem qEd:qf Tryz.prog 275=true:=by kernel_rfl
theorem qh7 {v0 a c v3:Value} {w:World}:CallsDIn Fence.wide 0 Tryz.prog 116 #[v0,a,c,v3] .returning w fun e b w'=>(∃v,e= .returned v)∧b= .returning∧w'=w:=by
 refine ql9 fun ρ o n q h=> ?_;simp [qdE,vR,zD];refine qzQ vE (by simp) ?_;simp
theorem qh6 {w:World} {A P N O B:Nat} {tv nv:Value} {a i f n:Nat} (hA:Blk w A #[.int .i64 (a:Int)] 3) (hP:Blk w P #[.pointer (some ⟨B,0,none⟩)] 83) (hN:Blk w N #[.int .i64 (n:Int)] 3) (hO:Blk w O #[.bool true] 4∨Blk w O #[.bool false] 4)
  (F:Blk w B #[tv, .int .i64 (i:Int), .int .i64 (f:Int),nv] 85) (o:qt nv=true) (hn:n≤qh nv):
  CallsDIn Fence.wide 0 Tryz.prog 116 #[.pointer (some ⟨A,0,none⟩), .pointer (some ⟨P,0,none⟩), .pointer (some ⟨N,0,none⟩), .pointer (some ⟨O,0,none⟩)] (.panicking yk) w fun e u' w'=>(∃v,e= .returned v)∧settle u'= .returning∧
   ∃W W2,qc w W∧Only B W W2∧Blk W2 B #[tv, .int .i64 (a:Int), .int .i64 (f:Int),qL nv 6 0 n (qx nv)] 85∧Only O W2 w'∧Blk w' O #[.bool false] 4:=by
 obtain ⟨ds,hu,hd⟩:=qrJ;refine ql9 fun ρ r0 r1 r2 r3=> ?_;simp [qdE,vR,zD,yk];refine qzP (u:=153) (v:= .agg #[]) vE (by simp) ?_;simp;refine qpZ (a:=153) (v:= .agg #[]) hu hd (by simp) ?_;simp;refine qK qrc fun X W hX hE hb _=> ?_;simp;refine jg (B:=X) (by simp) hb (by simp [Value.cells]) (by simp [Value.cells]) (by simpa [Value.cells] using qst) fun W1 Y hb1=> ?_;have R:qc w W1:=Y.ext hE hX;have nX:∀{k:Nat} {cs:Array Value} {T:TypeId},Blk w k cs T→k≠X:=fun h=>by have:=h.lt;omega
 simp [qpk];refine vS qzf (fun W=>(Blk W A #[.int .i64 (a:Int)] 3∧Blk W P #[.pointer (some ⟨B,0,none⟩)] 83)∧Blk W N #[.int .i64 (n:Int)] 3∧W.cell? ⟨B,3,none⟩=some nv) fun W2 aa _=> ?_;have b:=R.trans' aa;have J:=F.ext b;have c3:W2.cell? ⟨B,3,none⟩=some nv:=by rw [J.cell];rfl
 have H:(Blk W2 A #[.int .i64 (a:Int)] 3∧Blk W2 P #[.pointer (some ⟨B,0,none⟩)] 83)∧Blk W2 N #[.int .i64 (n:Int)] 3∧W2.cell? ⟨B,3,none⟩=some nv:=⟨⟨hA.ext b,hP.ext b⟩,hN.ext b,c3⟩;refine ⟨H, ?_⟩;have cA:∀W,((Blk W A #[.int .i64 (a:Int)] 3∧Blk W P #[.pointer (some ⟨B,0,none⟩)] 83)∧Blk W N #[.int .i64 (n:Int)] 3∧W.cell? ⟨B,3,none⟩=some nv)→W.cell? ⟨A,0,none⟩=some (.int .i64 (a:Int))∧W.cell? ⟨P,0,none⟩=some (.pointer (some ⟨B,0,none⟩))∧W.cell? ⟨N,0,none⟩=some (.int .i64 (n:Int))∧W.cell? ⟨B,3,none⟩=some nv:=fun W h=>⟨by rw [h.1.1.cell];rfl,by rw [h.1.2.cell];rfl,by rw [h.2.1.cell];rfl,h.2.2⟩;simp+contextual -implicitDefEqProofs [qpj,cA,H,r0,r1,r2,r3];have ac:=qgx o;have t:n≤qx nv:=by omega
 simp [o,t];have V:B≠A:=fun e=>by subst e;have:=hA.heap;rw [F.heap] at this;cases this
 have Z:B≠P:=fun e=>by subst e;have:=hP.heap;rw [F.heap] at this;cases this
 have S:B≠N:=fun e=>by subst e;have:=hN.heap;rw [F.heap] at this;cases this
 have q:O≠B:=fun e=>by subst e;rcases hO with h|h<;>(have:=h.heap;rw [F.heap] at this;cases this)
 refine qS (B:=B) (i:=1) (by simp) J (by simp) (by simp [Value.cells]) (by simp) jS fun W3 c C=> ?_;simp at C;refine ⟨⟨⟨c.blk H.1.1 V.symm,c.blk H.1.2 Z.symm⟩,c.blk H.2.1 S.symm,by rw [C.cell];rfl⟩, ?_⟩;simp;have ab:(qL nv 6 0 n (qx nv)).cells= #[qL nv 6 0 n (qx nv)]:=zH (QA o 6 0 n (qx nv) (Nat.zero_le _) t (Nat.le_refl _));have U:(qL nv 6 0 n (qx nv)).oneCell=true:=xO (QA o 6 0 n (qx nv) (Nat.zero_le _) t (Nat.le_refl _));refine qS (B:=B) (i:=3) (by simp) C (by simp) (by simpa using ab) (by simpa using U) qjx fun W4 z I=> ?_;simp at I;simp;have y:Blk W4 O #[.bool true] 4∨Blk W4 O #[.bool false] 4:=by
  rcases hO with h|h
  ·exact .inl (z.blk (c.blk (h.ext b) q) q)
  ·exact .inr (z.blk (c.blk (h.ext b) q) q)
 rcases y with h|h
 all_goals
  refine qS (B:=O) (i:=0) (by simp [r3]) h (by simp) (by simp [Value.cells]) (by simp) sz4 fun W5 y E=> ?_;simp at E;exact ⟨rfl,W2,b,W4,c.trans z,I,y,E⟩
theorem Own.take {b e sz n:Nat} {w:World} {v:Value} {ys zs:List Value} (h:Own b e sz w v (ys++zs)) (c:ys.length=n*sz) (C:0<sz):Own b e sz w (qL v sz 0 n (qx v)) ys:=by
 rcases h with ⟨rfl,u⟩|⟨g,off,m,cap,cur,rfl,o,y,q,J,E,H,z⟩
 ·have o:ys=[]:=(List.append_eq_nil_iff.1 u).1;subst o;have F:n=0:=by
   have:=Nat.mul_eq_zero.1 c.symm;omega
  subst F;exact .inl ⟨by simp [qL,qx],rfl⟩
 ·have a:n*sz≤m*sz:=by rw [←c,←q,List.length_append];omega
  have t:n≤m:=Nat.le_of_mul_le_mul_right a C;refine .inr ⟨g,off,n,cap,cur, ?_,o,y,c,by omega,E,H, ?_⟩
  ·simp [qL,qx,Addr.add]
  ·have I:((cur.toList.drop off).take (m*sz)).take (n*sz)=ys:=by rw [z,List.take_left' c]
   rw [←I,List.take_take,Nat.min_eq_left a]
theorem qvg {v:Value} {sz l h m:Nat}:(qL v sz l h m).ownBlock=v.ownBlock:=by
 unfold qL;split
 ·rename_i a n c;split
  ·cases a<;>rfl
  ·cases a with
   |none=>rfl
   |some a=>simp only [Option.map_some,Value.ownBlock,Addr.add];split<;>rfl
 ·rfl
structure TnO (base B O:Nat) (nv nv':Value) (w w':World):Prop where
 below:Below base w w'
 block:∀k,k<w.heap.size→k≠B→nv.ownBlock≠some k→k≠O→w'.heap[k]? =w.heap[k]?
 row:∀k,nv'.ownBlock=some k→nv.ownBlock=some k∨w.heap.size≤k
structure TnW (base B:Nat) (nv nv':Value) (w w':World):Prop where
 below:Below base w w'
 block:∀k,k<w.heap.size→k≠B→nv.ownBlock≠some k→w'.heap[k]? =w.heap[k]?
 row:∀k,nv'.ownBlock=some k→nv.ownBlock=some k∨w.heap.size≤k
section
variable {base B O X:Nat} {w w1 w2:World} {tv nv nv1 nv2:Value} {L:List Tok} {i f j g:Nat} {xs ys zs:List NV} {x:NV}
theorem Tn.toO (h:Tn base B nv nv1 w w1):TnO base B O nv nv1 w w1:=⟨h.below,fun k c b a _=>h.block k c b a,h.row⟩
theorem TnW.toO (h:TnW base B nv nv1 w w1):TnO base B O nv nv1 w w1:=⟨h.below,fun k c b a _=>h.block k c b a,h.row⟩
theorem Tn.toW (h:Tn base B nv nv1 w w1):TnW base B nv nv1 w w1:=⟨h.below,h.block,h.row⟩
theorem TnW.trans (h:TnW base B nv nv1 w w1) (k:TnW base B nv1 nv2 w1 w2):TnW base B nv nv2 w w2:=by
 have o:=h.below.size;refine ⟨h.below.trans k.below,fun j b n c=> ?_,fun j b=> ?_⟩
 ·refine (k.block j (by omega) n fun e=> ?_).trans (h.block j b n c);rcases h.row j e with a|a
  ·exact c a
  ·omega
 ·rcases k.row j b with a|a
  ·exact h.row j a
  ·exact .inr (by omega)
theorem TnW.full (h:TnW base B nv nv1 w w1) (a:nv1=nv∨qh nv<qh nv1):Tn base B nv nv1 w w1:=⟨h.below,h.block,h.row,a⟩
theorem TnO.only (h:TnO base B O nv nv1 w w1) (a:Only X w1 w2) (n:X=O∨w.heap.size≤X) (q:base≤X):TnO base B O nv nv1 w w2:=by
 refine ⟨h.below.trans (kY a q),fun k t o b c=> ?_,h.row⟩;rw [a.block k (by rintro rfl;rcases n with e|e<;>omega)];exact h.block k t o b c
theorem TnO.tn (h:TnO base B O nv nv1 w w1) (c:Tn base B nv1 nv2 w1 w2):TnO base B O nv nv2 w w2:=by
 have t:=h.below.size;refine ⟨h.below.trans c.below,fun j b o n q=> ?_,fun j b=> ?_⟩
 ·refine (c.block j (by omega) o fun e=> ?_).trans (h.block j b o n q);rcases h.row j e with a|a
  ·exact n a
  ·omega
 ·rcases c.row j b with a|a
  ·exact h.row j a
  ·exact .inr (by omega)
theorem PSt.cut (h:PSt base B w tv nv L j g (xs++ys)) (n:Only B w w1) (u:Blk w1 B #[tv, .int .i64 (i:Int), .int .i64 (g:Int),qL nv 6 0 xs.length (qx nv)] 85) (z:i≤L.length):
  PSt base B w1 tv (qL nv 6 0 xs.length (qx nv)) L i g xs∧TnW base B nv (qL nv 6 0 xs.length (qx nv)) w w1:=by
 have keep:∀{b e sz:Nat} {v:Value} {ys:List Value},e≠85→Own b e sz w v ys→Own b e sz w1 v ys:=fun y c=>Own.same c fun k a=>by
  obtain ⟨cur,q⟩:=Own.row c a;exact n.block k (h.blkNe q y)
 have c:Own base 44 6 w (qL nv 6 0 xs.length (qx nv)) (ji xs):=Own.take (zs:=ji ys) (by rw [←qll];exact h.own) (yo xs) (by decide);refine ⟨⟨u,keep (by decide) h.tok,keep (by decide) c,fun x t=>keep (by decide) (h.kid x (List.mem_append_left _ t)),h.bB,by rw [n.size];exact h.bW,h.tl,z,h.fl⟩, ?_,fun k a o _=>n.block k o,fun k a=> .inl (by rw [qvg] at a;exact a)⟩;exact kY n h.bB
end
def qiw (base B O:Nat) (w:World) (tv nv:Value) (L:List Tok) (i:Nat) (xs:List NV):Rs Bs→Ending→World→Prop
 | .ok s j g,e,w'=>e= .returned (.bool true)∧∃nv',PSt base B w' tv nv' L j g xs∧TnO base B O nv nv' w w'∧Blk w' O #[.string (qb s)] 9∧(nv'=nv∨qh nv<qh nv')
 | .no g,e,w'=>e= .returned (.bool false)∧∃nv',PSt base B w' tv nv' L i g xs∧TnO base B O nv nv' w w'
 | .oof,_,_=>False
theorem qu3 {L:List Tok} (I:xf L) (n:Nat) {base B P O:Nat} {w:World} {tv nv v0:Value} {i f:Nat} {xs:List NV} (z:PSt base B w tv nv L i f xs) (F:xs.length≤2*i+2) (H:Blk w P #[.pointer (some ⟨B,0,none⟩)] 83) (J:Blk w O #[v0] 9) (c:q7 L n i f≠ .oof):
  Calls Tryz.prog 275 #[.pointer (some ⟨P,0,none⟩), .pointer (some ⟨O,0,none⟩)] w fun e w2=>match q7 L n i f with
   | .ok s j g=>e= .returned (.tuple #[])∧∃nv2 w1,PSt base B w1 tv nv2 L j g xs∧Tn base B nv nv2 w w1∧Only O w1 w2∧Blk w2 O #[.string (qb s)] 9
   | .no g=>e= .panicked yk∧∃j nv2 ys,PSt base B w2 tv nv2 L j g (xs++ys)∧Tn base B nv nv2 w w2
   | .oof=>False:=by
 refine qxP fun ρ r0 r1=> ?_;have E:w.cell? ⟨P,0,none⟩=some (.pointer (some ⟨B,0,none⟩)):=by rw [H.cell];rfl
 simp [qnw,r0,E];have C:=qk1 I n base B w tv nv i f xs z F c;refine C.mono ?_;intro e w1 o;cases t:q7 L n i f with
 |oof=>exact absurd t c
 |no g=>
  rw [t] at o;obtain ⟨j,nv2,ys,rfl,b,a⟩:=o;simp;exact ⟨j,nv2,⟨ys,b⟩,a⟩
 |ok s j g=>
  rw [t] at o;obtain ⟨v,nv2,ys,rfl,b,u,_,a,y⟩:=o;change v=_ at y;subst y;obtain rfl:ys=[]:=by simpa [aS] using u
  simp only [List.append_nil] at b;simp;refine qS (B:=O) (i:=0) (by simp [r1]) (z.var a J (by decide) (by decide)) (by simp) (by simp [Value.cells]) (by simp) sz9 fun W2 q h=> ?_;simp at h;simp;exact ⟨nv2,w1,b,a,q,h⟩
theorem qeR {R:Ending→World→Prop} {l:List Nat} (n:∀d∈l,d≠gS∧d≠4):∀d∈l,∀ρ v c w,(vD Tryz.prog [.cell1 4] R).pn (qn ρ d v) c w→(vD Tryz.prog [.cell1 4] R).pn ρ c w:=by
 intro d a ρ v c w h;obtain ⟨e,b⟩:=n d a;refine qpT e (fun w=> ?_) h;simp [vj,RV.val,Ne.symm b]
theorem quu {L:List Tok} (hL:xf L) (n:Nat) {base B P O:Nat} {w:World} {tv nv v0:Value} {i f:Nat} {xs:List NV} (hS:PSt base B w tv nv L i f xs) (hn:xs.length≤2*i+2) (hP:Blk w P #[.pointer (some ⟨B,0,none⟩)] 83) (hO:Blk w O #[v0] 9) (hbO:base≤O) (hno:q7 L n i f≠ .oof):
  Calls Tryz.prog 54 #[.pointer (some ⟨B,0,none⟩), .func (.func 275) #[] #[.pointer (some ⟨P,0,none⟩), .pointer (some ⟨O,0,none⟩)]] w (qiw base B O w tv nv L i xs (q7 L n i f)):=by
 have hb0:=hS.bW;have hil:=hS.il;have htl:=hS.tl;refine qgH fun ρ r0 r1 rg=> ?_;simp [qbY,r0];refine vY fun A W1 hA S hbA _=> ?_;simp [Value.cells,r0] at hbA;simp;refine qK z4 fun Y W2 hY hE2 hbY _=> ?_;simp;have hS2:=hS.ext (S.trans' hE2);have hA2:=hbA.ext hE2;refine vS (hpn:=qeR (by decide)) qgG (fun W=>Blk W A #[.pointer (some ⟨B,0,none⟩)] 83∧Blk W B #[tv, .int .i64 (i:Int), .int .i64 (f:Int),nv] 85) fun W3 U _=> ?_;have o:=hS2.ext U;have y:=hA2.ext U;have hJ:Blk W3 A #[.pointer (some ⟨B,0,none⟩)] 83∧Blk W3 B #[tv, .int .i64 (i:Int), .int .i64 (f:Int),nv] 85:=⟨y,o.blk⟩;refine ⟨hJ, ?_⟩;have cA:∀W,(Blk W A #[.pointer (some ⟨B,0,none⟩)] 83∧Blk W B #[tv, .int .i64 (i:Int), .int .i64 (f:Int),nv] 85)→W.cell? ⟨A,0,none⟩=some (.pointer (some ⟨B,0,none⟩))∧W.cell? ⟨B,1,none⟩=some (.int .i64 (i:Int))∧W.cell? ⟨B,3,none⟩=some nv:=fun W h=>⟨by rw [h.1.cell];rfl,by rw [h.2.cell];rfl,by rw [h.2.cell];rfl⟩;have hisl:=hS.own.isl;simp+contextual -implicitDefEqProofs [qdJ,cA,hJ,hisl];have rest:∀(z:qa) (W4:World) (X5 X6:Nat),qc W3 W4→Blk W4 X5 #[.int .i64 (i:Int)] 3→Blk W4 X6 #[.int .i64 (xs.length:Int)] 3→z 1=ρ 1→z 2= .pointer (some ⟨A,0,none⟩)→z 4= .pointer (some ⟨Y,0,none⟩)→z 5= .pointer (some ⟨X5,0,none⟩)→z 6= .pointer (some ⟨X6,0,none⟩)→z gS= .tuple #[]→QC.wp ⟨Tryz.prog,19,QD,ww⟩ (jH Tryz.prog [.cell1 4] (qiw base B O w tv nv L i xs (q7 L n i f)) .returning) (vD Tryz.prog [.cell1 4] (qiw base B O w tv nv L i xs (q7 L n i f))) z W4:=by
  intro z W4 X5 X6 a I t e1 e2 e4 e5 e6 eg;have F:=o.ext a;have hA4:=y.ext a;have hY4:=(hbY.ext U).ext a;have H:qc w W4:=((S.trans' hE2).trans' U).trans' a;have hP4:=hP.ext H;have hO4:=hO.ext H;have hT4:Tn base B nv nv w W4:=Tn.ext H hb0;have hYO:Y≠O:=by have:=hO.lt;have:=S.size;omega
  have hYw:w.heap.size≤Y:=by have:=S.size;omega
  have hYB:Y≠B:=by have:=hS.blk.lt;omega
  simp [QC];refine qd8 (f:=116) (caps:= #[.pointer (some ⟨X5,0,none⟩), .pointer (some ⟨A,0,none⟩), .pointer (some ⟨X6,0,none⟩), .pointer (some ⟨Y,0,none⟩)]) (by simp [e2,e4,e5,e6]) trivial ?_;have eg':z 1000000000= .tuple #[]:=eg;simp [gS,e1,r1,eg'];refine xT (f:=275) (by simp) (fs:= #[]) (caps:= #[.pointer (some ⟨P,0,none⟩), .pointer (some ⟨O,0,none⟩)]) (by simp) ?_;simp;refine (qu3 hL n F hn hP4 hO4 hno).mono ?_;intro e w5 hp;generalize hr:q7 L n i f=r at hp hno;cases r with
  |oof=>exact absurd rfl hno
  |ok s j g=>
   obtain ⟨rfl,nv2,w4,q,u,hOn,hbO5⟩:=hp;have R:=hOn.blk (F.var u hY4 (by decide) (by decide)) hYO;simp;refine qS (B:=Y) (i:=0) (by simp [e4]) R (by simp) (by simp [Value.cells]) (by simp) sz4 fun W6 c t=> ?_;simp at t;simp [vD,jH,gS,e4];refine jO (by simp) qaX (qh7.mono ?_);rintro e u' w' ⟨⟨v,rfl⟩,rfl,rfl⟩;refine yT ?_;have cY:w'.cell? ⟨Y,0,none⟩=some (.bool true):=by rw [t.cell];rfl
   simp [qz,vj,RV.val,e4,cY,kR];have hO5:=F.var u hO4 (by decide) (by decide);have hS6:=(q.only (cs:= #[v0]) (T:=9) hOn (fun _=>hO5.heap) (by decide) (by decide) (by decide) (by decide)).only (cs:= #[.bool false]) (T:=4) c (fun _=>R.heap) (by decide) (by decide) (by decide) (by decide);refine ⟨rfl,nv2,hS6,((hT4.trans u).toO.only hOn (.inl rfl) hbO).only c (.inr hYw) (by omega),c.blk hbO5 (Ne.symm hYO),u.gr⟩
  |no g=>
   obtain ⟨rfl,j,nv2,ys,q,u⟩:=hp;have R:=F.var u hY4 (by decide) (by decide);have h55:=F.var u I (by decide) (by decide);have h56:=F.var u t (by decide) (by decide);have hA5:=F.var u hA4 (by decide) (by decide);have hl5:=(L01.vB q.own).len;rw [yo,List.length_append] at hl5;simp [vD,jH,gS,e4];refine jO (by simp) qaX ((qh6 h55 hA5 h56 (.inr R) q.blk q.own.isl (by omega)).mono ?_);rintro e u' w' ⟨⟨v,rfl⟩,hu,W6,W7,V,C,E,hO8,hb8⟩;show jK _ _ _ _ [] (settle u') w';rw [hu];refine yT ?_;have cY:w'.cell? ⟨Y,0,none⟩=some (.bool false):=by rw [hb8.cell];rfl
   simp [qz,vj,RV.val,e4,cY,kR];obtain ⟨hS7,hT7⟩:=(q.ext V).cut C E hil;have hY7:=C.blk (R.ext V) hYB;have hS8:=hS7.only (cs:= #[.bool false]) (T:=4) hO8 (fun _=>hY7.heap) (by decide) (by decide) (by decide) (by decide);exact ⟨rfl,_,hS8,(((hT4.trans u).extR V hb0).toW.trans hT7).toO.only hO8 (.inr hYw) (by omega)⟩
 have nvl:qh nv=xs.length:=by
  have:=(L01.vB hS.own).len;rw [yo] at this;omega
 refine ⟨?_, ?_⟩
 ·refine qK z3 fun X5 W4 hX5 a Z hs4=>⟨⟨y.ext a,(o.ext a).blk⟩, ?_⟩;refine qK z3 fun X6 W5 hX6 b I hs5=>⟨⟨(y.ext a).ext b,((o.ext a).ext b).blk⟩, ?_⟩;have q:=(o.ext a).ext b;have l5:W3.heap.size≤X5:=hX5;have J:X5≠X6:=by omega
  refine qS (B:=X5) (i:=0) (by simp) (Z.ext b) (by simp) (by simp [Value.cells]) (by simp) jS fun W6 c t=> ?_;simp at t;have hA6:=c.blk ((y.ext a).ext b) (by have:=y.lt;omega);have hB6:=c.blk q.blk (by have:=o.blk.lt;omega);refine ⟨⟨hA6,hB6⟩, ?_⟩;refine qS (B:=X6) (i:=0) (by simp) (c.blk I (Ne.symm J)) (by simp) (by simp [Value.cells]) (by simp) jS fun W7 C E=> ?_;simp [nvl] at E;exact rest _ W7 X5 X6 (C.ext (c.ext (a.trans' b) l5) (by have:=a.size;omega)) (C.blk t J) E (by simp) (by simp) (by simp) (by simp) (by simp) (by simp [gS] at rg⊢;exact rg)
 ·refine qK z3 fun X6 W4 hX6 a Z hs4=>⟨⟨y.ext a,(o.ext a).blk⟩, ?_⟩;refine qK z3 fun X5 W5 hX5 b I hs5=>⟨⟨(y.ext a).ext b,((o.ext a).ext b).blk⟩, ?_⟩;have q:=(o.ext a).ext b;have l5:W3.heap.size≤X5:=Nat.le_trans a.size hX5;have J:X6≠X5:=by omega
  refine qS (B:=X5) (i:=0) (by simp) I (by simp) (by simp [Value.cells]) (by simp) jS fun W6 c t=> ?_;simp at t;have hA6:=c.blk ((y.ext a).ext b) (by have:=y.lt;omega);have hB6:=c.blk q.blk (by have:=o.blk.lt;omega);refine ⟨⟨hA6,hB6⟩, ?_⟩;refine qS (B:=X6) (i:=0) (by simp) (c.blk (Z.ext b) J) (by simp) (by simp [Value.cells]) (by simp) jS fun W7 C E=> ?_;simp [nvl] at E;exact rest _ W7 X5 X6 (C.ext (c.ext (a.trans' b) l5) hX6) (C.blk t (Ne.symm J)) E (by simp) (by simp) (by simp) (by simp) (by simp) (by simp [gS] at rg⊢;exact rg)
noncomputable def ql4:Code:=((Tryz.f217.body).getD .skip)
noncomputable def qgv:IR:=zq [za 64 (zl (zv 1)),za 68 (zI .add (zo 1 (zN (zv 64))) (zK 1)),za 70 (zf 1 (zN (zv 64))),zw 3 (zt 70) (zt 68),za 71 (zl (zv 1)),zE 72 (.buildSlice 51 1 #[(0,(zY #[40]))]) 51,zc 73 153 #[zt 71,zt 72] #[83,51] 0,za 74 (zl (zv 1)),zc 75 62 #[zt 74] #[83] 3,zE 76 (.buildSlice 40 1 #[(0,(zt 75))]) 40,za 77 (zf 5 (zv 8)),zw 40 (zt 77) (zt 76),za 78 (zl (zv 1)),zE 79 (.buildSlice 51 1 #[(0,(zY #[41]))]) 51,zc 80 153 #[zt 78,zt 79] #[83,51] 0,za 81 (zl (zv 1)),za 82 (zM 6 (zv 8)),zc 83 140 #[zt 81,zt 82] #[83,44] 3,zm 2 83,za 3 (zQ false)] <| .ret
noncomputable def ql3:IR:=zq [za 121 (zl (zv 1)),za 125 (zI .add (zo 1 (zN (zv 121))) (zK 1)),za 127 (zf 1 (zN (zv 121))),zw 3 (zt 127) (zt 125),za 128 (zl (zv 1)),za 130 (zo 1 (zv 4)),zE 131 (.build 44 #[(0,(.const (zu 4))),(1,(zt 130))]) 44,zc 132 140 #[zt 128,zt 131] #[83,44] 3,zm 2 132,za 3 (zQ false)] <| .ret
noncomputable def ql2:IR:= .ret
noncomputable def qdB:IR:= .seq (.raw (qI ql4 37)) (ql2)
noncomputable def ql5:IR:=zq [zE 1 (.box 83 (zt 0)) 0,za 2 (zK 0),za 3 (zQ false),za 11 (zl (zv 1)),zc 12 142 #[zt 11,zO 0] #[83,3] 53,zA 4 53,zw 53 (zt 4) (zt 12),za 13 (zl (zv 1)),zc 14 142 #[zt 13,zO 1] #[83,3] 53,za 5 (.op1 (.fld 1) (zv 14))] <| .seq (.block 0 (zq [za 16 (zB .eql (zo 0 (zv 4)) (.const (zu 3)))] <| .cond (zv 16) (zq [za 20 (zl (zv 1)),za 24 (zI .add (zo 1 (zN (zv 20))) (zK 1)),za 26 (zf 1 (zN (zv 20))),zw 3 (zt 26) (zt 24),za 29 (zo 1 (zv 4)),zc 30 273 #[zt 29] #[9] 127,zm 27 30,za 31 (ze 0 (zv 27)),za 32 (ze 1 (zv 27)),zm 6 31,zm 7 32,za 33 (zl (zv 1)),zm 34 6,zE 35 (.build 44 #[(0,(.const (zu 1))),(4,(zt 34))]) 44,zc 36 140 #[zt 33,zt 35] #[83,44] 3,zm 2 36,za 3 (zQ false)] <| .ret) (zq [za 38 (zl (zv 1)),zc 39 117 #[zt 38,zY #[116,114,117,101]] #[83,9] 4,zm 37 39] <| .cond (zv 37) (zq [za 40 (zl (zv 1)),zE 41 (.build 44 #[(0,(.const (zu 2))),(4,(zO 1))]) 44,zc 42 140 #[zt 40,zt 41] #[83,44] 3,zm 2 42,za 3 (zQ false)] <| .ret) (zq [za 44 (zl (zv 1)),zc 45 117 #[zt 44,zY #[102,97,108,115,101]] #[83,9] 4,zm 43 45] <| .cond (zv 43) (zq [za 46 (zl (zv 1)),zE 47 (.build 44 #[(0,(.const (zu 2)))]) 44,zc 48 140 #[zt 46,zt 47] #[83,44] 3,zm 2 48,za 3 (zQ false)] <| .ret) (zq [za 50 (zl (zv 1)),zc 51 117 #[zt 50,zY #[110,105,108]] #[83,9] 4,zm 49 51] <| .cond (zv 49) (zq [za 52 (zl (zv 1)),zE 53 (.build 44 #[(0,(.const (zu 3)))]) 44,zc 54 140 #[zt 52,zt 53] #[83,44] 3,zm 2 54,za 3 (zQ false)] <| .ret) (zq [za 56 (zl (zv 1)),zE 57 (.buildSlice 51 2 #[(0,(zY #[117,112])),(1,(zY #[100,111,119,110]))]) 51,zc 58 141 #[zt 56,zt 57] #[83,51] 4,zm 55 58] <| .cond (zv 55) (zq [zE 59 (.build 44 #[(0,(.const (zu 9)))]) 44,zA 8 44,zw 44 (zt 8) (zt 59),za 60 (zl (zv 1)),zE 61 (.buildSlice 51 1 #[(0,(zY #[100,111,119,110]))]) 51,zc 62 141 #[zt 60,zt 61] #[83,51] 4] <| .seq (.cond (zv 62) (.reg [za 63 (zf 0 (zv 8)),zw 5 (zt 63) (.const (zu 10))]) .skip) (qgv)) (zq [za 85 (zl (zv 1)),zc 86 117 #[zt 85,zY #[40]] #[83,9] 4,zm 84 86] <| .cond (zv 84) (zq [za 87 (zl (zv 1)),zc 88 62 #[zt 87] #[83] 3,zm 9 88,za 89 (zl (zv 1)),zE 90 (.buildSlice 51 1 #[(0,(zY #[41]))]) 51,zc 91 153 #[zt 89,zt 90] #[83,51] 0,zm 2 9,za 3 (zQ false)] <| .ret) (zq [za 93 (.ite (zB .eql (zo 0 (zv 4)) (.const (zu 1))) (.ite (zS .eql (zv 5) (.const (zs #[40]))) (zQ true) (zS .eql (zv 5) (.const (zs #[123])))) (zQ false))] <| .cond (zv 93) (zq [za 105 (zl (zv 1)),zc 106 274 #[zt 105] #[83] 3,zm 2 106,za 3 (zQ true)] <| .ret) (zq [za 107 (.ite (zB .eql (zo 0 (zv 4)) (.const (zu 1))) (zS .eql (zv 5) (.const (zs #[91]))) (zQ false))] <| .cond (zv 107) (zq [zA 10 9,zw 9 (zt 10) (zY #[]),za 115 (zl (zv 1)),zE 116 (.makeFunc (.func 275) #[] #[zt 1,zt 10]) 1,zc 117 54 #[zt 115,zt 116] #[83,1] 4] <| .seq (.cond (zv 117) (zq [za 118 (zl (zv 1)),za 119 (zl (zv 10)),zc 120 277 #[zt 118,zt 119] #[83,9] 3,zm 2 120,za 3 (zQ true)] <| .ret) .skip) (ql3)) (zq [za 133 (.ite (zB .eql (zo 0 (zv 4)) (.const (zu 1))) (zS .neq (zv 5) (.const (zs #[36]))) (zQ false))] <| .cond (zv 133) (zq [za 141 (zl (zv 1)),za 145 (zI .add (zo 1 (zN (zv 141))) (zK 1)),za 147 (zf 1 (zN (zv 141))),zw 3 (zt 147) (zt 145),za 148 (zl (zv 1)),za 150 (zo 1 (zv 4)),zE 151 (.build 44 #[(0,(.const (zu 4))),(1,(zt 150))]) 44,zc 152 140 #[zt 148,zt 151] #[83,44] 3,zm 2 152,za 3 (zQ false)] <| .ret) .skip)))))))))) (qdB)
def qbW:List Nat:=zV 157 [15,17,18,19,21,22,23,25,28,65,66,67,69,92,94,95,96,97,98,99,100,101,102,103,104,108,109,110,111,112,113,114,122,123,124,126,129,134,135,136,137,138,139,140,142,143,144,146,149]
theorem qwu:C1 217 157 qbW ql5 [.tmp 2, .tmp 3]:=c1 [37] Tryz.func217
noncomputable def ql1:OT:=zy 153 (zl (zv 1))<|zy 154 (zl (zv 1))<| .step (zc 155 276 #[zt 154] #[83] 9) true<| .step (zc 156 277 #[zt 153,zt 155] #[83,9] 3) false<| .step (zm 2 156) false<| .step (za 3 (zQ true)) false<| .done
theorem qwt:vT Tryz.prog 157 qbW 3 (qI ql4 37)=some ql1:=by kernel_rfl
def qeD (L:List Tok):Prop:=∀t∈L,t.kind=3→Lib.atoiAll t.text= .ok (qbQ t.text)
@[simp] theorem qAO:qf Tryz.prog 273=true:=by kernel_rfl
@[simp] theorem qEl:qf Tryz.prog 217=true:=by kernel_rfl
@[simp] theorem qEC:qf Tryz.prog 139=true:=by kernel_rfl
theorem qk9 {w:World} {s:Bs} {n:Int} (c:s.length≤20) (h:Lib.atoiAll s= .ok n):Calls Tryz.prog 273 #[.string (qb s)] w fun e w'=>qc w w'∧e= .returned (.tuple #[.int .i64 n, .nilIface]):=by
 refine (Tryz.atoi_ok (qb s) (by show s.length≤_;omega) n h w).mono ?_;rintro _ w' ⟨rfl,a⟩;refine ⟨?_,rfl⟩;rcases a with rfl|⟨t,rfl⟩
 ·exact qV _
 ·exact ⟨rfl,rfl,rfl,by rw [Lib.bytesWorld_size];omega,fun k b=>Lib.bytesWorld_at_old _ _ _ _ b⟩
section
variable {L:List Tok} {base B X:Nat} {w w1:World} {tv nv nv1:Value} {i f:Nat} {xs ys:List NV} {K:qa→World→Prop} {Q:Ks} {ρ:qa} {d:Option Nat}
theorem qci {t ty:TypeId} {p v:Operand} (a:Cu base B w tv nv L xs w1 nv1 i f ys) (C:i<L.length) (E:qd ρ p= .pointer (some ⟨B,1,none⟩)) (c:qd ρ v= .int .i64 (IntKind.i64.wrap ((i:Int)+1))) (q:jo Tryz.prog t 1=true)
  (h:∀W,Cu base B w tv nv L xs W nv1 (i+1) f ys→Tn base B nv1 nv1 w1 W→K (qk ρ d undef) W):qm Tryz.prog Q d (.store t p v) ty K ρ w1:=by
 have u:=a.st.tl;have y:IntKind.i64.wrap ((i:Int)+1)=((i+1:Nat):Int):=by rw [jG (by omega)];push_cast;rfl
 rw [y] at c;refine qS (B:=B) (i:=1) E a.st.blk (by simp) (by rw [c];simp [Value.cells]) (by rw [c];simp) q fun W z e=> ?_;rw [c] at e;simp at e;have n:Blk W B #[tv, .int .i64 ((i+1:Nat):Int), .int .i64 (f:Int),nv1] 85:=by simpa using e
 obtain ⟨o,b⟩:=a.st.move z n C a.st.fl;exact h W ⟨o,a.tn.trans b,a.fr,a.b0⟩ b
theorem isB {v:Value} {ss:List Bs} (b:Cu base B w tv nv L xs w1 nv1 i f ys) (c:qP w1 v ss) (h:∀w2,qc w1 w2→Cu base B w tv nv L xs w2 nv1 i f ys→K (qk ρ d (.bool (qg L i ss))) w2):
  Calls Tryz.prog 141 #[.pointer (some ⟨B,0,none⟩),v] w1 (jR Q d K ρ):=by
 refine (qk6 b.st c).mono ?_;rintro _ w2 ⟨rfl,a⟩;rw [qcd];exact h w2 a (b.ext a)
theorem qaM {r:Rs (T×Bool)} {t:T} {b:Bool} {v:Value} (a:Cu base B w tv nv L xs w1 nv1 i f ys) (c:ys.map (·.nd)=t.flat xs.length) (h:v= .int .i64 ((xs.length:Int)+t.size - 1)) (e:ret (t,b) i f=r):PR xz base B tv nv L xs w r (.returned (.tuple #[v, .bool b])) w1:=by
 rw [←e];exact ⟨_,nv1,ys,rfl,a.st,c,a.fr,a.tn,by rw [h];rfl⟩
theorem qaB {r:Rs (T×Bool)} {x:NV} {d:D} {b:Bool} (c:Cu base B w tv nv L xs w1 nv1 i f [x]) (e:x.nd=⟨d,[]⟩) (a:ret (T.mk d [],b) i f=r):PR xz base B tv nv L xs w r (.returned (.tuple #[.int .i64 (xs.length:Int), .bool b])) w1:=
 qaM c (by simpa using qb5 (ys:=[]) (ks:=[]) (b:=xs.length) rfl e) (by have:=qbu (ys:=[]) (xs:=xs) (d:=d) (ks:=[]) rfl;simpa using this) a
end
theorem Cu.turnO {base B O:Nat} {w w1 w2:World} {tv nv nv1 nv2:Value} {L:List Tok} {i f j g:Nat} {xs ys:List NV} (h:Cu base B w tv nv L xs w1 nv1 i f ys) (t:PSt base B w2 tv nv2 L j g (xs++ys)) (b:TnO base B O nv1 nv2 w1 w2) (v:w.heap.size≤O) (q:nv2=nv∨qh nv<qh nv2):Cu base B w tv nv L xs w2 nv2 j g ys:=by
 have u:=h.tn.size;refine ⟨t,⟨(h.tn.below).trans b.below,fun k c o n=> ?_,fun k c=> ?_,q⟩,h.fr,h.b0⟩
 ·refine (b.block k (by omega) o (fun e=> ?_) (by omega)).trans (h.tn.block k c o n);rcases h.tn.row k e with a|a
  ·exact n a
  ·omega
 ·rcases b.row k c with a|a
  ·exact h.tn.row k a
  ·exact .inr (by omega)
theorem Cu.backO {base B O:Nat} {w w1 w2 u:World} {tv nv nv1 nv2 a:Value} {L:List Tok} {i f j g:Nat} {xs ys zs:List NV} (h:Cu base B w tv nv L xs w1 nv1 i f ys) (c:TnO base B O nv1 nv2 w1 w2) (F:w.heap.size≤O) (n:Cu base B w2 tv nv2 L xs u a j g zs) (z:qh nv<qh a):Cu base B w tv nv L xs u a j g zs:=by
 have E:=h.tn.size;have v:=c.below.size;refine ⟨n.st,TnW.full (TnW.trans (nv1:=nv2) (w1:=w2) ⟨(h.tn.below).trans c.below,fun k o q t=> ?_,fun k o=> ?_⟩ n.tn.toW) (.inr z),fun y C=>(n.fr y C).mono (by omega),h.b0⟩
 ·refine (c.block k (by omega) q (fun e=> ?_) (by omega)).trans (h.tn.block k o q t);rcases h.tn.row k e with b|b
  ·exact t b
  ·omega
 ·rcases c.row k o with b|b
  ·exact h.tn.row k b
  ·exact .inr (by omega)
theorem PSt.nvLen {base B:Nat} {w:World} {tv nv:Value} {L:List Tok} {i f:Nat} {xs:List NV} (h:PSt base B w tv nv L i f xs):qh nv=xs.length:=by
 have:=(L01.vB h.own).len;rw [yo] at this;omega
theorem TnO.var {base B O X:Nat} {w1 w2:World} {tv nv1 nv2:Value} {L:List Tok} {i f:Nat} {xs:List NV} (e:TnO base B O nv1 nv2 w1 w2) (h:PSt base B w1 tv nv1 L i f xs) {cs:Array Value} {T:TypeId} (a:Blk w1 X cs T) (n:T≠44) (c:T≠85) (b:X≠O):Blk w2 X cs T:=
 ⟨(e.block X a.lt (h.blkNe a.heap c) (h.rowNe a.heap n) b).trans a.heap⟩
theorem qBe (n:Int):Tryz.prog.built 44 [(0, .int .u8 1),(4, .int .i64 n)]=some (qj (q4 1 [] [] [] n (.slice none 0 0) [])).toArray:=by kernel_rfl
theorem qBd:Tryz.prog.built 44 [(0, .int .u8 2),(4, .int .i64 1)]=some (qj (q4 2 [] [] [] 1 (.slice none 0 0) [])).toArray:=by kernel_rfl
theorem qBc:Tryz.prog.built 44 [(0, .int .u8 2)]=some (qj (q4 2 [] [] [] 0 (.slice none 0 0) [])).toArray:=by kernel_rfl
theorem qBb:Tryz.prog.built 44 [(0, .int .u8 3)]=some (qj (q4 3 [] [] [] 0 (.slice none 0 0) [])).toArray:=by kernel_rfl
theorem qBa:Tryz.prog.built 44 [(0, .int .u8 9)]=some (qj (q4 9 [] [] [] 0 (.slice none 0 0) [])).toArray:=by kernel_rfl
theorem qqx (s:Bs):Tryz.prog.built 44 [(0, .int .u8 4),(1, .string (qb s))]=some (qj (q4 4 s [] [] 0 (.slice none 0 0) [])).toArray:=by kernel_rfl
theorem qar (b e sz:Nat) (w:World):Own b e sz w (.slice none 0 0) []:=Own.nil _ _ _ _
theorem quv {L:List Tok} (hL:xf L) (hNum:qeD L) {e:M T} (he:Mt aT L 62 me e) (hu:Up e) (hz:Sz T.size 0 e) (n:Nat):Mt xz L 217 me (jz L n e):=by
 intro base B w tv nv i f xs hS hn aa;have hil:=hS.il;have htl:=hS.tl;generalize q:jz L n e i f=r at aa;refine qwu fun ρ r0=> ?_;simp [ql5,r0];refine vY fun P W1 hPw hE1 hbP _=> ?_;simp [Value.cells,r0] at hbP;have cP1:W1.cell? ⟨P,0,none⟩=some (.pointer (some ⟨B,0,none⟩)):=by rw [hbP.cell];rfl
 simp [cP1];refine (Qu (hS.ext hE1) 0 (by decide)).mono ?_;rintro _ w2 ⟨rfl,hE2⟩;simp;refine qb8 Qd (by simp) (by simp [Value.cells,xg]) (by simp [Value.cells,xg]) (by simpa [Value.cells] using yD) fun X W3 hX hE3 hbX _=> ?_;simp [Value.cells,xg] at hbX;have hP3:=(hbP.ext hE2).ext hE3;have cP3:W3.cell? ⟨P,0,none⟩=some (.pointer (some ⟨B,0,none⟩)):=by rw [hP3.cell];rfl
 simp [cP3];refine (Qu (((hS.ext hE1).ext hE2).ext hE3) 1 (by decide)).mono ?_;rintro _ w4 ⟨rfl,hE4⟩;have hC:=(((((Cu.start hS).ext hE1).ext hE2).ext hE3).ext hE4);have hP:=hP3.ext hE4;have hX4:=hbX.ext hE4;obtain ⟨c0,c1,c2⟩:=xE hX4;have cP:w4.cell? ⟨P,0,none⟩=some (.pointer (some ⟨B,0,none⟩)):=by rw [hP.cell];rfl
 simp [xg,c0,c1,cP];unfold jz at q;by_cases h3:(tk L i).kind=3
 ·rw [if_pos h3] at q;have hlt:=xM h3 (by decide);have h3':((tk L i).kind:Int)=3:=by omega
  simp [h3',hC.st.blk.cell];refine qci hC hlt (by simp) (by simp) jS fun w5 hC5 hT5=> ?_;have hX5:=hC.st.var hT5 hX4 (by decide) (by decide);have cX5:=(xE hX5).2.1;have hP5:=hC.st.var hT5 hP (by decide) (by decide);have cP5:w5.cell? ⟨P,0,none⟩=some (.pointer (some ⟨B,0,none⟩)):=by rw [hP5.cell];rfl
  simp [cX5];refine (qk9 (qjd hL i) (hNum _ (by rw [kz hlt];exact List.getElem_mem hlt) h3)).mono ?_;rintro _ w6 ⟨hE6,rfl⟩;have hC6:=hC5.ext hE6;have cP6:=hE6.cell cP5;simp [cP6];rw [qBe];dsimp only [jF];refine kL hC6 (q4 1 [] [] [] (qbQ (tk L i).text) (.slice none 0 0) []) (qar _ _ _ _) (by simp;omega) fun nv7 w7 V hT7=> ?_;simp;exact qaB V rfl q
 ·rw [if_neg h3] at q;have h3':¬((tk L i).kind:Int)=3:=by omega
  simp [h3',cP];have hC4:=hC;have hP4:=hP;refine yi (s:=[116,114,117,101]) hC4 q (fun w5 hc5 hC5 hT5 q=> ?_) (fun w5 hc5 hC5 hT5 q=> ?_)
  ·have hP5:=hC4.st.var hT5 hP4 (by decide) (by decide);have cP5:w5.cell? ⟨P,0,none⟩=some (.pointer (some ⟨B,0,none⟩)):=by rw [hP5.cell];rfl
   simp [cP5];rw [qBd];dsimp only [jF];refine kL hC5 (q4 2 [] [] [] 1 (.slice none 0 0) []) (qar _ _ _ _) (by simp;omega) fun nv7 w7 V hT7=> ?_;simp;exact qaB V rfl q
  have hP5:=hC4.st.var hT5 hP4 (by decide) (by decide);have hX5:=hC4.st.var hT5 hX4 (by decide) (by decide);have cP5:w5.cell? ⟨P,0,none⟩=some (.pointer (some ⟨B,0,none⟩)):=by rw [hP5.cell];rfl
  obtain ⟨cx5,cy5,_⟩:=xE hX5;simp [cP5,cx5,cy5];refine yi (s:=[102,97,108,115,101]) hC5 q (fun w6 hc6 hC6 hT6 q=> ?_) (fun w6 hc6 hC6 hT6 q=> ?_)
  ·have hP6:=hC5.st.var hT6 hP5 (by decide) (by decide);have cP6:w6.cell? ⟨P,0,none⟩=some (.pointer (some ⟨B,0,none⟩)):=by rw [hP6.cell];rfl
   simp [cP6];rw [qBc];dsimp only [jF];refine kL hC6 (q4 2 [] [] [] 0 (.slice none 0 0) []) (qar _ _ _ _) (by simp;omega) fun nv7 w7 V hT7=> ?_;simp;exact qaB V rfl q
  have hP6:=hC5.st.var hT6 hP5 (by decide) (by decide);have hX6:=hC5.st.var hT6 hX5 (by decide) (by decide);have cP6:w6.cell? ⟨P,0,none⟩=some (.pointer (some ⟨B,0,none⟩)):=by rw [hP6.cell];rfl
  obtain ⟨cx6,cy6,_⟩:=xE hX6;simp [cP6,cx6,cy6];refine yi (s:=[110,105,108]) hC6 q (fun w7 hc7 V hT7 q=> ?_) (fun w7 hc7 V hT7 q=> ?_)
  ·have hP7:=hC6.st.var hT7 hP6 (by decide) (by decide);have cP7:w7.cell? ⟨P,0,none⟩=some (.pointer (some ⟨B,0,none⟩)):=by rw [hP7.cell];rfl
   simp [cP7];rw [qBb];dsimp only [jF];refine kL V (q4 3 [] [] [] 0 (.slice none 0 0) []) (qar _ _ _ _) (by simp;omega) fun nv7 w7 V hT7=> ?_;simp;exact qaB V rfl q
  have hP7:=hC6.st.var hT7 hP6 (by decide) (by decide);have hX7:=hC6.st.var hT7 hX6 (by decide) (by decide);have cP7:w7.cell? ⟨P,0,none⟩=some (.pointer (some ⟨B,0,none⟩)):=by rw [hP7.cell];rfl
  obtain ⟨cx7,cy7,_⟩:=xE hX7;simp [cP7,cx7,cy7];refine xc qah (by decide) (by decide) (by simp [Value.cells]) fun Z W8 hZ hE8 hb8 _=> ?_;simp [Value.cells] at hb8;have hC8':=V.ext hE8;simp;refine isB (ss:=[[117,112],[100,111,119,110]]) hC8' (qcN (l:=[[117,112],[100,111,119,110]]) (by simpa [qi,qb] using hb8) (by decide)) fun w8 hE8' hC8=> ?_;have hP8:=(hP7.ext hE8).ext hE8';have hX8:=(hX7.ext hE8).ext hE8';have cP8:w8.cell? ⟨P,0,none⟩=some (.pointer (some ⟨B,0,none⟩)):=by rw [hP8.cell];rfl
  obtain ⟨cx8,cy8,_⟩:=xE hX8;by_cases h8:qg L i [[117,112],[100,111,119,110]]=true
  ·simp only [h8,if_true] at q;have hlt:=xn h8;simp [h8];rw [qBa];dsimp only [jF];refine qb8 z44 (by simp) (by simp [Value.cells,qj]) (by simp [Value.cells,qj,q4]) (by kernel_rfl) fun Y w9 hY hE9 hb9 _=> ?_;simp [Value.cells] at hb9;have hN9:=hC8.newN hY hE9 hb9;have z:=hC8.ext hE9;have H:=hP8.ext hE9;have hYw:w.heap.size≤Y:=Nat.le_trans hC8.size hY;have cP9:w9.cell? ⟨P,0,none⟩=some (.pointer (some ⟨B,0,none⟩)):=by rw [H.cell];rfl
   simp [cP9];have hr':bnd (needs L [[40]]) (fun _=>bnd e fun t=>bnd (needs L [[41]]) fun _=>ret (T.mk {kind:=if qg L i [[100,111,119,110]] then 10 else 9} [t],false)) (i+1) f=r:=by
    rw [←q];show _=bnd (bnd _ _) _ (i+1) f;simp only [sq,x9,wc]
   have rest:∀(ρ2:qa) (k:Nat) E,Cu base B w tv nv L xs E nv i f []→NVr B Y nv E (q4 k [] [] [] 0 (.slice none 0 0) [])→Blk E P #[.pointer (some ⟨B,0,none⟩)] 83→ρ2 1= .pointer (some ⟨P,0,none⟩)→ρ2 8= .pointer (some ⟨Y,0,none⟩)→
     bnd (needs L [[40]]) (fun _=>bnd e fun t=>bnd (needs L [[41]]) fun _=>ret (T.mk {kind:=k} [t],false)) (i+1) f=r→
     qgv.wp ⟨Tryz.prog,157,qbW,[]⟩ (qdB.wp ⟨Tryz.prog,157,qbW,[]⟩ (qz [.tmp 2, .tmp 3] (PR xz base B tv nv L xs w r)) (jd [.tmp 2, .tmp 3] (PR xz base B tv nv L xs w r))) ((jd [.tmp 2, .tmp 3] (PR xz base B tv nv L xs w r)).blk 0 (qdB.wp ⟨Tryz.prog,157,qbW,[]⟩ (qz [.tmp 2, .tmp 3] (PR xz base B tv nv L xs w r)) (jd [.tmp 2, .tmp 3] (PR xz base B tv nv L xs w r)))) ρ2 E:=by
    intro ρ2 k E a hN10 u r1 r8 q;have cP10:E.cell? ⟨P,0,none⟩=some (.pointer (some ⟨B,0,none⟩)):=by rw [u.cell];rfl
    simp [qgv,r1,r8,cP10,a.st.blk.cell];refine qci a hlt (by simp) (by simp) jS fun ab o v=> ?_;have y:=a.st.var v u (by decide) (by decide);have hN11:=hN10.turn v;have cP11:ab.cell? ⟨P,0,none⟩=some (.pointer (some ⟨B,0,none⟩)):=by rw [y.cell];rfl
    simp [r1,r8,cP11];refine yS o [40] fun v12 w12 hE12 b J=> ?_;simp;refine Qx (A':=xz) b J (by simp) q aa (fun c w' hp=>by simpa using hp) ?_;intro j13 g13 nv13 w13 hne13 F hT13 hr13;have hj13:=(qaU _ _ _ _ _ hne13).1;have hP13:=b.st.var hT13 (y.ext hE12) (by decide) (by decide);have hN13:=(hN11.ext hE12).turn hT13;have cP13:w13.cell? ⟨P,0,none⟩=some (.pointer (some ⟨B,0,none⟩)):=by rw [hP13.cell];rfl
    simp [r1,r8,cP13];refine wK (A:=aT) (A':=xz) he F (by simp;omega) hr13 aa (fun c w' hp=>by simpa using hp) ?_;intro t j14 g14 v14 nv14 zs w14 ht hC14 hnd14 hT14 hv14 hr14;simp only [List.nil_append,List.append_nil] at hC14 hnd14 hv14;change v14=_ at hv14;subst hv14;change zs.map (·.nd)=t.flat xs.length at hnd14;have hz14:=hz _ _ _ _ _ ht;have hzl:zs.length=t.size:=by rw [←T.flat_len t xs.length,←hnd14,List.length_map]
    have hjl14:=hC14.st.il;simp;refine xc qbl (by decide) (by simp) (by simp [Value.cells]) fun Z w15 hZ hE15 hb15 _=> ?_;simp [Value.cells] at hb15;have hC15:=hC14.ext hE15;have hk15:Own w.heap.size 3 1 w15 (.slice (some ⟨Z,0,none⟩) 1 1) ((qu xs.length [t]).map encI):=Own.lit (sz:=1) (cs:=(qu xs.length [t]).map encI) (by simpa [qu,encI] using hb15) (by simp [qu]) (Nat.le_trans hC14.size hZ) (by decide);simp [r1,r8];refine qbG (c:=5) (x':=q4 k [] [] [] 0 (.slice (some ⟨Z,0,none⟩) 1 1) (qu xs.length [t])) hC15 ((hN13.turn hT14).ext hE15) hYw (by simp [r8]) (by simp [qj]) (by simp [Value.cells]) (by simp) qfa (by simp [qj,q4]) fun w16 hO16 hC16 hN16=> ?_;have hk16:=qf9 ((hN13.turn hT14).ext hE15) hO16 hk15 (by decide);have hP16:Blk w16 P #[.pointer (some ⟨B,0,none⟩)] 83:=hO16.blk ((F.st.var hT14 hP13 (by decide) (by decide)).ext hE15) (by have:=hP8.lt;omega);have cP16:w16.cell? ⟨P,0,none⟩=some (.pointer (some ⟨B,0,none⟩)):=by rw [hP16.cell];rfl
    simp [r1,r8,cP16];refine yS hC16 [41] fun v17 w17 hE17 hC17 hv17=> ?_;simp;refine Qx (A':=xz) hC17 hv17 (by simp) hr14 aa (fun c w' hp=>by simpa using hp) ?_;intro j18 g18 nv18 w18 hne18 hC18 hT18 hr18;have hk18:=hC17.keep hT18 (hk16.ext hE17) (by decide) (by decide);have hN18:=(hN16.ext hE17).turn hT18;have hP18:=hC17.st.var hT18 (hP16.ext hE17) (by decide) (by decide);have cP18:w18.cell? ⟨P,0,none⟩=some (.pointer (some ⟨B,0,none⟩)):=by rw [hP18.cell];rfl
    simp [r1,r8,cP18,hN18.row];refine kL hC18 (q4 k [] [] [] 0 (.slice (some ⟨Z,0,none⟩) 1 1) (qu xs.length [t])) hk18 (by simp;omega) fun nv19 w19 hC19 hT19=> ?_;simp;have hfl:zs.map (·.nd)=flats xs.length [t]:=by rw [hnd14];simp [flats]
    exact qaM hC19 (qb5 hfl rfl) (qbu hfl) hr18
   refine yS (L:=L) z [100,111,119,110] fun v10 E C a S=> ?_;simp;refine isB (ss:=[[100,111,119,110]]) a (Own.sl S (by simp)) fun ab hE11 o=> ?_;have hN11:=(hN9.ext C).ext hE11;have y:=(H.ext C).ext hE11;cases hd:qg L i [[100,111,119,110]] with
   |true=>
    rw [hd] at hr';simp;refine qbG (c:=0) (x':=q4 10 [] [] [] 0 (.slice none 0 0) []) o hN11 hYw (by simp) (by simp [qj]) (by simp [Value.cells]) (by simp) (by kernel_rfl) (by simp [qj,q4]) fun w12 hO12 b hN12=> ?_;exact rest _ 10 w12 b hN12 (hO12.blk y (by have:=hP8.lt;omega)) (by simp) (by simp) hr'
   |false=>
    rw [hd] at hr';simp;exact rest _ 9 ab o hN11 y (by simp) (by simp) hr'
  ·simp only [h8,Bool.false_eq_true,if_false] at q;have h8':qg L i [[117,112],[100,111,119,110]]=false:=by simpa using h8
   simp [h8',cP8];refine yi (s:=[40]) hC8 q (fun w9 hc9 z hT9 q=> ?_) (fun w9 hc9 z hT9 q=> ?_)
   ·have H:=hC8.st.var hT9 hP8 (by decide) (by decide);have cP9:w9.cell? ⟨P,0,none⟩=some (.pointer (some ⟨B,0,none⟩)):=by rw [H.cell];rfl
    simp [cP9];have hr':bnd e (fun t=>bnd (needs L [[41]]) fun _=>ret (t,false)) (i+1) f=r:=by
     rw [←q];show _=bnd (bnd _ _) _ (i+1) f;simp only [sq,x9,wc]
    refine wK (A:=aT) (A':=xz) he z (by simp;omega) hr' aa (fun c w' hp=>by simpa using hp) ?_;intro t j10 g10 v10 nv10 zs E ht a U hT10 S hr10;simp only [List.nil_append,List.append_nil] at a U S;have u:=z.st.var hT10 H (by decide) (by decide);have cP10:E.cell? ⟨P,0,none⟩=some (.pointer (some ⟨B,0,none⟩)):=by rw [u.cell];rfl
    simp [cP10];refine yS a [41] fun v11 ab hE11 o hv11=> ?_;simp;refine Qx (A':=xz) o hv11 (by simp) hr10 aa (fun c w' hp=>by simpa using hp) ?_;intro j12 g12 nv12 w12 hne12 b R hr12;simp;exact qaM b U S hr12
   have H:=hC8.st.var hT9 hP8 (by decide) (by decide);have hX9:=hC8.st.var hT9 hX8 (by decide) (by decide);have cP9:w9.cell? ⟨P,0,none⟩=some (.pointer (some ⟨B,0,none⟩)):=by rw [H.cell];rfl
   obtain ⟨cx9,cy9,_⟩:=xE hX9;simp [cP9,cx9,cy9];have e40:(⟨#[40]⟩:ByteArray)=qb [40]:=rfl;have e123:(⟨#[123]⟩:ByteArray)=qb [123]:=rfl;have e91:(⟨#[91]⟩:ByteArray)=qb [91]:=rfl;have e36:(⟨#[36]⟩:ByteArray)=qb [36]:=rfl;have hk:(((tk L i).kind:Int)=1)↔(tk L i).kind=1:=by omega
   simp only [e40,e123,xH,hk];unfold jp at q;by_cases h1:(tk L i).kind=1∧((tk L (i+1)).text=[40]∨(tk L (i+1)).text=[123])
   ·rw [if_pos h1] at q;rw [if_pos h1];refine wK (A:=aT) (A':=xz) (k:=fun x=>ret (x,true)) (quI hL he hu hz n) z (by simpa using hn) q aa (fun c w' hp=>by simpa using hp) ?_;intro t j10 g10 v10 nv10 zs E ht a U hT10 S hr10;simp only [List.nil_append,List.append_nil] at a U S;simp;exact qaM a U S hr10
   rw [if_neg h1] at q;rw [if_neg h1];simp [cP9,cx9,cy9,e91,xH,hk];by_cases h2:(tk L i).kind=1∧(tk L (i+1)).text=[91]
   ·rw [if_pos h2] at q;rw [if_pos h2];have hlt:=xM h2.1 (by decide);refine qb8 z9 (by simp) (by simp [Value.cells]) (by simp [Value.cells]) (by kernel_rfl) fun O E hO C hb10 _=> ?_;simp [Value.cells] at hb10;have a:=z.ext C;have u:=H.ext C;have hX10:=hX9.ext C;have hOw:w.heap.size≤O:=Nat.le_trans z.size hO;have hPO:P≠O:=by have:=H.lt;omega
    have hXO:X≠O:=by have:=hX9.lt;omega
    have cP10:E.cell? ⟨P,0,none⟩=some (.pointer (some ⟨B,0,none⟩)):=by rw [u.cell];rfl
    simp [cP10];have how:q7 L n i f≠ .oof:=fun e2=>by rw [e2] at q;exact aa q.symm
    refine (quu hL n (xs:=xs) (by simpa using a.st) hn u hb10 (Nat.le_trans z.b0 hOw) how).mono ?_;intro e2 ab hp;cases hm:q7 L n i f with
    |oof=>exact absurd hm how
    |ok s j g=>
     rw [hm] at hp q;obtain ⟨rfl,nv11,hS11,v,hO11,hg11⟩:=hp;have o:=a.turnO (by simpa using hS11) v hOw (by
      rcases hg11 with e|e
      ·rw [e];exact a.tn.gr
      ·rcases a.tn.gr with e2|e2
       ·rw [e2] at e;exact .inr e
       ·exact .inr (by omega))
     have hj:=((yB n).ok hm).1;have y:=v.var a.st u (by decide) (by decide) hPO;have cP11:ab.cell? ⟨P,0,none⟩=some (.pointer (some ⟨B,0,none⟩)):=by rw [y.cell];rfl
     have cO11:ab.cell? ⟨O,0,none⟩=some (.string (qb s)):=by rw [hO11.cell];rfl
     simp [cP11,cO11];refine qaf (A:=aT) (A':=xz) (k:=fun x=>ret (x,true)) (fun ho=>qk2 hL he hu hz n s base B ab tv nv11 j g (xs++[]) o.st (by simp;omega) ho) o q aa (fun c w' hp=>by simpa using hp) ?_;intro t j12 g12 v12 nv12 zs w12 ht b I R J hr12;simp only [List.nil_append,List.append_nil] at b I J;simp;exact qaM b I J hr12
    |no g=>
     rw [hm] at hp q;obtain ⟨rfl,nv11,hS11,v⟩:=hp;have o:=Cu.start hS11;have y:=v.var a.st u (by decide) (by decide) hPO;have hX11:=v.var a.st hX10 (by decide) (by decide) hXO;have cP11:ab.cell? ⟨P,0,none⟩=some (.pointer (some ⟨B,0,none⟩)):=by rw [y.cell];rfl
     simp [ql3,cP11,o.st.blk.cell];refine qci o hlt (by simp) (by simp) jS fun w12 b R=> ?_;have hP12:=o.st.var R y (by decide) (by decide);have hX12:=o.st.var R hX11 (by decide) (by decide);have cP12:w12.cell? ⟨P,0,none⟩=some (.pointer (some ⟨B,0,none⟩)):=by rw [hP12.cell];rfl
     simp [cP12,(xE hX12).2.1];rw [qqx];dsimp only [jF];refine kL b (q4 4 (tk L i).text [] [] 0 (.slice none 0 0) []) (qar _ _ _ _) (by simp;omega) fun nv13 w13 F hT13=> ?_;simp;exact qaB (a.backO v hOw F (by have h1:=hS.nvLen;have h2:=F.st.nvLen;simp at h2;omega)) rfl q
   rw [if_neg h2] at q;rw [if_neg h2];simp [cP9,cx9,cy9,e36,xH,hk];by_cases h4:(tk L i).kind=1∧(tk L (i+1)).text≠[36]
   ·rw [if_pos h4] at q;have hlt:=xM h4.1 (by decide);simp [h4.1,h4.2,cP9,z.st.blk.cell];refine qci z hlt (by simp) (by simp) jS fun w12 b R=> ?_;have hP12:=z.st.var R H (by decide) (by decide);have hX12:=z.st.var R hX9 (by decide) (by decide);have cP12:w12.cell? ⟨P,0,none⟩=some (.pointer (some ⟨B,0,none⟩)):=by rw [hP12.cell];rfl
    simp [cP12,(xE hX12).2.1];rw [qqx];dsimp only [jF];refine kL b (q4 4 (tk L i).text [] [] 0 (.slice none 0 0) []) (qar _ _ _ _) (by simp;omega) fun nv13 w13 F hT13=> ?_;simp;exact qaB F rfl q
   ·rw [if_neg h4] at q;have h4':¬((tk L i).kind=1∧¬(tk L (i+1)).text=[36]):=h4;rw [if_neg h4'];have hr':bnd (q7 L n) (fun s=>bnd (vk L n e s) fun x=>ret (x,true)) i f=r:=by
     rw [←q];show _=bnd (bnd _ _) _ i f;rw [x9]
    simp [qdB];refine vS qwt (fun W=>Blk W P #[.pointer (some ⟨B,0,none⟩)] 83) fun W10 C _=> ?_;have u:=H.ext C;have a:=z.ext C;refine ⟨u, ?_⟩;have cPP:∀W,Blk W P #[.pointer (some ⟨B,0,none⟩)] 83→W.cell? ⟨P,0,none⟩=some (.pointer (some ⟨B,0,none⟩)):=fun W h=>by rw [h.cell];rfl
    simp+contextual -implicitDefEqProofs [ql1,cPP,u];refine quE (A':=xz) (k:=fun x=>ret (x,true)) hL he hu hz n a (by simpa using hn) hr' aa (fun ρ c w' hp=>by simpa using hp) fun s ab nv11 j11 g11 o v hgo=> ?_;refine ⟨a.st.var v u (by decide) (by decide), ?_⟩;simp;refine hgo fun t j12 g12 v12 nv12 zs w12 b I J hr12=> ?_;simp only [List.nil_append,List.append_nil] at b I J;simp [ql2];exact qaM b I J hr12
def rv (b:Nat) (t:T):Int:=(b:Int)+t.size - 1
theorem qkt (b:Nat) (t:T):qu b [t]=[rv b t]:=rfl
theorem qks (b:Nat) (t u:T):qu b [t,u]=[rv b t,rv (b+t.size) u]:=rfl
theorem qpE (b:Nat) (t:T):flats b [t]=t.flat b:=by simp [flats]
theorem qpD (b:Nat) (t u:T):flats b [t,u]=t.flat b++u.flat (b+t.size):=by simp [flats]
section
variable {L:List Tok} {base B X:Nat} {w w1:World} {tv nv nv1:Value} {i f:Nat} {xs ys:List NV} {K:qa→World→Prop} {Q:Ks} {ρ:qa} {d:Option Nat}
theorem qdy {ty:TypeId} {ops:Array (Nat×Operand)} {n:Nat} (l:List Int) (c:Cu base B w tv nv L xs w1 nv1 i f ys) (t:n≤1000) (u:l.length=n) (v:ops.toList.map (·.1)=List.range n) (o:∀p∈ops.toList,(qd ρ p.2).cells.size=1)
  (a:(ops.toList.flatMap fun p=>(qd ρ p.2).cells.toList)=l.map encI) (h:∀Z w2,qc w1 w2→Cu base B w tv nv L xs w2 nv1 i f ys→Own w.heap.size 3 1 w2 (.slice (some ⟨Z,0,none⟩) n n) (l.map encI)→K (qk ρ d (.slice (some ⟨Z,0,none⟩) n n)) w2):
  qm Tryz.prog Q d (.buildSlice 40 n ops) ty K ρ w1:=by
 refine xc qbl (by simpa using t) v o fun Z W q b e _=> ?_;rw [a] at e;exact h Z W b (c.ext b) (Own.lit (sz:=1) e (by simp [u]) (Nat.le_trans c.size q) (by unfold maxLen;omega))
theorem qaA {b:Nat} {t:T} (h:ys.map (·.nd)=t.flat b):ys.length=t.size:=by rw [←T.flat_len t b,←h,List.length_map]
theorem qzE {r:Rs (T×Nat)} {t:T} {b:Nat} (a:Cu base B w tv nv L xs w1 nv1 i f ys) (c:ys.map (·.nd)=t.flat xs.length) (e:ret (t,b) i f=r):PR wf base B tv nv L xs w r (.returned (.tuple #[.int .i64 (rv xs.length t), .int .i64 (b:Int)])) w1:=by
 rw [←e];exact ⟨_,nv1,ys,rfl,a.st,c,a.fr,a.tn,rfl⟩
end
theorem qA9 (Z:Nat):Tryz.prog.built 44 [(0, .int .u8 7),(5, .slice (some ⟨Z,0,none⟩) 2 2)]=some (qj (q4 7 [] [] [] 0 (.slice (some ⟨Z,0,none⟩) 2 2) [])).toArray:=by kernel_rfl
theorem qA8 (s:Bs) (Z:Nat):Tryz.prog.built 44 [(0, .int .u8 8),(1, .string (qb s)),(5, .slice (some ⟨Z,0,none⟩) 1 1)]=some (qj (q4 8 s [] [] 0 (.slice (some ⟨Z,0,none⟩) 1 1) [])).toArray:=by kernel_rfl
theorem qdp (k:Nat) (a b c:Bs) (n:Int) (kv:Value) (l:List Int):qj (q4 k a b c n kv [])=qj (q4 k a b c n kv l):=rfl
theorem quA {L:List Tok} (hL:xf L) (hNum:qeD L) {e:M T} (he:Mt aT L 62 me e) (hu:Up e) (hz:Sz T.size 0 e) (n:Nat):Mt wf L 139 me (zZ L n e):=by
 intro base B w tv nv i f xs hS hn u;have hil:=hS.il;have htl:=hS.tl;generalize hr:zZ L n e i f=r at u;refine qy8 fun ρ r0=> ?_;simp [qpe,r0];refine wK (A:=xz) (A':=wf) (quv hL hNum he hu hz n) (Cu.start hS) (by simpa using hn) hr u (fun c w' Y=>by simpa using Y) ?_;rintro ⟨t,b⟩ j g v nv1 zs w1 ht ac a hT1 ae hr1;simp only [List.nil_append,List.append_nil] at ac a ae;change v= .tuple #[.int .i64 (rv xs.length t), .bool b] at ae;subst ae;change zs.map (·.nd)=t.flat xs.length at a;have hz1:=qjp hz n _ _ _ _ _ ht;have hzl:=qaA a;have hz1':t.size+2*i≤2*j:=by simp only [zU] at hz1;omega
 simp;have go:∀E:qa,E 0= .pointer (some ⟨B,0,none⟩)→E 4= .int .i64 (rv xs.length t)→E 6= .int .i64 ((if b then 1 else 0:Nat):Int)→qhi.wp ⟨Tryz.prog,40,qpd,[]⟩ (qz [.tmp 2, .tmp 3] (PR wf base B tv nv L xs w r)) (jd [.tmp 2, .tmp 3] (PR wf base B tv nv L xs w r)) E w1:=by
  intro E r0 r4 r6;simp [qhi];refine yR (fun U w'=>∃i' f' nv' ys t fm n',U 0= .pointer (some ⟨B,0,none⟩)∧U 4= .int .i64 (rv xs.length t)∧U 6= .int .i64 ((fm:Nat):Int)∧Cu base B w tv nv L xs w' nv' i' f' ys∧ys.map (·.nd)=t.flat xs.length∧(xs++ys).length≤2*i'+2∧zC L e n' t fm i' f'=r) (fun _ w'=>L.length - atOf B w')
   ⟨j,g,nv1,zs,t,_,n,r0,r4,r6,ac,a,by simp;omega,hr1⟩ ?_
  clear ht ac a hT1 hr1 hz1 hzl hz1' r0 r4 r6;rintro U w' ⟨i',f',nv',ys,t,fm,n',r0,r4,r6,hC,S,hcnt,hsp⟩;have hat:=hC.st.atOf;cases n' with
  |zero=>exact absurd hsp.symm u
  |succ n'=>
  have hyl:=qaA S;have V:(xs++ys).length=xs.length+t.size:=by rw [List.length_append,hyl]
  have hjl:=hC.st.il;rw [List.length_append] at hcnt;simp [qpc,r0];refine yi (s:=[91]) hC hsp (fun w2 hc2 af hT2 W=> ?_) (fun w2 hc2 af hT2 W=> ?_)
  ·have hlt:=xn hc2;simp [r0];refine wK (A:=aT) (A':=wf) he af (by simp;omega) W u (fun c w' Y=>by simpa using Y) ?_;intro k j3 g3 v3 nv3 zs w3 hk q o hT3 R z;change v3=_ at R;rw [V] at R;change v3= .int .i64 (rv (xs.length+t.size) k) at R;subst R;change zs.map (·.nd)=k.flat (xs++ys).length at o;rw [V] at o;have hz3:=hz _ _ _ _ _ hk;have hzl:=qaA o;have hjl3:=q.st.il;simp [r0];refine yS q [93] fun v4 w4 hE4 J I=> ?_;simp;refine Qx (A':=wf) J I (by simp) z u (fun c w' Y=>by simpa using Y) ?_;intro j5 g5 nv5 w5 hne5 hC5 hT5 hr5;have hj5:=(qaU _ _ _ _ _ hne5).1;simp [r0,r4];refine qdy (qu xs.length [t,k]) hC5 (by decide) rfl (by decide) (by simp [r4,Value.cells]) (by simp [r4,Value.cells,qks,encI]) fun Z w6 hE6 ad ab=> ?_;simp;rw [qA9];dsimp only [jF];rw [qdp (l:=qu xs.length [t,k])];refine kL ad (q4 7 [] [] [] 0 (.slice (some ⟨Z,0,none⟩) 2 2) (qu xs.length [t,k])) ab (by simp;omega) fun aa w7 H hT7=> ?_;have C:(ys++zs).map (·.nd)=flats xs.length [t,k]:=by rw [List.map_append,S,o,qpD]
   have y:=qbu (xs:=xs) (ys:=ys++zs) (d:={kind:=7}) (ks:=[t,k]) C;simp [r0];refine ⟨⟨j5,g5,aa,_,T.mk {kind:=7} [t,k], ?_,2,rfl,H,qb5 C rfl,by simp;omega,n',hr5⟩, ?_⟩
   ·simp only [List.length_append] at y;push_cast at y;rw [←Int.add_assoc] at y;simpa [rv,Int.add_assoc] using y
   ·rw [H.st.atOf,hat];omega
  ·simp [r0];refine yi (s:=[46]) af W (fun w3 hc3 q hT3 z=> ?_) (fun w3 hc3 q hT3 z=> ?_)
   ·have hlt:=xn hc3;simp [r0];refine qbi (A:=aS) (A':=wf) (fun _ _=>rfl) (F:=120) (fun _ _ _ _ _ _ _ _ h _ _=>qaq h) q (by simp;omega) z u (fun c w' Y=>by simpa using Y) ?_;intro s j4 g4 v4 nv4 w4 hna J hT4 I hr4;change v4=_ at I;subst I;have hj4:=qaV _ _ _ _ _ hna;have hjl4:=J.st.il;simp;refine qdy (qu xs.length [t]) J (by decide) rfl (by decide) (by simp [r4,Value.cells]) (by simp [r4,Value.cells,qkt,encI]) fun Z w6 hE6 ad ab=> ?_;simp;rw [qA8];dsimp only [jF];rw [qdp (l:=qu xs.length [t])];refine kL ad (q4 8 s [] [] 0 (.slice (some ⟨Z,0,none⟩) 1 1) (qu xs.length [t])) ab (by simp;omega) fun aa w7 H hT7=> ?_;have C:ys.map (·.nd)=flats xs.length [t]:=by rw [S,qpE]
    have y:=qbu (xs:=xs) (ys:=ys) (d:={kind:=8,name:=s}) (ks:=[t]) C;simp [r0];refine ⟨⟨j4,g4,aa,_,T.mk {kind:=8,name:=s} [t], ?_,3,rfl,H,qb5 C rfl,by simp;omega,n',hr4⟩, ?_⟩
    ·simpa [rv] using y
    ·rw [H.st.atOf,hat];omega
   ·simp [r4,r6];exact qzE q S z
 cases b with
 |true=>
  simp;exact go _ (by simp [r0]) (by simp) (by simp)
 |false=>
  simp;exact go _ (by simp [r0]) (by simp) (by simp)
theorem qA7 (Z:Nat):Tryz.prog.built 44 [(0, .int .u8 6),(1, .string (qb [110,111,116])),(5, .slice (some ⟨Z,0,none⟩) 1 1)]=some (qj (q4 6 [110,111,116] [] [] 0 (.slice (some ⟨Z,0,none⟩) 1 1) [])).toArray:=by kernel_rfl
theorem qA6 (s:Bs) (Z:Nat):Tryz.prog.built 44 [(0, .int .u8 6),(1, .string (qb s)),(5, .slice (some ⟨Z,0,none⟩) 2 2)]=some (qj (q4 6 s [] [] 0 (.slice (some ⟨Z,0,none⟩) 2 2) [])).toArray:=by kernel_rfl
theorem quT {L:List Tok} {p:M (T×Nat)} (z:Mt wf L 139 me p) (hz:Sz wk 0 p):Mt aT L 62 me (xR L p):=by
 intro base B w tv nv i f xs hS hn C;have hil:=hS.il;have htl:=hS.tl;generalize hr:xR L p i f=r at C;refine qw3 fun ρ r0=> ?_;simp [qmL,r0];refine yi (s:=[110,111,116]) (Cu.start hS) hr (fun w1 hc1 J hT1 R=> ?_) (fun w1 hc1 J hT1 R=> ?_)
 ·simp [r0];refine wK (A:=wf) (A':=aT) z J (by simp;omega) R C (fun c w' z=>by simpa using z) ?_;rintro ⟨t,fm⟩ j g v nv2 zs w2 ht e a hT2 b n;simp only [List.nil_append,List.append_nil] at e a b;change v= .tuple #[.int .i64 (rv xs.length t), .int .i64 (fm:Int)] at b;subst b;change zs.map (·.nd)=t.flat xs.length at a;have F:=hz _ _ _ _ _ ht;simp only [wk] at F;have V:=qaA a;have hjl:=e.st.il;simp [r0];refine qdy (qu xs.length [t]) e (by decide) rfl (by decide) (by simp [Value.cells]) (by simp [Value.cells,qkt,encI]) fun Z w3 U H hk3=> ?_;simp;have e1:(⟨#[110,111,116]⟩:ByteArray)=qb [110,111,116]:=rfl;rw [e1,qA7];dsimp only [jF];rw [qdp (l:=qu xs.length [t])];refine kL H (q4 6 [110,111,116] [] [] 0 (.slice (some ⟨Z,0,none⟩) 1 1) (qu xs.length [t])) hk3 (by simp;omega) fun nv4 w4 o hT4=> ?_;have I:zs.map (·.nd)=flats xs.length [t]:=by rw [a,qpE]
  simp;exact qd6 o I rfl n
 ·simp [qmJ,r0];refine wK (A:=wf) (A':=aT) z J (by simp;omega) R C (fun c w' z=>by simpa using z) ?_;rintro ⟨t,fm⟩ j g v nv2 zs w2 ht e a hT2 b n;simp only [List.nil_append,List.append_nil] at e a b;change v= .tuple #[.int .i64 (rv xs.length t), .int .i64 (fm:Int)] at b;subst b;change zs.map (·.nd)=t.flat xs.length at a;have F:=hz _ _ _ _ _ ht;simp only [wk] at F;have V:=qaA a;have hjl:=e.st.il;simp [r0];refine xc qah (by decide) (by decide) (by simp [Value.cells]) fun Z W3 hZ U ab _=> ?_;simp [Value.cells] at ab;have H:=e.ext U;simp;refine isB (ss:=xx) H (qcN (l:=xx) (by simpa [xx,qi,qb] using ab) (by decide)) fun w4 hE4 o=> ?_;by_cases y:qg L j xx=true
  ·simp only [y,if_true] at n;have hlt:=xn y;simp [y,qmK,r0];refine (Qu o.st 0 (by decide)).mono ?_;rintro _ w5 ⟨rfl,ad⟩;have aa:=o.ext ad;simp [xg,r0,aa.st.blk.cell];refine qci aa hlt (by simp) (by simp) jS fun w6 hC6 hT6=> ?_;simp [r0];refine wK (A:=wf) (A':=aT) z hC6 (by simp;omega) n C (fun c w' z=>by simpa using z) ?_;rintro ⟨u,fm2⟩ j7 g7 v7 nv7 us w7 ae ac h hT7 W af;have E:(xs++zs).length=xs.length+t.size:=by rw [List.length_append,V]
   change v7= .tuple #[.int .i64 (rv (xs++zs).length u), .int .i64 (fm2:Int)] at W;subst W;change us.map (·.nd)=u.flat (xs++zs).length at h;rw [E] at h;have hz7:=hz _ _ _ _ _ ae;simp only [wk] at hz7;have hul:=qaA h;have hjl7:=ac.st.il;rw [E];simp [r0];refine qdy (qu xs.length [t,u]) ac (by decide) rfl (by decide) (by simp [Value.cells]) (by simp [Value.cells,qks,encI]) fun Y w8 hE8 hC8 hk8=> ?_;simp;rw [qA6];dsimp only [jF];rw [qdp (l:=qu xs.length [t,u])];refine kL hC8 (q4 6 (tk L j).text [] [] 0 (.slice (some ⟨Y,0,none⟩) 2 2) (qu xs.length [t,u])) hk8 (by simp;omega) fun nv9 w9 ag hT9=> ?_;have I:(zs++us).map (·.nd)=flats xs.length [t,u]:=by rw [List.map_append,a,h,qpD]
   have q:=qd6 ag I rfl af;rw [List.length_append] at q
   push_cast at q
   simp;exact q
  ·simp only [y,Bool.false_eq_true,if_false] at n;have S:qg L j xx=false:=by simpa using y
   simp [S];exact qpI o a rfl n
theorem qk7 {L:List Tok} (b:xf L) (a:qeD L):∀n,Mt aT L 62 me (qH L n)
 |0=>fun _ _ _ _ _ _ _ _ _ _ h=>absurd rfl h
 |n+1=>quT (quA b a (qk7 b a n) (qcv n) (qcH n) n) (qjq (qcH n) n)
section
variable {L:List Tok} {base B X:Nat} {w w1:World} {tv nv nv1:Value} {i f:Nat} {xs ys:List NV} {K:qa→World→Prop} {Q:Ks} {ρ:qa} {d:Option Nat}
end
structure NK (w:World) (B X:Nat) (nv:Value) (W:World) (x:NV) (all:List NV):Prop where
 var:NVr B X nv W x
 own:Own w.heap.size 3 1 W x.kv (x.nd.kids.map encI)
 sep:j9 x.kv all
section
variable {L:List Tok} {base B X:Nat} {w w1 w2:World} {tv nv nv1 nv2:Value} {i f:Nat} {xs ys zs:List NV} {x:NV} {K:qa→World→Prop} {Q:Ks} {ρ:qa} {d:Option Nat}
theorem NK.ext {all:List NV} (h:NK w B X nv1 w1 x all) (a:qc w1 w2):NK w B X nv1 w2 x all:=⟨h.var.ext a,h.own.ext a,h.sep⟩
theorem NK.turn (h:NK w B X nv1 w1 x (xs++ys)) (c:Cu base B w tv nv L xs w1 nv1 i f ys) (a:Tn base B nv1 nv2 w1 w2) (b:∀z∈zs,kr w1 z.kv):NK w B X nv2 w2 x (xs++(ys++zs)):=
 ⟨h.var.turn a,c.keep a h.own (by decide) (by decide),by rw [←List.append_assoc];exact h.sep.app (j9.new b fun k e=>(h.own.blk k e).2)⟩
end
section
variable {α β:Type} {A:Ans α} {A':Ans β} {L:List Tok} {m:M α} {k:α→M β} {r:Rs β} {base B X:Nat} {w w1:World} {tv nv nv1:Value} {i f:Nat} {xs ys:List NV} {K:qa→World→Prop} {Q:Ks} {ρ:qa} {d:Option Nat}
end
section
variable {L:List Tok} {base B X:Nat} {w w1:World} {tv nv nv1:Value} {i f:Nat} {xs ys:List NV} {K:qa→World→Prop} {Q:Ks} {ρ:qa} {d:Option Nat}
theorem NK.add {w2:World} {nv2:Value} {x z:NV} (h:NK w B X nv1 w1 x (xs++ys)) (b:Cu base B w tv nv L xs w1 nv1 i f ys) (a:Tn base B nv1 nv2 w1 w2) (e:∀k,z.kv.ownBlock=some k→x.kv.ownBlock≠some k):NK w B X nv2 w2 x (xs++(ys++[z])):=
 ⟨h.var.turn a,b.keep a h.own (by decide) (by decide),by rw [←List.append_assoc];exact h.sep.app fun y c k n=>(by
  obtain rfl:y=z:=List.mem_singleton.1 c;exact e k n)⟩
end
theorem qqy (s:Bs):Tryz.prog.built 44 [(0, .int .u8 31),(1, .string (qb s))]=some (qj (q4 31 s [] [] 0 (.slice none 0 0) [])).toArray:=by kernel_rfl
end Go.L02
