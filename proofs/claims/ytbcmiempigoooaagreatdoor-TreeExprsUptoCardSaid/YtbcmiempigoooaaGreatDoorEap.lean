/- Lemmas for a claim about layer 2 (tree). No conditions but those they state. -/
import Derived.Test.YtbcmiempigoooaaGreatDoorEao
import Derived.Lib.AtoiAll
import Derived.Lib.ItoaNum
import Derived.Test.YtbcmiempigoooaaGreatDoorProg
import Derived.KernelRfl
set_option linter.all false
namespace Go.L01
open Go.Eng Go.Lib
def xg (a:Nat) (l:Bs):Nat:=l.foldl (fun a c=>a*10+(c.toNat - 48)) a
def qcV (a:Nat) (c:UInt8) (l:Bs):xg a (c::l)=xg (a*10+(c.toNat - 48)) l:=by unfold xg;rw [List.foldl_cons]
def qhy:∀(l:Bs) (a:Nat),a<=xg a l
 |[],a=>j1 _
 |c::l,a=>by rw [qcV];have:=qhy l (a*10+(c.toNat - 48));omega
def qhx:∀(l:Bs) (a:Nat),(∀c∈l,qD c=true)->xg a l<(a+1)*10^l.length
 |[],a,_=>by simp [xg]
 |c::l,a,h=>by
  have b:=h c (by simp);simp [qD] at b;rw [qcV];have:=qhx l (a*10+(c.toNat - 48)) fun x e=>h x (by simp [e]);refine Jy this ?_;rw [List.length_cons,Nat.pow_succ,Nat.mul_comm (10^l.length) 10,<-Nat.mul_assoc];exact Vn _ (by omega)
def qyk (a:Nat) (l:Bs) (c:UInt8):xg a (l++[c])=xg a l*10+(c.toNat - 48):=by simp [xg]
def qiX:∀(l:Bs) (a:Nat),(∀c∈l,qD c=true)->xg a l<10000000000->parseUint10 a l=.ok (xg a l)
 |[],a,_,_=>rfl
 |c::l,a,h,b=>by
  have e:=h c (by simp);simp [qD] at e;rw [qcV] at b⊢;have n:=qhy l (a*10+(c.toNat - 48));rw [parseUint10,if_pos e,if_neg (by omega),if_neg (by omega)];exact qiX l _ (fun x o=>h x (by simp [o])) b
def qps {c:UInt8} (h:qD c=true):UInt8.ofNat (48+(c.toNat - 48))=c:=by
 simp [qD] at h;have:48+(c.toNat - 48)=c.toNat:=by omega
 rw [this];simp
def qlL:∀(n:Nat) (l:Bs),l.length=n->l≠[]->(∀c∈l,qD c=true)->(l.length=1\/l.getD 0 0≠48)->decDigits (xg 0 l)=l:=by
 intro n
 induction n with
 |zero=>intro l o C;exact absurd (uU.1 o) C
 |succ n S=>
  intro l o C y R;rcases List.eq_nil_or_concat l with rfl|⟨t,c,rfl⟩
  ·exact absurd rfl C
  rw [List.concat_eq_append] at*;have z:qD c=true:=y c (by simp);rw [qyk];have v:=z;simp [qD] at v;by_cases F:t=[]
  ·subst F;simp only [xg,List.foldl_nil,List.nil_append];rw [decDigits,dif_pos (by omega),Nat.zero_mul,ut,qps z]
  ·obtain ⟨a,b,rfl⟩:∃a b,t=a::b:=by cases t with|nil=>exact absurd rfl F|cons a b=>exact ⟨a,b,rfl⟩
   have E:a≠48:=by
    rcases R with h|h
    ·simp at h
    ·simpa using h
   have u:=y a (by simp);simp [qD] at u;have V:a.toNat≠48:=fun e=>E (JN.1 e);have W:1<=xg 0 (a::b):=by
    rw [qcV];have:=qhy b (0*10+(a.toNat - 48));omega
   have J:=S (a::b) (by simp at o⊢;omega) (by simp) (fun x H=>y x (by simp at H⊢;rcases H with h|h<;>simp [h])) (.inr (by simpa using E));rw [decDigits,dif_neg (by omega)];have U:(xg 0 (a::b)*10+(c.toNat - 48)) / 10=xg 0 (a::b):=by omega
   have I:(xg 0 (a::b)*10+(c.toNat - 48))%10=c.toNat - 48:=by omega
   rw [U,I,J,qps z]
def qwM (u:Nat):∀c∈decDigits u,qD c=true:=by
 induction u using Nat.strongRecOn with
 |_ u b=>
  have one:∀d,d<10->qD (UInt8.ofNat (48+d))=true:=by decide
  rw [decDigits];split
  ·intro c a;rw [uH] at a;subst a;exact one u (by omega)
  ·intro c a;simp only [uC,uH] at a;rcases a with a|a
   ·exact b (u / 10) (by omega) c a
   ·subst a;exact one _ (by omega)
def qwL (u:Nat) (h:0<u):decDigits u≠[]/\(decDigits u).getD 0 0≠48:=by
 induction u using Nat.strongRecOn with
 |_ u o=>
  have one:∀d,0<d->d<10->UInt8.ofNat (48+d)≠48:=by
   intro d c b
   match d,c,b with
   |1,_,_|2,_,_|3,_,_|4,_,_|5,_,_|6,_,_|7,_,_|8,_,_|9,_,_=>decide
  rw [decDigits];split
  ·rename_i e;exact ⟨by simp,one u h e⟩
  ·obtain ⟨c,b⟩:=o (u / 10) (by omega) (by omega);cases n:decDigits (u / 10) with
   |nil=>exact absurd n c
   |cons a t=>
    rw [n] at b;exact ⟨by simp,by simpa using b⟩
def qwK (u:Nat):(decDigits u).length=nDigits u:=by rw [decDigits_eq];simp
def qwJ {u:Nat} (h:u<=1000000000):(decDigits u).length<=10/\((decDigits u).length<10\/u=1000000000):=by
 rw [qwK];have v:=nDigits_pos u;by_cases t:u=1000000000
 ·have:nDigits u=9+1:=nDigits_unique 9 u (by omega) (by omega);omega
 ·have:nDigits u<10:=by
   rcases JM (nDigits u) 10 with c|c
   ·exact c
   ·exfalso;have key:∀(n u:Nat),nDigits u=n+1->(n=0\/10^n<=u):=by
     intro n
     induction n with
     |zero=>intro u _;exact .inl rfl
     |succ n o=>
      intro u e;right;have a:¬u<10:=fun h=>by rw [nDigits_small h] at e;omega
      rw [nDigits_big a] at e;rcases o (u / 10) (by omega) with b|b
      ·subst b;simpa using a
      ·rw [Nat.pow_succ];omega
    rcases key (nDigits u - 1) u (by omega) with b|b
    ·omega
    ·have:(10:Nat)^9<=10^(nDigits u - 1):=VU (by decide) (by omega);omega
  omega
def qgQ {s:Bs}:jz s=s.length↔∀c∈s,qD c=true:=by
 unfold jz;constructor
 ·intro h c b;have a:s.takeWhile qD=s:=(JE qD).eq_of_length h;have e:c∈s.takeWhile qD:=by rw [a];exact b
  exact um.1 (Ju (p:=qD) (l:=s)) c e
 ·intro h;have:s.takeWhile qD=s:=by
   have:=JK (p:=qD) (l₁:=s) (l₂:=[]) h;simpa using this
  rw [this]
def qdJ (s:Bs):Bool:=match atoiAll s with
 | .ok v=>decide (0<=v)&&decide (v<=1000000000)&&decide (itoa v=s)
 |_=>false
def qpF:decDigits 1000000000=most:=by
 have:xg 0 most=1000000000:=by decide
 rw [<-this];exact qlL 10 most rfl (by decide) (by decide) (.inr (by decide))
def qpw (s:Bs):qdJ s=jm s:=by
 rw [uJ];constructor
 ·intro h;unfold qdJ at h;split at h
  ·rename_i v J;simp only [j0,kr] at h;obtain ⟨⟨F,y⟩,b⟩:=h;rw [itoa,if_neg (by omega)] at b;have t:=qwM v.toNat;have E:=qwJ (u:=v.toNat) (by omega);rw [b] at t E;have H:0<s.length:=by rw [<-b,qwK];exact nDigits_pos _
   have U:=qgQ.2 t;have z:1<s.length->s.getD 0 0≠48:=by
    intro y;rw [<-b];refine (qwL v.toNat ?_).2;rcases VO v.toNat with h|h
    ·rw [<-b,h,decDigits] at y;simp at y
    ·exact h
   have C:s.length<10\/s=most:=by
    rcases E.2 with h|h
    ·exact .inl h
    ·right;rw [<-b,h,qpF]
   unfold jm;simp only [j0,uE,yt,Jr,uS,uk,kr];exact ⟨⟨⟨⟨by omega,by omega⟩,by omega⟩,(JM 1 s.length).elim (fun h=> .inr (z h)) fun h=> .inl (by omega)⟩,C⟩
  ·cases h
 ·intro h;unfold jm at h;simp only [j0,uE,yt,Jr,uS,uk,kr] at h;obtain ⟨⟨⟨⟨F,S⟩,t⟩,z⟩,C⟩:=h;have a:=qgQ.1 (Decidable.of_not_not t);have J:xg 0 s<=1000000000:=by
   rcases C with h|h
   ·have y:=qhx s 0 a;have b:(10:Nat)^s.length<=10^9:=VU (by decide) (by omega);omega
   ·rw [h];decide
  have o:s≠[]:=fun e=>F (by rw [e];rfl);have n:=qlL s.length s rfl o a (by
   rcases z with h|h
   ·left;omega
   ·exact .inr h)
  obtain ⟨c,r,rfl⟩:∃c r,s=c::r:=by cases s with|nil=>exact absurd rfl o|cons c r=>exact ⟨c,r,rfl⟩
  have R:=a c (by simp);simp [qD] at R;have I:atoiAll (c::r)=.ok (xg 0 (c::r):Int):=by
   unfold atoiAll;simp only [];rw [if_neg (by omega),parseMag,if_neg (by simp),qiX _ 0 a (by omega)];simp only [];rw [if_neg (by omega),if_neg (by omega),if_neg (by omega)]
  unfold qdJ;rw [I];simp only [j0,kr];refine ⟨⟨by omega,by omega⟩, ?_⟩;rw [itoa,if_neg (by omega)];exact n
end Go.L01
namespace Go.L01
open Go Go.Eng Go.Proofs Go.RowKit
set_option maxRecDepth 100000
set_option maxHeartbeats 2000000
def qyP (l:List Bs) (k:Nat) (h:k<l.length) (s:Bs):(l.take (k+1)).contains s=((l.take k).contains s||decide (l[k]=s)):=by
 rw [List.take_add_one,ug h,uJ];simp only [Option.toList_some,Vc,uC,uH,kr,uk];exact or_congr Iff.rfl ⟨fun h=>h.symm,fun h=>h.symm⟩
def qy0 {w:World} (hG:G w):Calls Tryz.prog 233 #[] w fun e w'=>∃B ps,e=.returned (.map (some B))/\qc w w'/\MapB w' B ps/\∀s,vE ps (qb s)=if jw s then some (.bool true) else none:=by
 refine qGy fun ρ=>?_;simp [qts];refine qlm fun B W hB hE hm hsz=>?_;simp;refine (qyW (hG.ext hE)).mono ?_;rintro _ W2 ⟨v,rfl,hO,t⟩;have hl:=Own.sl (enc:=qi) (xs:=xA) hO (by decide);simp [hl.is,hl.len];refine vD 7 46 (fun k b w'=>qc w w'/\B<w'.heap.size/\b 1=.map (some B)/\b 5=v/\b 6=.int .i64 46/\Own W.heap.size 9 1 w' v (xA.map qi)/\∃ps,MapB w' B ps/\∀s,vE ps (qb s)=if (xA.take k).contains s then some (.bool true) else none)
  (by simp) ⟨hE.trans' t,by have:=t.size;omega,by simp,by simp,by simp [qye],hO,[],hm.ext t,by simp⟩ ?_
 rintro k b w' hk S ⟨I,U,Z,h5,R,F,ps,z,o⟩;have c:=Own.sl (enc:=qi) (xs:=xA) F (by decide);by_cases E:k<46
 ·have a:k<xA.length:=E;have y:(k:Int)<46:=by omega
  simp [y,qkl,qtq,Z,h5,R,S,E,c.is,c.len,a,c.cell k a,qi];refine qll (s:=qb xA[k]) (kt:=9) (et:=4) (by kernel_rfl) (by kernel_rfl) (by simp) (by simp) z fun W6 u H=>?_;simp at H;simp [qtr,Z,h5,R,S,qH (n:=(k:Int)+1) (by omega)];refine ⟨u.ext I hB,by rw [u.size];exact U,by simpa [qi] using F.only u (by omega),_,H,fun s=>?_⟩;have V:=qyP xA k a s;simp only [Vc] at V o;rw [qfD,o];by_cases J:xA[k]=s
  ·simp [J];have:s∈List.take (k+1) xA:=by simpa [J] using V
   exact this
  ·have:¬qb xA[k]=qb s:=fun h=>J (jC.1 h);simp [this];have C:(s∈List.take (k+1) xA)↔s∈List.take k xA:=by simpa [J] using V
   simp [C]
 ·have Y:k=46:=by omega
  subst Y;simp [qkl,R,S,qtp,Z];exact ⟨I,ps,z,o⟩
@[simp] theorem qOp:qh Tryz.prog 229=true:=by kernel_rfl
@[simp] theorem qJT:qh Tryz.prog 160=true:=by kernel_rfl
@[simp] theorem qOC:qh Tryz.prog 165=true:=by kernel_rfl
@[simp] theorem qOo:qh Tryz.prog 231=true:=by kernel_rfl
@[simp] theorem qOD:qh Tryz.prog 163=true:=by kernel_rfl
@[simp] theorem qOz:qh Tryz.prog 168=true:=by kernel_rfl
@[simp] theorem qNP:qh Tryz.prog 77=true:=by kernel_rfl
@[simp] theorem qNO:qh Tryz.prog 79=true:=by kernel_rfl
@[simp] theorem qN2:qh Tryz.prog 309=true:=by kernel_rfl
@[simp] theorem qOh:qh Tryz.prog 245=true:=by kernel_rfl
@[simp] theorem qOi:qh Tryz.prog 244=true:=by kernel_rfl
@[simp] theorem qJS:qh Tryz.prog 273=true:=by kernel_rfl
@[simp] theorem qOx:qh Tryz.prog 171=true:=by kernel_rfl
def qm9 {w:World} (b:G w) (s:Bs):Calls Tryz.prog 166 #[.string (qb s)] w fun e w'=>e=.returned (.bool (jw s))/\qc w w':=by
 refine qHr fun ρ c=>?_;simp [quJ];refine (qy0 b).mono ?_;rintro _ w1 ⟨B,ps,rfl,h,n,a⟩;simp [c];refine qln (s:=qb s) (kt:=9) (et:=4) (z:=.bool false) (by kernel_rfl) (by kernel_rfl) (by kernel_rfl) (by simp) (by simp) n false ?_;simp [a];cases o:jw s<;>simp [h]
def qoA {w:World} (s:Bs):Calls Tryz.prog 169 #[.string (qb s)] w fun e w'=>e=.returned (.bool (jw s))/\qc w w':=by
 refine qHl fun ρ b=>?_;simp [quG];refine qBj.mono ?_;rintro _ w1 ⟨v,rfl,a⟩;simp [b];refine (qiL s (a.sl (by decide))).mono ?_;rintro _ w2 ⟨rfl,rfl⟩;simp;exact ⟨by rw [jw,Vc],a.2⟩
def qzY {w:World} {v:Value} {l:List Bs} (s:Bs) (o:jb w v l):Calls Tryz.prog 229 #[v,.string (qb s)] w fun e w'=>∃n:Int,e=.returned (.int .i64 n)/\(0<=n↔l.contains s=true)/\w'=w:=by
 have J:=o.bd;refine qtA fun ρ y z=>?_;simp [qgl,y,o.is,o.len];refine vD 8 l.length (fun k a w'=>w'=w/\a 0=v/\a 1=.string (qb s)/\a 7=.int .i64 l.length/\∀j (t:j<l.length),j<k->l[j]≠s) (by simp) ⟨rfl,by simp [y],by simp [z],by simp,by simp⟩ ?_;rintro k a w' S C ⟨rfl,y,z,E,b⟩;by_cases u:k<l.length
 ·simp [qdZ,qgj,C,E,y,z,o.is,o.len,u,o.cell k u,qi,jC];by_cases F:l[k]=s
  ·have c:s=l[k]:=F.symm;simp [c]
  ·have c:¬s=l[k]:=fun h=>F h.symm;simp [c,qgk,C,qH (n:=(k:Int)+1) (by omega),y,z,E];intro j t I;by_cases e:j=k
   ·subst e;exact F
   ·exact b j t (by omega)
 ·have H:k=l.length:=by omega
  subst H;simp [qdZ,C,E,qgi];intro R;obtain ⟨j,t,rfl⟩:=JW R;exact b j t t rfl
def qio {w:World} {v:Value} {l:List Bs} (s:Bs) (a:jb w v l):Calls Tryz.prog 160 #[v,.string (qb s)] w fun e w'=>e=.returned (.bool (l.contains s))/\w'=w:=by
 refine quO fun ρ c b=>?_;simp [qgs,c,b];refine (qzY s a).mono ?_;rintro _ _ ⟨n,rfl,h,rfl⟩;simp;simpa using h
def qyy (c:UInt8):IntKind.u8.wrap (c.toNat:Int)=c.toNat:=by
 have a:=c.toNat_lt;exact u8w (by omega)
def qy3 (c:UInt8) (w:World):Calls Tryz.prog 164 #[.int .i32 (c.toNat:Int)] w fun e w'=>e=.returned (.bool (!part c))/\w'=w:=by
 refine quL fun ρ n=>?_;by_cases h:c.toNat<=126
 ·have b:(c.toNat:Int)<=126:=by omega
  have a:¬126<(c.toNat:Int):=by omega
  simp [qgr,n,b,a,qyy];refine (qm8 c w).mono ?_;rintro _ _ ⟨rfl,rfl⟩;simp [a]
 ·have b:¬(c.toNat:Int)<=126:=by omega
  have a:126<(c.toNat:Int):=by omega
  simp [qgr,n,b,a,part,jI,qD];omega
def qy2 {r:Int} (c:126<r) (w:World):Calls Tryz.prog 164 #[.int .i32 r] w fun e w'=>e=.returned (.bool true)/\w'=w:=by
 refine quL fun ρ b=>?_;have a:¬r<=126:=by omega
 simp [qgr,b,a,c]
def qiT (w:World) (B:Nat):Nat:=match w.heap[B]? with
 |some (.stringIter _ k)=>k
 |_=>0
def qoY {w:World} {B k:Nat} {s:ByteArray} (h:w.heap[B]? =some (.stringIter s k)):qiT w B=k:=by simp [qiT,h]
def qzX {w:World} (s:Bs):Calls Tryz.prog 231 #[.string (qb s),.func (.func 164) #[] #[],.bool true] w fun e w'=>∃n:Int,e=.returned (.int .i64 n)/\(n<0↔s.all part=true)/\qc w w':=by
 have c:(qb s).size=s.length:=rfl;refine qGC fun ρ h0 I C=>?_;simp [qtx,h0];refine qI4 (s:=qb s) (by kernel_rfl) (by simp) fun B W J Z hit=>?_;simp;refine Q4 (fun t w'=>∃k,k<=s.length/\qc w w'/\t 1=.func (.func 164) #[] #[]/\t 2=.bool true/\t 10=.pointer (some ⟨B,0,none⟩)/\w'.heap[B]? =some (.stringIter (qb s) k)/\∀j (H:j<s.length),j<k->part s[j]=true)
  (fun _ w'=>s.length - qiT w' B) ⟨0,uz _,Z,by simp [I],by simp [C],by simp,hit,by simp⟩ ?_
 rintro t w' ⟨k,hk,u,I,C,E,hit,v⟩;have F:=qoY hit;simp [qtu];refine qI5 (s:=qb s) (by simpa using E) hit (fun b W2 R o=>?_) (fun b=>?_)
 ·rw [c] at b;have a:(qb s)[k]'(by rw [c];exact b)=s[k]:=by
   show (qb s).data[k]=_;simp [qb]
  simp [qtw,I,C];refine kL (f:=164) (by kernel_rfl) (fs:=#[]) (caps:=#[]) (by simp) ?_;simp;by_cases Y:s[k].toNat<128
  ·have S:=decode_ascii (qb s) k (by rw [c];exact b) (by rw [a];exact Y);rw [a] at S;rw [S] at o⊢;refine (qy3 s[k] W2).mono ?_;rintro _ _ ⟨rfl,rfl⟩;cases y:part s[k] with
   |true=>
    simp [y,C,F];refine ⟨⟨k+1,by omega,R.ext u J,I,E,o, ?_⟩, ?_⟩
    ·intro j H V;by_cases e:j=k
     ·subst e;exact y
     ·exact v j H (by omega)
    ·rw [qoY o];omega
   |false=>
    simp [y,C];have z:¬∀x∈s,part x=true:=fun h=>by
     rw [h s[k] (wz _)] at y;cases y
    refine ⟨by simpa using z,R.ext u J⟩
  ·obtain ⟨U,hw⟩:=decode_high (qb s) k (by rw [c];exact b) (by rw [a];omega);refine (qy2 (r:=((Utf8.decode (qb s) k).1:Int)) (by omega) W2).mono ?_;rintro _ _ ⟨rfl,rfl⟩;simp [C];have y:part s[k]=false:=by simp [part,jI,qD];omega
   have z:¬∀x∈s,part x=true:=fun h=>by
    rw [h s[k] (wz _)] at y;cases y
   refine ⟨by simpa using z,R.ext u J⟩
 ·rw [c] at b;simp [qtv];refine ⟨fun x hx=>?_,u⟩;obtain ⟨j,H,rfl⟩:=JW hx;exact v j H (by omega)
def qz0 {w:World} (s:Bs):Calls Tryz.prog 163 #[.string (qb s),.func (.func 164) #[] #[]] w fun e w'=>∃n:Int,e=.returned (.int .i64 n)/\(n<0↔s.all part=true)/\qc w w':=by
 refine qHw fun ρ b a=>?_;simp [quM,b,a];refine (qzX s).mono ?_;rintro _ w' ⟨n,rfl,c,h⟩;simp;exact ⟨by simpa using c,h⟩
def qAv {s:Bs}:qL s=s.length↔s.all part=true:=by
 unfold qL;rw [um];constructor
 ·intro h c b;have a:s.takeWhile part=s:=(JE part).eq_of_length h;have e:c∈s.takeWhile part:=by rw [a];exact b
  exact um.1 (Ju (p:=part) (l:=s)) c e
 ·intro h;have:s.takeWhile part=s:=by
   have:=JK (p:=part) (l₁:=s) (l₂:=[]) h;simpa using this
  rw [this]
def qa1 {w:World} (I:G w) (s:Bs):Calls Tryz.prog 77 #[.string (qb s)] w fun e w'=>e=.returned (.bool (qg s))/\qc w w':=by
 refine qEJ fun ρ u=>?_;by_cases C:0<s.length/\s.length<=12
 ·obtain ⟨t,v⟩:=C;have a:0<(s.length:Int):=by omega
  have c:(s.length:Int)<=12:=by omega
  have H:s.getD 0 0=s[0]:=by simp [uW,t]
  simp [qf3,u,t,v,a,c];refine (qhQ s[0] w).mono ?_;rintro _ _ ⟨rfl,rfl⟩;cases F:jI s[0] with
  |false=>
   have o:qg s=false:=by unfold qg;rw [H,F];simp
   simp [o];exact qO _
  |true=>
   simp [u];refine (qz0 s).mono ?_;rintro _ w1 ⟨n,rfl,o,y⟩;have E:(n<0)↔qL s=s.length:=o.trans qAv.symm;by_cases b:n<0
   ·simp [b,u];refine (qm9 (I.ext y) s).mono ?_;rintro _ w2 ⟨rfl,z⟩;simp [qg,t,v,H,F,E.1 b];exact y.trans' z
   ·have:¬qL s=s.length:=fun h=>b (E.2 h);simp [b,qg,this];exact y
 ·have o:qg s=false:=by
   unfold qg;rcases VO s.length with h|h
   ·simp [h]
   ·have:¬s.length<=12:=fun v=>C ⟨h,v⟩;simp [this]
  by_cases t:0<s.length
  ·have a:0<(s.length:Int):=by omega
   have c:¬(s.length:Int)<=12:=by omega
   simp [qf3,u,t,a,c,o];exact qO _
  ·have a:¬0<(s.length:Int):=by omega
   simp [qf3,u,t,a,o];exact qO _
def qfe {w:World} (s:Bs):Calls Tryz.prog 79 #[.string (qb s)] w fun e w'=>e=.returned (.bool (qg s))/\qc w w':=by
 refine qEF fun ρ o=>?_;by_cases z:0<s.length/\s.length<=12
 ·obtain ⟨n,v⟩:=z;have a:0<(s.length:Int):=by omega
  have b:(s.length:Int)<=12:=by omega
  have E:s.getD 0 0=s[0]:=by simp [uW,n]
  simp [qf2,o,n,v,a,b];refine (qiK s[0] w).mono ?_;rintro _ _ ⟨rfl,rfl⟩;cases C:jI s[0] with
  |false=>
   have u:qg s=false:=by unfold qg;rw [E,C];simp
   simp [u];exact qO _
  |true=>
   simp [o];refine (qoz s (by omega) _).mono ?_;rintro _ _ ⟨rfl,rfl⟩;by_cases c:qL s=s.length
   ·simp [c,o];refine (qoA s).mono ?_;rintro _ w2 ⟨rfl,y⟩;simp [qg,n,v,E,C,c];exact y
   ·have t:¬(qL s:Int)=(s.length:Int):=by omega
    simp [c,t,o,qg];exact qO _
 ·have u:qg s=false:=by
   unfold qg;rcases VO s.length with h|h
   ·simp [h]
   ·have:¬s.length<=12:=fun v=>z ⟨h,v⟩;simp [this]
  by_cases n:0<s.length
  ·have a:0<(s.length:Int):=by omega
   have b:¬(s.length:Int)<=12:=by omega
   simp [qf2,o,n,a,b,u];exact qO _
  ·have a:¬0<(s.length:Int):=by omega
   simp [qf2,o,n,a,u];exact qO _
def qzZ {w:World} (z:G w) (s:Bs) (y:s.length<=281474976710656):Calls Tryz.prog 273 #[.string (qb s)] w fun e w'=>qc w w'/\∃(n:Int) (x:Value),e=.returned (.tuple #[.int .i64 n,x])/\
  ((Lib.atoiAll s=.ok n/\x=.nilIface)\/((∀v,Lib.atoiAll s≠ .ok v)/\∃u p,x=.iface u p)):=by
 cases a:Lib.atoiAll s
 ·rename_i v;refine (Tryz.atoi_ok (qb s) (by show s.length<=_;omega) v a w).mono ?_;rintro _ w' ⟨rfl,C⟩;refine ⟨?_,v,_,rfl,.inl ⟨rfl,rfl⟩⟩;rcases C with rfl|⟨t,rfl⟩
  ·exact qO _
  ·exact ⟨rfl,rfl,rfl,by rw [Lib.bytesWorld_size];omega,fun k E=>Lib.bytesWorld_at_old _ _ _ _ E⟩
 ·obtain ⟨o,b,c⟩:=z.es;refine (Tryz.atoi_syntax (qb s) y a _ w c (.inr ⟨o,b,rfl⟩)).mono ?_;rintro _ w' ⟨N,rfl,_,_,h⟩;exact ⟨h,_,_,rfl,.inr ⟨by simp,_,_,rfl⟩⟩
 ·obtain ⟨o,b,c⟩:=z.er;refine (Tryz.atoi_range (qb s) y a _ w c (.inr ⟨o,b,rfl⟩)).mono ?_;rintro _ w' ⟨N,rfl,_,_,h⟩;exact ⟨h,_,_,rfl,.inr ⟨by simp,_,_,rfl⟩⟩
def qnW {w:World} (a:G w) {n:Int} (h:0<=n) (c:n<=9223372036854775807):Calls Tryz.prog 171 #[.int .i64 n] w fun e w'=>e=.returned (.string (qb (Lib.itoa n)))/\qc w w':=by
 refine (Tryz.itoa n (by omega) c w a.pow).mono ?_;rintro _ w' ⟨rfl,k,os,rfl⟩;refine ⟨rfl,rfl,rfl,rfl,by simp [Sort.grow,World.drewN],fun j b=>?_⟩;rw [Sort.heap_grow_old _ _ (by simpa [World.drewN] using b)];rfl
theorem qy5 {w:World} (z:G w) (s:Bs) (E:s.length<=281474976710656):Calls Tryz.prog 309 #[.string (qb s)] w fun e w'=>e=.returned (.bool (jm s))/\qc w w':=by
 refine qFt fun ρ C=>?_;simp [qsa,C];refine (qzZ z s E).mono ?_;rintro _ w1 ⟨b,n,x,rfl,⟨o,rfl⟩|⟨o,u,p,rfl⟩⟩
 ·have a:jm s=(decide (0<=n)&&decide (n<=1000000000)&&decide (Lib.itoa n=s)):=by
   rw [<-qpw,qdJ,o]
  simp;refine qwu (by kernel_rfl) (by simp) ?_;by_cases c:0<=n
  ·by_cases t:n<=1000000000
   ·simp [c,t];refine (qnW (z.ext b) c (by omega)).mono ?_;rintro _ w2 ⟨rfl,y⟩;simp [C,a,c,t,jC];exact b.trans' y
   ·simp [c,t,a];exact b
  ·simp [c,a];exact b
 ·have a:jm s=false:=by
   rw [<-qpw,qdJ];cases h:Lib.atoiAll s with
   |ok v=>exact absurd h (o v)
   |_=>rfl
  simp;refine qwt (by kernel_rfl) (by simp;exact ⟨rfl,rfl⟩) ?_;simp [a];exact b
def qBl (s:Bs) (W:s.length<4611686018427387904) (w:World):Calls Tryz.prog 245 #[.string (qb s)] w fun e w'=>e=.returned (.bool (jm s))/\w'=w:=by
 refine qGd fun ρ a=>?_;have Z:(s.length=0)=((s.length:Int)=0):=by rw [eq_iff_iff];omega
 by_cases y:s.length=0\/10<s.length
 ·have I:jm s=false:=by
   unfold jm;rcases y with h|h<;>simp [h]
  rcases y with h|h
  ·have U:s=[]:=uU.1 h;subst U;simp [qgc,a,I]
  ·have C:(10:Int)<s.length:=by omega
   have E:s≠[]:=fun e=>by subst e;simp at h
   simp [qgc,a,I,C,E]
 ·have C:¬s.length=0:=fun h=>y (.inl h);have E:¬10<s.length:=fun h=>y (.inr h);have t:s≠[]:=fun e=>C (by rw [e];rfl);have F:¬(10:Int)<s.length:=by omega
  have u:0<s.length:=by omega
  simp [qgc,a,t,F];refine (qoB s W w).mono ?_;rintro _ w2 ⟨rfl,rfl⟩;have S:s[0]? =some s[0]:=ug u;have Y:s.getD 0 0=s[0]:=by simp [uW,u]
  have V:jm s=(!(decide (jz s≠s.length)||(decide (1<s.length)&&decide (s[0]=48)))&&(decide (s.length<10)||decide (s=most))):=by
   unfold jm;rw [Y];simp [t,E]
  rw [V];by_cases v:jz s=s.length
  ·have J:=wC s[0] 48 (by decide);have R:∀ρ:qa,ρ 0=.string (qb s)->qgb.wp ⟨Tryz.prog,35,qsW,[]⟩ (qB [.tmp 2] fun e w'=>e=.returned (.bool (decide (s.length<10)||decide (s=most)))/\w'=w2) (ji [.tmp 2] fun e w'=>e=.returned (.bool (decide (s.length<10)||decide (s=most)))/\w'=w2) ρ w2:=by
    intro ρ a;by_cases H:s.length<10
    ·have o:(s.length:Int)<10:=by omega
     simp [qgb,a,H,o]
    ·have o:¬(s.length:Int)<10:=by omega
     have e:(⟨#[49,48,48,48,48,48,48,48,48,48]⟩:ByteArray)=qb most:=rfl;simp [qgb,a,H,o,e,jC]
   by_cases n:1<s.length
   ·have c:(1:Int)<s.length:=by omega
    by_cases b:s[0]=48
    ·have:(s[0].toNat:Int)=48:=J.2 b;simp [v,a,n,c,b,this,S]
    ·have:¬(s[0].toNat:Int)=48:=fun h=>b (J.1 h);simp [v,a,n,c,b,this,S];exact R _ (by simp [a])
   ·have c:¬(1:Int)<s.length:=by omega
    simp [v,a,n,c];exact R _ (by simp [a])
  ·have z:¬(jz s:Int)=s.length:=by omega
   simp [a,v,z]
def qcz (t:Tok):Value:=.agg #[.int .u8 (t.kind:Int),.string (qb t.text),.int .i64 t.line]
@[simp] theorem qN5:qh Tryz.prog 306=true:=by kernel_rfl
@[simp] theorem qN7:qh Tryz.prog 304=true:=by kernel_rfl
@[simp] theorem qN4:qh Tryz.prog 307=true:=by kernel_rfl
@[simp] theorem qN8:qh Tryz.prog 303=true:=by kernel_rfl
@[simp] theorem qN6:qh Tryz.prog 305=true:=by kernel_rfl
@[simp] theorem qN3:qh Tryz.prog 308=true:=by kernel_rfl
@[simp] theorem qN0:qh Tryz.prog 311=true:=by kernel_rfl
@[simp] theorem qOt:qh Tryz.prog 198=true:=by kernel_rfl
abbrev yB (s:Bs) (at' line:Int) (cv:Value):Array Value:=#[.string (qb s),.int .i64 at',.int .i64 line,cv]
theorem vp:jT Tryz.prog 3 1=true:=by kernel_rfl
def qeb (s:Bs) (k:Nat):(qb s).extract k s.length=qb (s.drop k):=by
 apply JO;apply JF;show ((qb s).extract k s.length).data.toList=_;simp [qb];exact ul (by simp)
def qbB (s:Bs) (k n:Nat):(qb s).extract k (k+n)=qb ((s.drop k).take n):=by
 apply JO;apply JF;show ((qb s).extract k (k+n)).data.toList=_;simp [qb]
def qbV {w:World} {B k:Nat} {s:Bs} {line:Int} {cv:Value} (b:Blk w B (yB s k line cv) 217) (a:k<=s.length):
  Calls Tryz.prog 306 #[.pointer (some ⟨B,0,none⟩)] w fun e w'=>e=.returned (.string (qb (s.drop k)))/\qc w w':=by
 refine qFz fun ρ c=>?_;simp [qsh,c,b.cell,a,qsg,qeb]
def qy1 {w:World} {B k n:Nat} {s:Bs} {line:Int} {cv:Value} (v:Blk w B (yB s k line cv) 217) (U:k+n<=s.length) (S:s.length<4611686018427387904) (R:0<=line/\line<=4611686018427387904):
  Calls Tryz.prog 304 #[.pointer (some ⟨B,0,none⟩),.int .i64 (n:Int)] w fun e w'=>e=.returned (.string (qb ((s.drop k).take n)))/\Blk w' B (yB s ((k:Int)+(n:Int)) (line+((((s.drop k).take n).count 10:Nat):Int)) cv) 217/\w.grownBy w' (some B):=by
 have E:(k:Int)+(n:Int)<=s.length:=by omega
 have o:(0:Int)<=(k:Int)+(n:Int):=by omega
 have C:(k:Int)<=(k:Int)+(n:Int):=by omega
 have I:((k:Int)+(n:Int)).toNat=k+n:=by omega
 refine qFC fun ρ u F=>?_;simp [qsn,u,F,v.cell,qH (n:=(k:Int)+(n:Int)) (by omega),E,o,C,I,qbB];intro w1 b;simp [qsj];refine vZ qFB (qc w1) fun w2 a _=>⟨a, ?_⟩;have J:∀w',qc w1 w'->∀i,w'.cell? ⟨B,i,none⟩=(yB s k line cv)[i]? :=fun w' h=>((v.ext b).ext h).cell;simp+contextual [qsi,u,J,a];refine (Tryz.count_one (qb ((s.drop k).take n)) 10 w2).mono ?_;rintro _ _ ⟨rfl,rfl⟩;have H:((s.drop k).take n).count 10<=s.length:=by
  refine Nat.le_trans List.count_le_length ?_;simp;omega
 simp+contextual [Lib.countByte,u,a,qH (n:=line+((((s.drop k).take n).count 10:Nat):Int)) (by omega)];refine qW (B:=B) (i:=2) (by simp) ((v.ext b).ext a) (by simp) rfl rfl vp fun W3 y c=>?_;simp at c;simp [qsk,u,F,c.cell,qH (n:=(k:Int)+(n:Int)) (by omega)];refine qW (B:=B) (i:=1) (by simp) c (by simp) rfl rfl vp fun W4 z t=>?_;simp at t⊢;exact ⟨t,qv2 (qv2 (qv3 (qv3 (qID _ w) b) a) y) z⟩
def qmj (f:Value) (p:UInt8->Bool):Prop:=∃i,f=.func (.func i) #[] #[]/\qh Tryz.prog i=true/\∀c w,Calls Tryz.prog i #[jn c] w fun e w'=>e=.returned (.bool (p c))/\w'=w
def qJI:qmj (.func (.func 165) #[] #[]) part:=⟨165,rfl,by kernel_rfl,qm8⟩
def qJJ:qmj (.func (.func 232) #[] #[]) qD:=⟨232,rfl,by kernel_rfl,qhS⟩
def qm7 {w:World} {B k:Nat} {s:Bs} {line:Int} {cv f:Value} {p:UInt8->Bool} (S:Blk w B (yB s k line cv) 217) (J:k<=s.length) (Y:s.length<4611686018427387904) (V:qmj f p):
  Calls Tryz.prog 307 #[.pointer (some ⟨B,0,none⟩),f] w fun e w'=>e=.returned (.int .i64 (((s.drop k).takeWhile p).length:Int))/\qc w w':=by
 obtain ⟨i,rfl,E,v⟩:=V;refine qFx fun ρ W u=>?_;simp [qsf,W];refine (qbV S J).mono ?_;rintro _ w1 ⟨rfl,H⟩;simp;generalize y:s.drop k=r;have U:r.length<=s.length:=by rw [<-y];simp
 refine vD 11 r.length (fun k b w'=>w'=w1/\b 1=.func (.func i) #[] #[]/\b 5=.string (qb r)/\b 10=.int .i64 r.length/\∀j (t:j<r.length),j<k->p r[j]=true) (by simp) ⟨rfl,by simp [u],by simp [y],by simp [<-y],by simp⟩ ?_;rintro k b w' J c ⟨rfl,u,F,o,a⟩;by_cases z:k<r.length
 ·simp [qjW,qsd,c,o,F,u,z];refine kL (f:=i) E (fs:=#[]) (caps:=#[]) (by simp) ?_;simp;refine (v r[k] _).mono ?_;rintro _ _ ⟨rfl,rfl⟩;cases I:p r[k] with
  |true=>
   simp [qse,c,u,F,o,qH (n:=(k:Int)+1) (by omega)];intro j t R;by_cases e:j=k
   ·subst e;exact I
   ·exact a j t (by omega)
  |false=>
   simp;exact ⟨(QO r k (by omega) (fun j t h=>a j t h) fun _=>I).symm,H⟩
 ·have C:k=r.length:=by omega
  subst C;simp [qjW,c,o,F,qsc];exact ⟨(QO r r.length (j1 _) (fun j t h=>a j t h) fun h=>by omega).symm,H⟩
def jh {t n B:Nat} {ρ:qa} {w:World} {cs:Array Value} {T:TypeId} {R:Ending->World->Prop} (c:ρ t=.pointer (some ⟨B,0,none⟩)) (a:Blk w B cs T) (b:cs.size=n) (h:R (.returned (.agg cs)) w):qB [.cellN t n] R ρ w:=by
 subst b;simp only [qB,vY,RV.val,c,qdv,yD a,Option.map_some,Option.bind_some];exact h
theorem qmn:zR Tryz.prog 289=some #[.nilFunc,.nilFunc,.nilFunc]:=by kernel_rfl
theorem qKo:Tryz.prog.built 289 [(0,.func (.func 165) #[] #[]),(1,.func (.func 232) #[] #[]),(2,.func (.func 346) #[] #[])]=some #[.func (.func 165) #[] #[],.func (.func 232) #[] #[],.func (.func 346) #[] #[]]:=by kernel_rfl
theorem qnl:jT Tryz.prog 289 3=true:=by kernel_rfl
theorem qlY (a b:Int):Tryz.prog.built 26 [(0,.int .i64 a),(1,.int .i64 b)]=some #[.int .i64 a,.int .i64 b]:=by kernel_rfl
theorem qJ9 (a b:Int):Tryz.prog.built 212 [(0,.agg #[.int .i64 a,.int .i64 b])]=some #[.int .i64 a,.int .i64 b]:=by kernel_rfl
def qna {w:World}:Calls Tryz.prog 303 #[] w fun e w'=>e=.returned (.agg #[.func (.func 165) #[] #[],.func (.func 232) #[] #[],.func (.func 346) #[] #[]])/\qc w w':=by
 refine qFD fun ρ=>?_;simp [qso];refine qX qmn fun B W c h b _=>?_;simp [qKo];refine jx (B:=B) (by simp) b (by simp [Value.cells]) (by simp [Value.cells];decide) (by simpa [Value.cells] using qnl) fun W2 n a=>?_;simp [Value.cells] at a;simp;refine jh (by simp) a rfl ?_;exact ⟨rfl,n.ext h c⟩
def qhR {w:World} {B:Nat} {s:Bs} {a line e:Int} {cv:Value} (c:Blk w B (yB s a line cv) 217):
  Calls Tryz.prog 308 #[.pointer (some ⟨B,0,none⟩),.int .i64 e] w fun n w'=>n=.panicked [{v:=.iface 212 (.agg #[.int .i64 e,.int .i64 line]),recovered:=false}]/\w'=w:=by
 refine qFv fun ρ h b=>?_;simp [qsb,h,b,c.cell,qlY,qJ9];refine qlk (by simp;exact ⟨rfl,rfl⟩) ?_;simp
structure Sc (base B:Nat) (W:World) (s:Bs) (k:Nat) (line:Int) (coms:List Bs) (cv:Value):Prop where
 blk:Blk W B (yB s k line cv) 217
 own:Own base 9 1 W cv (coms.map qi)
 ne:cv.ownBlock≠some B
 bB:base<=B
 bW:base<=W.heap.size
 kl:k<=s.length
 sl:s.length<=20000
 l0:1<=line
 l1:line<=(k:Int)+1
 cl:coms.length<=k
structure Tn (B:Nat) (cv cv':Value) (W W':World):Prop where
 os:W'.os=W.os
 tape:W'.tape=W.tape
 output:W'.output=W.output
 size:W.heap.size<=W'.heap.size
 block:∀k,k<W.heap.size->k≠B->cv.ownBlock≠some k->W'.heap[k]? =W.heap[k]?
 own:cv'.ownBlock=cv.ownBlock\/∀k,cv'.ownBlock=some k->W.heap.size<=k
theorem Tn.refl (B:Nat) (cv:Value) (W:World):Tn B cv cv W W:=⟨rfl,rfl,rfl,j1 _,fun _ _ _ _=>rfl,.inl rfl⟩
def Tn.trans {B:Nat} {a b c:Value} {U V W:World} (h:Tn B a b U V) (k:Tn B b c V W):Tn B a c U W:=by
 refine ⟨k.os.trans h.os,k.tape.trans h.tape,k.output.trans h.output,Nat.le_trans h.size k.size,fun i o v u=>?_, ?_⟩
 ·rw [k.block i (Jy o h.size) v ?_,h.block i o v u];rcases h.own with n|n
  ·rw [n];exact u
  ·intro e;have:=n i e;omega
 ·rcases k.own with t|t
  ·rcases h.own with n|n
   ·exact .inl (t.trans n)
   ·exact .inr fun i o=>n i (t▸o)
  ·exact .inr fun i o=>Nat.le_trans h.size (t i o)
def Tn.ext {B:Nat} {a:Value} {U V:World} (h:qc U V):Tn B a a U V:=⟨h.os,h.tape,h.output,h.size,fun k b _ _=>h.block k b,.inl rfl⟩
def Tn.gb {B:Nat} {a:Value} {U V:World} (h:U.grownBy V (some B)):Tn B a a U V:=⟨h.os,h.tape,h.output,h.size,fun k b c _=>h.block k b (by simpa using c),.inl rfl⟩
def Sc.ext {base B:Nat} {W W':World} {s:Bs} {k:Nat} {line:Int} {coms:List Bs} {cv:Value} (h:Sc base B W s k line coms cv) (a:qc W W'):Sc base B W' s k line coms cv:=
 ⟨h.blk.ext a,h.own.ext a,h.ne,h.bB,Nat.le_trans h.bW a.size,h.kl,h.sl,h.l0,h.l1,h.cl⟩
def Sc.line {base B:Nat} {W:World} {s:Bs} {k:Nat} {line:Int} {coms:List Bs} {cv:Value} (h:Sc base B W s k line coms cv):0<=line/\line<=4611686018427387904:=by
 have:=h.l0;have:=h.l1;have:=h.kl;have:=h.sl;omega
def Sc.short {base B:Nat} {W:World} {s:Bs} {k:Nat} {line:Int} {coms:List Bs} {cv:Value} (h:Sc base B W s k line coms cv):s.length<4611686018427387904:=by
 have:=h.sl;omega
def qil {base B:Nat} {W:World} {s:Bs} {k n:Nat} {line:Int} {coms:List Bs} {cv:Value} (h:Sc base B W s k line coms cv) (b:k+n<=s.length):
  Calls Tryz.prog 304 #[.pointer (some ⟨B,0,none⟩),.int .i64 (n:Int)] W fun e w'=>e=.returned (.string (qb ((s.drop k).take n)))/\Sc base B w' s (k+n) (line+((((s.drop k).take n).count 10:Nat):Int)) coms cv/\Tn B cv cv W w':=by
 refine (qy1 h.blk b h.short h.line).mono ?_;rintro _ w' ⟨rfl,c,a⟩;have o:((s.drop k).take n).count 10<=n:=by
  refine Nat.le_trans List.count_le_length ?_;simp;omega
 have:=h.l0;have:=h.l1;have:=h.cl;have:=h.bW;have:=a.size;refine ⟨rfl,⟨by simpa using c,h.own.kept a (.inr h.ne),h.ne,h.bB,by omega,b,h.sl,by omega,by simp;omega,by omega⟩,Tn.gb a⟩
def atOf (w:World) (B:Nat):Nat:=match w.cell? ⟨B,1,none⟩ with
 |some (.int _ n)=>n.toNat
 |_=>0
def Sc.at {base B:Nat} {W:World} {s:Bs} {k:Nat} {line:Int} {coms:List Bs} {cv:Value} (h:Sc base B W s k line coms cv):atOf W B=k:=by
 simp [atOf,h.blk.cell]
structure Skipped (base B:Nat) (w0 w:World) (s:Bs) (k0:Nat) (l0:Int) (c0:List Bs) (v0:Value) (k:Nat) (l:Int) (new:List Bs) (v:Value):Prop where
 sc:Sc base B w s k l (c0++new) v
 tn:Tn B v0 v w0 w
 le:k0<=k
 eq:qK (s.drop k0) l0=(qK (s.drop k) l).add [] new
def Qj (s:Bs) (k:Nat):Prop:=∀h:k<s.length,ke s[k]=false/\s[k]≠37
def yk {s:Bs} {k:Nat} (h:k<s.length):s.drop k=s[k]::s.drop (k+1):=u0 h
def qzP {c:UInt8} {r:Bs} {l:Int} (h:ke c=true):qK (c::r) l=qK r (l+(((c::r).take 1).count 10:Nat)):=by
 simp only [ke,uk,kr] at h;by_cases a:c=10
 ·subst a;rw [qb4];simp
 ·have b:c=32\/c=9:=by
   rcases h with (h|h)|h
   ·exact .inl h
   ·exact .inr h
   ·exact absurd h a
  rw [qb3 r l b];have:((c::r).take 1).count 10=0:=by simp [a]
  rw [this];simp
section
variable {P:Program} {Q:Ks} {d:Option Nat} {ty:TypeId} {K:qa->World->Prop} {ρ:qa} {w:World}
theorem qgM {t e sz bytes:Nat} (F:ye P t=some (e,sz,bytes)) {base:Nat} (c:base<=w.heap.size) {s x:Operand} {sv xv:Value} (E:qe ρ s=sv) (J:qe ρ x=xv) {xs news:List Value}
  (o:Own base e sz w sv xs) (y:Cells w xv sz news) (H:∀u∈news,u.oneCell'=true)
  (n:xs.length+news.length<4611686018427387904) (a:(xs.length+news.length)*bytes<=140737488355328*sz)
  (h:∀b W,Own base e sz W b (xs++news)->w.grownBy W sv.ownBlock->(b.ownBlock=sv.ownBlock\/b.ownBlock=some w.heap.size)->K (qn ρ d b) W):qx P Q d (.call {callee:=.builtin .append,args:=#[s,x],argTypes:=#[t,t]}) ty K ρ w:=by
 subst E;subst J;obtain ⟨b,W,C,R,I,z⟩:=qe4 (P:=P) (ty:=ty) F o y H n a c;refine jQ (v:=b) (w':=W) ?_ (h b W R I z);simp only [execOp,qN,resolve,invoke,builtin,Sem.run_bind,Sem.run_pure,Result.andThen_ok,List.map_toArray,List.map_cons,List.map_nil,C]
end
def qfr {base e sz:Nat} {w:World} {v:Value} {xs:List Value} (h:Own base e sz w v xs):v.cells=#[v]/\v.oneCell=true:=by
 rcases h with ⟨rfl,_⟩|⟨g,off,n,cap,cur,rfl,_⟩<;>exact ⟨rfl,rfl⟩
def jR {base e sz:Nat} {w:World} {v:Value} {xs:List Value} (h:Own base e sz w v xs):Cells w v sz xs:=by
 have a:=h.isl;rcases h with ⟨rfl,rfl⟩|⟨g,off,n,cap,cur,rfl,y,u,o,C,E,z,t⟩
 ·exact ⟨rfl,by simp [ql],fun j b=>by simp at b⟩
 ·refine ⟨a,o,fun j b=>?_⟩;have c:((cur.toList.drop off).take (n*sz))[j]? =xs[j]? :=by rw [t]
  rw [JU,if_pos (by omega),Jm] at c;simp only [qQ,kg,World.cell?,u];simpa [b] using c
theorem qos:ye Tryz.prog 51=some (9,1,16):=by kernel_rfl
theorem qeN:jT Tryz.prog 51 1=true:=by kernel_rfl
def qvW:∀l:Bs,(Lib.indexByte l 10= -1/\jr l=l.length)\/(Lib.indexByte l 10=jr l)
 |[]=> .inl ⟨rfl,rfl⟩
 |c::l=>by
  by_cases h:c=10
  ·subst h;right;simp [Lib.indexByte,jr]
  ·have b:jr (c::l)=jr l+1:=by simp [jr,List.takeWhile_cons,h]
   rcases qvW l with ⟨a,e⟩|a
   ·left;refine ⟨?_,by rw [b,e];rfl⟩;simp [Lib.indexByte,h,a]
   ·right;rw [b];have:¬(jr l:Int)= -1:=by omega
    simp [Lib.indexByte,h,this,a]
def qJF (s:Bs):((s.take (jr s)).count 10)=0:=by
 rw [List.count_eq_zero];intro h;rw [jr,qm4] at h;have:=um.1 (Ju (p:=fun c=>decide (c≠10)) (l:=s)) 10 h;simp at this
def qzO {r t:Bs} {l:Int} (h:r=37::t):qK r l=(qK (r.drop (jr r)) l).add [] [r.take (jr r)]:=by
 subst h;rw [Qp,if_neg (by decide),if_neg (by decide),if_pos rfl]
def qhd (base B:Nat) (w:World) (s:Bs) (k0:Nat) (l0:Int) (c0:List Bs) (v0:Value):Ending->World->Prop:=
 fun e w'=>e=.returned (.tuple #[])/\∃k l new v,Skipped base B w w' s k0 l0 c0 v0 k l new v/\Qj s k
def qhe (base B:Nat) (w:World) (s:Bs) (k0:Nat) (l0:Int) (c0:List Bs) (v0:Value):qa->World->Prop:=
 fun ρ' w'=>ρ' 0=.pointer (some ⟨B,0,none⟩)/\ρ' 2=.func (.func 346) #[] #[]/\∃k l new v,Skipped base B w w' s k0 l0 c0 v0 k l new v
def qm6 {base B:Nat} {w:World} {s:Bs} {U:Nat} {l0:Int} {c0:List Bs} {v0:Value} (h:Sc base B w s U l0 c0 v0):
  Calls Tryz.prog 266 #[.pointer (some ⟨B,0,none⟩)] w (qhd base B w s U l0 c0 v0):=by
 refine qF7 fun ρ y=>?_;simp [qj6];refine qna.mono ?_;rintro _ w1 ⟨rfl,hE1⟩;simp;refine qJa (n:=3) (k:=2) (e:=288) (v:=.func (.func 346) #[] #[]) (cs:=#[.func (.func 165) #[] #[],.func (.func 232) #[] #[],.func (.func 346) #[] #[]]) (inf:=_) (by kernel_rfl) rfl (by kernel_rfl) (by simp) (by simp;rfl) (by decide) rfl (by kernel_rfl) ?_;simp;refine qox ?_;simp [qsL];refine Q4 (qhe base B w s U l0 c0 v0) (fun _ w'=>s.length - atOf w' B) ⟨by simp [y],by simp,U,l0,[],v0,⟨by simpa using h.ext hE1,Tn.ext hE1,j1 _,by simp⟩⟩ ?_;rintro ρ' w' ⟨y,h2,k,l,new,v,C⟩;have hat:=C.sc.at
 have hb:=C.sc.blk;by_cases b:k<s.length
 ·simp [qj2,y,hb.cell,b];intro w2 E;have hb2:=hb.ext E;have hS2:=C.sc.ext E;have hT2:=C.tn.trans (Tn.ext E);simp [qj3,qsM];refine vZ qF6 (qc w2) fun w3 S _=>⟨S, ?_⟩;have hc:∀w',qc w2 w'->∀i,w'.cell? ⟨B,i,none⟩=(yB s k l v)[i]? :=fun w' h=>(hb2.ext h).cell;simp+contextual [qsK,y,h2,hc,S,b,qc3 b];refine kL (f:=346) (by kernel_rfl) (fs:=#[]) (caps:=#[]) (by simp) ?_;simp;refine (qy6 s[k] w3).mono ?_;rintro _ w3 ⟨rfl,rfl⟩;have hS3:=hS2.ext S;have hT3:=hT2.trans (Tn.ext S);cases hbl:ke s[k] with
  |true=>
   simp [qf7,y];refine (qil (n:=1) hS3 (by omega)).mono ?_;rintro _ w4 ⟨rfl,F,hT4⟩;simp;refine ⟨⟨by simp [y],by simp [h2],k+1,_,new,v,F,hT3.trans hT4,by have:=C.le;omega, ?_⟩, ?_⟩
   ·rw [C.eq,yk b,qzP hbl]
   ·rw [F.at,hat];omega
  |false=>
   have hu:=wC s[k] 37 (by decide);have hc3:=hc w3 S;have hst:∀w4,qc w3 w4->qhd base B w s U l0 c0 v0 (Ending.returned (Value.tuple #[])) w4\/s[k]=37:=by
    intro w4 z;by_cases u:s[k]=37
    ·exact .inr u
    ·exact .inl ⟨rfl,k,l,new,v,⟨hS3.ext z,hT3.trans (Tn.ext z),C.le,C.eq⟩,fun _=>⟨hbl,u⟩⟩
   by_cases u:s[k]=37
   ·have H:(s[k].toNat:Int)=37:=hu.2 u;simp [qf7,y,hc3,b,qc3 b,H,qj4];intro w4 z;have F:=hS3.ext z;have hT4:=hT3.trans (Tn.ext z);refine (qbV F.blk F.kl).mono ?_;rintro _ w5 ⟨rfl,hE5⟩;have hS5:=F.ext hE5;have hT5:=hT4.trans (Tn.ext hE5);simp;refine (Tryz.indexByte (qb (s.drop k)) 10 w5).mono ?_;rintro _ w5 ⟨rfl,rfl⟩;have hix:Lib.indexByte (qb (s.drop k)).data.toList (Int.toNat 10).toUInt8=Lib.indexByte (s.drop k) 10:=rfl;rw [hix];have hn1:1<=jr (s.drop k):=by rw [yk b,u];exact qgU _
    have hn2:jr (s.drop k)<=s.length - k:=by have:=qwT (s.drop k);simpa using this
    have I:∀(R:qa) (w6:World),R 0=.pointer (some ⟨B,0,none⟩)->R 2=.func (.func 346) #[] #[]->R 3=.int .i64 (jr (s.drop k):Int)->qc w5 w6->
     qj5.wp ⟨Tryz.prog,75,qcp,[]⟩ (fun t o=>qhe base B w s U l0 c0 v0 t o/\s.length - atOf o B<s.length - atOf w' B) (((((ji [] (qhd base B w s U l0 c0 v0)).blk 0 (qB [] (qhd base B w s U l0 c0 v0))).blk 1 (fun t o=>qhe base B w s U l0 c0 v0 t o/\s.length - atOf o B<s.length - atOf w' B)).blk 2 (fun t o=>qhe base B w s U l0 c0 v0 t o/\s.length - atOf o B<s.length - atOf w' B))) R w6:=by
     intro R w6 y h2 h3 Z;have aa:=hS5.ext Z;have hT6:=hT5.trans (Tn.ext Z);simp only [qj5];refine vZ qF5 (fun W=>W.cell? ⟨B,3,none⟩=some v) fun w7 hE7 _=>?_;have hS7:=aa.ext hE7;have hT7:=hT6.trans (Tn.ext hE7);refine ⟨by simp [hS7.blk.cell], ?_⟩;simp+contextual [qsJ,y,h3,hS7.blk.cell];refine (qil (n:=jr (s.drop k)) hS7 (by omega)).mono ?_;rintro _ w8 ⟨rfl,Y,hT8⟩;rw [qJF] at Y;simp [Y.blk.cell];refine jV qeW (by decide) (by decide) (by simp [Value.cells]) fun B9 W9 hB9 hE9 hb9 _=>?_;have a:=Y.ext hE9;simp [Value.cells] at hb9;simp [a.blk.cell];have hcl:=a.cl;have hO9:Own base 9 1 W9 (.slice (some ⟨B9,0,none⟩) 1 1) [qi ((s.drop k).take (jr (s.drop k)))]:=Own.lit (cs:=[qi ((s.drop k).take (jr (s.drop k)))]) hb9 rfl (Nat.le_trans Y.bW hB9) (by decide);have hnew:Cells W9 (.slice (some ⟨B9,0,none⟩) 1 1) 1 [qi ((s.drop k).take (jr (s.drop k)))]:=jR hO9;have hk9:=a.kl;have hs9:=a.sl;refine qgM qos a.bW (by simp) (by simp) a.own hnew (by simp [qi];rfl) (by simp at hcl⊢;omega) (by simp at hcl⊢;omega) fun v' W10 ae c ab=>?_;have ac:Blk W10 B _ 217:=⟨(c.block B a.blk.lt (fun e=>a.ne e.symm)).trans a.blk.heap⟩;simp [ac.cell];have h1:=qfr ae;refine qW (B:=B) (i:=3) (by simp) ac (by simp) (by simpa using h1.1) (by simpa using h1.2) qeN fun W11 J ag=>?_;simp at ag;have ad:v'.ownBlock≠some B:=by
      rcases ab with e|e
      ·rw [e];exact a.ne
      ·rw [e];have:=a.blk.lt;intro h;cases h;omega
     have V:Own base 9 1 W11 v' ((c0++(new++[(s.drop k).take (jr (s.drop k))])).map qi):=by
      have:=ae.kept (qfv J) (.inr ad);simpa using this
     have hsz10:=c.size;have af:Sc base B W11 s (k+jr (s.drop k)) l (c0++(new++[(s.drop k).take (jr (s.drop k))])) v':=
      ⟨by simpa using ag,V,ad,a.bB,by have:=a.bW;rw [J.size];omega,hk9,hs9,aa.l0,by have:=aa.l1;omega,by have:=aa.cl;simp at this⊢;omega⟩
     have hT10:Tn B v v' W9 W10:=⟨c.os,c.tape,c.output,c.size,fun k hk _ hv=>c.block k hk (fun e=>hv e.symm),by
      rcases ab with e|e
      ·exact .inl e
      ·exact .inr fun i hi=>by rw [e] at hi;cases hi;exact j1 _⟩
     have hT11:Tn B v0 v' w W11:=(((hT7.trans hT8).trans (Tn.ext hE9)).trans hT10).trans (Tn.gb (qfv J));simp;refine ⟨⟨by simp [y],by simp [h2],_,_,_,_,af,hT11,by have:=C.le;omega, ?_⟩, ?_⟩
     ·rw [C.eq];have:qK (s.drop k) l=(qK (s.drop (k+jr (s.drop k))) l).add [] [(s.drop k).take (jr (s.drop k))]:=by
       rw [<-JH];exact qzO (by rw [yk b,u])
      rw [this,Res.add_add];rfl
     ·rw [af.at,hat];omega
    rcases qvW (s.drop k) with ⟨e1,e2⟩|e1
    ·rw [e1];simp [y];refine (qbV hS5.blk hS5.kl).mono ?_;rintro _ w6 ⟨rfl,Z⟩;simp;exact I _ _ (by simp [y]) (by simp [h2]) (by simp [e2]) Z
    ·rw [e1];simp;exact I _ _ (by simp [y]) (by simp [h2]) (by simp) (qO _)
   ·have H:¬(s[k].toNat:Int)=37:=fun h=>u (hu.1 h);simp [qf7,y,hc3,b,qc3 b,H,qj4];intro w4 z;rcases hst w4 z with h|h
    ·exact h
    ·exact absurd h u
 ·simp [qj2,y,hb.cell,b,qj3];intro w2 E;exact ⟨rfl,k,l,new,v,⟨C.sc.ext E,C.tn.trans (Tn.ext E),C.le,C.eq⟩,fun h=>absurd h b⟩
theorem z38:zR Tryz.prog 53=some #[.int .u8 0,.string ⟨#[]⟩,.int .i64 0]:=by kernel_rfl
theorem qKk (l:Int):Tryz.prog.built 53 [(2,.int .i64 l)]=some #[.int .u8 0,.string ⟨#[]⟩,.int .i64 l]:=by kernel_rfl
theorem qhZ:jT Tryz.prog 53 3=true:=by kernel_rfl
theorem sz5:jT Tryz.prog 5 1=true:=by kernel_rfl
theorem sz9:jT Tryz.prog 9 1=true:=by kernel_rfl
def clV:Array Value:=#[.func (.func 165) #[] #[],.func (.func 232) #[] #[],.func (.func 346) #[] #[]]
def brk (e l:Int):Ending:=.panicked [{v:=.iface 212 (.agg #[.int .i64 e,.int .i64 l]),recovered:=false}]
def Jh (base B:Nat) (w:World) (s:Bs) (k:Nat) (l:Int) (coms:List Bs) (cv:Value):Ending->World->Prop:=fun e w'=>
 Tn B cv cv w w'/\
 (((first (s.drop k)).2.2=0/\e=.returned (qcz ⟨(first (s.drop k)).1,(s.drop k).take (first (s.drop k)).2.1,l⟩)/\Sc base B w' s (k+(first (s.drop k)).2.1) l coms cv)\/
  ((first (s.drop k)).2.2≠0/\e=brk (first (s.drop k)).2.2 l))
def Tn.blk {B C:Nat} {cv a:Value} {W W':World} {cs:Array Value} {t:TypeId} (h:Tn B cv a W W') (b:Blk W C cs t) (c:C≠B) (e:cv.ownBlock≠some C):Blk W' C cs t:=⟨(h.block C b.lt c e).trans b.heap⟩
def Sc.off {base B:Nat} {W:World} {s:Bs} {k:Nat} {line:Int} {coms:List Bs} {cv:Value} (h:Sc base B W s k line coms cv) {C:Nat} (a:W.heap.size<=C):C≠B/\cv.ownBlock≠some C:=by
 refine ⟨?_, ?_⟩
 ·have:=h.blk.lt;omega
 ·intro e;have:=(h.own.blk C e).2;omega
def Sc.only {base B C:Nat} {W W':World} {s:Bs} {k:Nat} {line:Int} {coms:List Bs} {cv:Value} (h:Sc base B W s k line coms cv) (a:Only C W W') (b:C≠B) (c:cv.ownBlock≠some C):Sc base B W' s k line coms cv:=
 ⟨a.blk h.blk (Ne.symm b),h.own.kept (qfv a) (.inr c),h.ne,h.bB,by rw [a.size];exact h.bW,h.kl,h.sl,h.l0,h.l1,h.cl⟩
def Tn.new {B C:Nat} {a b:Value} {U V W:World} (h:Tn B a b U V) (c:Only C V W) (t:U.heap.size<=C):Tn B a b U W:=
 ⟨c.os.trans h.os,c.tape.trans h.tape,c.output.trans h.output,by rw [c.size];exact h.size,fun k e n o=>(c.block k (by omega)).trans (h.block k e n o),h.own⟩
section
variable {base B:Nat} {w:World} {s:Bs} {k:Nat} {l:Int} {coms:List Bs} {cv:Value}
theorem qDj {ρ:qa} {W:World} {B2 B3:Nat} {z:Array Value} {n:Int} {tx:Bs} {Q:Ks} {R:Ending->World->Prop} (c:ρ 2=.pointer (some ⟨B2,0,none⟩)) (t:ρ 3=.pointer (some ⟨B3,0,none⟩)) (b:Blk W B2 z 53) (o:z.size=3)
  (a:Blk W B3 #[.int .u8 n,.string (qb tx),.int .i64 l] 53) (u:∀ρ w,Q.rt ρ w=qB [.cellN 2 3] R ρ w) (h:∀W',Only B2 W W'->R (.returned (.agg #[.int .u8 n,.string (qb tx),.int .i64 l])) W') {KK:qa->World->Prop}:
  qbt.wp ⟨Tryz.prog,114,kZ,[]⟩ KK Q ρ W:=by
 simp [qbt,t,a.cell];refine jx (B:=B2) (by simpa using c) b (by simp [Value.cells,o]) (by simp [Value.cells]) (by rw [o];exact qhZ) fun W2 v e=>?_;simp [Value.cells] at e;simp [u];refine jh (by simpa using c) e rfl ?_;exact h W2 v
theorem qgE (a:k<s.length):(s.drop k).getD 0 0=s[k]:=by rw [yk a];rfl
theorem qyN {a n:Nat} {r:Bs} (h:right a (r.take n)=true):(r.take n).count 10=0:=by
 rw [List.count_eq_zero];intro b;exact (qam h 10 b).1 rfl
structure Nx (base B:Nat) (w:World) (s:Bs) (k:Nat) (l:Int) (coms:List Bs) (cv:Value) (B2 B3 B4:Nat) (kd:Int) (ρ:qa) (W:World):Prop where
 r0:ρ 0=.pointer (some ⟨B,0,none⟩)
 r2:ρ 2=.pointer (some ⟨B2,0,none⟩)
 r3:ρ 3=.pointer (some ⟨B3,0,none⟩)
 r4:ρ 4=.pointer (some ⟨B4,0,none⟩)
 sc:Sc base B W s k l coms cv
 b2:Blk W B2 #[.int .u8 0,.string ⟨#[]⟩,.int .i64 0] 53
 b3:Blk W B3 #[.int .u8 kd,.string ⟨#[]⟩,.int .i64 l] 53
 b4:Blk W B4 clV 289
 tn:Tn B cv cv w W
 n2:w.heap.size<=B2/\B2<B3/\B3<B4
 n3:B3≠B/\B2≠B
 n4:cv.ownBlock≠some B3/\cv.ownBlock≠some B2
 g:G W
 gw:G w
theorem Nx.env {B2 B3 B4:Nat} {b:Int} {ρ a:qa} {W:World} (h:Nx base B w s k l coms cv B2 B3 B4 b ρ W) (e:a 0=ρ 0) (n:a 2=ρ 2) (c:a 3=ρ 3) (o:a 4=ρ 4):Nx base B w s k l coms cv B2 B3 B4 b a W:=
 ⟨e.trans h.r0,n.trans h.r2,c.trans h.r3,o.trans h.r4,h.sc,h.b2,h.b3,h.b4,h.tn,h.n2,h.n3,h.n4,h.g,h.gw⟩
theorem Nx.ext {B2 B3 B4:Nat} {b:Int} {ρ:qa} {W W':World} (h:Nx base B w s k l coms cv B2 B3 B4 b ρ W) (a:qc W W'):Nx base B w s k l coms cv B2 B3 B4 b ρ W':=
 ⟨h.r0,h.r2,h.r3,h.r4,h.sc.ext a,h.b2.ext a,h.b3.ext a,h.b4.ext a,h.tn.trans (Tn.ext a),h.n2,h.n3,h.n4,h.g.ext a,h.gw⟩
theorem Nx.kind {B2 B3 B4:Nat} {t e:Int} {ρ:qa} {W W':World} (h:Nx base B w s k l coms cv B2 B3 B4 t ρ W) (v:qc w W) (n:Only B3 W W') (u:Blk W' B3 #[.int .u8 e,.string ⟨#[]⟩,.int .i64 l] 53) (o:G W'):Nx base B w s k l coms cv B2 B3 B4 e ρ W':=by
 obtain ⟨a,b,c⟩:=h.n2;exact ⟨h.r0,h.r2,h.r3,h.r4,h.sc.only n h.n3.1 h.n4.1,n.blk h.b2 (by omega),u,n.blk h.b4 (by omega),h.tn.new n (by omega),h.n2,h.n3,h.n4,o,h.gw⟩
theorem qfy {B2 B3 B4 n kd:Nat} {ρ:qa} {W:World} (h:Nx base B w s k l coms cv B2 B3 B4 (kd:Int) ρ W) (t:first (s.drop k)=(kd,n,0)) (C:s.drop k≠[]) {u J R I vn:Nat} (hvn:ρ vn=.int .i64 (n:Int))
  (hd:5<=u/\5<=J/\5<=R/\5<=I/\u≠vn/\u≠J/\R≠I) {KK:qa->World->Prop} {Q:Ks} (hK:∀ρ W,KK ρ W=qbt.wp ⟨Tryz.prog,114,kZ,[]⟩ (qB [.cellN 2 3] (Jh base B w s k l coms cv)) (ji [.cellN 2 3] (Jh base B w s k l coms cv)) ρ W):
  (IR.reg [.asg none u (.op1 (.fadr 0) (.op1 .nilc (.var 0))),.asg none J (.var vn),
   .eff none (some R) (.call {callee:=.value (.func 304),args:=#[(.tmp u),(.tmp J)],argTypes:=#[215,3]}) 9,
   .asg none I (.op1 (.fadr 1) (.var 3)),.eff none none (.store 9 (.tmp I) (.tmp R)) 0]).wp ⟨Tryz.prog,114,kZ,[]⟩ KK Q ρ W:=by
 have b:=qaH (s:=s.drop k) (by rw [t]) C;have a:=(qlc C (by rw [t])).1;rw [t] at b a;simp only [uR] at b;have hkl:=h.sc.kl;obtain ⟨e1,e2,e3,V,e5,e6,U⟩:=hd;have z:=qyN a;have f0:(0:Nat)≠u:=by omega
 have c:∀d,5<=d->(3:Nat)≠d:=by omega
 have S:∀d,5<=d->(2:Nat)≠d:=by omega
 simp [h.r0,hvn,f0,e5,e6,U,Ne.symm e5];refine (qil (n:=n) h.sc (by omega)).mono ?_;rintro _ W1 ⟨rfl,E,o⟩;rw [z] at E;have y:=o.blk h.b3 h.n3.1 h.n4.1;have v:=o.blk h.b2 h.n3.2 h.n4.2;simp [h.r3,c _ e1,c _ e2,c _ e3,c _ V];refine qW (B:=B3) (i:=1) (by simp) y (by simp) (by simp [U];rfl) (by simp [U]) sz9 fun W2 e H=>?_;simp [U] at H;show KK _ _;rw [hK];obtain ⟨n1,n2,n3⟩:=h.n2;refine qDj (by simp [S _ e1,S _ e2,S _ e3,S _ V,h.r2]) (by simp [c _ e1,c _ e2,c _ e3,c _ V,h.r3]) (e.blk v (by omega)) rfl H (fun _ _=>rfl) fun W3 F=>?_;have Z:=(E.only e h.n3.1 h.n4.1).only F h.n3.2 h.n4.2;have Y:=((h.tn.trans o).new e (by omega)).new F n1;refine ⟨Y,.inl ⟨by rw [t], ?_, ?_⟩⟩
 ·rw [t];simp [qcz]
 ·rw [t];simpa using Z
theorem Nx.brk {B2 B3 B4:Nat} {b:Int} {ρ:qa} {W:World} (h:Nx base B w s k l coms cv B2 B3 B4 b ρ W) {e:Int} (a:(first (s.drop k)).2.2=e) (c:e≠0):Jh base B w s k l coms cv (brk e l) W:=
 ⟨h.tn,.inr ⟨by rw [a];exact c,by rw [a]⟩⟩
abbrev nxR (base B:Nat) (w:World) (s:Bs) (k:Nat) (l:Int) (coms:List Bs) (cv:Value):qa->World->Prop:=qB [.cellN 2 3] (Jh base B w s k l coms cv)
abbrev nxQ (base B:Nat) (w:World) (s:Bs) (k:Nat) (l:Int) (coms:List Bs) (cv:Value):Ks:=ji [.cellN 2 3] (Jh base B w s k l coms cv)
theorem qDi {B2 B3 B4:Nat} {ρ:qa} {W:World} (h:Nx base B w s k l coms cv B2 B3 B4 0 ρ W) (hE:qc w W) (S:k<s.length) (hc:jI s[k]=true) {Q:Ks} (hQ:∀ρ c w',Q.pn ρ c w'=Jh base B w s k l coms cv (.panicked c) w') {KK:qa->World->Prop} (hK:∀ρ W,KK ρ W=qbt.wp (Cx.mk Tryz.prog 114 kZ []) (nxR base B w s k l coms cv) (nxQ base B w s k l coms cv) ρ W):
  (IR.raw (qP qco 16)).wp (Cx.mk Tryz.prog 114 kZ []) (qj1.wp (Cx.mk Tryz.prog 114 kZ []) KK Q) Q ρ W:=by
 have I:s.drop k≠[]:=by rw [yk S];exact JG _ _
 have a:first (s.drop k)=if jw ((s.drop k).take (qL (s.drop k))) then (2,qL (s.drop k),0) else if 12<qL (s.drop k) then (0,0,12) else (1,qL (s.drop k),0):=by
  unfold first
  rw [if_pos (by rw [qgE S];exact hc)]
 have Z:=h.sc.kl;refine vZ qF1 (qc W) (fun w3 o _=>⟨o, ?_⟩) (fun _ _ ρ v c w h=>by rw [hQ] at h⊢;exact h);have h3:=h.ext o;have hc4:∀w',qc W w'->∀i,w'.cell? ⟨B4,i,none⟩=clV[i]? :=fun w' hh=>(h.b4.ext hh).cell;simp -implicitDefEqProofs [qsD,h.r0];refine qgK (n:=3) (k:=0) (e:=288) (inf:=_) (by kernel_rfl) rfl (by kernel_rfl) (by simp;exact h.r4) (by simp;rfl) (by decide) ?_;simp+contextual -implicitDefEqProofs [hc4,o,clV];refine (qm7 h3.sc.blk Z h3.sc.short qJI).mono ?_;rintro _ W4 ⟨rfl,z⟩;have h4:=h3.ext z;have Y:=(hE.trans' o).trans' z;have V:((s.drop k).takeWhile part).length=qL (s.drop k):=rfl;simp [V,qj1,h.r0];refine (qbV h4.sc.blk Z).mono ?_;rintro _ W5 ⟨rfl,U⟩;have h5:=h4.ext U;have u:=Y.trans' U;have hrl:qL (s.drop k)<=s.length - k:=by have:=qaf part (s.drop k);simpa [qL] using this
 have aa:(qb (s.drop k)).extract 0 (qL (s.drop k))=qb ((s.drop k).take (qL (s.drop k))):=by
  have:=qbB (s.drop k) 0 (qL (s.drop k));simpa using this
 simp [h.r3,hrl,aa];refine qW (B:=B3) (i:=0) (by simp) h5.b3 (by simp) rfl rfl sz5 fun W6 ab F=>?_;simp at F;obtain ⟨n1,n2,n3⟩:=h.n2;have y:qc w W6:=ab.ext u (by omega);have ad:G W6:=h.gw.ext y;have h6:Nx base B w s k l coms cv B2 B3 B4 ((1:Nat):Int) ρ W6:=h5.kind u ab F ad;simp;refine (qm9 ad _).mono ?_;rintro _ W7 ⟨rfl,J⟩;have C:=h6.ext J;have t:=y.trans' J;cases hw:jw ((s.drop k).take (qL (s.drop k))) with
 |true=>
  rw [hw,if_pos rfl] at a;simp [h.r3];refine qW (B:=B3) (i:=0) (by simp) C.b3 (by simp) rfl rfl sz5 fun W8 E ac=>?_;simp at ac⊢;have R:qc w W8:=E.ext t (by omega);have h8:Nx base B w s k l coms cv B2 B3 B4 ((2:Nat):Int) ρ W8:=C.kind t E ac (h.gw.ext R);exact qfy (h8.env (by simp) (by simp) (by simp) (by simp)) a I (by simp) (by omega) hK
 |false=>
  rw [hw,if_neg (by simp)] at a;by_cases H:12<qL (s.drop k)
  ·rw [if_pos H] at a;have b:(12:Int)<(qL (s.drop k):Int):=by omega
   simp [b,h.r0];refine (qhR C.sc.blk).mono ?_;rintro _ _ ⟨rfl,rfl⟩;simp [hQ];exact C.brk (by rw [a]) (by decide)
  ·rw [if_neg H] at a;have b:¬(12:Int)<(qL (s.drop k):Int):=by omega
   simp [b];exact qfy (C.env (by simp) (by simp) (by simp) (by simp)) a I (by simp) (by omega) hK
theorem qDk {B2 B3 B4:Nat} {ρ:qa} {W:World} (h:Nx base B w s k l coms cv B2 B3 B4 0 ρ W) (hE:qc w W) (C:k<s.length) (hl:jI s[k]=false) (hc:qD s[k]=true) {Q:Ks} (hQ:∀ρ c w',Q.pn ρ c w'=Jh base B w s k l coms cv (.panicked c) w') {KK:qa->World->Prop} (hK:∀ρ W,KK ρ W=qbt.wp (Cx.mk Tryz.prog 114 kZ []) (nxR base B w s k l coms cv) (nxQ base B w s k l coms cv) ρ W):
  (IR.raw (qP qco 25)).wp (Cx.mk Tryz.prog 114 kZ []) (qj0.wp (Cx.mk Tryz.prog 114 kZ []) KK Q) Q ρ W:=by
 have Y:s.drop k≠[]:=by rw [yk C];exact JG _ _
 have a:first (s.drop k)=if jm ((s.drop k).take (jz (s.drop k))) then (3,jz (s.drop k),0) else (0,0,11):=by
  unfold first
  rw [qgE C,if_neg (by rw [hl];simp),if_pos hc]
 have J:=h.sc.kl;refine vZ qF0 (qc W) (fun w3 b _=>⟨b, ?_⟩) (fun _ _ ρ v c w h=>by rw [hQ] at h⊢;exact h);have V:=h.ext b;have aa:∀w',qc W w'->∀i,w'.cell? ⟨B4,i,none⟩=clV[i]? :=fun w' hh=>(h.b4.ext hh).cell;simp -implicitDefEqProofs [qsC,h.r0];refine qgK (n:=3) (k:=1) (e:=288) (inf:=_) (by kernel_rfl) rfl (by kernel_rfl) (by simp;exact h.r4) (by simp;rfl) (by decide) ?_;simp+contextual -implicitDefEqProofs [aa,b,clV];refine (qm7 V.sc.blk J V.sc.short qJJ).mono ?_;rintro _ W4 ⟨rfl,u⟩;have h4:=V.ext u;have H:=(hE.trans' b).trans' u;have F:((s.drop k).takeWhile qD).length=jz (s.drop k):=rfl;simp [F,qj0,h.r0];refine (qbV h4.sc.blk J).mono ?_;rintro _ W5 ⟨rfl,E⟩;have h5:=h4.ext E;have o:=H.trans' E;have Z:jz (s.drop k)<=s.length - k:=by have:=qaf qD (s.drop k);simpa [jz] using this
 have R:(qb (s.drop k)).extract 0 (jz (s.drop k))=qb ((s.drop k).take (jz (s.drop k))):=by
  have:=qbB (s.drop k) 0 (jz (s.drop k));simpa using this
 simp [Z,R];have ab:=h.sc.sl;refine (qy5 (h.gw.ext o) _ (by simp;omega)).mono ?_;rintro _ W6 ⟨rfl,I⟩;have U:=h5.ext I;have t:=o.trans' I;obtain ⟨n1,n2,n3⟩:=h.n2;cases hw:jm ((s.drop k).take (jz (s.drop k))) with
 |false=>
  rw [hw,if_neg (by simp)] at a;simp [h.r0];refine (qhR U.sc.blk).mono ?_;rintro _ _ ⟨rfl,rfl⟩;simp [hQ];exact U.brk (by rw [a]) (by decide)
 |true=>
  rw [hw,if_pos rfl] at a;simp [qsG,h.r3];refine qW (B:=B3) (i:=0) (by simp) U.b3 (by simp) rfl rfl sz5 fun W8 y S=>?_;simp at S;have z:qc w W8:=y.ext t (by omega);have h8:Nx base B w s k l coms cv B2 B3 B4 ((3:Nat):Int) ρ W8:=U.kind t y S (h.gw.ext z);exact qfy (h8.env (by simp) (by simp) (by simp) (by simp)) a Y (vn:=8) (by simp) (by omega) hK
def vM (s:Bs):List Bs->Nat
 |[]=>0
 |g::l=>if Lib.hasPrefix s g then max (vM s l) g.length else vM s l
theorem qpK (s:Bs) (g:Bs):∀l,vM s (l++[g])=if Lib.hasPrefix s g then max (vM s l) g.length else vM s l
 |[]=>by simp [vM]
 |a::l=>by
  have b:=qpK s g l;simp only [List.cons_append,vM,b];split<;>split<;>omega
theorem qpJ (s:Bs):∀l:List Bs,(∀g∈l,g.length=1\/g.length=2)->(vM s l=2↔∃g∈l,g.length=2/\Lib.hasPrefix s g=true)/\(vM s l=0↔∀g∈l,Lib.hasPrefix s g=false)/\vM s l<=2
 |[],_=>by simp [vM]
 |a::l,h=>by
  obtain ⟨o,t,u⟩:=qpJ s l fun g b=>h g (by simp [b]);have z:=h a (by simp);simp only [vM];cases e:Lib.hasPrefix s a with
  |false=>
   simp only [uf,km];refine ⟨o.trans ⟨fun ⟨g,b,x⟩=>⟨g,by simp [b],x⟩, ?_⟩,t.trans ⟨fun c g b=>?_,fun c g b=>c g (by simp [b])⟩,u⟩
   ·rintro ⟨g,b,x,y⟩;rcases wh.1 b with rfl|b
    ·rw [e] at y;cases y
    ·exact ⟨g,b,x,y⟩
   ·rcases wh.1 b with rfl|b
    ·exact e
    ·exact c g b
  |true=>
   simp only [kk];refine ⟨⟨fun v=>?_, ?_⟩,⟨fun v=>by omega,fun c=>?_⟩,by omega⟩
   ·by_cases n:a.length=2
    ·exact ⟨a,by simp,n,e⟩
    ·obtain ⟨g,b,x⟩:=o.1 (by omega);exact ⟨g,by simp [b],x⟩
   ·rintro ⟨g,b,x,y⟩;rcases wh.1 b with rfl|b
    ·omega
    ·have:=o.2 ⟨g,b,x,y⟩;omega
   ·have:=c a (by simp);rw [e] at this;cases this
theorem qfm {s g:Bs}:Lib.hasPrefix s g=true↔g.length<=s.length/\s.take g.length=g:=by
 unfold Lib.hasPrefix;rw [List.isPrefixOf_iff_prefix];constructor
 ·intro h;exact ⟨h.length_le,(List.prefix_iff_eq_take.1 h).symm⟩
 ·rintro ⟨_,h⟩;rw [<-h];exact List.take_prefix _ _
theorem qnJ {g:Bs} (h:g∈jf):g.length=1\/g.length=2:=(QX g h).1
theorem qDE {s:Bs} (H:s≠[]):vM s jf=if 1<s.length/\qG (s.take 2)=true then 2 else if qG (s.take 1) then 1 else 0:=by
 have J:0<s.length:=Jn.2 H;obtain ⟨o,u,R⟩:=qpJ s jf fun g b=>qnJ b;have z:(∃g∈jf,g.length=2/\Lib.hasPrefix s g=true)↔(1<s.length/\qG (s.take 2)=true):=by
  constructor
  ·rintro ⟨g,b,x,y⟩;obtain ⟨C,c⟩:=qfm.1 y;rw [x] at C c;exact ⟨by omega,by rw [c];simpa [qG] using b⟩
  ·rintro ⟨x,y⟩;have a:(s.take 2).length=2:=by rw [uF];omega
   exact ⟨s.take 2,by simpa [qG] using y,a,qfm.2 ⟨by omega,by rw [a]⟩⟩
 have I:qG (s.take 1)=true->vM s jf≠0:=by
  intro e F;have a:(s.take 1).length=1:=by rw [uF];omega
  have:=u.1 F (s.take 1) (by simpa [qG] using e);rw [qfm.2 ⟨by omega,by rw [a]⟩] at this;cases this
 split
 ·rename_i h;exact o.2 (z.2 h)
 ·rename_i h;have n:vM s jf≠2:=fun E=>h (z.1 (o.1 E));split
  ·rename_i e;have:=I e;omega
  ·rename_i e;refine u.2 fun g b=>?_;cases v:Lib.hasPrefix s g with
   |false=>rfl
   |true=>
    obtain ⟨C,c⟩:=qfm.1 v;rcases qnJ b with t|t
    ·rw [t] at c;exact absurd (by rw [c];simpa [qG] using b) e
    ·exact absurd (o.2 ⟨g,b,t,v⟩) n
theorem qDh {B2 B3 B4:Nat} {ρ:qa} {W:World} (h:Nx base B w s k l coms cv B2 B3 B4 0 ρ W) (hE:qc w W) (Z:k<s.length) (hl:jI s[k]=false) (hc:qD s[k]=false) {Q:Ks} (hQ:∀ρ c w',Q.pn ρ c w'=Jh base B w s k l coms cv (.panicked c) w') {KK:qa->World->Prop} (hK:∀ρ W,KK ρ W=qbt.wp (Cx.mk Tryz.prog 114 kZ []) (nxR base B w s k l coms cv) (nxQ base B w s k l coms cv) ρ W):
  (IR.reg [.asg none 9 (.const (.int .i64 0)),
      .eff none (some 30) (.call {callee:=.value (.func 310),args:=#[],argTypes:=#[]}) 51,
      .asg none 31 (.op1 .lenS (.var 30)),
      .asg none 32 (.const (.int .i64 0))]).wp (Cx.mk Tryz.prog 114 kZ []) ((IR.block 1 (.loop qdW)).wp (Cx.mk Tryz.prog 114 kZ []) (qf6.wp (Cx.mk Tryz.prog 114 kZ []) KK Q) Q) Q ρ W:=by
 have V:s.drop k≠[]:=by rw [yk Z];exact JG _ _
 have hfr:first (s.drop k)=if 1<(s.drop k).length/\qG ((s.drop k).take 2)=true then (4,2,0) else if qG ((s.drop k).take 1) then (4,1,0) else (0,0,10):=by
  unfold first
  rw [qgE Z,if_neg (by rw [hl];simp),if_neg (by rw [hc];simp)]
 have hkl:=h.sc.kl;simp;refine (qyY (h.gw.ext hE)).mono ?_;rintro _ W1 ⟨v,rfl,hO,aa⟩;have J:=Own.sl (enc:=qi) (xs:=jf) hO (by decide);simp [J.is,J.len];refine vD 32 21 (fun j e W'=>qc W1 W'/\e 0=ρ 0/\e 2=ρ 2/\e 3=ρ 3/\e 4=ρ 4/\e 30=v/\e 31=.int .i64 21/\e 9=.int .i64 (vM (s.drop k) (jf.take j):Nat)) (by simp) ⟨qO _,by simp,by simp,by simp,by simp,by simp,by simp [qzG],by simp [vM]⟩ ?_;rintro j e W' hj y ⟨u,h0,h2,h3,h4,H,z,I⟩;have F:=(h.ext (aa.trans' u)).env h0 h2 h3 h4;by_cases E:j<21
 ·have S:(j:Int)<21:=by omega
  have t:j<jf.length:=E;have R:=J.ext u;simp [qdW,qsF,z,y,S,E,H,R.is,R.len,t,R.cell j t,qi,F.r0];refine (qbV F.sc.blk hkl).mono ?_;rintro _ W2 ⟨rfl,ab⟩;simp;refine (Tryz.hasPrefix (qb (s.drop k)) (qb jf[j]) W2).mono ?_;rintro _ W2 ⟨rfl,rfl⟩;have o:vM (s.drop k) (jf.take (j+1))=if Lib.hasPrefix (s.drop k) jf[j] then max (vM (s.drop k) (jf.take j)) jf[j].length else vM (s.drop k) (jf.take j):=by
   rw [List.take_add_one,ug t];exact qpK _ _ _
  cases hp:Lib.hasPrefix (s.drop k) jf[j] with
  |true=>
   rw [hp,if_pos rfl] at o;simp [hp,I];refine qgJ (a:=(vM (s.drop k) (jf.take j):Nat)) (b:=(jf[j].length:Nat)) (k:=.i64) (by simp) (by simp) ?_;simp [qjZ,y,qH (n:=(j:Int)+1) (by omega),h0,h2,h3,h4,H,z];refine ⟨u.trans' ab, ?_⟩;rw [o];split<;>omega
  |false=>
   rw [hp,if_neg (by simp)] at o;simp [hp,qjZ,y,qH (n:=(j:Int)+1) (by omega),h0,h2,h3,h4,H,z,I,o];exact u.trans' ab
 ·have hj':j=21:=by omega
  subst hj';have o:vM (s.drop k) (jf.take 21)=vM (s.drop k) jf:=rfl;rw [o] at I;have C:(vM (s.drop k) jf=0/\first (s.drop k)=(0,0,10))\/(vM (s.drop k) jf≠0/\first (s.drop k)=(4,vM (s.drop k) jf,0)):=by
   rw [hfr,qDE V];split
   ·exact .inr ⟨by decide,rfl⟩
   ·split
    ·exact .inr ⟨by decide,rfl⟩
    ·exact .inl ⟨rfl,rfl⟩
  generalize vM (s.drop k) jf=m at I C;rcases C with ⟨rfl,hf⟩|⟨hm,hf⟩
  ·simp [qdW,z,y,qf6,I,F.r0];refine (qhR F.sc.blk).mono ?_;rintro _ _ ⟨rfl,rfl⟩;simp [hQ];exact F.brk (by rw [hf]) (by decide)
  ·simp [qdW,z,y,qf6,I,hm,qsE,F.r3];obtain ⟨n1,n2,n3⟩:=h.n2;have ac:qc w W':=(hE.trans' aa).trans' u;refine qW (B:=B3) (i:=0) (by simp) F.b3 (by simp) rfl rfl sz5 fun W8 U ad=>?_;simp at ad;have Y:qc w W8:=U.ext ac (by omega);have h8:Nx base B w s k l coms cv B2 B3 B4 ((4:Nat):Int) e W8:=F.kind ac U ad (h.gw.ext Y);exact qfy (h8.env (by simp) (by simp) (by simp) (by simp)) hf V (vn:=9) (by simp [I]) (by omega) hK
theorem qy4 (hG:G w) (h:Sc base B w s k l coms cv) (b:k<s.length):Calls Tryz.prog 267 #[.pointer (some ⟨B,0,none⟩)] w (Jh base B w s k l coms cv):=by
 have hs64:=h.short;have hs20:=h.sl;have hfk:=qgE b;have hne:s.drop k≠[]:=by rw [yk b];exact JG _ _
 refine qF3 fun ρ Z=>?_;simp [qsI];refine qX z38 fun B2 W2 R c aa _=>?_;have H:=h.ext c;simp [Z,H.blk.cell,qKk];refine qX z38 fun B3 W3 hB3 y hb3 _=>?_;have hS3:=H.ext y;have V:=aa.ext y;simp;refine jx (B:=B3) (by simp) hb3 (by simp [Value.cells]) (by simp [Value.cells]) (by simpa [Value.cells] using qhZ) fun W4 v z=>?_;have ab:B2<B3:=by have:=aa.lt;omega
 have o3:=H.off hB3;have o2:=h.off R;have hS4:=hS3.only v o3.1 o3.2;have Y:=v.blk V (by omega);have hT4:Tn B cv cv w W4:=(Tn.ext (c.trans' y)).new v (by have:=c.size;omega);simp [Value.cells] at z;simp;refine qna.mono ?_;rintro _ W5 ⟨rfl,t⟩;simp;refine qX qmn fun B4 W6 hB4 u W _=>?_;simp;have F:=z.ext t;have hl4:B3<B4:=by have:=F.lt;omega
 refine jx (B:=B4) (by simp) W (by simp [Value.cells]) (by simp [Value.cells];decide) (by simpa [Value.cells] using qnl) fun W7 n E=>?_;have S:=hS4.ext t;have o4:=S.off hB4;have U:=(S.ext u).only n o4.1 o4.2;have I:=n.blk (F.ext u) (by omega);have J:=n.blk ((Y.ext t).ext u) (by omega);have hT7:Tn B cv cv w W7:=((hT4.trans (Tn.ext t)).trans (Tn.ext u)).new n (by have:=c.size;omega);have C:qc w W7:=by
  have e4:qc w W4:=v.ext (c.trans' y) (by have:=c.size;omega);exact n.ext ((e4.trans' t).trans' u) (by have:=c.size;omega)
 simp [Value.cells] at E;simp [Z,U.blk.cell,b,qc3 b];intro W8 a;have hN:∀e:qa,e 0=.pointer (some ⟨B,0,none⟩)->e 2=.pointer (some ⟨B2,0,none⟩)->e 3=.pointer (some ⟨B3,0,none⟩)->e 4=.pointer (some ⟨B4,0,none⟩)->Nx base B w s k l coms cv B2 B3 B4 0 e W8:=fun e a0 a2 a3 a4=>
  ⟨a0,a2,a3,a4,U.ext a,J.ext a,I.ext a,E.ext a,hT7.trans (Tn.ext a),⟨R,ab,hl4⟩,⟨o3.1,o2.1⟩,⟨o3.2,o2.2⟩,hG.ext (C.trans' a),hG⟩
 have o:=C.trans' a;simp [qsH];refine (qhQ s[k] W8).mono ?_;rintro _ W8 ⟨rfl,rfl⟩;cases hl:jI s[k] with
 |true=>
  simp;refine qDi (hN _ (by simp [Z]) (by simp) (by simp) (by simp)) o b hl (fun _ _ _=>rfl) fun _ _=>rfl
 |false=>
  simp;refine (qhS s[k] W8).mono ?_;rintro _ W8 ⟨rfl,rfl⟩;cases hc:qD s[k] with
  |true=>
   simp;refine qDk (hN _ (by simp [Z]) (by simp) (by simp) (by simp)) o b hl hc (fun _ _ _=>rfl) fun _ _=>rfl
  |false=>
   simp only [zD];refine qDh (hN _ (by simp [Z]) (by simp) (by simp) (by simp)) o b hl hc (fun _ _ _=>rfl) fun _ _=>rfl
end
end Go.L01
namespace Go.L01
open Go Go.Eng Go.Proofs
set_option maxRecDepth 100000
noncomputable def qqj:Code:=(Tryz.f200.body).getD .skip
noncomputable def qfS (v:Value):IR:=zq [za 6 (.const v)] <| .block 0 (zq [zE 8 (.binOp .eql 20 (zt 6) (.const .nilIface) 20) 4] <| .cond (zv 8) (.reg [zm 3 6]) (zq [zE 9 (.typeAssert (zt 6) 20 212 true) 0,za 10 (ze 1 (zv 9)),za 11 (ze 0 (zv 9))] <| .cond (zv 10) (zq [zA 4 212,zw 212 (zt 4) (zt 11)] <| .raw (qP qqj 7)) (.reg [zm 5 6,zm 7 5,.eff none none (.panic (zt 7)) 0])))
def qfR:List Nat:=zV 14 []
theorem qEe (v:Value):(jo Tryz.prog Tryz.f200.ntmps qfR [7] (qa3 v (Tryz.f200.body.getD .skip))).map IR.norm=some (qfS v):=by kernel_rfl
def qqi {v0 b a:Value} {u:FrameMode} {w:World} {R:Ending->FrameMode->World->Prop} (h:∀ρ:qa,ρ 0=v0->ρ 1=b->ρ 2=a->(qfS (xC u)).wp ⟨Tryz.prog,14,qfR,[]⟩ (qan [] (xN u) R) (qb7 [] (xN u) R) ρ w):
  CallsDIn Fence.wide 0 Tryz.prog 200 #[v0,b,a] u w R:=by
 obtain ⟨e,n,o⟩:=ua.1 (qEe (xC u));exact qw1 (args:=#[v0,b,a]) Tryz.func200 (c:=Tryz.f200.body.getD .skip) rfl (by kernel_rfl) n o (by kernel_rfl) (show zX Tryz.prog qfR Tryz.f200.results.toList=some [] by kernel_rfl) (uV rfl) (h _ rfl rfl rfl)
noncomputable def qqh:OT:=zy 12 (zf 0 (zv 4))<|zy 13 (zM 2 (zv 12))<| .step (zw 48 (zt 0) (.const (.slice none 0 0))) true<| .step (zw 51 (zt 1) (.const (.slice none 0 0))) true<| .step (zw 26 (zt 2) (zt 13)) false<| .done
theorem qEf:zj Tryz.prog 14 qfR 4 (qP qqj 7)=some qqh:=by kernel_rfl
end Go.L01
namespace Go.L01
open Go Go.Eng Go.Proofs Go.RowKit
set_option maxRecDepth 100000
set_option maxHeartbeats 2000000
@[simp] theorem qOf:qh Tryz.prog 266=true:=by kernel_rfl
@[simp] theorem qOe:qh Tryz.prog 267=true:=by kernel_rfl
theorem qBf {cx:Cx} {g:Operand} {ps:Array Tmp} {assign body:Code} {gf:FuncId} {fs lb:Array Value} {K:qa->World->Prop} {Q:Ks} {ρ:qa} {w:World} (hD:cx.D≠[]) (hg:qe ρ g=.func (.func gf) fs lb) (W:xl cx.V g=false)
  (o:qh cx.P gf=true)
  (h:∀(a:Act) (r:Loop) (W1:World),Agree cx.n cx.V ρ a->r.tmps=a.tmps->r.params=ps->r.assign=assign->r.body=body->r.state=.ready->r.pending=none->qc w W1->W1.heap.size=w.heap.size+2->LoopB W1 (w.heap.size+1) w.heap.size r->
   Calls cx.P gf (fs++ #[.func (.yield (w.heap.size+1)) #[] #[]]++lb) W1 (qDK cx (w.heap.size+1) w.heap.size r K Q (qw ρ gS (y7 (qax w.heap.size) (ρ gS))))):
  (IR.raw (.rangeFunc g ps assign body)).wp cx K Q ρ w:=by
 intro a I hDa hdf;refine (wpIn_wide (n:=0)).1 (wpIn_rangeFunc fun fn _=>?_);obtain ⟨rec,b⟩:∃rec:Loop,rec={state:=.ready,pending:=none,fn,tmps:=a.tmps,params:=ps,assign,body,defers:=w.heap.size}:=⟨_,rfl⟩;obtain ⟨W1,u⟩:∃W1,(w.alloc (.deferred (some []))).alloc (.loop rec)=W1:=⟨_,rfl⟩;have Z:qc w W1:=by rw [<-u];exact (QD _ _).trans' (QD _ _)
 have S:W1.heap.size=w.heap.size+2:=by rw [<-u];simp
 have hL:LoopB W1 (w.heap.size+1) w.heap.size rec:=by
  rw [<-u];refine ⟨?_, ?_⟩
  ·have:=World.alloc_heap_new (w.alloc (.deferred (some []))) (.loop rec);rwa [World.size_alloc] at this
  ·exact (Below.heap_alloc _ _ _ (by simp)).trans (World.alloc_heap_new w _)
 have U:a.eval g=.func (.func gf) fs lb:=by
  rw [<-hg];cases g with
  |tmp t=>
   have ht:t∈cx.V:=by simpa [xl] using W
   simp [Act.eval,qe,I.at ht]
  |const v=>rfl
  |global v=>rfl
  |func v=>rfl
 refine ⟨w.heap.size+1,[qax w.heap.size],W1,{target:=.fn (.func gf) lb,args:=fs++ #[.func (.yield (w.heap.size+1)) #[] #[]]},W1,gf,fs++ #[.func (.yield (w.heap.size+1)) #[] #[]]++lb,W1, ?_, ?_,fun _ _=>trivial, ?_,fun h0=>(by cases h0), ?_⟩
 ·rw [<-u,b];exact run_enterLoop_outer _ _ _ _ _
 ·simp only [resolve,U];simp [Deferred.ofValue,Act.eval]
 ·unfold qh at o;split at o
  ·rename_i f2 H;simp only [j0,uE,J4,ne_eq] at o;cases Y:f2.body with
   |none=>simp [Y] at o
   |some c=>simp [invoke,callFunc,H,o.1,Y]
  ·cases o
 ·refine (callsIn_wide (n:=0 - 1)).2 ((h a rec W1 I (by rw [b]) (by rw [b]) (by rw [b]) (by rw [b]) (by rw [b]) (by rw [b]) Z S hL).mono ?_);have z:=I.defer (qax w.heap.size);have y:vG cx {a with defers:=[qax w.heap.size]++a.defers}:=fun e=>absurd e hD;intro e W3 J;cases e with
  |returned v=>
   obtain ⟨st,C,R,F,E⟩:=J;have E:=E _ (qce _ _ _) (F.put _);refine ⟨C,_,run_endLoop F.rcd R, ?_⟩;cases C with
   |none=>exact ⟨y,_,z,E⟩
   |some c=>
    cases c<;>first|exact E.elim|skip
    ·exact wpIn_exit ⟨y,_,z,E⟩
    ·exact wpIn_ret ⟨y,_,z,E⟩
  |panicked c=>exact ⟨y,_,z,J⟩
  |outgrown=>exact qfF J
def qKT (base B:Nat) (s:Bs) (J:List Tok->Value->World->Prop):Ending->World->Prop:=fun e W'=>
 (∃v ts coms cv line,e=.returned v/\qK s 1=.ok ts coms/\J ts cv W'/\Sc base B W' s s.length line coms cv)\/
 (∃er line ts cv,e=brk er line/\qK s 1=.bad er line/\J ts cv W')
def qKU (base B l:Nat) (s:Bs) (J:List Tok->Value->World->Prop) (ρ':qa) (W':World):Prop:=
 ρ' 0=.pointer (some ⟨B,0,none⟩)/\ρ' 1=.func (.yield l) #[] #[]/\∃ts k line coms cv,Sc base B W' s k line coms cv/\J ts cv W'/\Qj s k/\qK s 1=(qK (s.drop k) line).add ts coms/\ts.length<=k
def qEi {W:World} {base B l:Nat} {s:Bs} {cv0:Value} (J:List Tok->Value->World->Prop) (hg:∀b cv W,J b cv W->G W) (E:∀b cv R W W',J b cv W->Tn B cv R W W'->J b R W')
  (hY:∀b cv t W k line coms,J b cv W->Sc base B W s k line coms cv->b.length<=20000->qcK Tryz.prog l #[qcz t] W fun e W'=>e=.returned (.bool true)/\J (b++[t]) cv W'/\Sc base B W' s k line coms cv)
  (h0:J [] cv0 W) (u:Sc base B W s 0 1 [] cv0):
  Calls Tryz.prog 201 #[.pointer (some ⟨B,0,none⟩),.func (.yield l) #[] #[]] W (qKT base B s J):=by
 refine qG6 fun ρ r0 r1=>?_;simp [qua,r0];refine (qm6 u).mono ?_;rintro _ W1 ⟨rfl,k,line,new,cv,U,v⟩;simp;refine Q4 (qKU base B l s J) (fun _ w'=>s.length - atOf w' B) ⟨by simp [r0],by simp [r1],[],k,line,new,cv,by simpa using U.sc,E _ _ _ _ _ h0 U.tn,v,by simpa using U.eq,by simp⟩ ?_;clear U v;rintro ρ' W' ⟨r0,r1,b,k,line,coms,cv,u,hj,v,C,hlen⟩;have ac:=u.at
 by_cases c:k<s.length
 ·simp [qkt,r0,u.blk.cell,c];intro W2 n;have aa:=u.ext n;have y:=E _ _ _ _ _ hj (Tn.ext n);obtain ⟨ab,V⟩:=v c;have I:=ab;simp only [ke,yt,uS] at I;obtain ⟨⟨b1,b2⟩,b3⟩:=I;have o:=Qp s[k] (s.drop (k+1)) line;rw [<-yk c,if_neg b3,if_neg (by rintro (h|h)<;>contradiction),if_neg V] at o;simp [qku,qt8,r0,r1];refine (qy4 (hg _ _ _ y) aa c).mono ?_;rintro e W3 ⟨F,⟨S,rfl,Y⟩|⟨S,rfl⟩⟩
  ·rw [if_neg (by simpa using S)] at o;have Z:=E _ _ _ _ _ y F;simp;refine qI3 (l:=l) (by simp) (by simp) ?_;simp;refine (hY b cv _ W3 _ _ _ Z Y (by have:=u.kl;have:=u.sl;omega)).mono ?_;rintro _ W4 ⟨rfl,ae,ad⟩;simp [qt9,r0];refine (qm6 ad).mono ?_;rintro _ W5 ⟨rfl,k5,z,new5,af,a,H⟩;have hpos:=qaH S (by rw [yk c];exact JG _ _);simp;refine ⟨⟨by simp [r0],by simp [r1],_,k5,z,_,af,a.sc,E _ _ _ _ _ ae a.tn,H, ?_, ?_⟩, ?_⟩
   ·rw [C,o,JH,a.eq,Res.add_add,Res.add_add];simp
   ·have:=a.le;simp;omega
   ·rw [a.sc.at,ac];have:=a.le;omega
  ·rw [if_pos S] at o;simp [brk];exact .inr ⟨_,_,b,cv,rfl,by rw [C,o];rfl,E _ _ _ _ _ y F⟩
 ·have hk:k=s.length:=by have:=u.kl;omega
  subst hk;simp [qkt,r0,u.blk.cell,qku];intro W2 n;refine .inl ⟨_,b,coms,cv,line,rfl, ?_,E _ _ _ _ _ hj (Tn.ext n),u.ext n⟩;rw [C,VA,qdh];simp [Res.add]
theorem xb:Tryz.prog.underlying 20=some (.interface (Tryz.prog.methodsAt 20)):=by kernel_rfl
def zz:Option TypeDesc->Bool|some (.struct _)=>true|_=>false
def qyw:∃ds,Tryz.prog.underlying 212=some ds/\∀m,ds≠ .interface m:=by
 have h:zz (Tryz.prog.underlying 212)=true:=by kernel_rfl
 unfold zz at h;split at h
 ·rename_i fs a;exact ⟨_,a,fun m b=>by cases b⟩
 ·cases h
theorem z84:zR Tryz.prog 212=some #[.int .i64 0,.int .i64 0]:=by kernel_rfl
theorem qze:jT Tryz.prog 212 2=true:=by kernel_rfl
theorem yw:jT Tryz.prog 26 2=true:=by kernel_rfl
theorem qeM:jT Tryz.prog 48 1=true:=by kernel_rfl
def qlZ (e l:Int):List PanicEntry:=[{v:=.iface 212 (.agg #[.int .i64 e,.int .i64 l]),recovered:=false}]
def qJv {v0 b a:Value} {w:World}:CallsDIn Fence.wide 0 Tryz.prog 200 #[v0,b,a] .returning w fun e c w'=>(∃v,e=.returned v)/\c=.returning/\w'=w:=by
 refine qqi fun ρ n h o=>?_;simp [qfS,xC,xN];refine qwu xb (by simp) ?_;simp
def qJw {w:World} {L C F:Nat} {x y:Value} {f:Array Value} {er ln:Int} (S:Blk w L #[x] 48) (hC:Blk w C #[y] 51) (hF:Blk w F f 26) (hf:f.size=2) (h1:L≠C) (h2:L≠F) (h3:C≠F):
  CallsDIn Fence.wide 0 Tryz.prog 200 #[.pointer (some ⟨L,0,none⟩),.pointer (some ⟨C,0,none⟩),.pointer (some ⟨F,0,none⟩)] (.panicking (qlZ er ln)) w fun e u' w'=>(∃v,e=.returned v)/\settle u'=.returning/\
   (∃W,qc w W/\∃W2,Only L W W2/\∃W3,Only C W2 W3/\Only F W3 w')/\Blk w' L #[.slice none 0 0] 48/\Blk w' C #[.slice none 0 0] 51/\Blk w' F #[.int .i64 er,.int .i64 ln] 26:=by
 obtain ⟨ds,hu,hd⟩:=qyw;refine qqi fun ρ r0 r1 r2=>?_;simp [qfS,xC,xN,qlZ];refine qwt (u:=212) (v:=.agg #[.int .i64 er,.int .i64 ln]) xb (by simp) ?_;simp;refine qww (a:=212) (v:=.agg #[.int .i64 er,.int .i64 ln]) hu hd (by simp) ?_;simp;refine qX z84 fun B W hB R hb _=>?_;simp;refine jx (B:=B) (by simp) hb (by simp [Value.cells]) (by simp [Value.cells]) (by simpa [Value.cells] using qze) fun W1 n E=>?_;simp [Value.cells] at E;have U:=n.blk (S.ext R) (by have:=S.lt;omega);have Z:=n.blk (hC.ext R) (by have:=hC.lt;omega);have V:=n.blk (hF.ext R) (by have:=hF.lt;omega);simp;refine vZ qEf (fun W=>Blk W B #[.int .i64 er,.int .i64 ln] 212) fun W2 c _=>?_;have t:=E.ext c;refine ⟨t, ?_⟩;have Y:∀w',Blk w' B #[.int .i64 er,.int .i64 ln] 212->∀i,w'.cell? ⟨B,i,none⟩=#[Value.int .i64 er,.int .i64 ln][i]? :=fun w' h=>h.cell;simp+contextual -implicitDefEqProofs [qqh,t.cell,Y];refine qW (B:=L) (i:=0) (by simp [r0]) (U.ext c) (by simp) rfl rfl qeM fun W3 b H=>?_;refine ⟨b.blk t (by have:=S.lt;omega), ?_⟩;simp;have aa:=b.blk (Z.ext c) (Ne.symm h1);refine qW (B:=C) (i:=0) (by simp [r1]) aa (by simp) rfl rfl qeN fun W4 o J=>?_;refine ⟨o.blk (b.blk t (by have:=S.lt;omega)) (by have:=hC.lt;omega), ?_⟩;simp;have ab:=o.blk (b.blk (V.ext c) (Ne.symm h2)) (Ne.symm h3);refine jx (B:=F) (by simp [r2]) ab (by simp [Value.cells,hf]) (by simp [Value.cells]) (by rw [hf];exact yw) fun W5 z I=>?_;simp [Value.cells] at H J I⊢;refine ⟨by rfl,⟨W2,(n.ext R hB).trans' c,W3,b,W4,o,z⟩,z.blk (o.blk H h1) h2,z.blk J h3,I⟩
def qF (ts:List Tok):List Value:=ts.flatMap fun t=>[.int .u8 (t.kind:Int),.string (qb t.text),.int .i64 t.line]
@[simp] theorem qK5:qF []=[]:=rfl
def qm0 (a:List Tok) (t:Tok):qF (a++[t])=qF a++[.int .u8 (t.kind:Int),.string (qb t.text),.int .i64 t.line]:=by simp [qF]
theorem jA (a:List Tok):(qF a).length=a.length*3:=by
 induction a with
 |nil=>rfl
 |cons t a b=>
  have:qF (t::a)=[.int .u8 (t.kind:Int),.string (qb t.text),.int .i64 t.line]++qF a:=rfl;rw [this,kh,b];simp;omega
def Own.same {base e sz:Nat} {w w':World} {v:Value} {xs:List Value} (h:Own base e sz w v xs) (b:∀k,v.ownBlock=some k->w'.heap[k]? =w.heap[k]?):Own base e sz w' v xs:=by
 rcases h with h|⟨g,off,n,cap,cur,rfl,a,c,r⟩
 ·exact .inl h
 ·exact .inr ⟨g,off,n,cap,cur,rfl,a,(b g rfl).trans c,r⟩
structure SJ (w:World) (B L C F l Db:Nat) (rec:Loop) (ts:List Tok) (cv:Value) (lv:Value) (W:World):Prop where
 ext:qc w W
 lp:LoopB W l Db rec
 bl:Blk W L #[lv] 48
 bc:Blk W C #[.slice none 0 0] 51
 bf:Blk W F #[.int .i64 0,.int .i64 0] 26
 own:Own w.heap.size 53 3 W lv (qF ts)
 ne:∀X∈[B,L,C,F,l,Db],lv.ownBlock≠some X
 nc:∀X∈[L,C,F,l,Db],cv.ownBlock≠some X/\X≠B
 nn:∀k,lv.ownBlock=some k->cv.ownBlock≠some k
def SJ.turn {w:World} {B L C F l Db:Nat} {rec:Loop} {y:List Tok} {cv o v:Value} {W W':World} (h:SJ w B L C F l Db rec y cv v W) (b:Tn B cv o W W') (U:w.heap.size<=B) (I:∀k,cv.ownBlock=some k->w.heap.size<=k):SJ w B L C F l Db rec y o v W':=by
 have n:=h.lp.lt;have keep:∀X∈[L,C,F,l,Db],X<W.heap.size->W'.heap[X]? =W.heap[X]? :=fun X c z=>b.block X z (h.nc X c).2 (h.nc X c).1;have H:=h.bl.lt;have J:=h.bc.lt;have E:=h.bf.lt;refine ⟨⟨b.os.trans h.ext.os,b.tape.trans h.ext.tape,b.output.trans h.ext.output,Nat.le_trans h.ext.size b.size,fun k a=>(b.block k (Jy a h.ext.size) (by omega) fun e=>by have:=I k e;omega).trans (h.ext.block k a)⟩,
  h.lp.keep (keep l (by simp) n.1) (keep Db (by simp) n.2),⟨(keep L (by simp) H).trans h.bl.heap⟩,⟨(keep C (by simp) J).trans h.bc.heap⟩,⟨(keep F (by simp) E).trans h.bf.heap⟩, ?_,h.ne, ?_, ?_⟩
 ·refine Own.same h.own fun k a=>?_;have u:=(h.own.blk k a).2;exact b.block k u (fun e=>h.ne B (by simp) (by rw [a,e])) (h.nn k a)
 ·intro X c;refine ⟨?_,(h.nc X c).2⟩;rcases b.own with e|e
  ·rw [e];exact (h.nc X c).1
  ·intro t;have:=e X t;simp only [wh,uI,wm] at c;rcases c with rfl|rfl|rfl|rfl|rfl<;>omega
 ·intro k a;rcases b.own with e|e
  ·rw [e];exact h.nn k a
  ·intro t;have S:=e k t;have R:=(h.own.blk k a).2;omega
def SJ.round {w:World} {B L C F l Db:Nat} {rec a:Loop} {o:List Tok} {cv n:Value} {W W':World} (h:SJ w B L C F l Db rec o cv n W) (b:Only l W W') (t:w.heap.size<=l) (c:L≠l/\C≠l/\F≠l) (u:LoopB W' l Db a):SJ w B L C F l Db a o cv n W':=
 ⟨b.ext h.ext t,u,b.blk h.bl c.1,b.blk h.bc c.2.1,b.blk h.bf c.2.2,Own.same h.own fun k v=>b.block k (fun e=>h.ne l (by simp) (by rw [v,e])),h.ne,h.nc,h.nn⟩
def SJ.app {w:World} {B L C F l Db:Nat} {rec:Loop} {ts t:List Tok} {cv z a:Value} {W W1 W':World} (h:SJ w B L C F l Db rec ts cv z W) (S:W.grownBy W1 z.ownBlock) (ho:Own w.heap.size 53 3 W1 a (qF t)) (R:a.ownBlock=z.ownBlock\/a.ownBlock=some W.heap.size)
  (I:Only L W1 W') (Z:Blk W' L #[a] 48) (v:C≠L/\F≠L/\l≠L/\Db≠L) (hB:B<W.heap.size) (hc:∀k,cv.ownBlock=some k->k<W.heap.size) (H:w.heap.size<=L):SJ w B L C F l Db rec t cv a W':=by
 have b:=h.lp.lt;have Y:=h.bl.lt;have U:=h.bc.lt;have J:=h.bf.lt;have keep:∀X∈[C,F,l,Db],X<W.heap.size->X≠L->W'.heap[X]? =W.heap[X]? :=by
  intro X c V y;rw [I.block X y];refine S.block X V fun e=>h.ne X ?_ e.symm;simp only [wh,uI,wm] at c⊢;rcases c with rfl|rfl|rfl|rfl<;>simp
 have u:∀X∈[B,L,C,F,l,Db],X<W.heap.size:=by
  intro X c;simp only [wh,uI,wm] at c;rcases c with rfl|rfl|rfl|rfl|rfl|rfl
  ·exact hB
  ·exact Y
  ·exact U
  ·exact J
  ·exact b.1
  ·exact b.2
 have n:∀X∈[B,L,C,F,l,Db],a.ownBlock≠some X:=by
  intro X c;rcases R with e|e
  ·rw [e];exact h.ne X c
  ·rw [e];intro E;cases E;have:=u _ c;omega
 refine ⟨?_,h.lp.keep (keep l (by simp) b.1 v.2.2.1) (keep Db (by simp) b.2 v.2.2.2),Z,⟨(keep C (by simp) U v.1).trans h.bc.heap⟩,⟨(keep F (by simp) J v.2.1).trans h.bf.heap⟩, ?_,n,h.nc, ?_⟩
 ·exact I.ext (h.ext.grown S h.ext.size fun k o=>(h.own.blk k o).1) H
 ·exact Own.same ho fun k o=>I.block k fun e=>n L (by simp) (by rw [o,e])
 ·intro k o;rcases R with e|e
  ·exact h.nn k (e▸o)
  ·rw [e] at o;cases o;intro E;have:=hc _ E;omega
def Sc.gb {base B:Nat} {W W':World} {s:Bs} {k:Nat} {line:Int} {coms:List Bs} {cv:Value} {row:Option Nat} (h:Sc base B W s k line coms cv) (a:W.grownBy W' row) (b:row≠some B) (c:cv.ownBlock=none\/cv.ownBlock≠row):Sc base B W' s k line coms cv:=
 ⟨⟨(a.block B h.blk.lt (fun e=>b e.symm)).trans h.blk.heap⟩,h.own.kept a c,h.ne,h.bB,Nat.le_trans h.bW a.size,h.kl,h.sl,h.l0,h.l1,h.cl⟩
def qor:∃b,ye Tryz.prog 48=some (53,3,b)/\b<=64:=by
 have h:(match ye Tryz.prog 48 with|some (e,s,b)=>decide (e=53)&&decide (s=3)&&decide (b<=64)|none=>false)=true:=by kernel_rfl
 split at h
 ·rename_i e s b c;simp only [j0,kr] at h;obtain ⟨⟨rfl,rfl⟩,a⟩:=h;exact ⟨b,c,a⟩
 ·cases h
theorem qnK:wI Tryz.prog 48=some (53,3):=by kernel_rfl
theorem qxb:Tryz.prog.built 26 [(0,.int .i64 2)]=some #[.int .i64 2,.int .i64 0]:=by kernel_rfl
theorem qgZ:Tryz.prog.built 26 []=some #[.int .i64 0,.int .i64 0]:=by kernel_rfl
theorem qJ8 (s:Bs):Tryz.prog.built 215 [(0,.string (qb s)),(2,.int .i64 1)]=some #[.string (qb s),.int .i64 0,.int .i64 1]:=by kernel_rfl
theorem qJ7 (s:Bs):Tryz.prog.built 217 [(0,.agg #[.string (qb s),.int .i64 0,.int .i64 1])]=some #[.string (qb s),.int .i64 0,.int .i64 1,.slice none 0 0]:=by kernel_rfl
theorem z28:zR Tryz.prog 48=some #[.slice none 0 0]:=by kernel_rfl
theorem z25:zR Tryz.prog 51=some #[.slice none 0 0]:=by kernel_rfl
theorem z31:zR Tryz.prog 26=some #[.int .i64 0,.int .i64 0]:=by kernel_rfl
@[simp] theorem qwW:qh Tryz.prog 200=true:=by kernel_rfl
@[simp] theorem qOs:qh Tryz.prog 201=true:=by kernel_rfl
def qbH (w:World) (src:Bs):Ending->World->Prop:=fun e w'=>∃v c,e=.returned (.tuple #[v,c,.agg #[.int .i64 (qp src).err,.int .i64 (qp src).at]])/\
 Own w.heap.size 53 3 w' v (qF (qp src).toks)/\Own w.heap.size 9 1 w' c ((qp src).coms.map qi)/\qc w w'
def qiH {t u z A B C:Nat} {x y:Value} {cs:Array Value} {T U V:TypeId} {R:Ending->World->Prop} {ρ:qa} {w:World} (o:ρ t=.pointer (some ⟨A,0,none⟩)) (n:Blk w A #[x] T) (H:ρ u=.pointer (some ⟨B,0,none⟩)) (v:Blk w B #[y] U)
  (F:ρ z=.pointer (some ⟨C,0,none⟩)) (c:Blk w C cs V) (a:cs.size=2) (h:R (.returned (.tuple #[x,y,.agg cs])) w):qB [.cell1 t,.cell1 u,.cellN z 2] R ρ w:=by
 have E:w.cell? ⟨A,0,none⟩=some x:=by rw [n.cell];rfl
 have b:w.cell? ⟨B,0,none⟩=some y:=by rw [v.cell];rfl
 have e:jd w (.loadN 2) (.pointer (some ⟨C,0,none⟩))=some (.agg cs):=by rw [qdv,<-a,yD c];rfl
 simp only [qB,vY,RV.val,o,H,F,qBL,E,b,e,Option.map_some,Option.bind_some];exact h
def vu {P:Program} {rs:List RV} {R:Ending->World->Prop} {ρ:qa} {w:World} {f:FuncId} {caps:Array Value} {u:FrameMode} (o:u≠ .run) (a:qh P f=true)
  (h:CallsDIn Fence.wide 0 P f caps u w fun
   | .returned _,e,w'=>vB P rs R ρ [] (settle e) w'
   | .panicked b,e,w'=>vB P rs R ρ [] (raised e b) w'
   | .outgrown,_,w'=>R .outgrown w'):vB P rs R ρ [.func (.func f) #[] caps] u w:=by
 refine ⟨o,f,caps, ?_,h⟩;unfold qh at a;split at a
 ·rename_i fn t;simp only [j0,uE,J4,ne_eq] at a;cases n:fn.body with
  |none=>simp [n] at a
  |some c=>simp [invoke,callFunc,t,a.1,n]
 ·cases a
def qzQ {R:Ending->World->Prop} {l:List Nat} (b:∀d∈l,d≠gS/\d≠2/\d≠3/\d≠4):∀d∈l,∀ρ v c w,(xj Tryz.prog [.cell1 2,.cell1 3,.cellN 4 2] R).pn (qw ρ d v) c w->(xj Tryz.prog [.cell1 2,.cell1 3,.cellN 4 2] R).pn ρ c w:=by
 intro d o ρ v c w h;obtain ⟨e,n,a,t⟩:=b d o;refine qwo e (fun w=>?_) h;simp [vY,RV.val,Ne.symm n,Ne.symm a,Ne.symm t]
def qyZ {w:World} (hG:G w) (src:Bs) (hs:src.length<4611686018427387904):Calls Tryz.prog 115 #[.string (qb src)] w (qbH w src):=by
 refine qIs fun ρ r0 rg=>?_;have rg':ρ 1000000000=.tuple #[]:=rg;simp [qk2,r0];refine qX z28 fun L W1 hL hE1 hbL hs1=>?_;simp;refine qX z25 fun C W2 hC hE2 hbC hs2=>?_;simp;refine qX z31 fun F W3 hF hE3 hbF hs3=>?_;have hE13:=(hE1.trans' hE2).trans' hE3;have hbL3:=(hbL.ext hE2).ext hE3;have hbC3:=hbC.ext hE3;have z1:=hE1.size;have z2:=hE2.size;have z3:=hE3.size;by_cases hlen:20000<src.length
 ·have hlI:(20000:Int)<src.length:=by omega
  have Z:qp src=.bad 2 0:=by rw [qp,if_pos hlen]
  simp [hlI,qxb,r0];refine qW (B:=L) (i:=0) (by simp) hbL3 (by simp) rfl rfl qeM fun W4 hO4 hb4=>?_;simp;refine qW (B:=C) (i:=0) (by simp) (hO4.blk hbC3 (by omega)) (by simp) rfl rfl qeN fun W5 hO5 hb5=>?_;simp;refine jx (B:=F) (by simp) (hO5.blk (hO4.blk hbF (by omega)) (by omega)) (by simp [Value.cells]) (by simp [Value.cells]) (by simpa [Value.cells] using yw) fun W6 hO6 hb6=>?_;simp [Value.cells] at hb4 hb5 hb6⊢;refine qI2 (by simp [gS,rg']) ?_;refine qiH (by simp) (hO6.blk (hO5.blk hb4 (by omega)) (by omega)) (by simp) (hO6.blk hb5 (by omega)) (by simp) hb6 rfl ?_;refine ⟨_,_,by rw [Z];rfl,by rw [Z];exact Own.nil _ _ _ _,by rw [Z];exact Own.nil _ _ _ _, ?_⟩;exact hO6.ext (hO5.ext (hO4.ext hE13 hL) (by omega)) (by omega)
 ·have hlI:¬(20000:Int)<src.length:=by omega
  have Z:qp src=qK src 1:=by rw [qp,if_neg hlen]
  simp [hlI,r0,qvQ];refine qgL (f:=200) (caps:=#[.pointer (some ⟨L,0,none⟩),.pointer (some ⟨C,0,none⟩),.pointer (some ⟨F,0,none⟩)]) (by simp) trivial ?_;simp [gS,rg',r0,qJ8,qJ7];refine vO fun B W4 hB hE4 hbB hs4=>?_;simp [Value.cells] at hbB⊢;have E:=hE13.trans' hE4;have hbL4:=hbL3.ext hE4;have hbC4:=hbC3.ext hE4;have hbF4:=hbF.ext hE4;have hS4:Sc w.heap.size B W4 src 0 1 [] (.slice none 0 0):=⟨by simpa using hbB,Own.nil _ _ _ _,by simp [Value.ownBlock],by omega,E.size,uz _,by omega,by omega,by omega,by simp⟩;obtain ⟨Q,hQ⟩:∃Q,Q=xj Tryz.prog [.cell1 2,.cell1 3,.cellN 4 2] (qbH w src):=⟨_,rfl⟩;have hQrt:Q.rt=vz Tryz.prog [.cell1 2,.cell1 3,.cellN 4 2] (qbH w src) .returning:=by rw [hQ];rfl
  have hQpn:∀ρ c w',Q.pn ρ c w'=vz Tryz.prog [.cell1 2,.cell1 3,.cellN 4 2] (qbH w src) (.panicking c) ρ w':=by rw [hQ];intros;rfl
  have key:∀n:qa,n 2=.pointer (some ⟨L,0,none⟩)->n 3=.pointer (some ⟨C,0,none⟩)->n 4=.pointer (some ⟨F,0,none⟩)->n 5=.pointer (some ⟨B,0,none⟩)->n 17=.func (.func 201) #[.pointer (some ⟨B,0,none⟩)] #[]->
    n gS=.tuple #[.func (.func 200) #[] #[.pointer (some ⟨L,0,none⟩),.pointer (some ⟨C,0,none⟩),.pointer (some ⟨F,0,none⟩)]]->
    (IR.raw qd1).wp ⟨Tryz.prog,29,Q6,y6⟩ (qgz.wp ⟨Tryz.prog,29,Q6,y6⟩ (vz Tryz.prog [.cell1 2,.cell1 3,.cellN 4 2] (qbH w src) .returning) Q) (Q.blk 0 (qgz.wp ⟨Tryz.prog,29,Q6,y6⟩ (vz Tryz.prog [.cell1 2,.cell1 3,.cellN 4 2] (qbH w src) .returning) Q)) n W4:=by
   intro n e2 e3 e4 e5 e17 eg;obtain ⟨bA,bB,hrf,hpA,hpB⟩:=qIp;rw [hrf];refine qBf (gf:=201) (fs:=#[.pointer (some ⟨B,0,none⟩)]) (lb:=#[]) (by simp [y6]) (by simpa using e17) (by decide) (by simp) fun a rec W5 hag hrt hrp hra hrb hrs hrpd hE5 hsz5 hL5=>?_;have hJ0:SJ w B L C F (W4.heap.size+1) W4.heap.size rec [] (.slice none 0 0) (.slice none 0 0) W5:=
    ⟨E.trans' hE5,hL5,hbL4.ext hE5,hbC4.ext hE5,hbF4.ext hE5,Own.nil _ _ _ _,by simp [Value.ownBlock],by simp [Value.ownBlock];omega,by simp [Value.ownBlock]⟩
   simp only [List.append_toArray,List.cons_append,List.nil_append,Array.append_empty];refine (qEi (base:=w.heap.size) (B:=B) (l:=W4.heap.size+1) (s:=src) (cv0:=.slice none 0 0) (fun ts cv W=>(∃u,SJ w B L C F (W4.heap.size+1) W4.heap.size rec ts cv u W)/\∀k,cv.ownBlock=some k->w.heap.size<=k) (fun ts cv W h=>?_) (fun ts cv cv' W W' h hT=>?_) (fun ts cv t W k line coms hJ hS hlen'=>?_) ⟨⟨_,hJ0⟩,by simp [Value.ownBlock]⟩ (hS4.ext hE5)).mono ?_
   ·obtain ⟨⟨u,h⟩,_⟩:=h;exact hG.ext h.ext
   ·obtain ⟨⟨u,h⟩,hc⟩:=h;refine ⟨⟨u,h.turn hT (by omega) hc⟩,fun k z=>?_⟩;rcases hT.own with e|e
    ·exact hc k (e▸z)
    ·have:=e k z;have:=h.ext.size;omega
   ·obtain ⟨⟨u,h⟩,hc⟩:=hJ;refine qx3 h.lp hrs hag hrt hrp (by rfl) (by decide) (by rw [hra];exact hpA) (by rw [hrb];exact hpB) ?_;simp [qfo,qvT];refine qX z38 fun Bt W6 hBt hE6 hbt _=>?_;simp;refine jx (B:=Bt) (by simp) hbt (by simp [Value.cells,qcz]) (by simp [Value.cells,qcz]) (by simpa [Value.cells] using qhZ) fun W7 hO7 hb7=>?_;simp [Value.cells,qcz] at hb7;have off:=hS.off hBt;have hS7:=(hS.ext hE6).only hO7 off.1 off.2;have h7:SJ w B L C F (W4.heap.size+1) W4.heap.size rec ts cv u W7:=h.turn ((Tn.ext hE6).new hO7 hBt) (by omega) hc;simp;refine ⟨h7.lp,fun W8 hO8 hL8=>?_⟩;have h4s:=h7.nc (W4.heap.size+1) (by simp);have y:SJ w B L C F (W4.heap.size+1) W4.heap.size _ ts cv u W8:=h7.round hO8 (by have:=E.size;omega) ⟨by omega,by omega,by omega⟩ hL8;have J:=hS7.only hO8 h4s.2 h4s.1;have hltl:=h7.lp.lt;have hb8:=hO8.blk hb7 (by have:=h.lp.lt;omega);simp [qvS,e2,y.bl.cell,hb8.cell];refine jV qnK (by decide) (by decide) (by simp [Value.cells]) fun B9 W9 hB9 hE9 hb9 _=>?_;simp [Value.cells] at hb9;have h9:=y.turn (Tn.ext hE9) (by omega) hc;have hS9:=J.ext hE9;have o:Own w.heap.size 53 3 W9 (.slice (some ⟨B9,0,none⟩) 1 1) [.int .u8 (t.kind:Int),.string (qb t.text),.int .i64 t.line]:=Own.lit hb9 rfl (by have:=y.ext.size;omega) (by decide);obtain ⟨V,ri,hbb⟩:=qor;simp;refine qgM ri h9.ext.size (by simp) (by simp) h9.own (jR o) (by simp;exact ⟨rfl,rfl,rfl⟩) (by rw [jA];simp;omega) (by
     rw [jA];have:(ts.length*3+3)*V<=(ts.length*3+3)*64:=Nat.mul_le_mul_left _ hbb;simp;omega) fun lv' W10 ho10 hg10 hf10=>?_
    have hbl10:Blk W10 L #[u] 48:=⟨(hg10.block L h9.bl.lt (fun e=>h9.ne L (by simp) e.symm)).trans h9.bl.heap⟩;have I:=qfr ho10;simp [e2];refine qW (B:=L) (i:=0) (by simp [e2]) hbl10 (by simp) (by simpa using I.1) (by simpa using I.2) qeM fun W11 hO11 hb11=>?_;simp at hb11;have h11:SJ w B L C F (W4.heap.size+1) W4.heap.size _ (ts++[t]) cv lv' W11:=h9.app hg10 (by rw [qm0];exact ho10) hf10 hO11 hb11 ⟨by omega,by omega,by omega,by omega⟩ hS9.blk.lt (fun k z=>(hS9.own.blk k z).2) hL;have hcl:cv.ownBlock=none\/cv.ownBlock≠u.ownBlock:=by
     cases z:cv.ownBlock with
     |none=>exact .inl rfl
     |some k=>exact .inr fun e=>h9.nn k e.symm z
    have hnL:=h9.nc L (by simp);have hS11:=(hS9.gb hg10 (h9.ne B (by simp)) hcl).only hO11 hnL.2 hnL.1;simp [qoj];refine ⟨h11.lp,fun W12 hO12 hL12=>?_⟩;exact ⟨⟨⟨lv',h11.round hO12 (by have:=E.size;omega) ⟨by omega,by omega,by omega⟩ (hL12.ready hrs hrpd)⟩,hc⟩,hS11.only hO12 h4s.2 h4s.1⟩
   ·rintro e W6 (⟨v,ts,coms,cv,line,rfl,hsc',⟨⟨u,h⟩,hc⟩,hS6⟩|⟨er,line,ts,cv,rfl,hsc',⟨⟨u,h⟩,hc⟩⟩)
    ·refine ⟨.ready,none,by simp,h.lp.ready' hrs hrpd,fun W7 hO7 hL7=>?_⟩;have hl4:=h.nc (W4.heap.size+1) (by simp);have h7:=h.round hO7 (by have:=E.size;omega) ⟨by omega,by omega,by omega⟩ hL7;have hS7:=hS6.only hO7 hl4.2 hl4.1;have nB:=(h7.nc L (by simp)).2;have nC:=(h7.nc C (by simp)).2;simp only [qgz,qvR,qhu];refine vZ qIr (fun W=>Blk W L #[u] 48/\Blk W B (yB src src.length line cv) 217) (fun W8 hE8 _=>?_) (by rw [hQ];exact qzQ (by simp [OT.takes,qk0,gS]));have y:=h7.turn (Tn.ext hE8) (by omega) hc;have J:=hS7.ext hE8;refine ⟨⟨y.bl,J.blk⟩, ?_⟩;have cL:∀W,Blk W L #[u] 48->W.cell? ⟨L,0,none⟩=some u:=fun W h=>by rw [h.cell];rfl
     have cB:∀W,Blk W B (yB src src.length line cv) 217->W.cell? ⟨B,3,none⟩=some cv:=fun W h=>by rw [h.cell];rfl
     have I:=qfr y.own;have honc:=qfr J.own;have hLB:=(y.nc L (by simp)).2;have hCB:=(y.nc C (by simp)).2;have fin:∀(b:qa) (Wa Wb Wc:World),b 2=.pointer (some ⟨L,0,none⟩)->b 3=.pointer (some ⟨C,0,none⟩)->b 4=.pointer (some ⟨F,0,none⟩)->
       b gS=.tuple #[.int .i64 W4.heap.size,.func (.func 200) #[] #[.pointer (some ⟨L,0,none⟩),.pointer (some ⟨C,0,none⟩),.pointer (some ⟨F,0,none⟩)]]->
       Only L W8 Wa->Blk Wa L #[u] 48->Only C Wa Wb->Blk Wb C #[cv] 51->Only F Wb Wc->Blk Wc F #[.int .i64 0,.int .i64 0] 26->vz Tryz.prog [.cell1 2,.cell1 3,.cellN 4 2] (qbH w src) .returning b Wc:=by
      intro b Wa Wb Wc f2 f3 f4 fg H S ob V oc bc;have hcol:Wc.heap[W4.heap.size]? =some (.deferred (some [])):=by
       rw [oc.block _ (by omega),ob.block _ (by omega),H.block _ (by omega)];exact y.lp.col
      simp only [vz,fg];refine qpT (by simp) hcol fun W9 o=>?_;refine vu (by simp) qwW (qJv.mono ?_);rintro e u' w' ⟨⟨v,rfl⟩,rfl,rfl⟩;refine qaA (qiH f2 (o.blk (oc.blk (ob.blk S (by omega)) (by omega)) (by omega)) f3 (o.blk (oc.blk V (by omega)) (by omega)) f4 (o.blk bc (by omega)) rfl ?_);have R:∀k,k∈[L,C,F,W4.heap.size]->u.ownBlock≠some k/\cv.ownBlock≠some k:=by
       intro k z;simp only [wh,uI,wm] at z;rcases z with rfl|rfl|rfl|rfl
       ·exact ⟨y.ne _ (by simp),(y.nc _ (by simp)).1⟩
       ·exact ⟨y.ne _ (by simp),(y.nc _ (by simp)).1⟩
       ·exact ⟨y.ne _ (by simp),(y.nc _ (by simp)).1⟩
       ·exact ⟨y.ne _ (by simp),(y.nc _ (by simp)).1⟩
      have same:∀k,k≠L->k≠C->k≠F->k≠W4.heap.size->w'.heap[k]? =W8.heap[k]? :=fun k k1 k2 k3 k4=>by
       rw [o.block k k4,oc.block k k3,ob.block k k2,H.block k k1]
      have U:qp src=.ok ts coms:=Z.trans hsc';refine ⟨u,cv,by rw [U];rfl, ?_, ?_, ?_⟩
      ·rw [U];refine Own.same y.own fun k z=>same k ?_ ?_ ?_ ?_
       ·rintro rfl;exact (R k (by simp)).1 z
       ·rintro rfl;exact (R k (by simp)).1 z
       ·rintro rfl;exact (R k (by simp)).1 z
       ·rintro rfl;exact (R _ (by simp)).1 z
      ·rw [U];refine Own.same J.own fun k z=>same k ?_ ?_ ?_ ?_
       ·rintro rfl;exact (R k (by simp)).2 z
       ·rintro rfl;exact (R k (by simp)).2 z
       ·rintro rfl;exact (R k (by simp)).2 z
       ·rintro rfl;exact (R _ (by simp)).2 z
      ·exact o.ext (oc.ext (ob.ext (H.ext y.ext hL) (by omega)) (by omega)) (by have:=E.size;omega)
     have stL:∀(K:qa->World->Prop) (b:qa),b 2=.pointer (some ⟨L,0,none⟩)->b 23=u->(∀Wa,Only L W8 Wa->Blk Wa L #[u] 48->(Blk Wa L #[u] 48/\Blk Wa B (yB src src.length line cv) 217)->K b Wa)->qx Tryz.prog Q.noRd none (.store 48 (.tmp 2) (.tmp 23)) 0 K b W8:=by
      intro K b f2 f23 z;refine qW (B:=L) (i:=0) (by simpa using f2) y.bl (by simp) (by simp [f23,I.1]) (by simp [f23,I.2]) qeM fun Wa H S=>?_;have ba':Blk Wa L #[u] 48:=by simpa [f23] using S
      exact z Wa H ba' ⟨ba',H.blk J.blk (Ne.symm hLB)⟩
     have stC:∀(K:qa->World->Prop) (b:qa) (Wa:World),Only L W8 Wa->Blk Wa L #[u] 48->b 3=.pointer (some ⟨C,0,none⟩)->b 27=cv->(∀Wb,Only C Wa Wb->Blk Wb C #[cv] 51->(Blk Wb L #[u] 48/\Blk Wb B (yB src src.length line cv) 217)->K b Wb)->qx Tryz.prog Q.noRd none (.store 51 (.tmp 3) (.tmp 27)) 0 K b Wa:=by
      intro K b Wa H S f3 f27 z;refine qW (B:=C) (i:=0) (by simpa using f3) (H.blk y.bc (by omega)) (by simp) (by simp [f27,honc.1]) (by simp [f27,honc.2]) qeN fun Wb ob V=>?_;have bb':Blk Wb C #[cv] 51:=by simpa [f27] using V
      exact z Wb ob bb' ⟨ob.blk S (by omega),ob.blk (H.blk J.blk (Ne.symm hLB)) (Ne.symm hCB)⟩
     have stF:∀(b:qa) (Wa Wb:World),Only L W8 Wa->Blk Wa L #[u] 48->Only C Wa Wb->Blk Wb C #[cv] 51->b 2=.pointer (some ⟨L,0,none⟩)->b 3=.pointer (some ⟨C,0,none⟩)->b 4=.pointer (some ⟨F,0,none⟩)->b 28=.agg #[.int .i64 0,.int .i64 0]->
       b gS=.tuple #[.int .i64 W4.heap.size,.func (.func 200) #[] #[.pointer (some ⟨L,0,none⟩),.pointer (some ⟨C,0,none⟩),.pointer (some ⟨F,0,none⟩)]]->qx Tryz.prog Q.noRd none (.store 26 (.tmp 4) (.tmp 28)) 0 (fun ρ' w'=>Q.rt ρ' w') b Wb:=by
      intro b Wa Wb H S ob V f2 f3 f4 f28 fg;refine jx (B:=F) (by simpa using f4) (ob.blk (H.blk y.bf (by omega)) (by omega)) (by simp [f28,Value.cells]) (by simp [f28,Value.cells]) (by simpa [Value.cells] using yw) fun Wc oc bc=>?_;simp [f28,Value.cells] at bc;simp [hQrt];exact fin _ Wa Wb Wc f2 f3 f4 fg H S ob V oc bc
     have eg':(y7 (qax W4.heap.size) (n gS))=.tuple #[.int .i64 W4.heap.size,.func (.func 200) #[] #[.pointer (some ⟨L,0,none⟩),.pointer (some ⟨C,0,none⟩),.pointer (some ⟨F,0,none⟩)]]:=by rw [eg];simp
     simp -implicitDefEqProofs+contextual [qk0,e2,e5,cL,cB,y.bl,J.blk];refine ⟨?_, ?_⟩
     ·rw [qgZ];dsimp only [vt];refine stL _ _ (by simp [e2]) (by simp) fun Wa H S hSa=>⟨hSa, ?_⟩;refine stC _ _ Wa H S (by simp [e3]) (by simp) fun Wb ob V Y=>⟨Y, ?_⟩;exact stF _ Wa Wb H S ob V (by simp [e2]) (by simp [e3]) (by simp [e4]) (by simp) (by simp [eg'])
     ·refine stL _ _ (by simp [e2]) (by simp) fun Wa H S hSa=>⟨hSa, ?_, ?_⟩
      ·rw [qgZ];dsimp only [vt];refine ⟨hSa, ?_⟩;refine stC _ _ Wa H S (by simp [e3]) (by simp) fun Wb ob V Y=>⟨Y, ?_⟩;exact stF _ Wa Wb H S ob V (by simp [e2]) (by simp [e3]) (by simp [e4]) (by simp) (by simp [eg'])
      ·refine stC _ _ Wa H S (by simp [e3]) (by simp) fun Wb ob V Y=>⟨Y, ?_⟩;rw [qgZ];exact ⟨Y,stF _ Wa Wb H S ob V (by simp [e2]) (by simp [e3]) (by simp [e4]) (by simp) (by simp [eg'])⟩
    ·show Q.pn _ (qlZ er line) _;have eg':(y7 (qax W4.heap.size) (n gS))=.tuple #[.int .i64 W4.heap.size,.func (.func 200) #[] #[.pointer (some ⟨L,0,none⟩),.pointer (some ⟨C,0,none⟩),.pointer (some ⟨F,0,none⟩)]]:=by rw [eg];simp
     have hgs:qw n gS (y7 (qax W4.heap.size) (n gS)) gS=.tuple #[.int .i64 W4.heap.size,.func (.func 200) #[] #[.pointer (some ⟨L,0,none⟩),.pointer (some ⟨C,0,none⟩),.pointer (some ⟨F,0,none⟩)]]:=by simp [eg']
     rw [hQpn];simp only [vz,hgs];have hlt:=h.lp.lt;refine qpT (by simp) h.lp.col fun W9 o=>?_;refine vu (by simp) qwW ((qJw (o.blk h.bl (by omega)) (o.blk h.bc (by omega)) (o.blk h.bf (by omega)) rfl (by omega) (by omega) (by omega)).mono ?_);rintro e u' w' ⟨⟨v,rfl⟩,hu,⟨Wx,ex,Wy,oy,Wz,oz,ow⟩,cl,cc,cf⟩;show vB _ _ _ _ [] (settle u') w';rw [hu];refine qaA (qiH (by simp [e2]) cl (by simp [e3]) cc (by simp [e4]) cf rfl ?_);have U:qp src=.bad er line:=Z.trans hsc';refine ⟨_,_,by rw [U];rfl,by rw [U];exact Own.nil _ _ _ _,by rw [U];exact Own.nil _ _ _ _, ?_⟩;have h9:qc w W9:=o.ext h.ext (by have:=E.size;omega);exact ow.ext (oz.ext (oy.ext (h9.trans' ex) hL) (by omega)) (by omega)
  rw [hQ] at key;exact key _ (by simp) (by simp) (by simp) (by simp) (by simp) (by simp [gS])
structure SlK (w:World) (v:Value) (ts:List Tok):Prop where
 is:qu v=true
 len:ql v=ts.length
 bd:ts.length<1537228672809129301
 cell:∀(i:Nat) (h:i<ts.length),w.cell? (qQ v (i*3))=some (.int .u8 (ts[i].kind:Int))/\w.cell? (qQ v (i*3+1))=some (.string (qb ts[i].text))/\w.cell? (qQ v (i*3+2))=some (.int .i64 ts[i].line)
def SlK.ext {w w':World} {v:Value} {n:List Tok} (h:SlK w v n) (e:qc w w'):SlK w' v n:=
 ⟨h.is,h.len,h.bd,fun i o=>let ⟨a,b,c⟩:=h.cell i o;⟨e.cell a,e.cell b,e.cell c⟩⟩
def jX:∀(a:List Tok) (i:Nat) (h:i<a.length),(qF a)[i*3]? =some (.int .u8 (a[i].kind:Int))/\(qF a)[i*3+1]? =some (.string (qb a[i].text))/\(qF a)[i*3+2]? =some (.int .i64 a[i].line)
 |t::a,0,_=>by simp [qF]
 |t::a,i+1,h=>by
  have:=jX a i (by simpa using h);have e:∀j,(qF (t::a))[(i+1)*3+j]? =(qF a)[i*3+j]? :=fun j=>by
   rw [show (i+1)*3+j=(i*3+j)+3 by omega];simp [qF]
  have b:=e 0;simp only [Nat.add_zero] at b;rw [b,e 1,e 2];simpa using this
def SlK.own {base:Nat} {w:World} {v:Value} {a:List Tok} (h:Own base 53 3 w v (qF a)) (n:a.length<1537228672809129301):SlK w v a:=by
 have b:=jR h;have e:=b.len;rw [jA] at e;refine ⟨b.is,by omega,n,fun i t=>?_⟩;obtain ⟨z,y,o⟩:=jX a i t;have c:(qF a).length=a.length*3:=jA a;have g:∀j x,j<a.length*3->(qF a)[j]? =some x->w.cell? (qQ v j)=some x:=fun j x C u=>by
  rw [b.cell j (by omega),<-ug,u]
 exact ⟨g _ _ (by omega) z,g _ _ (by omega) y,g _ _ (by omega) o⟩
def SlK.nil (w:World):SlK w (.slice none 0 0) []:=⟨rfl,rfl,by simp,fun i h=>by simp at h⟩
def qyM (s:Bs) (l:Int):(qK s l).toks.length<=s.length/\(qK s l).coms.length<=s.length:=by
 refine qnS (P:=fun s l=>(qK s l).toks.length<=s.length/\(qK s l).coms.length<=s.length) ?_ ?_ ?_ ?_ ?_ ?_ s l
 ·intro l;simp [qdh,Res.toks,Res.coms]
 ·intro r l h;rw [qb4];simp;omega
 ·intro c r l v h;rw [qb3 r l v];simp;omega
 ·intro a r l o b h;rw [qnU l o b];cases n:qK r l with
  |bad e x=>simp [Res.add,Res.toks,Res.coms]
  |ok E cs=>
   rw [n] at h;simp [Res.add,Res.toks,Res.coms] at h⊢;omega
 ·intro c r l z t u C h;rw [qnT l z t u C h];simp [Res.toks,Res.coms]
 ·intro k s r l b y h;rw [qdg (zC b).1 y (qam b)];have F:0<s.length:=Jn.2 (zC b).1;cases n:qK r l with
  |bad e x=>simp [Res.add,Res.toks,Res.coms]
  |ok E cs=>
   rw [n] at h;simp [Res.add,Res.toks,Res.coms] at h⊢;omega
def qih (s:Bs):(qp s).toks.length<=20000/\(qp s).coms.length<=20000:=by
 unfold qp;split
 ·simp [Res.toks,Res.coms]
 ·have:=qyM s 1;omega
@[simp] theorem qOP:qh Tryz.prog 115=true:=by kernel_rfl
@[simp] theorem qNN:qh Tryz.prog 87=true:=by kernel_rfl
@[simp] theorem qOw:qh Tryz.prog 175=true:=by kernel_rfl
@[simp] theorem qOv:qh Tryz.prog 176=true:=by kernel_rfl
def vc {b a e sz:Nat} {w:World} {v:Value} {xs:List Value} (o:b<=a) (h:Own a e sz w v xs):Own b e sz w v xs:=by
 rcases h with h|⟨g,off,n,cap,cur,rfl,c,r⟩
 ·exact .inl h
 ·exact .inr ⟨g,off,n,cap,cur,rfl,by omega,r⟩
def fV (src:Bs):Value:=.agg #[.int .i64 (qp src).err,.int .i64 (qp src).at]
def qbG (w:World) (src:Bs):Ending->World->Prop:=fun e w'=>∃v,e=.returned (.tuple #[v,fV src])/\Own w.heap.size 53 3 w' v (qF (qp src).toks)/\qc w w'
def jZ {t z C:Nat} {x:Value} {cs:Array Value} {V:TypeId} {R:Ending->World->Prop} {ρ:qa} {w:World} (c:ρ t=x) (e:ρ z=.pointer (some ⟨C,0,none⟩)) (n:Blk w C cs V) (b:cs.size=2) (h:R (.returned (.tuple #[x,.agg cs])) w):qB [.tmp t,.cellN z 2] R ρ w:=by
 have a:jd w (.loadN 2) (.pointer (some ⟨C,0,none⟩))=some (.agg cs):=by rw [qdv,<-b,yD n];rfl
 simp only [qB,vY,RV.val,c,e,a,Option.map_some,Option.bind_some];exact h
def qhT {w:World} (V:G w) (src:Bs) (S:src.length<4611686018427387904):Calls Tryz.prog 53 #[.string (qb src)] w (qbG w src):=by
 refine qFd fun ρ r0=>?_;simp [qrO,r0];refine qX z31 fun B W hB C F _=>?_;simp [r0];refine (qyZ (V.ext C) src S).mono ?_;rintro _ W1 ⟨v,c,rfl,J,_,n⟩;simp;refine qX z31 fun B2 W2 R y I _=>?_;simp;refine jx (B:=B2) (by simp) I (by simp [Value.cells]) (by simp [Value.cells]) (by simpa [Value.cells] using yw) fun W3 u o=>?_;simp [Value.cells] at o⊢;have E:=u.blk ((F.ext n).ext y) (by have:=F.lt;have:=n.size;omega);refine vZ qFc (fun W=>Blk W B2 #[.int .i64 (qp src).err,.int .i64 (qp src).at] 26) fun W4 a _=>⟨o.ext a, ?_⟩;have U:∀W,Blk W B2 #[.int .i64 (qp src).err,.int .i64 (qp src).at] 26->∀i,W.cell? ⟨B2,i,none⟩=#[Value.int .i64 (qp src).err,.int .i64 (qp src).at][i]? :=fun W h=>h.cell;simp+contextual -implicitDefEqProofs [qrK,U,o.ext a];refine jx (B:=B) (by simp) (E.ext a) (by simp [Value.cells]) (by simp [Value.cells]) (by simpa [Value.cells] using yw) fun W5 t z=>?_;simp [Value.cells] at z;simp [qrL];refine jZ (x:=v) (by simp) (by simp) z rfl ?_;have H:=C.size;have b:qc W1 W4:=(u.ext y (by omega)).trans' a;have h5:Own w.heap.size 53 3 W5 v (qF (qp src).toks):=by
  refine Own.same (w:=W4) ?_ fun k Y=>t.block k fun e=>?_
  ·have Z:Own W.heap.size 53 3 W4 v (qF (qp src).toks):=J.ext b;exact vc H Z
  ·have:=(J.blk k Y).1;have:=F.lt;omega
 exact ⟨v,rfl,h5,t.ext ((C.trans' n).trans' b) hB⟩
def qgR (s:Bs) (n:Nat):(qb s).extract 0 n=qb (s.take n):=by
 have:=qbB s 0 n;simpa using this
def qBm {w:World} (s:Bs) (U:s≠[]) (hs:s.length<4611686018427387904):Calls Tryz.prog 176 #[.string (qb s)] w fun e w'=>e=.returned (.tuple #[.int .u8 ((first s).1:Int),.int .i64 ((first s).2.1:Int),.int .i64 (first s).2.2])/\qc w w':=by
 have J:0<s.length:=Jn.2 U;have V:s.getD 0 0=s[0]:=by simp [uW,J]
 have hx:s[0]? =some s[0]:=ug J;refine qHc fun ρ r0=>?_;simp [qup,r0,hx];refine (qiK s[0] w).mono ?_;rintro _ w ⟨rfl,rfl⟩;cases S:jI s[0] with
 |true=>
  have a:first s=if jw (s.take (qL s)) then (2,qL s,0) else if 12<qL s then (0,0,12) else (1,qL s,0):=by
   unfold first
   rw [V,if_pos S]
  simp [r0];refine (qoz s hs _).mono ?_;rintro _ w ⟨rfl,rfl⟩;have y:qL s<=s.length:=qaf _ _;simp [r0,y,qgR];refine (qoA _).mono ?_;rintro _ w2 ⟨rfl,F⟩;cases E:jw (s.take (qL s)) with
  |true=>
   rw [E,if_pos rfl] at a;simp [a];exact F
  |false=>
   rw [E,if_neg (by simp)] at a;by_cases H:12<qL s
   ·have n:(12:Int)<(qL s:Int):=by omega
    rw [if_pos H] at a;simp [qkz,n,a];exact F
   ·have n:¬(12:Int)<(qL s:Int):=by omega
    rw [if_neg H] at a;simp [qkz,n,a,qun];exact F
 |false=>
  simp [quj,r0];refine (qiM s[0] w).mono ?_;rintro _ w ⟨rfl,rfl⟩;cases Z:qD s[0] with
  |true=>
   have a:first s=if jm (s.take (jz s)) then (3,jz s,0) else (0,0,11):=by
    unfold first
    rw [V,if_neg (by rw [S];simp),if_pos Z]
   simp [r0];refine (qoB s hs _).mono ?_;rintro _ w ⟨rfl,rfl⟩;have y:jz s<=s.length:=qaf _ _;simp [r0,y,qgR];refine (qBl _ (by simp;omega) _).mono ?_;rintro _ w ⟨rfl,rfl⟩;cases E:jm (s.take (jz s)) with
   |true=>
    rw [E,if_pos rfl] at a;simp [a,qum];exact qO _
   |false=>
    rw [E,if_neg (by simp)] at a;simp [a];exact qO _
  |false=>
   have a:first s=if 1<s.length/\qG (s.take 2)=true then (4,2,0) else if qG (s.take 1) then (4,1,0) else (0,0,10):=by
    unfold first
    rw [V,if_neg (by rw [S];simp),if_neg (by rw [Z];simp)]
   simp [quk];have rest:∀(u:qa) (W:World),u 0=.string (qb s)->qc w W->¬(1<s.length/\qG (s.take 2)=true)->qkx.wp ⟨Tryz.prog,45,qgp,[]⟩ (qB [.tmp 2,.tmp 3,.tmp 4] fun e w'=>e=.returned (.tuple #[.int .u8 ((first s).1:Int),.int .i64 ((first s).2.1:Int),.int .i64 (first s).2.2])/\qc w w') (ji [.tmp 2,.tmp 3,.tmp 4] fun e w'=>e=.returned (.tuple #[.int .u8 ((first s).1:Int),.int .i64 ((first s).2.1:Int),.int .i64 (first s).2.2])/\qc w w') u W:=by
    intro u W r0 F h2;rw [if_neg h2] at a;simp [qkx];refine vZ qHa (qc W) fun W1 b _=>⟨b, ?_⟩;have Y:(1:Int)<=s.length:=by omega
    simp -implicitDefEqProofs [qui,r0,Y,qgR];refine qoy.mono ?_;rintro _ W2 ⟨v,rfl,C⟩;have c:=(F.trans' b).trans' C.2;refine ⟨b.trans' C.2, ?_⟩;simp -implicitDefEqProofs;refine (qiL (s.take 1) (C.sl (by decide))).mono ?_;rintro _ W2 ⟨rfl,rfl⟩;have o:qG (s.take 1)=jf.contains (s.take 1):=rfl;cases t:jf.contains (s.take 1) with
    |true=>
     rw [o,t,if_pos rfl] at a;simp [t,qky,a];exact c
    |false=>
     rw [o,t,if_neg (by simp)] at a;simp [t,qky,qul,a];exact c
   refine vZ qHb (qc w) fun W1 b _=>⟨b, ?_⟩;by_cases R:1<s.length
   ·have z:(1:Int)<s.length:=by omega
    have I:(2:Int)<=s.length:=by omega
    simp -implicitDefEqProofs [qkw,r0,R,z,I,qgR];refine qoy.mono ?_;rintro _ W2 ⟨v,rfl,C⟩;have c:=b.trans' C.2;refine ⟨c, ?_⟩;simp -implicitDefEqProofs;refine (qiL (s.take 2) (C.sl (by decide))).mono ?_;rintro _ W2 ⟨rfl,rfl⟩;have o:qG (s.take 2)=jf.contains (s.take 2):=rfl;cases t:jf.contains (s.take 2) with
    |true=>
     rw [o,t,if_pos ⟨R,rfl⟩] at a;simp [t,qgn,a];exact c
    |false=>
     simp [t,qgn];exact rest _ _ (by simp [r0]) c (by rw [o,t];simp)
   ·have z:¬(1:Int)<s.length:=by omega
    simp -implicitDefEqProofs [qkw,r0,R,z];simp [qgn];refine ⟨b,rest _ _ ?_ b (fun h=>R h.1)⟩;simp [r0]
theorem qKl (k l:Int) (s:Bs):Tryz.prog.built 53 [(0,.int .u8 k),(1,.string (qb s)),(2,.int .i64 l)]=some #[.int .u8 k,.string (qb s),.int .i64 l]:=by kernel_rfl
def qKV (w:World) (src:Bs):Ending->World->Prop:=fun e w'=>∃v c,e=.returned (.tuple #[v,c,fV src])/\Own w.heap.size 53 3 w' v (qF (qp src).toks)/\Own w.heap.size 9 1 w' c ((qp src).coms.map qi)/\qc w w'
def jY {t u z C:Nat} {x y:Value} {cs:Array Value} {V:TypeId} {R:Ending->World->Prop} {ρ:qa} {w:World} (c:ρ t=x) (e:ρ u=y) (n:ρ z=.pointer (some ⟨C,0,none⟩)) (o:Blk w C cs V) (b:cs.size=2) (h:R (.returned (.tuple #[x,y,.agg cs])) w):qB [.tmp t,.tmp u,.cellN z 2] R ρ w:=by
 have a:jd w (.loadN 2) (.pointer (some ⟨C,0,none⟩))=some (.agg cs):=by rw [qdv,<-b,yD o];rfl
 simp only [qB,vY,RV.val,c,e,n,a,Option.map_some,Option.bind_some];exact h
structure RdI (w:World) (src:Bs) (B:Nat) (ρ:qa) (W:World) (k:Nat) (line:Int) (ts:List Tok) (cs:List Bs) (tv cv:Value):Prop where
 r0:ρ 0=.string (qb src)
 r4:ρ 4=.pointer (some ⟨B,0,none⟩)
 r5:ρ 5=tv
 r6:ρ 6=cv
 r7:ρ 7=.int .i64 line
 r8:ρ 8=.int .i64 (k:Int)
 kl:k<=src.length
 l0:1<=line/\line<=(k:Int)+1
 tl:ts.length<=k/\cs.length<=k
 ext:qc w W
 blk:Blk W B #[.int .i64 0,.int .i64 0] 26
 o1:Own w.heap.size 53 3 W tv (qF ts)
 o2:Own w.heap.size 9 1 W cv (cs.map qi)
 ap:∀k,tv.ownBlock=some k->cv.ownBlock≠some k
 nb:tv.ownBlock≠some B/\cv.ownBlock≠some B
 eq:qK src 1=(qK (src.drop k) line).add ts cs
def Q5 (ρ:qa):Nat:=(RowKit.intOf (ρ 8)).toNat
def qBk {w:World} (src:Bs) (hs:src.length<4611686018427387904):Calls Tryz.prog 87 #[.string (qb src)] w (qKV w src):=by
 refine qEw fun ρ r0=>?_;simp [qqR,r0];refine qX z31 fun B W hB hE hb hsz=>?_;by_cases hlen:20000<src.length
 ·have hlI:(20000:Int)<src.length:=by omega
  have b:qp src=.bad 2 0:=by rw [qp,if_pos hlen]
  simp [hlI,qxb,r0];refine jx (B:=B) (by simp) hb (by simp [Value.cells]) (by simp [Value.cells]) (by simpa [Value.cells] using yw) fun W3 F E=>?_;simp [Value.cells] at E⊢;refine jY (x:=.slice none 0 0) (y:=.slice none 0 0) (by simp) (by simp) (by simp) E rfl ?_;exact ⟨_,_,by rw [fV,b];rfl,by rw [b];exact Own.nil _ _ _ _,by rw [b];exact Own.nil _ _ _ _,F.ext hE hB⟩
 ·have hlI:¬(20000:Int)<src.length:=by omega
  have hscn:qp src=qK src 1:=by rw [qp,if_neg hlen]
  simp [hlI,qqN,r0];have hBn:∀(W':World),qc W W'->B<W'.heap.size:=fun W' h=>by have:=h.size;omega
  refine Q4 (fun t W'=>∃k line U cs tv cv,RdI w src B t W' k line U cs tv cv) (fun t _=>src.length - Q5 t)
   ⟨0,1,[],[],.slice none 0 0,.slice none 0 0,by simp [r0],by simp,by simp,by simp,by simp,by simp,uz _,by omega,by simp,hE,hb,Own.nil _ _ _ _,Own.nil _ _ _ _,by simp [Value.ownBlock],by simp [Value.ownBlock],by simp⟩ ?_
  rintro t W' ⟨k,line,U,cs,tv,cv,h⟩;have hkO:Q5 t=k:=by simp [Q5,h.r8]
  have hkl:=h.kl;have hl0:=h.l0;have htl:=h.tl;have hb20:src.length<=20000:=by omega
  by_cases R:k<src.length
  ·have hx:=qc3 R;have hu10:=wC src[k] 10 (by decide);have hu32:=wC src[k] 32 (by decide);have hu9:=wC src[k] 9 (by decide);have hu37:=wC src[k] 37 (by decide);have b:=Qp src[k] (src.drop (k+1)) line;rw [<-yk R] at b;simp [qjB,h.r8,h.r0,R,qqP,hx];by_cases e10:src[k]=10
   ·have V:(src[k].toNat:Int)=10:=hu10.2 e10;rw [if_pos e10] at b;simp [V,h.r7,h.r8,qH (n:=(k:Int)+1) (by omega),qH (n:=line+1) (by omega)];refine ⟨⟨k+1,line+1,U,cs,tv,cv,by simp [h.r0],by simp [h.r4],by simp [h.r5],by simp [h.r6],by simp,by simp,by omega,by omega,by omega,h.ext,h.blk,h.o1,h.o2,h.ap,h.nb,by rw [h.eq,b]⟩, ?_⟩;rw [hkO];simp [Q5];omega
   ·have V:¬(src[k].toNat:Int)=10:=fun x=>e10 (hu10.1 x);rw [if_neg e10] at b;simp [V];have blk:∀(u:qa),(src[k]=32\/src[k]=9)->u 0=t 0->u 4=t 4->u 5=t 5->u 6=t 6->u 7=t 7->u 8=.int .i64 ((k:Int)+1)->(∃k line U cs tv cv,RdI w src B u W' k line U cs tv cv)/\src.length - Q5 u<src.length - Q5 t:=by
     intro u hb a0 a4 a5 a6 a7 a8;rw [if_pos hb] at b;refine ⟨⟨k+1,line,U,cs,tv,cv,a0.trans h.r0,a4.trans h.r4,a5.trans h.r5,a6.trans h.r6,a7.trans h.r7,by simp [a8],by omega,by omega,by omega,h.ext,h.blk,h.o1,h.o2,h.ap,h.nb,by rw [h.eq,b]⟩, ?_⟩;rw [hkO];simp [Q5,a8];omega
    by_cases e32:src[k]=32
    ·have z:(src[k].toNat:Int)=32:=hu32.2 e32;simp [z,qdT,h.r8,qH (n:=(k:Int)+1) (by omega)];exact blk _ (.inl e32) (by simp) (by simp) (by simp) (by simp) (by simp) (by simp)
    have z:¬(src[k].toNat:Int)=32:=fun x=>e32 (hu32.1 x);by_cases e9:src[k]=9
    ·have e9':(src[k].toNat:Int)=9:=hu9.2 e9;simp [z,e9',qdT,h.r8,qH (n:=(k:Int)+1) (by omega)];exact blk _ (.inr e9) (by simp) (by simp) (by simp) (by simp) (by simp) (by simp)
    have e9':¬(src[k].toNat:Int)=9:=fun x=>e9 (hu9.1 x);rw [if_neg (by rintro (x|x)<;>contradiction)] at b;have hdl:(src.drop k).length=src.length - k:=by simp
    by_cases aa:src[k]=37
    ·have J:(src[k].toNat:Int)=37:=hu37.2 aa;rw [if_pos aa] at b;have hn1:1<=jr (src.drop k):=by rw [yk R,aa];exact qgU _
     have hn2:jr (src.drop k)<=src.length - k:=by have:=qwT (src.drop k);omega
     have hkI:(k:Int)<=src.length:=by omega
     simp [z,e9',J,qdT,h.r0,h.r8,hkI,hkl,qeb];refine (qBn (src.drop k) (by omega) W').mono ?_;rintro _ W' ⟨rfl,rfl⟩;have hI1:(k:Int)<=(k:Int)+(jr (src.drop k):Int):=by omega
     have hI2:(k:Int)+(jr (src.drop k):Int)<=src.length:=by omega
     have hI3:((k:Int)+(jr (src.drop k):Int)).toNat=k+jr (src.drop k):=by omega
     simp [h.r0,h.r6,h.r8,qH (n:=(k:Int)+(jr (src.drop k):Int)) (by omega),hI1,hI2,hI3,qbB];refine jV qeW (by decide) (by decide) (by simp [Value.cells]) fun B9 W9 hB9 a H _=>?_;simp [Value.cells] at H;have hO9:Own w.heap.size 9 1 W9 (.slice (some ⟨B9,0,none⟩) 1 1) [qi ((src.drop k).take (jr (src.drop k)))]:=Own.lit (cs:=[qi ((src.drop k).take (jr (src.drop k)))]) H rfl (by have:=h.ext.size;omega) (by decide);have ho2:=h.o2.ext a;simp;refine qgM qos (by have:=h.ext.size;have:=a.size;omega) (by simp) (by simp) ho2 (jR hO9) (by simp [qi];rfl) (by simp;omega) (by simp;omega) fun v' W10 S o v=>?_;have I:Blk W10 B #[.int .i64 0,.int .i64 0] 26:=⟨(o.block B (by have:=h.blk.lt;have:=a.size;omega) (fun e=>h.nb.2 e.symm)).trans (h.blk.ext a).heap⟩;simp [h.r8,qH (n:=(k:Int)+(jr (src.drop k):Int)) (by omega)];refine ⟨⟨k+jr (src.drop k),line,U,cs++[(src.drop k).take (jr (src.drop k))],tv,v',by simp [h.r0],by simp [h.r4],by simp [h.r5],by simp,by simp [h.r7],by simp,by omega,by omega,by simp;omega, ?_,I, ?_,by simpa using S, ?_,⟨h.nb.1, ?_⟩, ?_⟩, ?_⟩
     ·exact (h.ext.trans' a).grown o (by have:=h.ext.size;have:=a.size;omega) fun k hk=>(ho2.blk k hk).1
     ·refine (h.o1.ext a).kept o ?_;cases hk:tv.ownBlock with
      |none=>exact .inl rfl
      |some q=>exact .inr fun e=>h.ap q hk e.symm
     ·intro q hq;rcases v with e|e
      ·rw [e];exact h.ap q hq
      ·rw [e];intro e2;cases e2;have:=(h.o1.blk _ hq).2;have:=a.size;omega
     ·rcases v with e|e
      ·rw [e];exact h.nb.2
      ·rw [e];intro e2;cases e2;have:=h.blk.lt;have:=a.size;omega
     ·rw [h.eq,b,JH,Res.add_add];simp
     ·rw [hkO];simp [Q5];omega
    have J:¬(src[k].toNat:Int)=37:=fun x=>aa (hu37.1 x);rw [if_neg aa] at b;have hkI:(k:Int)<=src.length:=by omega
    have hdne:src.drop k≠[]:=by rw [yk R];exact JG _ _
    simp [z,e9',J,qdT,h.r0,h.r8,hkI,hkl,qeb];have Y:(first (src.drop k)).2.2=0->0<(first (src.drop k)).2.1/\(first (src.drop k)).2.1<=(src.drop k).length:=fun hh=>qaH hh hdne;have hrf:=qBm (w:=W') (src.drop k) hdne (by omega);generalize first (src.drop k)=p at b Y hrf
    obtain ⟨fk,fn,fe⟩:=p;refine hrf.mono ?_;rintro _ W2 ⟨rfl,C⟩;have Z:=h.ext.trans' C;by_cases hf:fe=0
    ·rw [if_neg (by simpa using hf)] at b;have hpos:=Y hf;simp only at hpos;have hI1:(k:Int)<=(k:Int)+(fn:Int):=by omega
     have hI2:(k:Int)+(fn:Int)<=src.length:=by omega
     have hI3:((k:Int)+(fn:Int)).toNat=k+fn:=by omega
     simp -implicitDefEqProofs [hf,qqQ,h.r0,h.r5,h.r7,h.r8,qH (n:=(k:Int)+(fn:Int)) (by omega),hI1,hI2,hI3,qbB,qKl];refine jV qnK (by decide) (by decide) (by simp [Value.cells]) fun B9 W9 hB9 a H _=>?_;simp [Value.cells] at H;have hO9:Own w.heap.size 53 3 W9 (.slice (some ⟨B9,0,none⟩) 1 1) [.int .u8 (fk:Int),.string (qb ((src.drop k).take fn)),.int .i64 line]:=Own.lit H rfl (by have:=Z.size;omega) (by decide);have ho1:=(h.o1.ext C).ext a;obtain ⟨bb,ri,hbb⟩:=qor;simp;refine qgM ri (by have:=Z.size;have:=a.size;omega) (by simp) (by simp) ho1 (jR hO9) (by simp;exact ⟨rfl,rfl,rfl⟩) (by rw [jA];simp;omega) (by
      rw [jA];have:(U.length*3+3)*bb<=(U.length*3+3)*64:=Nat.mul_le_mul_left _ hbb;simp;omega) fun v' W10 S o v=>?_
     have I:Blk W10 B #[.int .i64 0,.int .i64 0] 26:=⟨(o.block B (by have:=h.blk.lt;have:=C.size;have:=a.size;omega) (fun e=>h.nb.1 e.symm)).trans ((h.blk.ext C).ext a).heap⟩;simp [h.r8,qH (n:=(k:Int)+(fn:Int)) (by omega)];refine ⟨⟨k+fn,line,U++[⟨fk,(src.drop k).take fn,line⟩],cs,v',cv,by simp [h.r0],by simp [h.r4],by simp,by simp [h.r6],by simp [h.r7],by simp,by omega,by omega,by simp;omega, ?_,I,by rw [qm0];exact S, ?_, ?_,⟨?_,h.nb.2⟩, ?_⟩, ?_⟩
     ·exact (Z.trans' a).grown o (by have:=Z.size;have:=a.size;omega) fun k hk=>(ho1.blk k hk).1
     ·refine ((h.o2.ext C).ext a).kept o ?_;cases hk:cv.ownBlock with
      |none=>exact .inl rfl
      |some q=>exact .inr fun e=>h.ap q e.symm hk
     ·intro q hq;rcases v with e|e
      ·exact h.ap q (e▸hq)
      ·rw [e] at hq;cases hq;intro e2;have:=(h.o2.blk _ e2).2;have:=a.size;have:=C.size;omega
     ·rcases v with e|e
      ·rw [e];exact h.nb.1
      ·rw [e];intro e2;cases e2;have:=h.blk.lt;have:=a.size;have:=C.size;omega
     ·rw [h.eq,b,JH,Res.add_add];simp
     ·rw [hkO];simp [Q5];omega
    ·rw [if_pos hf] at b;have c:qp src=.bad fe line:=by
      rw [hscn,h.eq,b];rfl
     simp -implicitDefEqProofs [hf,h.r7,qlY];refine jx (B:=B) (by simp [h.r4]) (h.blk.ext C) (by simp [Value.cells]) (by simp [Value.cells]) (by simpa [Value.cells] using yw) fun W3 F E=>?_;simp [Value.cells] at E⊢;refine jY (x:=.slice none 0 0) (y:=.slice none 0 0) (by simp) (by simp) (by simp [h.r4]) E rfl ?_;exact ⟨_,_,by rw [fV,c];rfl,by rw [c];exact Own.nil _ _ _ _,by rw [c];exact Own.nil _ _ _ _,F.ext Z hB⟩
  ·have hk:k=src.length:=by omega
   subst hk;have c:qp src=.ok U cs:=by
    rw [hscn,h.eq,VA,qdh];simp [Res.add]
   simp [qjB,h.r8,h.r0,qqO,h.r5,h.r6,qgZ];refine jx (B:=B) (by simp [h.r4]) h.blk (by simp [Value.cells]) (by simp [Value.cells]) (by simpa [Value.cells] using yw) fun W3 F E=>?_;simp [Value.cells] at E⊢;refine jY (x:=tv) (y:=cv) (by simp) (by simp) (by simp [h.r4]) E rfl ?_;refine ⟨_,_,by rw [fV,c];rfl, ?_, ?_,F.ext h.ext hB⟩
   ·rw [c];exact Own.same h.o1 fun q hq=>F.block q fun e=>h.nb.1 (by rw [hq,e])
   ·rw [c];exact Own.same h.o2 fun q hq=>F.block q fun e=>h.nb.2 (by rw [hq,e])
def qBo {w:World} (src:Bs) (S:src.length<4611686018427387904):Calls Tryz.prog 33 #[.string (qb src)] w (qbG w src):=by
 refine qFn fun ρ r0=>?_;simp [qr5,r0];refine qX z31 fun B W Z I E _=>?_;simp [r0];refine (qBk (w:=W) src S).mono ?_;rintro _ W1 ⟨v,c,rfl,J,_,n⟩;simp [fV];refine qX z31 fun B2 W2 R y H _=>?_;simp [fV];refine jx (B:=B2) (by simp) H (by simp [Value.cells]) (by simp [Value.cells]) (by simpa [Value.cells] using yw) fun W3 u o=>?_;simp [Value.cells] at o⊢;have C:=u.blk ((E.ext n).ext y) (by have:=E.lt;have:=n.size;omega);refine vZ qFm (fun W=>Blk W B2 #[.int .i64 (qp src).err,.int .i64 (qp src).at] 26) fun W4 a _=>⟨o.ext a, ?_⟩;have U:∀W,Blk W B2 #[.int .i64 (qp src).err,.int .i64 (qp src).at] 26->∀i,W.cell? ⟨B2,i,none⟩=#[Value.int .i64 (qp src).err,.int .i64 (qp src).at][i]? :=fun W h=>h.cell;simp+contextual -implicitDefEqProofs [qr1,U,o.ext a];refine jx (B:=B) (by simp) (C.ext a) (by simp [Value.cells]) (by simp [Value.cells]) (by simpa [Value.cells] using yw) fun W5 t z=>?_;simp [Value.cells] at z;simp [qr2];refine jZ (x:=v) (by simp) (by simp) z rfl ?_;have F:=I.size;have b:qc W1 W4:=(u.ext y (by omega)).trans' a;have h5:Own w.heap.size 53 3 W5 v (qF (qp src).toks):=by
  refine Own.same (w:=W4) ?_ fun k V=>t.block k fun e=>?_
  ·have Y:Own W.heap.size 53 3 W4 v (qF (qp src).toks):=J.ext b;exact vc F Y
  ·have:=(J.blk k V).1;have:=E.lt;omega
 exact ⟨v,rfl,h5,t.ext ((I.trans' n).trans' b) Z⟩
end Go.L01
namespace Go.L02
open Go Go.Eng Go.RowKit
open Go.Proofs hiding encI
open Go.L01 (Bd Bs Own.same SlK Tok jA jX jY jZ jb jh qF qi vc vu xb zz)
set_option maxRecDepth 100000
set_option maxHeartbeats 2000000
structure NV where
 nd:Nd
 kv:Value
def qk (x:NV):List Value:=[.int .u8 (x.nd.d.kind:Int),.string (qb x.nd.d.name),.string (qb x.nd.d.vr),.string (qb x.nd.d.typ),.int .i64 x.nd.d.n,x.kv]
def jH (xs:List NV):List Value:=xs.flatMap qk
theorem yV (xs:List NV):(jH xs).length=xs.length*6:=by
 induction xs with
 |nil=>rfl
 |cons x xs a=>
  have:jH (x::xs)=qk x++jH xs:=rfl;rw [this,kh,a];simp [qk];omega
def qpu (a b:List NV):jH (a++b)=jH a++jH b:=by simp [jH]
structure Tn (base B:Nat) (nv nv':Value) (w w':World):Prop where
 below:Below base w w'
 block:∀k,k<w.heap.size->k≠B->nv.ownBlock≠some k->w'.heap[k]? =w.heap[k]?
 row:∀k,nv'.ownBlock=some k->nv.ownBlock=some k\/w.heap.size<=k
 gr:nv'=nv\/ql nv<ql nv'
def Tn.size {base B:Nat} {nv nv':Value} {w w':World} (h:Tn base B nv nv' w w'):w.heap.size<=w'.heap.size:=h.below.size
def Tn.trans {base B:Nat} {a b c:Value} {w w' o:World} (h:Tn base B a b w w') (k:Tn base B b c w' o):Tn base B a c w o:=by
 have z:=h.size;refine ⟨h.below.trans k.below,fun j t u y=>?_,fun j t=>?_,by
  rcases k.gr with e|e
  ·rw [e];exact h.gr
  ·rcases h.gr with v|v
   ·rw [v] at e;exact .inr e
   ·exact .inr (by omega)⟩
 ·refine (k.block j (by omega) u fun e=>?_).trans (h.block j t u y);rcases h.row j e with n|n
  ·exact y n
  ·omega
 ·rcases k.row j t with n|n
  ·exact h.row j n
  ·exact .inr (by omega)
theorem Tn.refl (base B:Nat) (nv:Value) (w:World):Tn base B nv nv w w:=⟨Below.refl _ _,fun _ _ _ _=>rfl,fun _ h=> .inl h,.inl rfl⟩
def Tn.ext {base B:Nat} {nv:Value} {w w':World} (h:qc w w') (b:base<=w.heap.size):Tn base B nv nv w w':=⟨h.mono b,fun k a _ _=>h.block k a,fun _ h=> .inl h,.inl rfl⟩
def Tn.ne {base B X:Nat} {nv nv':Value} {w w':World} (h:Tn base B nv nv' w w') (c:X<w.heap.size) (a:nv.ownBlock≠some X):nv'.ownBlock≠some X:=fun e=>by
 rcases h.row X e with b|b
 ·exact a b
 ·omega
def Tn.blk {base B X:Nat} {nv nv':Value} {w w':World} {cs:Array Value} {T:TypeId} (h:Tn base B nv nv' w w') (b:Blk w X cs T) (c:X≠B) (a:nv.ownBlock≠some X):Blk w' X cs T:=
 ⟨(h.block X b.lt c a).trans b.heap⟩
structure PSt (base B:Nat) (W:World) (tv nv:Value) (L:List Tok) (i f:Nat) (xs:List NV):Prop where
 blk:Blk W B #[tv,.int .i64 (i:Int),.int .i64 (f:Int),nv] 85
 tok:Own 0 53 3 W tv (qF L)
 own:Own base 44 6 W nv (jH xs)
 kid:∀x∈xs,Own 0 3 1 W x.kv (x.nd.kids.map encI)
 bB:base<=B
 bW:base<=W.heap.size
 tl:L.length<=20000
 il:i<=L.length
 fl:f<=L.length
section
variable {base B:Nat} {w w':World} {tv nv nv':Value} {L:List Tok} {i f:Nat} {xs:List NV}
theorem Own.row {b e sz:Nat} {w:World} {v:Value} {ys:List Value} {k:Nat} (h:Own b e sz w v ys) (a:v.ownBlock=some k):∃cur,w.heap[k]? =some (.cells cur e (0,0)):=by
 rcases h with ⟨rfl,_⟩|⟨g,off,n,cap,cur,rfl,_,c,_⟩
 ·cases a
 ·cases a;exact ⟨cur,c⟩
theorem PSt.rowNe (h:PSt base B w tv nv L i f xs) {k:Nat} {cs:Array Value} {T:TypeId} {z:Nat×Nat} (a:w.heap[k]? =some (.cells cs T z)) (b:T≠44):nv.ownBlock≠some k:=fun e=>by
 obtain ⟨cur,c⟩:=Own.row h.own e;rw [c] at a;cases a;exact b rfl
theorem PSt.blkNe (h:PSt base B w tv nv L i f xs) {k:Nat} {cs:Array Value} {T:TypeId} {z:Nat×Nat} (a:w.heap[k]? =some (.cells cs T z)) (b:T≠85):k≠B:=fun e=>by
 subst e;rw [h.blk.heap] at a;cases a;exact b rfl
theorem PSt.keep (h:PSt base B w tv nv L i f xs) (u:Tn base B nv nv' w w') {b e sz:Nat} {v:Value} {ys:List Value} (c:Own b e sz w v ys) (o:e≠44) (t:e≠85):Own b e sz w' v ys:=by
 refine Own.same c fun k n=>?_;obtain ⟨cur,a⟩:=Own.row c n;exact u.block k (uq.1 a).1 (h.blkNe a t) (h.rowNe a o)
theorem PSt.var (h:PSt base B w tv nv L i f xs) (e:Tn base B nv nv' w w') {X:Nat} {cs:Array Value} {T:TypeId} (a:Blk w X cs T) (b:T≠44) (c:T≠85):Blk w' X cs T:=
 e.blk a (h.blkNe a.heap c) (h.rowNe a.heap b)
theorem PSt.slk (h:PSt base B w tv nv L i f xs):SlK w tv L:=SlK.own h.tok (by have:=h.tl;omega)
theorem PSt.ext (h:PSt base B w tv nv L i f xs) (a:qc w w'):PSt base B w' tv nv L i f xs:=
 ⟨h.blk.ext a,h.tok.ext a,h.own.ext a,fun x b=>(h.kid x b).ext a,h.bB,Nat.le_trans h.bW a.size,h.tl,h.il,h.fl⟩
theorem PSt.only (h:PSt base B w tv nv L i f xs) {X:Nat} (o:Only X w w') {cs:Array Value} {T:TypeId} {z:Nat×Nat} (u:X<w.heap.size->w.heap[X]? =some (.cells cs T z)) (F:T≠44) (y:T≠85) (C:T≠3) (I:T≠53):PSt base B w' tv nv L i f xs:=by
 have ne:∀k cur e,e≠T->w.heap[k]? =some (.cells cur e (0,0))->k≠X:=fun k cur e n a c=>by
  subst c;have:=u (uq.1 a).1;rw [a] at this;cases this;exact n rfl
 have keep:∀{b e sz:Nat} {v:Value} {ys:List Value},e≠T->Own b e sz w v ys->Own b e sz w' v ys:=fun n t=>Own.same t fun k a=>by
  obtain ⟨cur,E⟩:=Own.row t a;exact o.block k (ne k cur _ n E)
 refine ⟨o.blk h.blk (ne B _ 85 (Ne.symm y) h.blk.heap),keep (Ne.symm I) h.tok,keep (Ne.symm F) h.own,fun x H=>keep (Ne.symm C) (h.kid x H),h.bB,by rw [o.size];exact h.bW,h.tl,h.il,h.fl⟩
theorem PSt.move (h:PSt base B w tv nv L i f xs) {o t:Nat} (c:Only B w w') (y:Blk w' B #[tv,.int .i64 (o:Int),.int .i64 (t:Int),nv] 85) (F:o<=L.length) (E:t<=L.length):
  PSt base B w' tv nv L o t xs/\Tn base B nv nv w w':=by
 have keep:∀{b e sz:Nat} {v:Value} {ys:List Value},e≠85->Own b e sz w v ys->Own b e sz w' v ys:=fun z u=>Own.same u fun k a=>by
  obtain ⟨cur,C⟩:=Own.row u a;exact c.block k (h.blkNe C z)
 refine ⟨⟨y,keep (by decide) h.tok,keep (by decide) h.own,fun x H=>keep (by decide) (h.kid x H),h.bB,by rw [c.size];exact h.bW,h.tl,F,E⟩, ?_,fun k a n _=>c.block k n,fun k a=> .inl a,.inl rfl⟩;exact yh c h.bB
end
@[simp] theorem qOJ:qh Tryz.prog 142=true:=by kernel_rfl
@[simp] theorem qOK:qh Tryz.prog 141=true:=by kernel_rfl
@[simp] theorem qOO:qh Tryz.prog 117=true:=by kernel_rfl
@[simp] theorem qOI:qh Tryz.prog 143=true:=by kernel_rfl
@[simp] theorem qON:qh Tryz.prog 120=true:=by kernel_rfl
@[simp] theorem qOH:qh Tryz.prog 153=true:=by kernel_rfl
@[simp] theorem qJT:qh Tryz.prog 160=true:=by kernel_rfl
theorem z53:zR Tryz.prog 53=some #[.int .u8 0,.string ⟨#[]⟩,.int .i64 0]:=by kernel_rfl
theorem qag:jT Tryz.prog 53 3=true:=by kernel_rfl
theorem vp:jT Tryz.prog 3 1=true:=by kernel_rfl
theorem qKa:Tryz.prog.built 53 []=some #[.int .u8 0,.string ⟨#[]⟩,.int .i64 0]:=by kernel_rfl
theorem yQ:wI Tryz.prog 51=some (9,1):=by kernel_rfl
def kj (t:Tok):Value:=.agg #[.int .u8 (t.kind:Int),.string (qb t.text),.int .i64 t.line]
def qbk {base B:Nat} {w:World} {tv nv:Value} {L:List Tok} {i f:Nat} {xs:List NV} (h:PSt base B w tv nv L i f xs) (n:Nat) (hn:n<=1):
  Calls Tryz.prog 142 #[.pointer (some ⟨B,0,none⟩),.int .i64 (n:Int)] w fun e w'=>e=.returned (kj (tk L (i+n)))/\qc w w':=by
 have V:=h.tl;have aa:=h.il;refine qH6 fun ρ r0 r1=>?_;simp [qvr,r0,r1];refine qX z53 fun X W R F Z _=>?_;have H:=h.ext F;have S:=H.slk;have U:IntKind.i64.wrap ((i:Int)+(n:Int))=((i+n:Nat):Int):=by rw [qH (by omega)];push_cast;rfl
 simp [H.blk.cell,r0,r1,S.is,S.len,U];intro W2 o;have y:=H.ext o;have I:=y.slk;have E:=Z.ext o;by_cases v:i+n<L.length
 ·have c:=I.cell (i+n) v;have a:((i:Int)+(n:Int)<(L.length:Int)):=by omega
  simp [qkW,a];refine vZ qH5 (fun W=>PSt base B W tv nv L i f xs) fun W3 t _=>⟨y.ext t, ?_⟩;have C:=y.ext t;have u:=C.slk;have c:=u.cell (i+n) v;have J:∀W,PSt base B W tv nv L i f xs->∀j,W.cell? ⟨B,j,none⟩=#[tv,Value.int .i64 (i:Int),.int .i64 (f:Int),nv][j]? :=fun W h=>h.blk.cell;simp+contextual -implicitDefEqProofs [qvm,J,C,r0,r1,U];have Y:((i:Int)+(n:Int)).toNat=i+n:=by omega
  rw [if_pos ⟨u.is,by omega,by rw [u.len];omega⟩,Y];simp [c.1,c.2.1,c.2.2];refine jx (B:=X) (by simp) (E.ext t) (by simp [Value.cells]) (by simp [Value.cells]) (by simpa [Value.cells] using qag) fun W4 z b=>?_;simp [Value.cells] at b;simp [qvo];refine jh (by simp) b rfl ⟨?_, ?_⟩
  ·rw [kR v];rfl
  ·exact z.ext (((F.trans' o).trans' t)) R
 ·have a:¬((i:Int)+(n:Int)<(L.length:Int)):=by omega
  simp [qkW,qvn,a];rw [qKa];dsimp only [vt];refine jx (B:=X) (by simp) E (by simp [Value.cells]) (by simp [Value.cells]) (by simpa [Value.cells] using qag) fun W4 z b=>?_;simp [Value.cells] at b;simp;refine jh (by simp) b rfl ⟨?_, ?_⟩
  ·rw [wZ (by omega)];rfl
  ·exact z.ext (F.trans' o) R
section
variable {base B:Nat} {w:World} {tv nv:Value} {L:List Tok} {i f:Nat} {xs:List NV}
theorem kT {w:World} {X:Nat} {a b c:Value} {T:TypeId} (h:Blk w X #[a,b,c] T):w.cell? ⟨X,0,none⟩=some a/\w.cell? ⟨X,1,none⟩=some b/\w.cell? ⟨X,2,none⟩=some c:=
 ⟨by rw [h.cell];rfl,by rw [h.cell];rfl,by rw [h.cell];rfl⟩
theorem qo8 (h:PSt base B w tv nv L i f xs) {v:Value} {ss:List Bs} (H:jb w v ss):
  Calls Tryz.prog 141 #[.pointer (some ⟨B,0,none⟩),v] w fun e w'=>e=.returned (.bool (qo L i ss))/\qc w w':=by
 refine qH7 fun ρ r0 r1=>?_;simp [qvs,r0,r1];refine (qbk h 0 (by decide)).mono ?_;rintro _ w1 ⟨rfl,z⟩;simp;refine qX z53 fun X W I y F _=>?_;simp;refine jx (B:=X) (by simp) F (by simp [Value.cells,kj]) (by simp [Value.cells,kj]) (by simpa [Value.cells] using qag) fun W2 u o=>?_;simp [Value.cells,kj] at o;obtain ⟨c0,c1,c2⟩:=kT o;have a:qc w W2:=u.ext (z.trans' y) (by have:=z.size;omega);have E:∀n:Nat,(((tk L i).kind:Int)=(n:Int))↔(tk L i).kind=n:=fun n=>by omega
 have c:=E 2;have b:=E 4;simp only [Int.cast_ofNat_Int] at c b;simp [c0,c1,r1];unfold qo;by_cases C:(tk L i).kind=2\/(tk L i).kind=4
 ·have t:((tk L i).kind:Int)=2\/((tk L i).kind:Int)=4:=by omega
  simp [t,r1];refine (L01.qio (tk L i).text (H.ext a)).mono ?_;rintro _ _ ⟨rfl,rfl⟩;simp [C];refine ⟨?_,a⟩;simp only [c,b]
 ·have t:¬(((tk L i).kind:Int)=2\/((tk L i).kind:Int)=4):=by omega
  simp [t,C];exact a
def qme (base B:Nat) (w:World) (tv nv:Value) (L:List Tok) (i f:Nat) (xs:List NV) (b:Bool):Ending->World->Prop:=fun e w'=>e=.returned (.bool b)/\PSt base B w' tv nv L (if b then i+1 else i) f xs/\Tn base B nv nv w w'
theorem qfp (h:PSt base B w tv nv L i f xs) (s:Bs):Calls Tryz.prog 117 #[.pointer (some ⟨B,0,none⟩),.string (qb s)] w (qme base B w tv nv L i f xs (qo L i [s])):=by
 have E:=h.tl;have H:=h.il;refine qIm fun ρ r0 r1=>?_;simp [qvM,r0,r1];refine jV yQ (by decide) (by decide) (by simp [Value.cells]) fun X W R z C _=>?_;simp [Value.cells] at C⊢;have I:jb W (.slice (some ⟨X,0,none⟩) 1 1) [s]:=⟨rfl,rfl,by simp,fun j F=>by
  have:j=0:=by simpa using F
  subst this;simp [qQ,C.cell,qi]⟩
 refine (qo8 (h.ext z) I).mono ?_;rintro _ w1 ⟨rfl,o⟩;have a:=z.trans' o;have c:=h.ext a;simp;cases J:qo L i [s] with
 |false=>
  simp [qme];exact ⟨c,Tn.ext a h.bW⟩
 |true=>
  have n:=wQ J;have v:IntKind.i64.wrap ((i:Int)+1)=((i+1:Nat):Int):=by rw [qH (by omega)];push_cast;rfl
  simp [qvL,r0,c.blk.cell,v];refine qW (B:=B) (i:=1) (by simp) c.blk (by simp) rfl rfl vp fun W2 e b=>?_;simp at b;have u:Blk W2 B #[tv,.int .i64 ((i+1:Nat):Int),.int .i64 (f:Int),nv] 85:=by rw [<-v];simpa [v] using b
  obtain ⟨t,y⟩:=c.move e u n h.fl;simp [qme];exact ⟨t,(Tn.ext a h.bW).trans y⟩
end
def QR:List PanicEntry:=[{v:=.iface 153 (.agg #[]),recovered:=false}]
structure Ans (α:Type) where
 nodes:Nat->α->List Nd
 val:World->World->Nat->α->Value->Prop
def aU:Ans Unit:=⟨fun _ _=>[],fun _ _ _ _ v=>v=.tuple #[]⟩
def aS:Ans Bs:=⟨fun _ _=>[],fun _ _ _ s v=>v=.string (qb s)⟩
def aT:Ans T:=⟨fun b t=>t.flat b,fun _ _ b t v=>v=.int .i64 ((b:Int)+t.size - 1)⟩
def yI:Ans (T×Nat):=⟨fun b t=>t.1.flat b,fun _ _ b t v=>v=.tuple #[.int .i64 ((b:Int)+t.1.size - 1),.int .i64 (t.2:Int)]⟩
def kQ:Ans (T×Bool):=⟨fun b t=>t.1.flat b,fun _ _ b t v=>v=.tuple #[.int .i64 ((b:Int)+t.1.size - 1),.bool t.2]⟩
def aTs:Ans (List T):=⟨fun b ts=>flats b ts,fun w w' b ts v=>Own w.heap.size 3 1 w' v ((qt b ts).map encI)⟩
def wW (w:World) (v:Value):Prop:=∀k,v.ownBlock=some k->w.heap.size<=k
def wW.mono {w w':World} {v:Value} (h:wW w' v) (b:w.heap.size<=w'.heap.size):wW w v:=fun k a=>Nat.le_trans b (h k a)
def Own.fresh {e sz:Nat} {w w':World} {v:Value} {xs:List Value} (h:Own w.heap.size e sz w' v xs):wW w v:=fun k a=>(h.blk k a).1
def PR {α:Type} (A:Ans α) (base B:Nat) (tv nv:Value) (L:List Tok) (xs:List NV) (w:World):Rs α->Ending->World->Prop
 | .oof,_,_=>False
 | .ok a j g,e,w'=>∃v nv' ys,e=.returned v/\PSt base B w' tv nv' L j g (xs++ys)/\ys.map (·.nd)=A.nodes xs.length a/\(∀y∈ys,wW w y.kv)/\Tn base B nv nv' w w'/\A.val w w' xs.length a v
 | .no g,e,w'=>∃j nv' ys,e=.panicked QR/\PSt base B w' tv nv' L j g (xs++ys)/\Tn base B nv nv' w w'
def Mt {α:Type} (A:Ans α) (L:List Tok) (F:FuncId) (args:Value->Array Value) (m:M α):Prop:=∀base B w tv nv i f xs,PSt base B w tv nv L i f xs->xs.length<=2*i+2->m i f≠ .oof->
 Calls Tryz.prog F (args (.pointer (some ⟨B,0,none⟩))) w (PR A base B tv nv L xs w (m i f))
def me (v:Value):Array Value:=#[v]
def qbZ {α β:Type} {A:Ans α} {A':Ans β} {L:List Tok} {m:M α} {k:α->M β} {r:Rs β} {base B:Nat} {w w1:World} {tv nv nv1:Value} {i f:Nat} {xs ys:List NV} {K:qa->World->Prop} {Q:Ks} {ρ:qa} {d:Option Nat}
  {F:FuncId} {args:Array Value} (R:m i f≠ .oof->Calls Tryz.prog F args w1 (PR A base B tv nv1 L (xs++ys) w1 (m i f))) (C:Tn base B nv nv1 w w1) (y:bnd m k i f=r) (J:r≠ .oof)
  (hpn:∀c w',PR A' base B tv nv L xs w r (.panicked c) w'->Q.pn ρ c w')
  (h:∀a j g v nv2 zs w2,m i f=.ok a j g->PSt base B w2 tv nv2 L j g (xs++(ys++zs))->zs.map (·.nd)=A.nodes (xs++ys).length a->(∀z∈zs,wW w1 z.kv)->Tn base B nv1 nv2 w1 w2->Tn base B nv nv2 w w2->A.val w1 w2 (xs++ys).length a v->k a j g=r->
   K (qn ρ d v) w2):Calls Tryz.prog F args w1 (zD Q d K ρ):=by
 have t:m i f≠ .oof:=fun e=>J (by rw [<-y,kM e]);refine (R t).mono ?_;intro e w2 u;cases b:m i f with
 |oof=>exact absurd b t
 |no g=>
  rw [b] at u;obtain ⟨j,nv2,zs,rfl,o,n⟩:=u;rw [qw3];refine hpn _ _ ?_;rw [<-y,xx b];exact ⟨j,nv2,ys++zs,rfl,by simpa using o,C.trans n⟩
 |ok a j g=>
  rw [b] at u;obtain ⟨v,nv2,zs,rfl,o,I,E,n,H⟩:=u;rw [qed];refine h a j g v nv2 zs w2 b (by simpa using o) I E n (C.trans n) H ?_;rw [<-y,jq b]
theorem qKn:Tryz.prog.built 153 []=some #[]:=by kernel_rfl
section
variable {base B:Nat} {w:World} {tv nv:Value} {L:List Tok} {i f:Nat} {xs:List NV}
def qxV (base B:Nat) (w:World) (tv nv:Value) (L:List Tok) (i f:Nat) (xs:List NV):Ending->World->Prop:=fun e w'=>e=.panicked QR/\PSt base B w' tv nv L i (max f i) xs/\Tn base B nv nv w w'
theorem qdB (h:PSt base B w tv nv L i f xs):Calls Tryz.prog 143 #[.pointer (some ⟨B,0,none⟩)] w (qxV base B w tv nv L i f xs):=by
 have F:=h.tl;have u:=h.il;have H:=h.fl;refine qH4 fun ρ r0=>?_;simp [qvl];refine vZ qH3 (fun W=>PSt base B W tv nv L i f xs) fun W3 e _=>⟨h.ext e, ?_⟩;have c:=h.ext e;have E:∀W,PSt base B W tv nv L i f xs->∀j,W.cell? ⟨B,j,none⟩=#[tv,Value.int .i64 (i:Int),.int .i64 (f:Int),nv][j]? :=fun W h=>h.blk.cell;simp+contextual -implicitDefEqProofs [qvh,E,c,r0];refine qgJ (k:=.i64) (a:=(f:Int)) (b:=(i:Int)) (by simp) (by simp) ?_;have I:(if (i:Int)>(f:Int) then (i:Int) else (f:Int))=((max f i:Nat):Int):=by split<;>omega
 rw [I];refine ⟨c, ?_⟩;simp [r0];refine qW (B:=B) (i:=2) (by simp) c.blk (by simp) (by simp [Value.cells]) (by simp) vp fun W4 y n=>?_;simp at n;have C:Blk W4 B #[tv,.int .i64 (i:Int),.int .i64 ((max f i:Nat):Int),nv] 85:=by simpa using n
 obtain ⟨z,o⟩:=c.move y C u (by omega);simp [qvi];rw [qKn];dsimp only [vt];refine qlk (t:=153) (v:=.agg #[]) (by simp) ?_;simp [qxV,QR];exact ⟨z,(Tn.ext e h.bW).trans o⟩
theorem qyR {s:Bs} {ss:List Bs}:needs L (s::ss) i f=if qo L i [s] then needs L ss (i+1) f else .no (max f i):=rfl
theorem qCf (h:PSt base B w tv nv L i f xs) {v:Value} {ss:List Bs} (y:Own 0 9 1 w v (ss.map qi)) (z:ss.length<4611686018427387904):Calls Tryz.prog 153 #[.pointer (some ⟨B,0,none⟩),v] w (PR aU base B tv nv L xs w (needs L ss i f)):=by
 have I:jb w v ss:=Own.sl y z;refine qHM fun ρ r0 r1=>?_;simp [qu5,r1,I.is,I.len];refine vD 8 ss.length (fun k b w'=>b 0=.pointer (some ⟨B,0,none⟩)/\b 6=v/\b 7=.int .i64 (ss.length:Int)/\PSt base B w' tv nv L (i+k) f xs/\Tn base B nv nv w w'/\Own 0 9 1 w' v (ss.map qi)/\needs L ss i f=needs L (ss.drop k) (i+k) f) (by simp)
  ⟨by simp [r0],by simp [r1],by simp [I.len],h,Tn.refl _ _ _ _,y,by simp⟩ ?_
 rintro k b w' U r8 ⟨r0,r6,r7,H,R,e,a⟩;have o:jb w' v ss:=Own.sl e z;by_cases t:k<ss.length
 ·have C:=u0 t;rw [C,qyR] at a;simp [qkL,qu3,r8,r7,t,r6,o.is,o.len,o.cell k t,qi,r0];refine (qfp H ss[k]).mono ?_;rintro _ w2 ⟨rfl,c,u⟩;cases S:qo L (i+k) [ss[k]] with
  |true=>
   rw [S] at a c;simp [qu4,r8,qH (n:=(k:Int)+1) (by omega),r0,r6,r7];exact ⟨c,R.trans u,H.keep u e (by decide) (by decide),by rw [a];rfl⟩
  |false=>
   rw [S] at a c;simp [r0];refine (qdB c).mono ?_;rintro _ V ⟨rfl,F,E⟩;simp;rw [a];exact ⟨i+k,nv,[],rfl,by simpa using F,(R.trans u).trans E⟩
 ·have J:k=ss.length:=by omega
  subst J;simp [qkL,r8,r7];rw [a];simp only [VA,needs,ret,PR,aU];exact ⟨_,nv,[],rfl,by simpa using H,rfl,by simp,R,rfl⟩
theorem qca (h:PSt base B w tv nv L i f xs):Calls Tryz.prog 120 #[.pointer (some ⟨B,0,none⟩)] w (PR aS base B tv nv L xs w (name L i f)):=by
 have J:=h.tl;have S:=h.il;refine qIk fun ρ r0=>?_;simp [qvK,r0];refine (qbk h 0 (by decide)).mono ?_;rintro _ w1 ⟨rfl,z⟩;simp;refine qX z53 fun X W V F R _=>?_;simp;refine jx (B:=X) (by simp) R (by simp [Value.cells,kj]) (by simp [Value.cells,kj]) (by simpa [Value.cells] using qag) fun W2 C n=>?_;simp [Value.cells,kj] at n;obtain ⟨c0,c1,c2⟩:=kT n;have e:qc w W2:=C.ext (z.trans' F) (by have:=z.size;omega);have u:=h.ext e;have Z:(((tk L i).kind:Int)=1)↔(tk L i).kind=1:=by omega
 simp [c0,r0];by_cases v:(tk L i).kind=1
 ·have E:=Qw v (by decide);have U:IntKind.i64.wrap ((i:Int)+1)=((i+1:Nat):Int):=by rw [qH (by omega)];push_cast;rfl
  have c:X≠B:=by have:=h.blk.lt;have:=z.size;omega
  simp [v,qvJ,r0,u.blk.cell,U];refine qW (B:=B) (i:=1) (by simp) u.blk (by simp) (by simp [Value.cells]) (by simp) vp fun W3 o t=>?_;simp at t;have I:Blk W3 B #[tv,.int .i64 ((i+1:Nat):Int),.int .i64 (f:Int),nv] 85:=by simpa using t
  obtain ⟨b,a⟩:=u.move o I E h.fl;have y:W3.cell? ⟨X,1,none⟩=some (.string (qb (tk L i).text)):=(kT (o.blk n c)).2.1;simp [y];rw [qDx v];exact ⟨_,nv,[],rfl,by simpa using b,rfl,by simp,(Tn.ext e h.bW).trans a,rfl⟩
 ·have c:name L i f=.no (max f i):=by unfold name;rw [if_neg v]
  have H:¬((tk L i).kind:Int)=1:=by omega
  simp [H,r0];refine (qdB u).mono ?_;rintro _ Y ⟨rfl,b,a⟩;simp;rw [c];exact ⟨i,nv,[],rfl,by simpa using b,(Tn.ext e h.bW).trans a⟩
theorem qCa (h:PSt base B w tv nv L i f xs):Calls Tryz.prog 156 #[.pointer (some ⟨B,0,none⟩)] w (PR aU base B tv nv L xs w (param L i f)):=by
 have R:=h.tl;have V:=h.il;refine qHG fun ρ r0=>?_;simp [quX,r0];refine (qbk h 0 (by decide)).mono ?_;rintro _ w1 ⟨rfl,H⟩;simp;refine qX z53 fun X W hX C U _=>?_;simp;refine jx (B:=X) (by simp) U (by simp [Value.cells,kj]) (by simp [Value.cells,kj]) (by simpa [Value.cells] using qag) fun W2 v u=>?_;simp [Value.cells,kj] at u;obtain ⟨c0,c1,c2⟩:=kT u;have c:qc w W2:=v.ext (H.trans' C) (by have:=H.size;omega);have o:=h.ext c;have J:(⟨#[116]⟩:ByteArray)=qb [116]:=rfl;simp [c0,c1,r0];unfold param;by_cases n:(tk L i).kind=1/\(tk L i).text=[116]
 ·have z:=Qw n.1 (by decide);have Z:IntKind.i64.wrap ((i:Int)+1)=((i+1:Nat):Int):=by rw [qH (by omega)];push_cast;rfl
  rw [if_pos n];simp [n.1,n.2,J,quW,r0,o.blk.cell,Z];refine qW (B:=B) (i:=1) (by simp) o.blk (by simp) (by simp [Value.cells]) (by simp) vp fun W3 E t=>?_;simp at t;have F:Blk W3 B #[tv,.int .i64 ((i+1:Nat):Int),.int .i64 (f:Int),nv] 85:=by simpa using t
  obtain ⟨b,a⟩:=o.move E F z h.fl;simp;exact ⟨_,nv,[],rfl,by simpa using b,rfl,by simp,(Tn.ext c h.bW).trans a,rfl⟩
 ·rw [if_neg n];by_cases I:(tk L i).kind=1
  ·have S:(tk L i).text≠[116]:=fun e=>n ⟨I,e⟩;simp [I,J,jC,S,r0];refine (qdB o).mono ?_;rintro _ Y ⟨rfl,b,a⟩;simp;exact ⟨i,nv,[],rfl,by simpa using b,(Tn.ext c h.bW).trans a⟩
  ·have y:¬((tk L i).kind:Int)=1:=by omega
   simp [y,r0];refine (qdB o).mono ?_;rintro _ Y ⟨rfl,b,a⟩;simp;exact ⟨i,nv,[],rfl,by simpa using b,(Tn.ext c h.bW).trans a⟩
theorem qpb (h:PSt base B w tv nv L i f xs):Calls Tryz.prog 63 #[.pointer (some ⟨B,0,none⟩)] w (PR aU base B tv nv L xs w (fin L i f)):=by
 have t:=h.tl;have u:=h.il;refine qE1 fun ρ r0=>?_;have n:=h.slk;simp [qrA,r0,h.blk.cell,n.is,n.len];intro W2 b;have o:=h.ext b;unfold fin;by_cases a:i<L.length
 ·rw [if_pos a];simp [qjP,a,r0];refine (qdB o).mono ?_;rintro _ v ⟨rfl,e,c⟩;simp;exact ⟨i,nv,[],rfl,by simpa using e,(Tn.ext b h.bW).trans c⟩
 ·rw [if_neg a];simp [qjP,a];exact ⟨_,nv,[],rfl,by simpa using o,rfl,by simp,Tn.ext b h.bW,rfl⟩
theorem qbW:jT Tryz.prog 44 6=true:=by kernel_rfl
theorem qnk:jT Tryz.prog 29 1=true:=by kernel_rfl
theorem qzH:wI Tryz.prog 29=some (44,6):=by kernel_rfl
theorem qBc:ye Tryz.prog 29=some (44,6,88):=by kernel_rfl
theorem qe2 {w:World} {X:Nat} {cs:Array Value} {T:TypeId} {n:Nat} (h:Blk w X cs T) (a:cs.size=n):jd w (.loadN n) (.pointer (some ⟨X,0,none⟩))=some (.agg cs):=by
 rw [qdv,<-a,yD h];rfl
theorem qlo {P:Program} {t e sz bytes:Nat} (H:ye P t=some (e,sz,bytes)) {base:Nat} {w:World} {ρ:qa} {Q:Ks} {d:Option Nat} {ty:TypeId} {K:qa->World->Prop} (c:base<=w.heap.size) {s x:Operand} {sv xv:Value} (F:qe ρ s=sv) (I:qe ρ x=xv) {xs news:List Value}
  (o:Own base e sz w sv xs) (y:Cells w xv sz news) (z:∀u∈news,u.oneCell'=true)
  (n:xs.length+news.length<4611686018427387904) (a:(xs.length+news.length)*bytes<=140737488355328*sz)
  (h:∀b W,Own base e sz W b (xs++news)->w.grownBy W sv.ownBlock->(b.ownBlock=sv.ownBlock\/b.ownBlock=some w.heap.size)->K (qn ρ d b) W):qx P Q d (.call {callee:=.builtin .append,args:=#[s,x],argTypes:=#[t,t]}) ty K ρ w:=by
 obtain ⟨b,W,z,C,E,J⟩:=qe4 (ty:=ty) H o y z n a c;refine jQ (v:=b) (w':=W) ?_ (h b W C E J);simp [execOp,qN,resolve,invoke,builtin,F,I,z]
def qxY (base B:Nat) (w:World) (tv nv:Value) (L:List Tok) (i f:Nat) (xs:List NV) (x:NV):Ending->World->Prop:=fun e w'=>e=.returned (.int .i64 (xs.length:Int))/\∃nv',PSt base B w' tv nv' L i f (xs++[x])/\Tn base B nv nv' w w'
theorem qCA (h:PSt base B w tv nv L i f xs) (x:NV) (hx:Own 0 3 1 w x.kv (x.nd.kids.map encI)) (hn:xs.length<=1000000):Calls Tryz.prog 140 #[.pointer (some ⟨B,0,none⟩),.agg (qk x).toArray] w (qxY base B w tv nv L i f xs x):=by
 refine qIa fun ρ r0 r1=>?_;have hkc:x.kv.cells=#[x.kv]:=vN hx.isl;have hk1:x.kv.oneCell=true:=xS hx.isl;simp [qvx,r0,r1];refine vO fun X W hX hE hb hsz=>?_;simp [r1,Value.cells] at hb;have hS:=h.ext hE;simp;have hXr:nv.ownBlock≠some X:=fun e=>by
  have:=(h.own.blk X e).2;omega
 have hXB:X≠B:=by have:=h.blk.lt;omega
 refine vZ qH9 (fun W'=>Blk W' B #[tv,Value.int .i64 (i:Int),.int .i64 (f:Int),nv] 85/\Blk W' X (qk x).toArray 44) (fun W3 o _=>⟨⟨hS.blk.ext o,hb.ext o⟩, ?_⟩);have H:=hS.ext o;have z:=hb.ext o;have hcB:∀W,Blk W B #[tv,Value.int .i64 (i:Int),.int .i64 (f:Int),nv] 85/\Blk W X (qk x).toArray 44->∀j,W.cell? ⟨B,j,none⟩=#[tv,Value.int .i64 (i:Int),.int .i64 (f:Int),nv][j]? :=fun W h=>h.1.cell;have hcX:∀W,Blk W B #[tv,Value.int .i64 (i:Int),.int .i64 (f:Int),nv] 85/\Blk W X (qk x).toArray 44->jd W (.loadN 6) (.pointer (some ⟨X,0,none⟩))=some (.agg (qk x).toArray):=fun W h=>qe2 h.2 (by simp [qk]);have hSS:Blk W3 B #[tv,Value.int .i64 (i:Int),.int .i64 (f:Int),nv] 85/\Blk W3 X (qk x).toArray 44:=⟨H.blk,z⟩;simp+contextual -implicitDefEqProofs [qvt,hcB,hcX,hSS,r0];refine jV qzH (by decide) (by decide) (by simp [Value.cells,qk]) fun Y W4 hY b Z hsz4=>?_;simp [Value.cells] at Z;have a:=H.ext b;refine ⟨⟨a.blk,z.ext b⟩, ?_⟩;have hnl:=yV xs;have hnd:(qk x).length=6:=rfl;refine qlo qBc (base:=base) (sv:=nv) (xv:=.slice (some ⟨Y,0,none⟩) 1 1) (xs:=jH xs) (news:=qk x) a.bW (by simp) (by simp) a.own (Blk.cells Z (by simp [qk])) ?_ (by omega) (by omega) fun nv2 W5 c t S=>?_
 ·intro u hu;simp only [qk,wh,uI,wm] at hu;rcases hu with rfl|rfl|rfl|rfl|rfl|rfl<;>first|rfl|skip
  have:=hx.isl
  revert this
  cases x.kv<;>simp [Value.oneCell',qu]
 have hBne:B≠X:=Ne.symm hXB;have C:=a.rowNe a.blk.heap (by decide);have F:Blk W5 B #[tv,Value.int .i64 (i:Int),.int .i64 (f:Int),nv] 85:=⟨(t.block B a.blk.lt (fun e=>C e.symm)).trans a.blk.heap⟩;have hX5:Blk W5 X (qk x).toArray 44:=⟨(t.block X (z.ext b).lt (fun e=>hXr e.symm)).trans (z.ext b).heap⟩;refine ⟨⟨F,hX5⟩, ?_⟩;simp [r0];have hv2:(nv2.cells=#[nv2]):=vN c.isl;refine qW (B:=B) (i:=3) (by simp) F (by simp) (by simp [hv2]) (by simpa using xS c.isl) qnk fun W6 E I=>?_;simp at I;have V:Blk W6 B #[tv,.int .i64 (i:Int),.int .i64 (f:Int),nv2] 85:=by simpa using I
 have U:=c.isl;have J:=(L01.jR c).len;have hl2:ql nv2=xs.length+1:=by
  rw [kh,hnl,hnd] at J;omega
 have e1:IntKind.i64.wrap ((ql nv2:Int) - 1)=(xs.length:Int):=by rw [hl2,qH (by omega)];push_cast;omega
 have hT4:Tn base B nv nv2 W4 W6:=by
  refine ⟨(qv1 (v:=nv) t (fun k n=>(a.own.blk k n).1) a.bW).trans (yh E h.bB),fun k n hkB hkr=>?_,fun k n=>?_,.inr (by have h1:=(L01.jR a.own).len;omega)⟩
  ·rw [E.block k hkB];exact t.block k n fun e=>hkr e.symm
  ·rcases S with e|e
   ·exact .inl (e▸n)
   ·rw [e] at n;cases n;exact .inr (j1 _)
 have hT:Tn base B nv nv2 w W6:=(Tn.ext ((hE.trans' o).trans' b) h.bW).trans hT4;have ho6:Own base 44 6 W6 nv2 (jH (xs++[x])):=by
  rw [qpu,show jH [x]=qk x by simp [jH]];refine Own.same c fun k n=>E.block k fun e=>?_;subst e;rcases S with e|e
  ·exact C (e▸n)
  ·rw [e] at n;cases n;have:=a.blk.lt;omega
 simp [qvu,r0,V.cell,U,e1,qxY];refine ⟨nv2,⟨V,h.keep hT h.tok (by decide) (by decide),ho6,fun y R=>?_,h.bB,Nat.le_trans h.bW hT.size,h.tl,h.il,h.fl⟩,hT⟩;rcases uC.1 R with R|R
 ·exact h.keep hT (h.kid y R) (by decide) (by decide)
 ·have:y=x:=by simpa using R
  subst this;exact h.keep hT hx (by decide) (by decide)
end
noncomputable def qrH:IR:=zq [zm 8 0,zm 9 1,za 12 (zI .sub (zL (zv 0)) (zK 1)),zE 13 (.call {callee:=.builtin .min,args:=#[zt 9,zt 12],argTypes:=#[3,3]}) 3,za 4 (zo 2 (zx 3 (zv 8) (zv 13)))] <| .ret
noncomputable def qrI:IR:=zq [za 4 (zK 0),za 7 (zI .eql (zL (zv 0)) (zK 0))] <| .seq (.cond (zv 7) (zq [za 4 (zK 1)] <| .ret) .skip) (qrH)
def qFa:List Nat:=[0,1,4,7,8,9,12,13]
def qE9:C2 57 17 qFa qrI [.tmp 4]:=c2 [] Tryz.func57
noncomputable def qrE:IR:=.reg [za 1 (zl (zv 0)),zc 2 62 #[zt 1] #[83] 3,za 3 (zl (zv 0)),zc 4 63 #[zt 3] #[83] 0]
def qE6:List Nat:=zV 5 []
def qE5:C1 61 5 qE6 qrE []:=c1 [] Tryz.func61
noncomputable def qug:Code:=((Tryz.f17.body).getD .skip)
noncomputable def quf:IR:=.ret
noncomputable def que:IR:=zq [za 40 (zo 3 (zN (zl (zv 6)))),zE 41 (.build 26 #[]) 26,zm 2 40,zw 26 (zt 3) (zt 41)] <| .ret
noncomputable def qud:IR:=zq [za 33 (zo 3 (zN (zl (zv 6)))),zc 34 64 #[zt 33,(.func 65)] #[29,98] 4,za 35 (zn (zv 34))] <| .seq (.cond (zv 35) (zq [zE 36 (.build 26 #[(0,(zO 21)),(1,(zO 1))]) 26,za 2 (.const (.slice none 0 0)),zw 26 (zt 3) (zt 36)] <| .ret) .skip) (que)
noncomputable def quc:IR:=zq [zm 16 4,zE 17 (.build 85 #[(0,(zt 16))]) 85,zE 18 (.box 85 (zt 17)) 83,zA 6 83,zw 83 (zt 6) (zt 18),za 19 (zl (zv 6)),zE 20 (.makeFunc (.func 61) #[] #[zt 6]) 1,zc 21 54 #[zt 19,zt 20] #[83,1] 4,za 22 (zn (zv 21))] <| .seq (.cond (zv 22) (zq [zm 23 4,za 27 (zo 2 (zN (zl (zv 6)))),zc 28 57 #[zt 23,zt 27] #[48,3] 3,zE 29 (.build 26 #[(0,(zO 20)),(1,(zt 28))]) 26,za 2 (.const (.slice none 0 0)),zw 26 (zt 3) (zt 29)] <| .ret) .skip) (qud)
noncomputable def quF:IR:=zq [za 2 (.const (.slice none 0 0)),zA 3 26,zm 8 0,zc 9 53 #[zt 8] #[9] 49,zm 7 9,za 10 (ze 0 (zv 7)),za 11 (ze 1 (zv 7)),zA 5 26,zm 4 10,zw 26 (zt 5) (zt 11),za 14 (zI .neq (zo 0 (zv 5)) (zK 0))] <| .seq (.cond (zv 14) (.seq (.raw (qP qug 3)) (quf)) .skip) (quc)
def quh:List Nat:=zV 42 [1,12,13,24,25,26,30,31,32,37,38,39]
def qG9:C1 17 42 quh quF [.tmp 2,.cellN 3 2]:=c1 [3] Tryz.func17
noncomputable def qub:OT:=zy 15 (zM 2 (zv 5))<|zy 2 (.const (.slice none 0 0))<| .step (zw 26 (zt 3) (zt 15)) false<| .done
theorem qG8:zj Tryz.prog 42 quh 2 (qP qug 3)=some qub:=by kernel_rfl
noncomputable def qrv:IR:=.reg [za 1 (zl (zv 0)),zc 2 72 #[zt 1] #[83] 0,za 3 (zl (zv 0)),zc 4 63 #[zt 3] #[83] 0]
def qEU:List Nat:=zV 5 []
def qET:C1 71 5 qEU qrv []:=c1 [] Tryz.func71
noncomputable def qtz:IR:=zq [zm 19 3,zE 20 (.build 85 #[(0,(zt 19))]) 85,zE 21 (.box 85 (zt 20)) 83,zA 5 83,zw 83 (zt 5) (zt 21),za 22 (zl (zv 5)),zE 23 (.makeFunc (.func 71) #[] #[zt 5]) 1,zc 24 54 #[zt 22,zt 23] #[83,1] 4,zm 25 24,zg 25 true 26 (zv 3),zh 25 true 27 73 #[zt 26] #[48] 9,za 2 (.ite (zv 25) (zS .eql (zv 27) (zv 0)) (zQ false))] <| .ret
noncomputable def qtS:IR:=zq [za 2 (zQ false),zm 7 0,zc 8 53 #[zt 7] #[9] 49,zm 6 8,za 9 (ze 0 (zv 6)),za 10 (ze 1 (zv 6)),zA 4 26,zm 3 9,zw 26 (zt 4) (zt 10),za 18 (.ite (zI .neq (zo 0 (zv 4)) (zK 0)) (zQ true) (zI .gtr (zT (zv 0)) (zK 100)))] <| .seq (.cond (zv 18) (zq [za 2 (zQ false)] <| .ret) .skip) (qtz)
def qGF:List Nat:=zV 28 [1,11,12,13,14,15,16,17]
def qGE:C1 22 31 qGF qtS [.tmp 2]:=c1 [] Tryz.func22
noncomputable def qrd:IR:=zq [za 2 (zQ false),zE 3 (.buildSlice 51 4 #[(0,(zY #[109,111,100])),(1,(zY #[97,110,100])),(2,(zY #[111,114])),(3,(zY #[110,111,116]))]) 51,zm 4 0,zc 5 160 #[zt 3,zt 4] #[51,9] 4,zm 2 5] <| .ret
def qEM:List Nat:=zV 6 [1]
def qEL:C1 75 6 qEM qrd [.tmp 2]:=c1 [] Tryz.func75
noncomputable def qsU:IR:=zq [zm 9 0,zc 10 76 #[zt 9,zY #[95]] #[9,9] 107,zm 8 10,za 11 (ze 0 (zv 8)),za 12 (ze 1 (zv 8)),za 13 (ze 2 (zv 8)),zm 3 11,zm 4 12,zm 5 13,zm 14 3,zc 15 77 #[zt 14] #[9] 4,zm 16 15,zg 16 true 19 (zn (zv 5)),zg 19 false 20 (zv 4),zh 19 false 21 77 #[zt 20] #[9] 4,za 2 (.ite (zv 16) (.ite (zv 19) (zQ true) (zv 21)) (zQ false))] <| .ret
noncomputable def qs8:IR:=zq [za 2 (zQ false),zm 6 0,zc 7 75 #[zt 6] #[9] 4] <| .seq (.cond (zv 7) (zq [za 2 (zQ true)] <| .ret) .skip) (qsU)
def qGa:List Nat:=zV 22 [1,17,18]
def qF9:C1 24 24 qGa qs8 [.tmp 2]:=c1 [] Tryz.func24
section
variable {base B:Nat} {w w':World} {tv nv nv':Value} {L:List Tok} {i f:Nat} {xs:List NV}
def vQ (out:Value) (xs:List NV):Prop:=∀x∈xs,∀k,x.kv.ownBlock=some k->out.ownBlock≠some k
theorem vQ.app {c:Value} {a b:List NV} (e:vQ c a) (n:vQ c b):vQ c (a++b):=fun x o=>by
 rcases uC.1 o with h|h
 ·exact e x h
 ·exact n x h
theorem vQ.old {b:Value} {a:List NV} (h:∀x∈a,∀k,x.kv.ownBlock=some k->k<w.heap.size) (o:wW w b):vQ b a:=fun x n k c e=>by
 have:=h x n k c;have:=o k e;omega
theorem vQ.new {b:Value} {a:List NV} (h:∀x∈a,wW w x.kv) (o:∀k,b.ownBlock=some k->k<w.heap.size):vQ b a:=fun x n k c e=>by
 have:=h x n k c;have:=o k e;omega
theorem PSt.old (h:PSt base B w tv nv L i f xs):∀x∈xs,∀k,x.kv.ownBlock=some k->k<w.heap.size:=fun x b k a=>((h.kid x b).blk k a).2
theorem PSt.grown (h:PSt base B w tv nv L i f xs) {a:Value} {e sz b:Nat} {cs:List Value} (S:Own b e sz w a cs) (t:w.grownBy w' a.ownBlock) (I:vQ a xs) (R:e≠44) (F:e≠85) (H:e≠53):PSt base B w' tv nv L i f xs:=by
 have ne:∀k cur T,T≠e->w.heap[k]? =some (.cells cur T (0,0))->some k≠a.ownBlock:=fun k cur T U c u=>by
  obtain ⟨E,o⟩:=Own.row S u.symm;rw [c] at o;cases o;exact U rfl
 have keep:∀{C z yP:Nat} {v:Value} {ys:List Value},z≠e->Own C z yP w v ys->Own C z yP w' v ys:=fun J n=>Own.same n fun k c=>by
  obtain ⟨cur,o⟩:=Own.row n c;exact t.block k (uq.1 o).1 (ne k cur _ J o)
 refine ⟨⟨(t.block B h.blk.lt (ne B _ 85 (Ne.symm F) h.blk.heap)).trans h.blk.heap⟩,keep (Ne.symm H) h.tok,keep (Ne.symm R) h.own,fun x y=>Own.same (h.kid x y) fun k c=>t.block k ((h.kid x y).blk k c).2 fun e=>I x y k c e.symm,h.bB,Nat.le_trans h.bW t.size,h.tl,h.il,h.fl⟩
theorem Tn.grown (h:Tn base B nv nv' w w') {W:World} {row:Option Nat} (a:w'.grownBy W row) (c:∀k,row=some k->w.heap.size<=k) (u:base<=w.heap.size):Tn base B nv nv' w W:=by
 have o:=h.size;refine ⟨⟨a.os.trans h.below.os,a.tape.trans h.below.tape,a.output.trans h.below.output,Nat.le_trans o a.size,fun k b=>?_⟩,fun k b n t=>?_,h.row,h.gr⟩
 ·exact (a.block k (by omega) fun e=>by have:=c k e.symm;omega).trans (h.below.block k b)
 ·exact (a.block k (by omega) fun e=>by have:=c k e.symm;omega).trans (h.block k b n t)
theorem Tn.extR (h:Tn base B nv nv' w w') {W:World} (b:qc w' W) (e:base<=w.heap.size):Tn base B nv nv' w W:=
 ⟨h.below.trans (b.mono (Nat.le_trans e h.size)),fun k a c n=>(b.block k (Jy a h.size)).trans (h.block k a c n),h.row,h.gr⟩
end
structure Pu (α:Type) where
 nodes:Nat->α->List Nd
 ev:Nat->α->Value
 μ:α->Nat
 len:∀b a,(nodes b a).length=μ a
section
variable {α:Type} (p:Pu α)
def Pu.ans:Ans α:=⟨p.nodes,fun _ _ b a v=>v=p.ev b a⟩
def Pu.nodesL:Nat->List α->List Nd
 |_,[]=>[]
 |b,a::ls=>p.nodes b a++Pu.nodesL (b+p.μ a) ls
def Pu.evL:Nat->List α->List Value
 |_,[]=>[]
 |b,a::ls=>(p.ev b a).cells.toList++Pu.evL (b+p.μ a) ls
def Pu.ansL (e sz:Nat):Ans (List α):=⟨p.nodesL,fun w w' b l v=>Own w.heap.size e sz w' v (p.evL b l)⟩
theorem Pu.nodesL_snoc (a:α):∀(l:List α) (b:Nat),p.nodesL b (l++[a])=p.nodesL b l++p.nodes (b+(p.nodesL b l).length) a
 |[],b=>by simp [Pu.nodesL]
 |x::l,b=>by
  simp only [List.cons_append,Pu.nodesL,Pu.nodesL_snoc a l,kh,p.len,uB,uN]
theorem Pu.evL_len {sz:Nat} (h:∀b a,(p.ev b a).cells.size=sz):∀(l:List α) (b:Nat),(p.evL b l).length=l.length*sz
 |[],b=>by simp [Pu.evL]
 |x::l,b=>by simp only [Pu.evL,kh,Pu.evL_len h l,List.length_cons,Array.length_toList,h,uX];omega
theorem Pu.evL_snoc (a:α):∀(l:List α) (b:Nat),p.evL b (l++[a])=p.evL b l++(p.ev (b+(p.nodesL b l).length) a).cells.toList
 |[],b=>by simp [Pu.evL,Pu.nodesL]
 |x::l,b=>by
  simp only [List.cons_append,Pu.evL,Pu.evL_snoc a l,Pu.nodesL,kh,p.len,uB,uN]
end
def Bx (B:Nat) (bx:Option Nat) (w:World):Prop:=∀b,bx=some b->Blk w b #[.pointer (some ⟨B,0,none⟩)] 83
def Bx.keep {base B:Nat} {w w':World} {tv nv nv':Value} {L:List Tok} {i f:Nat} {xs:List NV} {a:Option Nat} (h:Bx B a w) (e:PSt base B w tv nv L i f xs) (n:Tn base B nv nv' w w'):Bx B a w':=fun b c=>e.var n (h b c) (by decide) (by decide)
def Bx.ext {B:Nat} {w w':World} {a:Option Nat} (h:Bx B a w) (e:qc w w'):Bx B a w':=fun b c=>(h b c).ext e
def Bx.grown {B:Nat} {w w':World} {o:Option Nat} (h:Bx B o w) {a:Value} {e sz b:Nat} {cs:List Value} (z:Own b e sz w a cs) (t:w.grownBy w' a.ownBlock) (y:e≠83):Bx B o w':=fun b u=>by
 have c:=h b u;refine ⟨(t.block b c.lt fun v=>?_).trans c.heap⟩;obtain ⟨cur,n⟩:=Own.row z v.symm;rw [c.heap] at n;cases n;exact y rfl
structure FnM {α:Type} (A:Ans α) (bx:Option Nat) (B:Nat) (L:List Tok) (fv:Value) (m:M α):Prop where
 fn:∃F fs caps,fv=.func (.func F) fs caps/\qh Tryz.prog F=true/\∀base w tv nv i f xs,PSt base B w tv nv L i f xs->Bx B bx w->xs.length<=2*i+2->m i f≠ .oof->Calls Tryz.prog F (fs++caps) w (PR A base B tv nv L xs w (m i f))
def atOf (B:Nat) (w:World):Nat:=match w.cell? ⟨B,1,none⟩ with|some (.int _ n)=>n.toNat|_=>0
def PSt.atOf {base B:Nat} {w:World} {tv nv:Value} {L:List Tok} {i f:Nat} {xs:List NV} (h:PSt base B w tv nv L i f xs):atOf B w=i:=by
 unfold L02.atOf;rw [h.blk.cell];rfl
theorem qiG:ye Tryz.prog 51=some (9,1,16):=by kernel_rfl
theorem qh9:wI Tryz.prog 51=some (9,1):=by kernel_rfl
@[simp] theorem qOG:qh Tryz.prog 154=true:=by kernel_rfl
theorem qo5 {α:Type} {p:Pu α} {bx:Option Nat} {base B:Nat} {w:World} {tv nv fv:Value} {L:List Tok} {i f:Nat} {xs:List NV} {m:M α} (hf:FnM p.ans bx B L fv m) (hu:Up m) (hz:Sz p.μ 0 m)
  (hc:∀b a,(p.ev b a).cells.size=1/\∀u∈(p.ev b a).cells.toList,u.oneCell'=true) (n:Nat) (h:PSt base B w tv nv L i f xs) (hEw:Bx B bx w) (hn:xs.length<=2*i+2) (ho:listed L n m i f≠ .oof):
  Calls Tryz.prog 154 #[.pointer (some ⟨B,0,none⟩),fv] w (PR (p.ansL 9 1) base B tv nv L xs w (listed L n m i f)):=by
 obtain ⟨F,fs,caps,rfl,hcb,U⟩:=hf.fn;generalize hr:listed L n m i f=r at ho;refine qHK fun ρ r0 r1=>?_;simp [qu2,r0,r1];refine kL (f:=F) hcb (fs:=fs) (caps:=caps) (by simp) ?_;simp;refine qbZ (ys:=[]) (xs:=xs) (r:=r) (A':=p.ansL 9 1) (nv:=nv) (w:=w) (k:=fun x=>bnd (more L m n) fun xs=>ret (x::xs)) (fun hno=>by simpa using U base w tv nv i f xs h hEw hn hno) (Tn.refl _ _ _ _) hr ho (fun c w' hp=>by simpa using hp) ?_;intro a j g v nv2 zs w2 hma o C V E S hv I;simp only [uy,List.nil_append] at o C hv;change v=p.ev xs.length a at hv;change zs.map (·.nd)=p.nodes xs.length a at C;subst hv;have H:=hc xs.length a;simp;refine jV qh9 (by decide) (by decide) (by simpa using H.1) fun X W3 hX hE3 hb3 hsz3=>?_;simp at hb3;have R:=o.ext hE3;have J:=(hEw.keep h E).ext hE3;have hzz:=hz _ _ _ _ _ hma;have hzl:zs.length=p.μ a:=by rw [<-p.len xs.length a,<-C,uh]
 simp;refine Q4 (fun ρ' w'=>∃i' f' nv' ys z ls n',ρ' 0=.pointer (some ⟨B,0,none⟩)/\ρ' 1=.func (.func F) fs caps/\ρ' 5=z/\PSt base B w' tv nv' L i' f' (xs++ys)/\ys.map (·.nd)=p.nodesL xs.length ls/\(∀y∈ys,wW w y.kv)/\Tn base B nv nv' w w'/\Bx B bx w'/\
   Own w.heap.size 9 1 w' z (p.evL xs.length ls)/\vQ z (xs++ys)/\(xs++ys).length<=2*i'+2/\ls.length<=i'+1/\(more L m n' i' f').andThen (fun bs j g=> .ok (ls++bs) j g)=r) (fun _ w'=>L.length - atOf B w')
  ⟨j,g,nv2,zs,.slice (some ⟨X,0,none⟩) 1 1,[a],n,by simp [r0],by simp [r1],by simp,R,by simpa [Pu.nodesL] using C,V,S.extR hE3 h.bW,J, ?_, ?_,by simp;omega,by simp, ?_⟩ ?_
 ·have:=Own.lit (base:=w.heap.size) (sz:=1) (n:=1) (cs:=(p.ev xs.length a).cells.toList) (by simpa using hb3) (by simp [H.1]) (by have:=E.size;omega) (by decide);simpa [Pu.evL] using this
 ·refine vQ.old (w:=w2) o.old ?_;intro k I;cases I;exact hX
 ·rw [<-I];simp only [bnd];cases more L m n j g<;>rfl
 clear I o C V E S hb3 R J hX hE3 hma hzz hzl hsz3;rintro ρ' w' ⟨i',f',nv',ys,z,ls,n',r0,r1,r5,hS,C,V,hT,hEw',hO,hsep,hcnt,hll,hsp⟩;have hat:=hS.atOf;simp [quZ,r0];refine (qfp hS [44]).mono ?_;rintro _ w2 ⟨rfl,o,E⟩;have hEw2:=hEw'.keep hS E;have hO2:=hS.keep E hO (by decide) (by decide);cases n' with
 |zero=>exact absurd hsp.symm ho
 |succ n'=>
  have t:(qm L [44] (listed L n' m) (ret []) i' f').andThen (fun bs j g=> .ok (ls++bs) j g)=r:=hsp;unfold qm at t;cases hc2:qo L i' [[44]] with
  |false=>
   rw [hc2] at t o;simp only [uf,km,ret,Rs.andThen,uy] at t o;simp [qu0,r5];rw [<-t];exact ⟨z,nv',ys,rfl,o,C,V,hT.trans E,hO2⟩
  |true=>
   rw [hc2] at t o;have hlt:=wQ hc2;simp only [kk] at t o;have hsep2:vQ z (xs++ys):=hsep;have hout:∀k,z.ownBlock=some k->k<w2.heap.size:=fun k I=>(hO2.blk k I).2;simp [qu1,r1,r5];refine kL (f:=F) hcb (fs:=fs) (caps:=caps) (by simp [r1]) ?_;simp;have hb:bnd m (fun x=>fun i f=>(more L m n' i f).andThen (fun bs j g=> .ok ((ls++[x])++bs) j g)) (i'+1) f'=r:=by
    rw [<-t];simp only [listed,bnd];cases m (i'+1) f' with
    |oof=>rfl
    |no g=>rfl
    |ok a j g=>
     have e2:(bnd (more L m n') fun xs=>ret (a::xs)) j g=(more L m n' j g).andThen fun bs j g=> .ok (a::bs) j g:=rfl;simp only [Rs.andThen];rw [e2];cases more L m n' j g<;>simp [Rs.andThen]
   refine qbZ (ys:=ys) (xs:=xs) (r:=r) (A':=p.ansL 9 1) (nv:=nv) (w:=w) (fun hno=>by simpa using U base w2 tv nv' (i'+1) f' (xs++ys) o hEw2 (by omega) hno) (hT.trans E) hb ho (fun c w' hp=>by simpa using hp) ?_;intro a j g v nv3 zs w3 hma R Z hfr3 hT3 S hv I;change v=p.ev (xs++ys).length a at hv;change zs.map (·.nd)=p.nodes (xs++ys).length a at Z;subst hv;have H:=hc (xs++ys).length a;have hO3:=o.keep hT3 hO2 (by decide) (by decide);have J:=hEw2.keep o hT3;have hzz:=hz _ _ _ _ _ hma;have hzl:zs.length=p.μ a:=by rw [<-p.len (xs++ys).length a,<-Z,uh]
   have Y:vQ z (xs++(ys++zs)):=by rw [<-uB];exact hsep2.app (vQ.new hfr3 hout)
   have hyl:ys.length=(p.nodesL xs.length ls).length:=by rw [<-C,uh]
   have hil3:=R.il;have htl3:=R.tl;have hlen:(p.evL xs.length ls).length=(ql z)*1:=(L01.jR hO3).len;simp;refine jV qh9 (by decide) (by decide) (by simpa using H.1) fun X W4 hX W hb4 hsz4=>?_;simp at hb4;have hS4:=R.ext W;have hO4:=hO3.ext W;have hsz4':w.heap.size<=W4.heap.size:=Nat.le_trans S.size W.size;have hcl:(p.ev (xs++ys).length a).cells.toList.length=1:=by rw [Array.length_toList];exact H.1
   simp;refine qlo qiG (base:=w.heap.size) (sv:=z) (xv:=.slice (some ⟨X,0,none⟩) 1 1) (xs:=p.evL xs.length ls) (news:=(p.ev (xs++ys).length a).cells.toList) hsz4' (by simp [r5]) (by simp) hO4 (Blk.cells (by simpa using hb4) (by simpa using H.1)) H.2 ?_ ?_ fun out' W5 hO5 hg5 hr5=>?_
   ·rw [p.evL_len (fun b a=>(hc b a).1),hcl];omega
   ·rw [p.evL_len (fun b a=>(hc b a).1),hcl];omega
   have hS5:=hS4.grown hO4 hg5 Y (by decide) (by decide) (by decide);have hEw5:=(J.ext W).grown hO4 hg5 (by decide);have hT5:Tn base B nv nv3 w W5:=(S.extR W h.bW).grown hg5 (fun k I=>(hO.blk k I).1) h.bW;have hsep5:vQ out' (xs++(ys++zs)):=by
    rcases hr5 with e|e
    ·intro x hx k I;rw [e];exact Y x hx k I
    ·refine vQ.old (w:=W4) hS4.old ?_;intro k I;rw [e] at I;cases I;exact j1 _
   simp;refine ⟨⟨r0,r1,j,g,nv3,ys++zs,hS5,ls++[a], ?_, ?_,hT5,hEw5, ?_,hsep5, ?_, ?_,n',I⟩, ?_⟩
   ·rw [uP,C,Z,Pu.nodesL_snoc,<-hyl,kh]
   ·intro y hy;rcases uC.1 hy with hy|hy
    ·exact V y hy
    ·exact (hfr3 y hy).mono (hT.trans E).size
   ·rw [Pu.evL_snoc,<-hyl,<-kh];exact hO5
   ·simp only [kh] at hcnt⊢;omega
   ·simp;omega
   ·rw [hS5.atOf,hat];omega
theorem qb6:ye Tryz.prog 40=some (3,1,8):=by kernel_rfl
theorem QU:wI Tryz.prog 40=some (3,1):=by kernel_rfl
@[simp] theorem qNV:qh Tryz.prog 364=true:=by kernel_rfl
theorem qCi {α:Type} {p:Pu α} {bx:Option Nat} {base B:Nat} {w:World} {tv nv fv:Value} {L:List Tok} {i f:Nat} {xs:List NV} {m:M α} (hf:FnM p.ans bx B L fv m) (hu:Up m) (hz:Sz p.μ 0 m)
  (hc:∀b a,(p.ev b a).cells.size=1/\∀u∈(p.ev b a).cells.toList,u.oneCell'=true) (n:Nat) (h:PSt base B w tv nv L i f xs) (hEw:Bx B bx w) (hn:xs.length<=2*i+2) (ho:listed L n m i f≠ .oof):
  Calls Tryz.prog 364 #[.pointer (some ⟨B,0,none⟩),fv] w (PR (p.ansL 3 1) base B tv nv L xs w (listed L n m i f)):=by
 obtain ⟨F,fs,caps,rfl,hcb,U⟩:=hf.fn;generalize hr:listed L n m i f=r at ho;refine qFg fun ρ r0 r1=>?_;simp [qrX,r0,r1];refine kL (f:=F) hcb (fs:=fs) (caps:=caps) (by simp) ?_;simp;refine qbZ (ys:=[]) (xs:=xs) (r:=r) (A':=p.ansL 3 1) (nv:=nv) (w:=w) (k:=fun x=>bnd (more L m n) fun xs=>ret (x::xs)) (fun hno=>by simpa using U base w tv nv i f xs h hEw hn hno) (Tn.refl _ _ _ _) hr ho (fun c w' hp=>by simpa using hp) ?_;intro a j g v nv2 zs w2 hma o C V E S hv I;simp only [uy,List.nil_append] at o C hv;change v=p.ev xs.length a at hv;change zs.map (·.nd)=p.nodes xs.length a at C;subst hv;have H:=hc xs.length a;simp;refine jV QU (by decide) (by decide) (by simpa using H.1) fun X W3 hX hE3 hb3 hsz3=>?_;simp at hb3;have R:=o.ext hE3;have J:=(hEw.keep h E).ext hE3;have hzz:=hz _ _ _ _ _ hma;have hzl:zs.length=p.μ a:=by rw [<-p.len xs.length a,<-C,uh]
 simp;refine Q4 (fun ρ' w'=>∃i' f' nv' ys z ls n',ρ' 0=.pointer (some ⟨B,0,none⟩)/\ρ' 1=.func (.func F) fs caps/\ρ' 5=z/\PSt base B w' tv nv' L i' f' (xs++ys)/\ys.map (·.nd)=p.nodesL xs.length ls/\(∀y∈ys,wW w y.kv)/\Tn base B nv nv' w w'/\Bx B bx w'/\
   Own w.heap.size 3 1 w' z (p.evL xs.length ls)/\vQ z (xs++ys)/\(xs++ys).length<=2*i'+2/\ls.length<=i'+1/\(more L m n' i' f').andThen (fun bs j g=> .ok (ls++bs) j g)=r) (fun _ w'=>L.length - atOf B w')
  ⟨j,g,nv2,zs,.slice (some ⟨X,0,none⟩) 1 1,[a],n,by simp [r0],by simp [r1],by simp,R,by simpa [Pu.nodesL] using C,V,S.extR hE3 h.bW,J, ?_, ?_,by simp;omega,by simp, ?_⟩ ?_
 ·have:=Own.lit (base:=w.heap.size) (sz:=1) (n:=1) (cs:=(p.ev xs.length a).cells.toList) (by simpa using hb3) (by simp [H.1]) (by have:=E.size;omega) (by decide);simpa [Pu.evL] using this
 ·refine vQ.old (w:=w2) o.old ?_;intro k I;cases I;exact hX
 ·rw [<-I];simp only [bnd];cases more L m n j g<;>rfl
 clear I o C V E S hb3 R J hX hE3 hma hzz hzl hsz3;rintro ρ' w' ⟨i',f',nv',ys,z,ls,n',r0,r1,r5,hS,C,V,hT,hEw',hO,hsep,hcnt,hll,hsp⟩;have hat:=hS.atOf;simp [qrU,r0];refine (qfp hS [44]).mono ?_;rintro _ w2 ⟨rfl,o,E⟩;have hEw2:=hEw'.keep hS E;have hO2:=hS.keep E hO (by decide) (by decide);cases n' with
 |zero=>exact absurd hsp.symm ho
 |succ n'=>
  have t:(qm L [44] (listed L n' m) (ret []) i' f').andThen (fun bs j g=> .ok (ls++bs) j g)=r:=hsp;unfold qm at t;cases hc2:qo L i' [[44]] with
  |false=>
   rw [hc2] at t o;simp only [uf,km,ret,Rs.andThen,uy] at t o;simp [qrV,r5];rw [<-t];exact ⟨z,nv',ys,rfl,o,C,V,hT.trans E,hO2⟩
  |true=>
   rw [hc2] at t o;have hlt:=wQ hc2;simp only [kk] at t o;have hsep2:vQ z (xs++ys):=hsep;have hout:∀k,z.ownBlock=some k->k<w2.heap.size:=fun k I=>(hO2.blk k I).2;simp [qrW,r1,r5];refine kL (f:=F) hcb (fs:=fs) (caps:=caps) (by simp [r1]) ?_;simp;have hb:bnd m (fun x=>fun i f=>(more L m n' i f).andThen (fun bs j g=> .ok ((ls++[x])++bs) j g)) (i'+1) f'=r:=by
    rw [<-t];simp only [listed,bnd];cases m (i'+1) f' with
    |oof=>rfl
    |no g=>rfl
    |ok a j g=>
     have e2:(bnd (more L m n') fun xs=>ret (a::xs)) j g=(more L m n' j g).andThen fun bs j g=> .ok (a::bs) j g:=rfl;simp only [Rs.andThen];rw [e2];cases more L m n' j g<;>simp [Rs.andThen]
   refine qbZ (ys:=ys) (xs:=xs) (r:=r) (A':=p.ansL 3 1) (nv:=nv) (w:=w) (fun hno=>by simpa using U base w2 tv nv' (i'+1) f' (xs++ys) o hEw2 (by omega) hno) (hT.trans E) hb ho (fun c w' hp=>by simpa using hp) ?_;intro a j g v nv3 zs w3 hma R Z hfr3 hT3 S hv I;change v=p.ev (xs++ys).length a at hv;change zs.map (·.nd)=p.nodes (xs++ys).length a at Z;subst hv;have H:=hc (xs++ys).length a;have hO3:=o.keep hT3 hO2 (by decide) (by decide);have J:=hEw2.keep o hT3;have hzz:=hz _ _ _ _ _ hma;have hzl:zs.length=p.μ a:=by rw [<-p.len (xs++ys).length a,<-Z,uh]
   have Y:vQ z (xs++(ys++zs)):=by rw [<-uB];exact hsep2.app (vQ.new hfr3 hout)
   have hyl:ys.length=(p.nodesL xs.length ls).length:=by rw [<-C,uh]
   have hil3:=R.il;have htl3:=R.tl;have hlen:(p.evL xs.length ls).length=(ql z)*1:=(L01.jR hO3).len;simp;refine jV QU (by decide) (by decide) (by simpa using H.1) fun X W4 hX W hb4 hsz4=>?_;simp at hb4;have hS4:=R.ext W;have hO4:=hO3.ext W;have hsz4':w.heap.size<=W4.heap.size:=Nat.le_trans S.size W.size;have hcl:(p.ev (xs++ys).length a).cells.toList.length=1:=by rw [Array.length_toList];exact H.1
   simp;refine qlo qb6 (base:=w.heap.size) (sv:=z) (xv:=.slice (some ⟨X,0,none⟩) 1 1) (xs:=p.evL xs.length ls) (news:=(p.ev (xs++ys).length a).cells.toList) hsz4' (by simp [r5]) (by simp) hO4 (Blk.cells (by simpa using hb4) (by simpa using H.1)) H.2 ?_ ?_ fun out' W5 hO5 hg5 hr5=>?_
   ·rw [p.evL_len (fun b a=>(hc b a).1),hcl];omega
   ·rw [p.evL_len (fun b a=>(hc b a).1),hcl];omega
   have hS5:=hS4.grown hO4 hg5 Y (by decide) (by decide) (by decide);have hEw5:=(J.ext W).grown hO4 hg5 (by decide);have hT5:Tn base B nv nv3 w W5:=(S.extR W h.bW).grown hg5 (fun k I=>(hO.blk k I).1) h.bW;have hsep5:vQ out' (xs++(ys++zs)):=by
    rcases hr5 with e|e
    ·intro x hx k I;rw [e];exact Y x hx k I
    ·refine vQ.old (w:=W4) hS4.old ?_;intro k I;rw [e] at I;cases I;exact j1 _
   simp;refine ⟨⟨r0,r1,j,g,nv3,ys++zs,hS5,ls++[a], ?_, ?_,hT5,hEw5, ?_,hsep5, ?_, ?_,n',I⟩, ?_⟩
   ·rw [uP,C,Z,Pu.nodesL_snoc,<-hyl,kh]
   ·intro y hy;rcases uC.1 hy with hy|hy
    ·exact V y hy
    ·exact (hfr3 y hy).mono (hT.trans E).size
   ·rw [Pu.evL_snoc,<-hyl,<-kh];exact hO5
   ·simp only [kh] at hcnt⊢;omega
   ·simp;omega
   ·rw [hS5.atOf,hat];omega
section
variable {α β:Type} {A:Ans α} {A':Ans β} {L:List Tok} {m:M α} {k:α->M β} {r:Rs β} {base B:Nat} {w w1:World} {tv nv nv1:Value} {i f:Nat} {xs zs:List NV} {K:qa->World->Prop} {Q:Ks} {ρ:qa} {d:Option Nat}
theorem yc (E:∀b a,A.nodes b a=[]) {F:FuncId} {args:Array Value} (I:∃ys,zs=xs++ys) (R:m i f≠ .oof->Calls Tryz.prog F args w1 (PR A base B tv nv1 L zs w1 (m i f))) (S:Tn base B nv nv1 w w1) (C:bnd m k i f=r) (J:r≠ .oof)
  (hpn:∀c w',PR A' base B tv nv L xs w r (.panicked c) w'->Q.pn ρ c w')
  (h:∀a j g v nv2 w2,m i f=.ok a j g->PSt base B w2 tv nv2 L j g zs->Tn base B nv1 nv2 w1 w2->Tn base B nv nv2 w w2->A.val w1 w2 zs.length a v->k a j g=r->K (qn ρ d v) w2):
  Calls Tryz.prog F args w1 (zD Q d K ρ):=by
 obtain ⟨ys,rfl⟩:=I;refine qbZ (xs:=xs) (ys:=ys) (r:=r) (A':=A') R S C J hpn ?_;intro a j g v nv2 y w2 o u e _ t n z H;rw [E] at e;obtain rfl:y=[]:=by simpa using e
 simp only [uy] at u;exact h a j g v nv2 w2 o u t n z H
theorem Qk {s:Bs} {x y:M β} (u:∃ys,zs=xs++ys) (t:PSt base B w1 tv nv1 L i f zs) (h:Tn base B nv nv1 w w1) (c:qm L s x y i f=r)
  (n:∀w2,qo L i [s]=true->PSt base B w2 tv nv1 L (i+1) f zs->Tn base B nv1 nv1 w1 w2->Tn base B nv nv1 w w2->x (i+1) f=r->K (qn ρ d (.bool true)) w2)
  (o:∀w2,qo L i [s]=false->PSt base B w2 tv nv1 L i f zs->Tn base B nv1 nv1 w1 w2->Tn base B nv nv1 w w2->y i f=r->K (qn ρ d (.bool false)) w2):
  Calls Tryz.prog 117 #[.pointer (some ⟨B,0,none⟩),.string (qb s)] w1 (zD Q d K ρ):=by
 refine (qfp t s).mono ?_;rintro _ w2 ⟨rfl,a,b⟩;rw [qed];unfold qm at c;cases e:qo L i [s] with
 |true=>
  rw [e] at c a;simp only [kk] at c a;exact n w2 e a b (h.trans b) c
 |false=>
  rw [e] at c a;simp only [uf,km] at c a;exact o w2 e a b (h.trans b) c
theorem Qv {ty:TypeId} (e:PSt base B w1 tv nv1 L i f zs) (n:Tn base B nv nv1 w w1) (c:base<=w.heap.size) (s:Bs) (h:∀v w2,qc w1 w2->PSt base B w2 tv nv1 L i f zs->Tn base B nv nv1 w w2->Own 0 9 1 w2 v ([s].map qi)->K (qn ρ d v) w2):
  qx Tryz.prog Q d (.buildSlice 51 1 #[(0,.const (.string ⟨s.toArray⟩))]) ty K ρ w1:=by
 refine jV yQ (by decide) (by simp) (by simp [Value.cells]) fun X W o b a _=>?_;simp [Value.cells] at a;exact h _ W b (e.ext b) (n.extR b c) (Own.lit (sz:=1) (cs:=[qi s]) (by simpa [qi,qb] using a) (by simp) (uz _) (by decide))
theorem Ql {ss:List Bs} {k:Unit->M β} {v:Value} (C:∃ys,zs=xs++ys) (u:PSt base B w1 tv nv1 L i f zs) (a:Own 0 9 1 w1 v (ss.map qi)) (n:ss.length<4611686018427387904) (F:Tn base B nv nv1 w w1) (y:bnd (needs L ss) k i f=r) (E:r≠ .oof)
  (hpn:∀c w',PR A' base B tv nv L xs w r (.panicked c) w'->Q.pn ρ c w')
  (h:∀j g nv2 w2,needs L ss i f=.ok () j g->PSt base B w2 tv nv2 L j g zs->Tn base B nv1 nv2 w1 w2->Tn base B nv nv2 w w2->k () j g=r->K (qn ρ d (.tuple #[])) w2):
  Calls Tryz.prog 153 #[.pointer (some ⟨B,0,none⟩),v] w1 (zD Q d K ρ):=
 yc (A:=aU) (A':=A') (fun _ _=>rfl) C (fun _=>qCf u a n) F y E hpn fun _ j g v nv2 w2 e o t b a z=>by
  change v=_ at a;subst a;exact h j g nv2 w2 e o t b z
end
section
variable {L:List Tok} {base B:Nat} {w w':World} {tv nv nv':Value} {i f:Nat} {xs:List NV}
theorem Ja {r:Rs Unit} (c:PSt base B w' tv nv' L i f xs) (b:Tn base B nv nv' w w') (a:ret () i f=r):PR aU base B tv nv L xs w r (.returned (.tuple #[])) w':=by
 rw [<-a];exact ⟨_,nv',[],rfl,by simpa using c,rfl,by simp,b,rfl⟩
theorem qcy {r:Rs Bs} {s:Bs} (a:PSt base B w' tv nv' L i f xs) (c:Tn base B nv nv' w w') (b:ret s i f=r):PR aS base B tv nv L xs w r (.returned (.string (qb s))) w':=by
 rw [<-b];exact ⟨_,nv',[],rfl,by simpa using a,rfl,by simp,c,rfl⟩
theorem vq (xs:List NV):∃ys,xs=xs++ys:=⟨[],by simp⟩
end
def pS:Pu Bs:=⟨fun _ _=>[],fun _ s=> .string (qb s),fun _=>0,fun _ _=>rfl⟩
@[simp] theorem qNS:qh Tryz.prog 72=true:=by kernel_rfl
@[simp] theorem qOF:qh Tryz.prog 156=true:=by kernel_rfl
theorem qB9 {L:List Tok} {k:M Unit} (W:Mt aU L 72 me k) (hu:Up k):Mt aS L 155 me (zi L k):=by
 intro base B w tv nv i f xs J hn a;generalize b:zi L k i f=r at a;have U:=J.bW;refine qHI fun ρ r0=>?_;simp [quY,r0];refine yc (A:=aS) (A':=aS) (nv:=nv) (w:=w) (fun _ _=>rfl) (vq xs) (fun _=>qca J) (Tn.refl _ _ _ _) b a (fun c w' h=>by simpa using h) ?_;intro s j g v nv2 w2 E C hT2 e hv b;simp [r0];refine Qv C e U [58] fun v2 w3 hE3 y n I=>?_;simp;refine Ql (A':=aS) (vq xs) y I (by simp) n b a (fun c w' h=>by simpa using h) ?_;intro j2 R F w4 z H V t b;simp [r0];have hj:=((vo _).ok z).1;have aa:=(wB.ok E).1;refine yc (A:=aU) (A':=aS) (nv:=nv) (w:=w) (fun _ _=>rfl) (vq xs) (fun a=>W base B w4 tv F j2 R xs H (by omega) a) t b a (fun c w' h=>by simpa using h) ?_;intro _ j5 g5 v5 S w5 _ u Y o Z b;simp;exact qcy (s:=[]) u o b
def qv4 {L:List Tok} {k:M Unit} (b:Mt aU L 72 me k) (h:Up k) (B:Nat):FnM pS.ans none B L (.func (.func 155) #[.pointer (some ⟨B,0,none⟩)] #[]) (zi L k):=
 ⟨155,_,_,rfl,by kernel_rfl,fun base w tv nv i f xs c _ e a=>qB9 b h base B w tv nv i f xs c e a⟩
def qne {L:List Tok} {k:M Unit} (a:Up k):Sz pS.μ 0 (zi L k):=qnb (qcX a)
def qpg (b:Nat) (s:Bs):(pS.ev b s).cells.size=1/\∀u∈(pS.ev b s).cells.toList,u.oneCell'=true:=⟨rfl,by simp [pS,Value.cells,Value.oneCell']⟩
def qjb:∀(b:Nat) (l:List Bs),(pS.ansL 9 1).nodes b l=[]
 |_,[]=>rfl
 |b,_::l=>qjb b l
theorem qi0 {L:List Tok}:∀n,Mt aU L 72 me (kind L n)
 |0=>fun _ _ _ _ _ _ _ _ _ _ h=>absurd rfl h
 |n+1=>by
  have ih:=qi0 (L:=L) n;intro base B w tv nv i f xs hS hn o;generalize e:kind L (n+1) i f=r at o;have hb:=hS.bW;refine qER fun ρ r0=>?_;simp [qru,r0];refine Qk (s:=[105,110,116]) (w:=w) (nv:=nv) (xs:=xs) (vq xs) hS (Tn.refl _ _ _ _) e (fun w1 S F W u e=>?_) (fun w1 S F W u e=>?_)
  ·simp;exact Ja F u e
  simp [r0];refine Qk (s:=[98,111,111,108]) (w:=w) (nv:=nv) (xs:=xs) (vq xs) F u e (fun w1 S F W u e=>?_) (fun w1 S F W u e=>?_)
  ·simp;exact Ja F u e
  simp [r0];refine Qk (s:=[110,117,108,108]) (w:=w) (nv:=nv) (xs:=xs) (vq xs) F u e (fun w1 S F W u e=>?_) (fun w1 S F W u e=>?_)
  ·simp;exact Ja F u e
  simp [r0];refine Qk (s:=[97,114,114,97,121]) (w:=w) (nv:=nv) (xs:=xs) (vq xs) F u e (fun w2 S ah hT2 Z e=>?_) (fun w2 S ah hT2 Z e=>?_)
  ·simp [r0];refine Qv ah Z hb [91] fun v3 w3 hE3 y t hv3=>?_;simp;refine Ql (A':=aU) (vq xs) y hv3 (by simp) t e o (fun c w' z=>by simpa using z) ?_;intro j g nv4 w4 ad V hT4 C e;have hj:=((vo _).ok ad).1;simp [r0];refine yc (A:=aU) (A':=aU) (nv:=nv) (w:=w) (fun _ _=>rfl) (vq xs) (fun o=>ih base B w4 tv nv4 j g xs V (by omega) o) C e o (fun c w' z=>by simpa using z) ?_;intro _ j5 g5 v5 nv5 w5 hk5 E ac v hv5 e;simp [r0];refine Qv E v hb [93] fun v6 w6 hE6 U I ae=>?_;simp;refine Ql (A':=aU) (k:=ret) (vq xs) U ae (by simp) I (by rw [yR];exact e) o (fun c w' z=>by simpa using z) ?_;intro j7 g7 nv7 w7 hne7 R hT7 H e;simp;exact Ja R H e
  simp [r0];refine Qk (s:=[114,101,99,111,114,100]) (w:=w) (nv:=nv) (xs:=xs) (vq xs) ah Z e (fun w3 S y Y t e=>?_) (fun w3 S y Y t e=>?_)
  ·simp [r0];refine Qv y t hb [91] fun v4 w4 hE4 V C af=>?_;simp;refine Ql (A':=aU) (vq xs) V af (by simp) C e o (fun c w' z=>by simpa using z) ?_;intro j g nv5 w5 ad E ac v e;have hj:=((vo _).ok ad).1;simp [r0];refine yc (A:=pS.ansL 9 1) (A':=aU) (m:=listed L n (zi L (kind L n))) (nv:=nv) (w:=w) (fun _ a=>qjb _ a) (vq xs) (fun o=>qo5 (qv4 ih (Qg n) B) (qcX (Qg n)) (qne (Qg n)) qpg n E (fun b h=>by cases h) (by omega) o) v e o (fun c w' z=>by simpa using z) ?_;intro _ j6 g6 v6 nv6 w6 hk6 U hT6 I ae e;simp [r0];refine Qv U I hb [93] fun v7 w7 hE7 R H aa=>?_;simp;refine Ql (A':=aU) (k:=ret) (vq xs) R aa (by simp) H (by rw [yR];exact e) o (fun c w' z=>by simpa using z) ?_;intro j8 g8 nv8 w8 ag ab hT8 J e;simp;exact Ja ab J e
  simp [r0];refine Qk (s:=[111,110,101,111,102]) (w:=w) (nv:=nv) (xs:=xs) (vq xs) y t e (fun w3 S y Y t e=>?_) (fun w3 S y Y t e=>?_)
  ·simp [r0];refine Qv y t hb [91] fun v4 w4 hE4 V C af=>?_;simp;refine Ql (A':=aU) (vq xs) V af (by simp) C e o (fun c w' z=>by simpa using z) ?_;intro j g nv5 w5 ad E ac v e;have hj:=((vo _).ok ad).1;simp [r0];refine yc (A:=pS.ansL 9 1) (A':=aU) (m:=listed L n (zi L (kind L n))) (nv:=nv) (w:=w) (fun _ a=>qjb _ a) (vq xs) (fun o=>qo5 (qv4 ih (Qg n) B) (qcX (Qg n)) (qne (Qg n)) qpg n E (fun b h=>by cases h) (by omega) o) v e o (fun c w' z=>by simpa using z) ?_;intro _ j6 g6 v6 nv6 w6 hk6 U hT6 I ae e;simp [r0];refine Qv U I hb [93] fun v7 w7 hE7 R H aa=>?_;simp;refine Ql (A':=aU) (k:=ret) (vq xs) R aa (by simp) H (by rw [yR];exact e) o (fun c w' z=>by simpa using z) ?_;intro j8 g8 nv8 w8 ag ab hT8 J e;simp;exact Ja ab J e
  simp [r0];refine Qk (s:=[63]) (w:=w) (nv:=nv) (xs:=xs) (vq xs) y t e (fun w3 S y Y t e=>?_) (fun w3 S y Y t e=>?_)
  ·simp [r0];refine yc (A:=aU) (A':=aU) (nv:=nv) (w:=w) (k:=ret) (fun _ _=>rfl) (vq xs) (fun _=>qCa y) t (by rw [yR];exact e) o (fun c w' z=>by simpa using z) ?_;intro _ j5 g5 v5 nv5 w5 _ E ac v hv5 e;simp;exact Ja E v e
  simp [r0];refine yc (A:=aS) (A':=aU) (nv:=nv) (w:=w) (fun _ _=>rfl) (vq xs) (fun _=>qca y) t e o (fun c w' z=>by simpa using z) ?_;intro s j4 g4 v4 nv4 w4 hna V hT4 C af e;have hj:=(wB.ok hna).1;simp [r0];refine Qk (s:=[91]) (w:=w) (nv:=nv) (xs:=xs) (vq xs) V C e (fun w5 S E ac v e=>?_) (fun w5 S E ac v e=>?_)
  ·simp [r0];refine yc (A:=aU) (A':=aU) (nv:=nv) (w:=w) (fun _ _=>rfl) (vq xs) (fun o=>ih base B w5 tv nv4 (j4+1) g4 xs E (by omega) o) v e o (fun c w' z=>by simpa using z) ?_;intro _ j6 g6 v6 nv6 w6 hk6 U hT6 I ae e;simp [r0];refine Qv U I hb [93] fun v7 w7 hE7 R H aa=>?_;simp;refine Ql (A':=aU) (k:=ret) (vq xs) R aa (by simp) H (by rw [yR];exact e) o (fun c w' z=>by simpa using z) ?_;intro j8 g8 nv8 w8 ag ab hT8 J e;simp;exact Ja ab J e
  ·simp;exact Ja E v e
@[simp] theorem qNR:qh Tryz.prog 73=true:=by kernel_rfl
@[simp] theorem qNM:qh Tryz.prog 89=true:=by kernel_rfl
@[simp] theorem qNL:qh Tryz.prog 90=true:=by kernel_rfl
theorem qx1:zR Tryz.prog 114=some #[.pointer none,.slice none 0 0]:=by kernel_rfl
def Bd.ext {B b:Nat} {o:Bs} {w w':World} (h:Bd B b o w) (a:qc w w'):Bd B b o w':=by
 rcases h with h|h
 all_goals
  have n:=h.lt;obtain ⟨u,v,t,e,c⟩:=h;have y:w'.ownsRow B 5 1 v (o.map jn).length (o.map jn):=by
   have:=e.kept (w':=w') (row:=none) ⟨a.os,a.tape,a.output,a.size,fun k z _=>a.block k z⟩ (by cases v.ownBlock<;>simp);simpa using this
 ·exact .inl ⟨u,v,(a.block b n).trans t,y,c⟩
 ·exact .inr ⟨u,v,(a.block b n).trans t,y,c⟩
def xn (L:List Tok):Prop:=∀t∈L,t.text.length<=20
def qqq {L:List Tok} (h:xn L):(ja L).length<=20*L.length:=by
 induction L with
 |nil=>simp [ja]
 |cons t L b=>
  have c:=h t (by simp);have n:=b fun x a=>h x (by simp [a]);have e:ja (t::L)=t.text++ja L:=by simp [ja]
  rw [e,kh,List.length_cons];omega
def qEh (L:List Tok) (t:Tok):ja (L++[t])=ja L++t.text:=by simp [ja]
def qo6 {w:World} {v:Value} {a:List Tok} (F:SlK w v a) (H:xn a) (hn:a.length<=20000):Calls Tryz.prog 73 #[v] w fun e w'=>e=.returned (.string (qb (ja a)))/\qc w w':=by
 refine qEP fun ρ r0=>?_;simp [qrt,r0,F.is,F.len];refine qX qx1 fun b W hb hE I _=>?_;have z:Bd b b [] W:=.inl ⟨j1 _,.slice none 0 0,I.heap,World.ownsRow_nil _ _ _ _,by simp [Value.ownBlock]⟩;have hbW:=I.lt;simp [r0,F.is,F.len];refine vD 8 a.length (fun k u w'=>u 3=.pointer (some ⟨b,0,none⟩)/\u 6=v/\u 7=.int .i64 (a.length:Int)/\Bd b b (ja (a.take k)) w'/\Below b W w') (by simp) ⟨by simp,by simp,by simp,by simpa [ja] using z,Below.refl _ _⟩ ?_;rintro k u w' hk r8 ⟨r3,r6,r7,Z,c⟩;have R:∀{w'},Below b W w'->qc w w':=fun h=>Below.trans hE (h.mono hb);have S:=R c;have C:=F.ext S;by_cases y:k<a.length
 ·obtain ⟨c0,c1,c2⟩:=C.cell k y;have hle:(ja (a.take k)).length<=20*k:=by
   have:=qqq (L:=a.take k) (fun t ht=>H t (JI ht));rw [uF] at this;omega
  have hsl:=H a[k] (wz y);simp [qjO,qrr,r8,r7,r6,r3,y,C.is,C.len,c0,c1,c2];refine qX z53 fun X W2 hX aa ab _=>?_;simp;refine jx (B:=X) (by simp) ab (by simp [Value.cells]) (by simp [Value.cells]) (by simpa [Value.cells] using qag) fun W3 V J=>?_;simp [Value.cells] at J;have E:qc w' W3:=V.ext aa hX;simp [(kT J).2.1,r3];refine (L01.qKz a[k].text (Bd.ext Z E) (by omega) (by have:=c.size;have:=E.size;omega)).mono ?_;rintro _ W4 ⟨rfl,Y,o⟩;simp [qrs,r8,r3,r6,r7,qH (n:=(k:Int)+1) (by omega)];refine ⟨?_,c.trans ((E.mono (by have:=c.size;omega)).trans o)⟩;have:a.take (k+1)=a.take k++[a[k]]:=by rw [uG y]
  rw [this,qEh];exact Y
 ·have U:k=a.length:=by omega
  subst U;simp [qjO,qrq,r8,r7,r3];rw [Jx] at Z;refine (L01.b_string Z (by have:=c.size;omega)).mono ?_;rintro _ W4 ⟨rfl,o⟩;simp;exact R (c.trans o)
def qzC {w:World} {v:Value} {b:List Tok} (h:SlK w v b) {l r:Nat} (n:l<=r) (u:r<=b.length):SlK w (qZ v 3 l r (qy v)) (jW b l r):=by
 have y:=qjx h.is;have t:=h.len;have a:(jW b l r).length=r - l:=by unfold jW;rw [uR,uF];omega
 refine ⟨qaC h.is 3 l r (qy v) n (by omega) (j1 _),by rw [qc9 3 l r _ h.is,a],by rw [a];have:=h.bd;omega,fun j e=>?_⟩;rw [a] at e;have o:(jW b l r)[j]'(by rw [a];exact e)=b[l+j]'(by omega):=by
  unfold jW;rw [VF,List.getElem_take]
 obtain ⟨c0,c1,c2⟩:=h.cell (l+j) (by omega);have c:∀q,qQ (qZ v 3 l r (qy v)) q=qQ v (l*3+q):=fun q=>qda 3 l r (qy v) q h.is (by omega) (by omega);rw [c,c,c,o];refine ⟨?_, ?_, ?_⟩
 ·rw [<-c0];congr 2;omega
 ·rw [<-c1];congr 2;omega
 ·rw [<-c2];congr 2;omega
def qnL {L:List Tok} (h:xn L) (i j:Nat):xn (jW L i j):=fun t a=>h t (JI (JX a))
@[simp] theorem qOr:qh Tryz.prog 202=true:=by kernel_rfl
@[simp] theorem qOb:qh Tryz.prog 276=true:=by kernel_rfl
@[simp] theorem qNY:qh Tryz.prog 327=true:=by kernel_rfl
theorem qo1 {L:List Tok} (J:xn L) (n:Nat):Mt aS L 202 me (xh L n):=by
 intro base B w tv nv i f xs o I b;have R:=o.bW;have H:=o.tl;generalize u:xh L n i f=r at b;have z:bnd (kind L n) (fun _=>fun j g=> .ok (ja (jW L i j)) j g) i f=r:=u;refine qG4 fun ρ r0=>?_;simp [qt7,r0,o.blk.cell];refine yc (A:=aU) (A':=aS) (nv:=nv) (w:=w) (fun _ _=>rfl) (vq xs) (fun b=>qi0 n base B w tv nv i f xs o I b) (Tn.refl _ _ _ _) z b (fun c w' S=>by simpa using S) ?_;intro _ j g v nv2 w2 V a Y h Z u;have C:=((Qg n).ok V).1;have t:=a.slk;have y:=a.il;have F:=qjx t.is;have W:=t.len;simp;simp [r0,a.blk.cell];rw [if_pos ⟨t.is,by omega,by omega⟩];simp;refine ⟨.string (qb (ja (jW L i j))),fun w' E=>?_,fun U e=>?_⟩
 ·refine (qo6 (qzC (t.ext E) C y) (qnL J i j) (by unfold jW;rw [uR,uF];omega)).mono ?_;rintro _ U ⟨rfl,e⟩;exact ⟨rfl,E.trans' e⟩
 ·simp [qt6];exact qcy (a.ext e) (h.extR e R) u
def qeR {W:World} {X:Nat} {l:List Bs} (b:Blk W X (l.map qi).toArray 9) (c:l.length<=1000):jb W (.slice (some ⟨X,0,none⟩) l.length l.length) l:=by
 refine ⟨by simp [qu],by simp [ql],by omega,fun j a=>?_⟩;simp only [qQ,ut];rw [b.cell];simp [a]
@[simp] theorem qNQ:qh Tryz.prog 75=true:=by kernel_rfl
def qo7 (s:Bs) (w:World):Calls Tryz.prog 75 #[.string (qb s)] w fun e w'=>e=.returned (.bool (jL.contains s))/\qc w w':=by
 refine qEL fun ρ r0=>?_;simp [qrd,r0];refine jV yQ (by decide) (by decide) (by simp [Value.cells]) fun X W c b a _=>?_;simp [Value.cells] at a;simp [r0];refine (L01.qio (l:=jL) s (qeR (l:=jL) (by simpa [jL,qi,qb] using a) (by decide))).mono ?_;rintro _ _ ⟨rfl,rfl⟩;simp;exact b
def qjh (x y:Bs):qb x++qb y=qb (x++y):=by
 apply JO;show ((qb x).append (qb y)).data=_;rw [ByteArray.append_eq,ByteArray.data_append];simp [qb]
section
variable {base B:Nat} {w w':World} {tv nv nv':Value} {L:List Tok} {i f:Nat} {xs:List NV}
theorem qm2 (a:xn L) (i:Nat):(tk L i).text.length<=20:=by
 by_cases h:i<L.length
 ·rw [kR h];exact a _ (wz h)
 ·rw [wZ (by omega)];simp
theorem qpE (a:xn L) {i f j g:Nat} {s:Bs} (h:name L i f=.ok s j g):s.length<=20:=by
 unfold name at h;split at h
 ·cases h;exact qm2 a i
 ·cases h
end
theorem qCe {L:List Tok} (hL:xn L):Mt aS L 327 me (op L):=by
 intro base B w tv nv i f xs h hn F;have htl:=h.tl;have hil:=h.il;have z:=h.bW;generalize o:op L i f=r at F;refine qFo fun ρ r0=>?_;simp [qr7,r0];refine (qbk h 0 (by decide)).mono ?_;rintro _ w1 ⟨rfl,hE⟩;simp;refine qX z53 fun X W hX hE1 hb _=>?_;simp;refine jx (B:=X) (by simp) hb (by simp [Value.cells,kj]) (by simp [Value.cells,kj]) (by simpa [Value.cells] using qag) fun W2 hO2 C=>?_;simp [Value.cells,kj] at C;obtain ⟨c0,c1,c2⟩:=kT C;have t:qc w W2:=hO2.ext (hE.trans' hE1) (by have:=hE.size;omega);have hS:=h.ext t;have hXB:X≠B:=by have:=h.blk.lt;have:=hE.size;omega
 have b:∀R,PSt base B R tv nv L i f xs->Tn base B nv nv w R->¬((tk L i).kind=2/\jL.contains (tk L i).text=true)->∀I:qa,I 0=.pointer (some ⟨B,0,none⟩)->
   qjU.wp ⟨Tryz.prog,31,qr6,[]⟩ (qB [.tmp 2] (PR aS base B tv nv L xs w r)) (ji [.tmp 2] (PR aS base B tv nv L xs w r)) I R:=by
  intro R a hT3 y I r0;have H:bnd (name L) (fun s=>qm L [95] (bnd (name L) fun u=>ret (s++([95]++u))) (ret s)) i f=r:=by
   rw [<-o,<-yR (op L)];exact (qC5 y).symm
  simp [qjU,r0];refine yc (A:=aS) (A':=aS) (nv:=nv) (w:=w) (fun _ _=>rfl) (vq xs) (fun _=>qca a) hT3 H F (fun c w' hp=>by simpa using hp) ?_;intro s j g v nv4 w4 hna J aa V hv o;change v=_ at hv;subst hv;have hsl:=qpE hL hna;simp [r0];refine Qk (s:=[95]) (w:=w) (nv:=nv) (xs:=xs) (vq xs) J V o (fun w5 y E hT5 e o=>?_) (fun w5 y E hT5 e o=>?_)
  ·simp [r0];refine yc (A:=aS) (A':=aS) (nv:=nv) (w:=w) (fun _ _=>rfl) (vq xs) (fun _=>qca E) e o F (fun c w' hp=>by simpa using hp) ?_;intro u j6 g6 v6 nv6 w6 S hS6 hT6 ac Z o;change v6=_ at Z;subst Z;have hul:=qpE hL S;have e1:(⟨#[95]⟩:ByteArray)=qb [95]:=rfl;simp only [qmA,qms,gd,kk,Ex.ev,qyo,e1];simp [qjh,e1];rw [if_pos (by unfold maxLen;omega)];simp [qjh,qY];rw [if_pos (by unfold maxLen;omega)];simp [qjV];exact qcy hS6 ac (by simpa using o)
  ·simp [qjV];exact qcy E e o
 by_cases h2:(tk L i).kind=2
 ·simp [c0,c1,h2];refine (qo7 (tk L i).text W2).mono ?_;rintro _ R ⟨rfl,n⟩;have a:=hS.ext n;have c1':=n.cell c1;by_cases y:jL.contains (tk L i).text=true
  ·have hlt:=Qw h2 (by decide);have e1:IntKind.i64.wrap ((i:Int)+1)=((i+1:Nat):Int):=by rw [qH (by omega)];push_cast;rfl
   have H:r=.ok (tk L i).text (i+1) f:=by rw [<-o];exact qC4 h2 y
   rw [y];simp [r0,a.blk.cell,e1];refine qW (B:=B) (i:=1) (by simp) a.blk (by simp) (by simp [Value.cells]) (by simp) vp fun W4 U Y=>?_;simp at Y;have hb5:Blk W4 B #[tv,.int .i64 ((i+1:Nat):Int),.int .i64 (f:Int),nv] 85:=by simpa using Y
   obtain ⟨J,aa⟩:=a.move U hb5 hlt h.fl;have ab:W4.cell? ⟨X,1,none⟩=some (.string (qb (tk L i).text)):=(kT (U.blk (C.ext n) hXB)).2.1;simp [ab];exact qcy J ((Tn.ext (t.trans' n) z).trans aa) H.symm
  ·have hc':jL.contains (tk L i).text=false:=by simpa using y
   rw [hc'];simp;exact b R a (Tn.ext (t.trans' n) z) (fun h=>y h.2) _ (by simp [r0])
 ·have h2':¬((tk L i).kind:Int)=2:=by omega
  simp [c0,h2'];exact b W2 hS (Tn.ext t z) (fun h=>h2 h.1) _ (by simp [r0])
theorem qo3 {L:List Tok} (I:xn L) (n:Nat):Mt aS L 276 me (jF L n):=by
 intro base B w tv nv i f xs E H a;have J:=E.bW;generalize e:jF L n i f=r at a;refine qFV fun ρ r0=>?_;simp [qsy,r0];refine yc (A:=aS) (A':=aS) (nv:=nv) (w:=w) (fun _ _=>rfl) (vq xs) (fun a=>qo1 I n base B w tv nv i f xs E H a) (Tn.refl _ _ _ _) e a (fun c w' u=>by simpa using u) ?_;intro s j g v nv2 w2 _ y V b F e;change v=_ at F;subst F;simp [r0];refine Qv y b J [36] fun v3 Z W t h C=>?_;simp;refine Ql (A':=aS) (vq xs) t C (by simp) h e a (fun c w' u=>by simpa using u) ?_;intro j4 Y U w4 R z S o e;simp;exact qcy z o e
def Own.down {b a e sz:Nat} {w:World} {v:Value} {ys:List Value} (h:Own b e sz w v ys) (t:a<=b):Own a e sz w v ys:=by
 rcases h with h|⟨g,off,n,cap,cur,rfl,o,c⟩
 ·exact .inl h
 ·exact .inr ⟨g,off,n,cap,cur,rfl,by omega,c⟩
def pT:Pu T:=⟨fun b t=>t.flat b,fun b t=> .int .i64 ((b:Int)+t.size - 1),T.size,fun b t=>T.flat_len t b⟩
def qCH (b:Nat) (t:T):(pT.ev b t).cells.size=1/\∀u∈(pT.ev b t).cells.toList,u.oneCell'=true:=⟨rfl,by simp [pT,Value.cells,Value.oneCell']⟩
def qpz:∀(l:List T) (b:Nat),pT.nodesL b l=flats b l
 |[],_=>rfl
 |t::l,b=>by simp only [Pu.nodesL,flats,qpz l];rfl
def qwl:∀(l:List T) (b:Nat),pT.evL b l=(qt b l).map encI
 |[],_=>rfl
 |t::l,b=>by
  simp only [Pu.evL,qt,qwl l,List.map_cons];rfl
structure NVr (B X:Nat) (nv:Value) (W:World) (x:NV):Prop where
 blk:Blk W X (qk x).toArray 44
 neB:X≠B
 neR:nv.ownBlock≠some X
structure Cu (base B:Nat) (w:World) (tv nv:Value) (L:List Tok) (xs:List NV) (w1:World) (nv1:Value) (i f:Nat) (ys:List NV):Prop where
 st:PSt base B w1 tv nv1 L i f (xs++ys)
 tn:Tn base B nv nv1 w w1
 fr:∀y∈ys,wW w y.kv
 b0:base<=w.heap.size
section
variable {base B X:Nat} {w w1 w2:World} {tv nv nv1 nv2:Value} {L:List Tok} {i f j g:Nat} {xs ys zs:List NV} {x:NV}
theorem NVr.turn (h:NVr B X nv1 w1 x) (a:Tn base B nv1 nv2 w1 w2):NVr B X nv2 w2 x:=⟨a.blk h.blk h.neB h.neR,h.neB,a.ne h.blk.lt h.neR⟩
theorem NVr.ext (h:NVr B X nv1 w1 x) (a:qc w1 w2):NVr B X nv1 w2 x:=⟨h.blk.ext a,h.neB,h.neR⟩
theorem Cu.start (h:PSt base B w tv nv L i f xs):Cu base B w tv nv L xs w nv i f []:=⟨by simpa using h,Tn.refl _ _ _ _,by simp,h.bW⟩
theorem Cu.ext (h:Cu base B w tv nv L xs w1 nv1 i f ys) (a:qc w1 w2):Cu base B w tv nv L xs w2 nv1 i f ys:=⟨h.st.ext a,h.tn.extR a h.b0,h.fr,h.b0⟩
theorem Cu.more (h:Cu base B w tv nv L xs w1 nv1 i f ys) (c:PSt base B w2 tv nv2 L j g (xs++(ys++zs))) (e:Tn base B nv1 nv2 w1 w2) (b:∀z∈zs,wW w1 z.kv):Cu base B w tv nv L xs w2 nv2 j g (ys++zs):=
 ⟨c,h.tn.trans e,fun y a=>by
  rcases uC.1 a with a|a
  ·exact h.fr y a
  ·exact (b y a).mono h.tn.size,h.b0⟩
theorem Cu.size (h:Cu base B w tv nv L xs w1 nv1 i f ys):w.heap.size<=w1.heap.size:=h.tn.size
theorem Cu.keep (h:Cu base B w tv nv L xs w1 nv1 i f ys) (t:Tn base B nv1 nv2 w1 w2) {b e sz:Nat} {v:Value} {a:List Value} (o:Own b e sz w1 v a) (c:e≠44) (n:e≠85):Own b e sz w2 v a:=h.st.keep t o c n
theorem Cu.newN (h:Cu base B w tv nv L xs w1 nv1 i f ys) (b:w1.heap.size<=X) (c:qc w1 w2) (a:Blk w2 X (qk x).toArray 44):NVr B X nv1 w2 x:=
 ⟨a,fun e=>by have:=h.st.blk.lt;omega,fun e=>by have:=(h.st.own.blk X e).2;omega⟩
theorem Cu.put (h:Cu base B w tv nv L xs w1 nv1 i f ys) (t:NVr B X nv1 w1 x) (z:w.heap.size<=X) (c:Only X w1 w2):Cu base B w tv nv L xs w2 nv1 i f ys:=by
 have keep:∀{b e sz:Nat} {v:Value} {u:List Value},e≠44->Own b e sz w1 v u->Own b e sz w2 v u:=fun E y=>Own.same y fun k n=>by
  obtain ⟨cur,F⟩:=Own.row y n;refine c.block k fun e=>?_;subst e;have:=t.blk.heap;rw [F] at this;cases this;exact E rfl
 have a:=h.st;refine ⟨⟨c.blk a.blk t.neB.symm,keep (by decide) a.tok,Own.same a.own fun k n=>c.block k fun e=>t.neR (e▸n),fun x I=>keep (by decide) (a.kid x I),a.bB,by rw [c.size];exact a.bW,a.tl,a.il,a.fl⟩, ?_,h.fr,h.b0⟩;have o:=h.tn;have J:=o.size;refine ⟨o.below.trans (yh c (Nat.le_trans h.b0 z)),fun k n H C=>?_,o.row,o.gr⟩;rw [c.block k (by omega)];exact o.block k n H C
end
section
variable {α β:Type} {A:Ans α} {A':Ans β} {L:List Tok} {m:M α} {k:α->M β} {r:Rs β} {base B X:Nat} {w w1:World} {tv nv nv1:Value} {i f:Nat} {xs ys:List NV} {K:qa->World->Prop} {Q:Ks} {ρ:qa} {d:Option Nat}
theorem qb0 {F:FuncId} {args:Array Value} (I:m i f≠ .oof->Calls Tryz.prog F args w1 (PR A base B tv nv1 L (xs++ys) w1 (m i f))) (o:Cu base B w tv nv L xs w1 nv1 i f ys) (z:bnd m k i f=r) (H:r≠ .oof)
  (hpn:∀c w',PR A' base B tv nv L xs w r (.panicked c) w'->Q.pn ρ c w')
  (h:∀a j g v nv2 zs w2,m i f=.ok a j g->Cu base B w tv nv L xs w2 nv2 j g (ys++zs)->zs.map (·.nd)=A.nodes (xs++ys).length a->Tn base B nv1 nv2 w1 w2->A.val w1 w2 (xs++ys).length a v->k a j g=r->K (qn ρ d v) w2):
  Calls Tryz.prog F args w1 (zD Q d K ρ):=
 qbZ (xs:=xs) (ys:=ys) (r:=r) (A':=A') I o.tn z H hpn fun a j g v nv2 zs w2 e u n C b t y E=>
  h a j g v nv2 zs w2 e (o.more u b C) n b y E
theorem qzu (z:∀b a,A.nodes b a=[]) {F:FuncId} {args:Array Value} (H:m i f≠ .oof->Calls Tryz.prog F args w1 (PR A base B tv nv1 L (xs++ys) w1 (m i f))) (I:Cu base B w tv nv L xs w1 nv1 i f ys) (y:bnd m k i f=r) (E:r≠ .oof)
  (hpn:∀c w',PR A' base B tv nv L xs w r (.panicked c) w'->Q.pn ρ c w')
  (h:∀a j g v nv2 w2,m i f=.ok a j g->Cu base B w tv nv L xs w2 nv2 j g ys->Tn base B nv1 nv2 w1 w2->A.val w1 w2 (xs++ys).length a v->k a j g=r->K (qn ρ d v) w2):
  Calls Tryz.prog F args w1 (zD Q d K ρ):=
 qb0 (A':=A') H I y E hpn fun a j g v nv2 zs w2 o n e t u C=>by
  rw [z] at e;obtain rfl:zs=[]:=by simpa using e
  simp only [uy] at n;exact h a j g v nv2 w2 o n t u C
theorem Qm {F:FuncId} (u:Mt A L F me m) (e:Cu base B w tv nv L xs w1 nv1 i f ys) (n:(xs++ys).length<=2*i+2) (o:bnd m k i f=r) (t:r≠ .oof)
  (hpn:∀c w',PR A' base B tv nv L xs w r (.panicked c) w'->Q.pn ρ c w')
  (h:∀a j g v nv2 zs w2,m i f=.ok a j g->Cu base B w tv nv L xs w2 nv2 j g (ys++zs)->zs.map (·.nd)=A.nodes (xs++ys).length a->Tn base B nv1 nv2 w1 w2->A.val w1 w2 (xs++ys).length a v->k a j g=r->K (qn ρ d v) w2):
  Calls Tryz.prog F #[.pointer (some ⟨B,0,none⟩)] w1 (zD Q d K ρ):=
 qb0 (A':=A') (fun b=>u base B w1 tv nv1 i f (xs++ys) e.st n b) e o t hpn h
theorem qc6 (u:∀b a,A.nodes b a=[]) {F:FuncId} (z:Mt A L F me m) (n:Cu base B w tv nv L xs w1 nv1 i f ys) (o:(xs++ys).length<=2*i+2) (t:bnd m k i f=r) (y:r≠ .oof)
  (hpn:∀c w',PR A' base B tv nv L xs w r (.panicked c) w'->Q.pn ρ c w')
  (h:∀a j g v nv2 w2,m i f=.ok a j g->Cu base B w tv nv L xs w2 nv2 j g ys->Tn base B nv1 nv2 w1 w2->A.val w1 w2 (xs++ys).length a v->k a j g=r->K (qn ρ d v) w2):
  Calls Tryz.prog F #[.pointer (some ⟨B,0,none⟩)] w1 (zD Q d K ρ):=
 qzu (A':=A') u (fun e=>z base B w1 tv nv1 i f (xs++ys) n.st o e) n t y hpn h
theorem QQ {s:Bs} {x y:M β} (b:Cu base B w tv nv L xs w1 nv1 i f ys) (c:qm L s x y i f=r)
  (o:∀w2,qo L i [s]=true->Cu base B w tv nv L xs w2 nv1 (i+1) f ys->Tn base B nv1 nv1 w1 w2->x (i+1) f=r->K (qn ρ d (.bool true)) w2)
  (t:∀w2,qo L i [s]=false->Cu base B w tv nv L xs w2 nv1 i f ys->Tn base B nv1 nv1 w1 w2->y i f=r->K (qn ρ d (.bool false)) w2):
  Calls Tryz.prog 117 #[.pointer (some ⟨B,0,none⟩),.string (qb s)] w1 (zD Q d K ρ):=
 Qk (xs:=xs) ⟨ys,rfl⟩ b.st b.tn c (fun w2 h n e a c=>o w2 h ⟨n,a,b.fr,b.b0⟩ e c) (fun w2 h n e a c=>t w2 h ⟨n,a,b.fr,b.b0⟩ e c)
theorem qay {ty:TypeId} (a:Cu base B w tv nv L xs w1 nv1 i f ys) (s:Bs) (h:∀v w2,qc w1 w2->Cu base B w tv nv L xs w2 nv1 i f ys->Own 0 9 1 w2 v ([s].map qi)->K (qn ρ d v) w2):
  qx Tryz.prog Q d (.buildSlice 51 1 #[(0,.const (.string ⟨s.toArray⟩))]) ty K ρ w1:=
 Qv a.st a.tn a.b0 s fun v w2 e n c b=>h v w2 e ⟨n,c,a.fr,a.b0⟩ b
theorem qbm {ss:List Bs} {k:Unit->M β} {v:Value} (a:Cu base B w tv nv L xs w1 nv1 i f ys) (t:Own 0 9 1 w1 v (ss.map qi)) (e:ss.length<4611686018427387904) (u:bnd (needs L ss) k i f=r) (z:r≠ .oof)
  (hpn:∀c w',PR A' base B tv nv L xs w r (.panicked c) w'->Q.pn ρ c w')
  (h:∀j g nv2 w2,needs L ss i f=.ok () j g->Cu base B w tv nv L xs w2 nv2 j g ys->Tn base B nv1 nv2 w1 w2->k () j g=r->K (qn ρ d (.tuple #[])) w2):
  Calls Tryz.prog 153 #[.pointer (some ⟨B,0,none⟩),v] w1 (zD Q d K ρ):=
 Ql (A':=A') ⟨ys,rfl⟩ a.st t e a.tn u z hpn fun j g nv2 w2 n o C b y=>h j g nv2 w2 n ⟨o,b,a.fr,a.b0⟩ C y
theorem yn (b:Cu base B w tv nv L xs w1 nv1 i f ys) (x:NV) (e:Own w.heap.size 3 1 w1 x.kv (x.nd.kids.map encI)) (n:(xs++ys).length<=1000000)
  (h:∀nv2 w2,Cu base B w tv nv L xs w2 nv2 i f (ys++[x])->Tn base B nv1 nv2 w1 w2->K (qn ρ d (.int .i64 ((xs++ys).length:Int))) w2):
  Calls Tryz.prog 140 #[.pointer (some ⟨B,0,none⟩),.agg (qk x).toArray] w1 (zD Q d K ρ):=by
 refine (qCA b.st x (Own.down e (uz _)) n).mono ?_;rintro _ w2 ⟨rfl,nv2,o,c⟩;rw [qed];refine h nv2 w2 ⟨by simpa using o,b.tn.trans c,fun y a=>?_,b.b0⟩ c;rcases uC.1 a with a|a
 ·exact b.fr y a
 ·obtain rfl:y=x:=by simpa using a
  exact Own.fresh e
theorem qdw {t:TypeId} {ty:TypeId} {p v:Operand} {c:Nat} {x x':NV} (F:Cu base B w tv nv L xs w1 nv1 i f ys) (a:NVr B X nv1 w1 x) (u:w.heap.size<=X) (y:qe ρ p=.pointer (some ⟨X,c,none⟩)) (n:c<(qk x).toArray.size)
  (C:(qe ρ v).cells=#[qe ρ v]) (E:(qe ρ v).oneCell=true) (z:jT Tryz.prog t 1=true) (b:(qk x).toArray.set c (qe ρ v) n=(qk x').toArray)
  (h:∀W,Only X w1 W->Cu base B w tv nv L xs W nv1 i f ys->NVr B X nv1 W x'->K (qn ρ d undef) W):qx Tryz.prog Q d (.store t p v) ty K ρ w1:=by
 refine qW y a.blk n C E z fun W o e=>?_;rw [b] at e;exact h W o (F.put a u o) ⟨e,a.neB,a.neR⟩
theorem qi7 {b e sz:Nat} {w2:World} {v:Value} {a:List Value} {x:NV} (u:NVr B X nv1 w1 x) (n:Only X w1 w2) (c:Own b e sz w1 v a) (o:e≠44):Own b e sz w2 v a:=Own.same c fun k h=>by
 obtain ⟨cur,t⟩:=Own.row c h;refine n.block k fun e=>?_;subst e;have:=u.blk.heap;rw [t] at this;cases this;exact o rfl
end
section
variable {L:List Tok} {base B:Nat} {w w':World} {tv nv nv':Value} {i f:Nat} {xs ys:List NV}
theorem qwd {r:Rs T} {t:T} {v:Value} (b:Cu base B w tv nv L xs w' nv' i f ys) (a:ys.map (·.nd)=t.flat xs.length) (c:v=.int .i64 ((xs.length:Int)+t.size - 1)) (e:ret t i f=r):PR aT base B tv nv L xs w r (.returned v) w':=by
 rw [<-e];exact ⟨_,nv',ys,rfl,b.st,a,b.fr,b.tn,c⟩
theorem qd5 {x:NV} {d:D} {ks:List T} {b:Nat} (h:ys.map (·.nd)=flats b ks) (a:x.nd=⟨d,qt b ks⟩):(ys++[x]).map (·.nd)=(T.mk d ks).flat b:=by
 rw [uP,h];simp [T.flat,a]
theorem qdl {d:D} {ks:List T} (h:ys.map (·.nd)=flats xs.length ks):Value.int .i64 ((xs.length:Int)+(ys.length:Int))=.int .i64 ((xs.length:Int)+(T.mk d ks).size - 1):=by
 have e:ys.length=sizes ks:=by rw [<-flats_len ks xs.length,<-h,uh]
 rw [e,wj];congr 1;omega
theorem qgG {r:Rs T} {x:NV} {d:D} {ks:List T} (c:Cu base B w tv nv L xs w' nv' i f (ys++[x])) (a:ys.map (·.nd)=flats xs.length ks) (e:x.nd=⟨d,qt xs.length ks⟩) (b:ret (T.mk d ks) i f=r):
  PR aT base B tv nv L xs w r (.returned (.int .i64 ((xs.length:Int)+(ys.length:Int)))) w':=
 qwd c (qd5 a e) (qdl a) b
end
@[simp] theorem qNW:qh Tryz.prog 353=true:=by kernel_rfl
def qCy {α:Type} {p:Pu α} {bx:Option Nat} {base B:Nat} {w:World} {tv nv fv:Value} {L:List Tok} {i f:Nat} {xs:List NV} {m:M α} (hf:FnM p.ans bx B L fv m) (hu:Up m) (hz:Sz p.μ 0 m)
  (hc:∀b a,(p.ev b a).cells.size=1/\∀u∈(p.ev b a).cells.toList,u.oneCell'=true) (n:Nat) (h:PSt base B w tv nv L i f xs) (ac:Bx B bx w) (hn:xs.length<=2*i+2) (o:xW L n m i f≠ .oof):
  Calls Tryz.prog 353 #[.pointer (some ⟨B,0,none⟩),fv] w (PR (p.ansL 3 1) base B tv nv L xs w (xW L n m i f)):=by
 generalize hr:xW L n m i f=r at o;have V:bnd (needs L [[40]]) (fun _=>qm L [41] (ret []) (bnd (listed L n m) fun l=>bnd (needs L [[41]]) fun _=>ret l)) i f=r:=hr;have hC:=Cu.start h;refine qFi fun ρ r0 r1=>?_;simp [qrZ,r0,r1];refine qay hC [40] fun v1 w1 ad F Y=>?_;simp;refine qbm (A':=p.ansL 3 1) F Y (by simp) V o (fun c w' E=>by simpa using E) ?_;intro j g nv2 w2 ag R W ae;have hj:=(qcE _ _ _ _ _ ag);have H:=(ac.ext ad).keep F.st W;simp [r0];refine QQ R ae (fun w3 aa e C y=>?_) (fun w3 aa e C y=>?_)
 ·simp;rw [<-y];exact ⟨.slice none 0 0,nv2,[],rfl,e.st,rfl,by simp,e.tn,Own.nil _ _ _ _⟩
 ·simp [qrY,r0,r1];refine qb0 (A:=p.ansL 3 1) (A':=p.ansL 3 1) (fun ho=>qCi hf hu hz hc n e.st (H.keep R.st C) (by simp;omega) ho) e y o (fun c w' E=>by simpa using E) ?_;intro l j4 g4 v4 nv4 zs w4 hl J t hT4 I ab;simp only [List.nil_append,uy] at J t I;simp [r0];refine qay J [41] fun v5 w5 U z Z=>?_;simp;refine qbm (A':=p.ansL 3 1) z Z (by simp) ab o (fun c w' E=>by simpa using E) ?_;intro j6 g6 af w6 hne6 v ah S;simp;rw [<-S];refine ⟨v4,af,zs,rfl,v.st,t,v.fr,v.tn, ?_⟩;exact z.keep ah ((Own.down I e.size).ext U) (by decide) (by decide)
def NVr.row {B X:Nat} {nv:Value} {W:World} {x:NV} (h:NVr B X nv W x):Eng.jG W ⟨X,0,none⟩ 0 6=some (qk x):=by
 have:=yD h.blk;simpa [qk] using this
@[simp] theorem qOL:qh Tryz.prog 140=true:=by kernel_rfl
@[simp] theorem qNT:qh Tryz.prog 62=true:=by kernel_rfl
@[simp] theorem qNZ:qh Tryz.prog 326=true:=by kernel_rfl
@[simp] theorem qOd:qh Tryz.prog 274=true:=by kernel_rfl
@[simp] theorem qOa:qh Tryz.prog 277=true:=by kernel_rfl
theorem z44:zR Tryz.prog 44=some #[.int .u8 0,.string ⟨#[]⟩,.string ⟨#[]⟩,.string ⟨#[]⟩,.int .i64 0,.slice none 0 0]:=by kernel_rfl
theorem qhY:jT Tryz.prog 40 1=true:=by kernel_rfl
theorem sz9:jT Tryz.prog 9 1=true:=by kernel_rfl
def qIF {L:List Tok} {e:M T} (c:Mt aT L 62 me e) (B:Nat):FnM pT.ans none B L (.func (.func 62) #[.pointer (some ⟨B,0,none⟩)] #[]) e:=
 ⟨62,_,_,rfl,by kernel_rfl,fun base w tv nv i f xs h _ b a=>c base B w tv nv i f xs h b a⟩
def qpd {L:List Tok} {e:M T} (H:Mt aT L 62 me e) (E:Up e) (I:Sz T.size 0 e) (n:Nat):Mt aTs L 326 me (xW L n e):=by
 intro base B w tv nv i f xs u C o;have S:=u.bW;generalize y:xW L n e i f=r at o;refine qFp fun ρ r0=>?_;simp [qr8,r0];refine qb0 (A:=pT.ansL 3 1) (A':=aTs) (k:=ret) (fun J=>qCy (qIF H B) E I qCH n (by simpa using u) (fun b h=>by cases h) (by simpa using C) J) (Cu.start u) (by rw [yR];exact y) o (fun c w' F=>by simpa using F) ?_;intro l j g v nv2 zs w2 R t a U z y;simp only [List.nil_append,uy] at t a z;simp;rw [<-y];refine ⟨v,nv2,zs,rfl,t.st, ?_,t.fr,t.tn, ?_⟩
 ·rw [a];exact qpz l _
 ·have:Own w.heap.size 3 1 w2 v (pT.evL xs.length l):=z;rw [qwl] at this;exact this
def jv (k:Nat) (nm vr ty:Bs) (n:Int) (kv:Value) (kids:List Int):NV:=⟨⟨⟨k,nm,vr,ty,n⟩,kids⟩,kv⟩
theorem qCg {L:List Tok} (hL:xn L) {e:M T} (he:Mt aT L 62 me e) (hu:Up e) (hz:Sz T.size 0 e) (n:Nat):Mt aT L 274 me (wM L n e):=by
 intro base B w tv nv i f xs hS hn t;generalize hr:wM L n e i f=r at t;have hil:=hS.il;have htl:=hS.tl;refine qFZ fun ρ r0=>?_;simp [qsB,r0];refine qc6 (A:=aS) (A':=aT) (fun _ _=>rfl) (F:=120) (fun _ _ _ _ _ _ _ _ h _ _=>qca h) (Cu.start hS) (by simpa using hn) hr t (fun c w' J=>by simpa using J) ?_;intro s j g v nv1 w1 hna U hT1 hv hr1;change v=_ at hv;subst hv;have hj:=qcF _ _ _ _ _ hna;simp;have bu:Tryz.prog.built 44 [(0,.int .u8 5),(1,.string (qb s))]=some (qk (jv 5 s [] [] 0 (.slice none 0 0) [])).toArray:=by kernel_rfl
 rw [bu];dsimp only [vt];refine qd9 z44 (by simp) (by simp [Value.cells,qk]) (by simp [Value.cells,qk,jv]) (by kernel_rfl) fun X w2 hX ac aa _=>?_;simp [Value.cells] at aa;have ae:=U.newN hX ac aa;have hC2:=U.ext ac;have af:w.heap.size<=X:=Nat.le_trans U.size hX;simp [r0];have rest:∀(ty:Bs) R Y j3 g3 z,Cu base B w tv nv L xs R Y j3 g3 []->NVr B X Y R (jv 5 s [] ty 0 (.slice none 0 0) [])->i<=j3->bnd (xW L n e) (fun ks=>ret (T.mk {kind:=5,name:=s,typ:=ty} ks)) j3 g3=r->
   z 0=.pointer (some ⟨B,0,none⟩)->z 3=.pointer (some ⟨X,0,none⟩)->qjY.wp ⟨Tryz.prog,21,qsA,[]⟩ (qB [.tmp 2] (PR aT base B tv nv L xs w r)) (ji [.tmp 2] (PR aT base B tv nv L xs w r)) z R:=by
  intro ty R Y j3 g3 z b I hij u r0 r3;have hjl:=b.st.il;simp [qjY,r0,r3];refine Qm (A:=aTs) (A':=aT) (qpd he hu hz n) b (by simp;omega) u t (fun c w' J=>by simpa using J) ?_;intro ks j4 g4 v4 nv4 zs w4 hks y o W a S;simp only [List.nil_append,uy] at y o a;change Own _ _ _ _ _ _ at a;change zs.map (·.nd)=flats xs.length ks at o;have Z:=I.turn W;have hz4:=qcZ hz n _ _ _ _ _ hks;have hjl4:=y.st.il;have hzl:zs.length=sizes ks:=by rw [<-flats_len ks xs.length,<-o,uh]
  simp [r3];refine qdw (c:=5) (x':=jv 5 s [] ty 0 v4 (qt xs.length ks)) y Z af (by simp) (by simp [qk]) (by simpa using vN a.isl) (by simpa using xS a.isl) qhY (by simp [qk,jv]) fun w5 ad C V=>?_;simp [r0,r3,V.row];refine yn C (jv 5 s [] ty 0 v4 (qt xs.length ks)) (qi7 Z ad (Own.down a b.size) (by decide)) (by simp;omega) fun nv6 w6 E hT6=>?_;simp;exact qgG E o rfl S
 refine QQ hC2 hr1 (fun R hc3 b H u=>?_) (fun R hc3 b H u=>?_)
 ·have I:=ae.turn H;simp [r0];refine qc6 (A:=aS) (A':=aT) (fun _ _=>rfl) (qo1 hL n) b (by simp;omega) u t (fun c w' J=>by simpa using J) ?_;intro ty j4 g4 v4 nv4 w4 hty y W a S;change v4=_ at a;subst a;have hj4:=((qbR n).ok hty).1;simp;refine qdw (c:=3) (x':=jv 5 s [] ty 0 (.slice none 0 0) []) y (I.turn W) af (by simp) (by simp [qk]) (by simp [Value.cells]) (by simp) sz9 (by simp [qk,jv]) fun w5 ad C V=>?_;simp [r0];refine qay C [125] fun v6 w6 hE6 E hv6=>?_;simp;refine qbm (A':=aT) E hv6 (by simp) S t (fun c w' J=>by simpa using J) ?_;intro j7 g7 nv7 w7 ab hC7 hT7 hr7;have hj7:=qcE _ _ _ _ _ ab;exact rest ty w7 nv7 j7 g7 _ hC7 ((V.ext hE6).turn hT7) (by omega) hr7 (by simp [r0]) (by simp)
 ·exact rest [] R nv1 j g _ b (ae.turn H) (by omega) u (by simp [r0]) (by simp)
theorem qo4 {L:List Tok} (hL:xn L) {e:M T} (he:Mt aT L 62 me e) (hu:Up e) (hz:Sz T.size 0 e) (n:Nat) (o:Bs):Mt aT L 277 (fun v=> #[v,.string (qb o)]) (z7 L n e o):=by
 intro base B w tv nv i f xs R hn t;generalize hr:z7 L n e o i f=r at t;have hil:=R.il;have htl:=R.tl;refine qFT fun ρ r0 r1=>?_;simp [qsx,r0,r1];refine qc6 (A:=aS) (A':=aT) (fun _ _=>rfl) (F:=327) (qCe hL) (Cu.start R) (by simpa using hn) hr t (fun c w' S=>by simpa using S) ?_;intro s j g v nv1 w1 ac h hT1 hv J;change v=_ at hv;subst hv;have hj:=qlP _ _ _ _ _ ac;have hil1:=h.st.il;simp;have bu:Tryz.prog.built 44 [(0,.int .u8 5),(2,.string (qb o)),(1,.string (qb s))]=some (qk (jv 5 s o [] 0 (.slice none 0 0) [])).toArray:=by kernel_rfl
 rw [bu];dsimp only [vt];refine qd9 z44 (by simp) (by simp [Value.cells,qk]) (by simp [Value.cells,qk,jv]) (by kernel_rfl) fun X w2 hX C z _=>?_;simp [Value.cells] at z;have Z:=h.newN hX C z;have E:=h.ext C;have ab:w.heap.size<=X:=Nat.le_trans h.size hX;simp [r0];refine Qm (A:=aTs) (A':=aT) (qpd he hu hz n) E (by simp;omega) J t (fun c w' S=>by simpa using S) ?_;intro ks j4 g4 v4 nv4 zs w4 V u a aa b U;simp only [List.nil_append,uy] at u a b;change Own _ _ _ _ _ _ at b;change zs.map (·.nd)=flats xs.length ks at a;have y:=Z.turn aa;have hz4:=qcZ hz n _ _ _ _ _ V;have hjl4:=u.st.il;have hzl:zs.length=sizes ks:=by rw [<-flats_len ks xs.length,<-a,uh]
 simp;refine qdw (c:=5) (x':=jv 5 s o [] 0 v4 (qt xs.length ks)) u y ab (by simp) (by simp [qk]) (by simpa using vN b.isl) (by simpa using xS b.isl) qhY (by simp [qk,jv]) fun w5 Y H W=>?_;simp [r0,W.row];refine yn H (jv 5 s o [] 0 v4 (qt xs.length ks)) (qi7 y Y (Own.down b E.size) (by decide)) (by simp;omega) fun nv6 w6 I hT6=>?_;simp;exact qgG I a rfl U
theorem qCb {L:List Tok} (J:xn L) {e:M T} (he:Mt aT L 62 me e) (Z:Up e) (hz:Sz T.size 0 e) (n:Nat) {base B:Nat} {w w1:World} {tv nv nv1:Value} {i f:Nat} {xs ys:List NV} {β:Type} {A':Ans β} {k:T->M β} {r:Rs β} {K:qa->World->Prop} {Q:Ks} {ρ:qa} {d:Option Nat} (hC:Cu base B w tv nv L xs w1 nv1 i f ys) (U:(xs++ys).length<=2*i+2)
  (Y:bnd (jF L n) (fun s=>bnd (z7 L n e s) k) i f=r) (S:r≠ .oof)
  (hpn:∀ρ c w',PR A' base B tv nv L xs w r (.panicked c) w'->Q.pn ρ c w')
  (h1:∀s w2 nv2 j g,Cu base B w tv nv L xs w2 nv2 j g ys->Tn base B nv1 nv2 w1 w2->(∀{o:Option Nat} {K2:qa->World->Prop} {a:qa},(∀t j g v nv2 zs w2,Cu base B w tv nv L xs w2 nv2 j g (ys++zs)->zs.map (·.nd)=t.flat (xs++ys).length->v=.int .i64 (((xs++ys).length:Int)+t.size - 1)->k t j g=r->K2 (qn a o v) w2)->Calls Tryz.prog 277 #[.pointer (some ⟨B,0,none⟩),.string (qb s)] w2 (zD Q o K2 a))->K (qn ρ d (.string (qb s))) w2):
  Calls Tryz.prog 276 #[.pointer (some ⟨B,0,none⟩)] w1 (zD Q d K ρ):=by
 refine qc6 (A:=aS) (A':=A') (fun _ _=>rfl) (qo3 J n) hC U Y S (hpn ρ) ?_;intro s j g v nv2 w2 u b I R E;change v=_ at R;subst R;have hj:=((qad n).ok u).1;refine h1 s w2 nv2 j g b I fun {o K2 a} W=>?_;refine qb0 (A:=aT) (A':=A') (fun y=>qo4 J he Z hz n s base B w2 tv nv2 j g (xs++ys) b.st (by omega) y) b E S (hpn a) ?_;intro t j3 g3 v3 F zs w3 ht z h V H C;exact W t j3 g3 v3 F zs w3 z h H C
section
variable {P:Program} {Q:Ks} {d:Option Nat} {ty:TypeId} {K:qa->World->Prop} {ρ:qa} {w:World}
theorem qI8 {x:Operand} {t c:TypeId} (b:P.underlying t=some (.interface (P.methodsAt t))) (h:qe ρ x=.nilIface) (a:K (qn ρ d (.bool false)) w):qx P Q d (.binOp .neq t x (.const .nilIface) c) ty K ρ w:=by
 refine jQ (v:=.bool false) (w':=w) ?_ a;have:=run_equal_nil_nil (P:=P) (w:=w) t b;simp [execOp,qN,h,eqGuard_nil_constR,binOp,this]
theorem qI7 {x:Operand} {t b u:TypeId} {v:Value} (c:P.underlying t=some (.interface (P.methodsAt t))) (h:qe ρ x=.iface u v) (a:K (qn ρ d (.bool true)) w):qx P Q d (.binOp .neq t x (.const .nilIface) b) ty K ρ w:=by
 refine jQ (v:=.bool true) (w':=w) ?_ a;have:=run_equal_held_nil (P:=P) (w:=w) t u v c;simp [execOp,qN,h,eqGuard,binOp,this]
end
noncomputable def qfT (v:Value):IR:=zq [za 7 (.const v),zm 4 7,zm 8 4,zE 9 (.binOp .neq 20 (zt 8) (.const .nilIface) 20) 4] <| .cond (zv 9) (zq [zm 11 4,zE 12 (.typeAssert (zt 11) 20 153 true) 154,zm 10 12,za 13 (ze 0 (zv 10)),za 14 (ze 1 (zv 10)),zA 5 153,zw 153 (zt 5) (zt 13),zm 6 14,za 16 (zn (zv 6))] <| .seq (.cond (zv 16) (.reg [zm 17 4,.eff none none (.panic (zt 17)) 0]) .skip) (qvO)) .skip
theorem qEg (v:Value):(jo Tryz.prog Tryz.f116.ntmps qgy [5] (qa3 v (Tryz.f116.body.getD .skip))).map IR.norm=some (qfT v):=by kernel_rfl
def qqk {v0 b a v3:Value} {u:FrameMode} {w:World} {R:Ending->FrameMode->World->Prop} (h:∀ρ:qa,ρ 0=v0->ρ 1=b->ρ 2=a->ρ 3=v3->(qfT (xC u)).wp ⟨Tryz.prog,31,qgy,[]⟩ (qan [] (xN u) R) (qb7 [] (xN u) R) ρ w):
  CallsDIn Fence.wide 0 Tryz.prog 116 #[v0,b,a,v3] u w R:=by
 obtain ⟨e,n,o⟩:=ua.1 (qEg (xC u));exact qw1 (args:=#[v0,b,a,v3]) Tryz.func116 (c:=Tryz.f116.body.getD .skip) rfl (by kernel_rfl) n o (by kernel_rfl) (show zX Tryz.prog qgy Tryz.f116.results.toList=some [] by kernel_rfl) (uV rfl) (h _ rfl rfl rfl rfl)
def qyx:∃ds,Tryz.prog.underlying 153=some ds/\∀m,ds≠ .interface m:=by
 have h:zz (Tryz.prog.underlying 153)=true:=by kernel_rfl
 unfold zz at h;split at h
 ·rename_i fs a;exact ⟨_,a,fun m b=>by cases b⟩
 ·cases h
theorem qx0:zR Tryz.prog 153=some #[]:=by kernel_rfl
theorem qzh:jT Tryz.prog 153 0=true:=by kernel_rfl
theorem z4:zR Tryz.prog 4=some #[.bool false]:=by kernel_rfl
theorem z3:zR Tryz.prog 3=some #[.int .i64 0]:=by kernel_rfl
theorem z9:zR Tryz.prog 9=some #[.string ⟨#[]⟩]:=by kernel_rfl
theorem sz4:jT Tryz.prog 4 1=true:=by kernel_rfl
@[simp] theorem qNU:qh Tryz.prog 54=true:=by kernel_rfl
@[simp] theorem qcH:qh Tryz.prog 116=true:=by kernel_rfl
@[simp] theorem qOc:qh Tryz.prog 275=true:=by kernel_rfl
def qlN {v0 b a v3:Value} {w:World}:CallsDIn Fence.wide 0 Tryz.prog 116 #[v0,b,a,v3] .returning w fun e c w'=>(∃v,e=.returned v)/\c=.returning/\w'=w:=by
 refine qqk fun ρ o n t h=>?_;simp [qfT,xC,xN];refine qI8 xb (by simp) ?_;simp
def qlM {w:World} {A P N O B:Nat} {tv nv:Value} {a i f n:Nat} (hA:Blk w A #[.int .i64 (a:Int)] 3) (hP:Blk w P #[.pointer (some ⟨B,0,none⟩)] 83) (hN:Blk w N #[.int .i64 (n:Int)] 3) (hO:Blk w O #[.bool true] 4\/Blk w O #[.bool false] 4)
  (I:Blk w B #[tv,.int .i64 (i:Int),.int .i64 (f:Int),nv] 85) (o:qu nv=true) (hn:n<=ql nv):
  CallsDIn Fence.wide 0 Tryz.prog 116 #[.pointer (some ⟨A,0,none⟩),.pointer (some ⟨P,0,none⟩),.pointer (some ⟨N,0,none⟩),.pointer (some ⟨O,0,none⟩)] (.panicking QR) w fun e u' w'=>(∃v,e=.returned v)/\settle u'=.returning/\
   ∃W W2,qc w W/\Only B W W2/\Blk W2 B #[tv,.int .i64 (a:Int),.int .i64 (f:Int),qZ nv 6 0 n (qy nv)] 85/\Only O W2 w'/\Blk w' O #[.bool false] 4:=by
 obtain ⟨ds,hu,hd⟩:=qyx;refine qqk fun ρ r0 r1 r2 r3=>?_;simp [qfT,xC,xN,QR];refine qI7 (u:=153) (v:=.agg #[]) xb (by simp) ?_;simp;refine qww (a:=153) (v:=.agg #[]) hu hd (by simp) ?_;simp;refine qX qx0 fun X W hX hE hb _=>?_;simp;refine jx (B:=X) (by simp) hb (by simp [Value.cells]) (by simp [Value.cells]) (by simpa [Value.cells] using qzh) fun W1 aa hb1=>?_;have Z:qc w W1:=aa.ext hE hX;have nX:∀{k:Nat} {cs:Array Value} {T:TypeId},Blk w k cs T->k≠X:=fun h=>by have:=h.lt;omega
 simp [qvO];refine vZ qIo (fun W=>(Blk W A #[.int .i64 (a:Int)] 3/\Blk W P #[.pointer (some ⟨B,0,none⟩)] 83)/\Blk W N #[.int .i64 (n:Int)] 3/\W.cell? ⟨B,3,none⟩=some nv) fun W2 ac _=>?_;have b:=Z.trans' ac;have F:=I.ext b;have c3:W2.cell? ⟨B,3,none⟩=some nv:=by rw [F.cell];rfl
 have H:(Blk W2 A #[.int .i64 (a:Int)] 3/\Blk W2 P #[.pointer (some ⟨B,0,none⟩)] 83)/\Blk W2 N #[.int .i64 (n:Int)] 3/\W2.cell? ⟨B,3,none⟩=some nv:=⟨⟨hA.ext b,hP.ext b⟩,hN.ext b,c3⟩;refine ⟨H, ?_⟩;have cA:∀W,((Blk W A #[.int .i64 (a:Int)] 3/\Blk W P #[.pointer (some ⟨B,0,none⟩)] 83)/\Blk W N #[.int .i64 (n:Int)] 3/\W.cell? ⟨B,3,none⟩=some nv)->W.cell? ⟨A,0,none⟩=some (.int .i64 (a:Int))/\W.cell? ⟨P,0,none⟩=some (.pointer (some ⟨B,0,none⟩))/\W.cell? ⟨N,0,none⟩=some (.int .i64 (n:Int))/\W.cell? ⟨B,3,none⟩=some nv:=fun W h=>⟨by rw [h.1.1.cell];rfl,by rw [h.1.2.cell];rfl,by rw [h.2.1.cell];rfl,h.2.2⟩;simp+contextual -implicitDefEqProofs [qvN,cA,H,r0,r1,r2,r3];have ad:=qjx o;have E:n<=qy nv:=by omega
 simp [o,E];have ab:B≠A:=fun e=>by subst e;have:=hA.heap;rw [I.heap] at this;cases this
 have Y:B≠P:=fun e=>by subst e;have:=hP.heap;rw [I.heap] at this;cases this
 have S:B≠N:=fun e=>by subst e;have:=hN.heap;rw [I.heap] at this;cases this
 have t:O≠B:=fun e=>by subst e;rcases hO with h|h<;>(have:=h.heap;rw [I.heap] at this;cases this)
 refine qW (B:=B) (i:=1) (by simp) F (by simp) (by simp [Value.cells]) (by simp) vp fun W3 c C=>?_;simp at C;refine ⟨⟨⟨c.blk H.1.1 ab.symm,c.blk H.1.2 Y.symm⟩,c.blk H.2.1 S.symm,by rw [C.cell];rfl⟩, ?_⟩;simp;have V:(qZ nv 6 0 n (qy nv)).cells=#[qZ nv 6 0 n (qy nv)]:=vN (qaC o 6 0 n (qy nv) (uz _) E (j1 _));have U:(qZ nv 6 0 n (qy nv)).oneCell=true:=xS (qaC o 6 0 n (qy nv) (uz _) E (j1 _));refine qW (B:=B) (i:=3) (by simp) C (by simp) (by simpa using V) (by simpa using U) qnk fun W4 z R=>?_;simp at R;simp;have y:Blk W4 O #[.bool true] 4\/Blk W4 O #[.bool false] 4:=by
  rcases hO with h|h
  ·exact .inl (z.blk (c.blk (h.ext b) t) t)
  ·exact .inr (z.blk (c.blk (h.ext b) t) t)
 rcases y with h|h
 all_goals
  refine qW (B:=O) (i:=0) (by simp [r3]) h (by simp) (by simp [Value.cells]) (by simp) sz4 fun W5 y J=>?_;simp at J;exact ⟨rfl,W2,b,W4,c.trans z,R,y,J⟩
def Own.take {b e sz n:Nat} {w:World} {v:Value} {ys zs:List Value} (h:Own b e sz w v (ys++zs)) (c:ys.length=n*sz) (H:0<sz):Own b e sz w (qZ v sz 0 n (qy v)) ys:=by
 rcases h with ⟨rfl,I⟩|⟨g,off,m,cap,cur,rfl,o,E,F,R,J,z,C⟩
 ·have o:ys=[]:=(List.append_eq_nil_iff.1 I).1;subst o;have y:n=0:=by
   have:=Nat.mul_eq_zero.1 c.symm;omega
  subst y;exact .inl ⟨by simp [qZ,qy],rfl⟩
 ·have a:n*sz<=m*sz:=by rw [<-c,<-F,kh];omega
  have t:n<=m:=VS a H;refine .inr ⟨g,off,n,cap,cur, ?_,o,E,c,by omega,J,z, ?_⟩
  ·simp [qZ,qy,Addr.add]
  ·have u:((cur.toList.drop off).take (m*sz)).take (n*sz)=ys:=by rw [C,List.take_left' c]
   rw [<-u,Vm,J1 a]
theorem qCU {v:Value} {sz l h m:Nat}:(qZ v sz l h m).ownBlock=v.ownBlock:=by
 unfold qZ;split
 ·rename_i a n c;split
  ·cases a<;>rfl
  ·cases a with
   |none=>rfl
   |some a=>simp only [Option.map_some,Value.ownBlock,Addr.add];split<;>rfl
 ·rfl
structure TnO (base B O:Nat) (nv nv':Value) (w w':World):Prop where
 below:Below base w w'
 block:∀k,k<w.heap.size->k≠B->nv.ownBlock≠some k->k≠O->w'.heap[k]? =w.heap[k]?
 row:∀k,nv'.ownBlock=some k->nv.ownBlock=some k\/w.heap.size<=k
structure TnW (base B:Nat) (nv nv':Value) (w w':World):Prop where
 below:Below base w w'
 block:∀k,k<w.heap.size->k≠B->nv.ownBlock≠some k->w'.heap[k]? =w.heap[k]?
 row:∀k,nv'.ownBlock=some k->nv.ownBlock=some k\/w.heap.size<=k
section
variable {base B O X:Nat} {w w1 w2:World} {tv nv nv1 nv2:Value} {L:List Tok} {i f j g:Nat} {xs ys zs:List NV} {x:NV}
theorem Tn.toO (h:Tn base B nv nv1 w w1):TnO base B O nv nv1 w w1:=⟨h.below,fun k b c a _=>h.block k b c a,h.row⟩
theorem TnW.toO (h:TnW base B nv nv1 w w1):TnO base B O nv nv1 w w1:=⟨h.below,fun k b c a _=>h.block k b c a,h.row⟩
theorem Tn.toW (h:Tn base B nv nv1 w w1):TnW base B nv nv1 w w1:=⟨h.below,h.block,h.row⟩
theorem TnW.trans (h:TnW base B nv nv1 w w1) (k:TnW base B nv1 nv2 w1 w2):TnW base B nv nv2 w w2:=by
 have o:=h.below.size;refine ⟨h.below.trans k.below,fun j b c n=>?_,fun j b=>?_⟩
 ·refine (k.block j (by omega) c fun e=>?_).trans (h.block j b c n);rcases h.row j e with a|a
  ·exact n a
  ·omega
 ·rcases k.row j b with a|a
  ·exact h.row j a
  ·exact .inr (by omega)
theorem TnW.full (h:TnW base B nv nv1 w w1) (a:nv1=nv\/ql nv<ql nv1):Tn base B nv nv1 w w1:=⟨h.below,h.block,h.row,a⟩
theorem TnO.only (h:TnO base B O nv nv1 w w1) (a:Only X w1 w2) (c:X=O\/w.heap.size<=X) (o:base<=X):TnO base B O nv nv1 w w2:=by
 refine ⟨h.below.trans (yh a o),fun k n t b u=>?_,h.row⟩;rw [a.block k (by rintro rfl;rcases c with e|e<;>omega)];exact h.block k n t b u
theorem TnO.tn (h:TnO base B O nv nv1 w w1) (c:Tn base B nv1 nv2 w1 w2):TnO base B O nv nv2 w w2:=by
 have u:=h.below.size;refine ⟨h.below.trans c.below,fun j b n o t=>?_,fun j b=>?_⟩
 ·refine (c.block j (by omega) n fun e=>?_).trans (h.block j b n o t);rcases h.row j e with a|a
  ·exact o a
  ·omega
 ·rcases c.row j b with a|a
  ·exact h.row j a
  ·exact .inr (by omega)
theorem PSt.cut (h:PSt base B w tv nv L j g (xs++ys)) (n:Only B w w1) (t:Blk w1 B #[tv,.int .i64 (i:Int),.int .i64 (g:Int),qZ nv 6 0 xs.length (qy nv)] 85) (z:i<=L.length):
  PSt base B w1 tv (qZ nv 6 0 xs.length (qy nv)) L i g xs/\TnW base B nv (qZ nv 6 0 xs.length (qy nv)) w w1:=by
 have keep:∀{b e sz:Nat} {v:Value} {ys:List Value},e≠85->Own b e sz w v ys->Own b e sz w1 v ys:=fun u c=>Own.same c fun k a=>by
  obtain ⟨cur,y⟩:=Own.row c a;exact n.block k (h.blkNe y u)
 have c:Own base 44 6 w (qZ nv 6 0 xs.length (qy nv)) (jH xs):=Own.take (zs:=jH ys) (by rw [<-qpu];exact h.own) (yV xs) (by decide);refine ⟨⟨t,keep (by decide) h.tok,keep (by decide) c,fun x C=>keep (by decide) (h.kid x (VI _ C)),h.bB,by rw [n.size];exact h.bW,h.tl,z,h.fl⟩, ?_,fun k a o _=>n.block k o,fun k a=> .inl (by rw [qCU] at a;exact a)⟩;exact yh n h.bB
end
def qmc (base B O:Nat) (w:World) (tv nv:Value) (L:List Tok) (i:Nat) (xs:List NV):Rs Bs->Ending->World->Prop
 | .ok s j g,e,w'=>e=.returned (.bool true)/\∃nv',PSt base B w' tv nv' L j g xs/\TnO base B O nv nv' w w'/\Blk w' O #[.string (qb s)] 9/\(nv'=nv\/ql nv<ql nv')
 | .no g,e,w'=>e=.returned (.bool false)/\∃nv',PSt base B w' tv nv' L i g xs/\TnO base B O nv nv' w w'
 | .oof,_,_=>False
def qCG {L:List Tok} (F:xn L) (n:Nat) {base B P O:Nat} {w:World} {tv nv v0:Value} {i f:Nat} {xs:List NV} (z:PSt base B w tv nv L i f xs) (E:xs.length<=2*i+2) (J:Blk w P #[.pointer (some ⟨B,0,none⟩)] 83) (R:Blk w O #[v0] 9) (c:jF L n i f≠ .oof):
  Calls Tryz.prog 275 #[.pointer (some ⟨P,0,none⟩),.pointer (some ⟨O,0,none⟩)] w fun e w2=>match jF L n i f with
   | .ok s j g=>e=.returned (.tuple #[])/\∃nv2 w1,PSt base B w1 tv nv2 L j g xs/\Tn base B nv nv2 w w1/\Only O w1 w2/\Blk w2 O #[.string (qb s)] 9
   | .no g=>e=.panicked QR/\∃j nv2 ys,PSt base B w2 tv nv2 L j g (xs++ys)/\Tn base B nv nv2 w w2
   | .oof=>False:=by
 refine qFX fun ρ r0 r1=>?_;have I:w.cell? ⟨P,0,none⟩=some (.pointer (some ⟨B,0,none⟩)):=by rw [J.cell];rfl
 simp [qsz,r0,I];have H:=qo3 F n base B w tv nv i f xs z E c;refine H.mono ?_;intro e w1 o;cases y:jF L n i f with
 |oof=>exact absurd y c
 |no g=>
  rw [y] at o;obtain ⟨j,nv2,ys,rfl,a,b⟩:=o;simp;exact ⟨j,nv2,⟨ys,a⟩,b⟩
 |ok s j g=>
  rw [y] at o;obtain ⟨v,nv2,ys,rfl,a,t,_,b,C⟩:=o;change v=_ at C;subst C;obtain rfl:ys=[]:=by simpa [aS] using t
  simp only [uy] at a;simp;refine qW (B:=O) (i:=0) (by simp [r1]) (z.var b R (by decide) (by decide)) (by simp) (by simp [Value.cells]) (by simp) sz9 fun W2 u h=>?_;simp at h;simp;exact ⟨nv2,w1,a,b,u,h⟩
def qhG {R:Ending->World->Prop} {l:List Nat} (a:∀d∈l,d≠gS/\d≠4):∀d∈l,∀ρ v c w,(xj Tryz.prog [.cell1 4] R).pn (qw ρ d v) c w->(xj Tryz.prog [.cell1 4] R).pn ρ c w:=by
 intro d n ρ v c w h;obtain ⟨b,e⟩:=a d n;refine qwo b (fun w=>?_) h;simp [vY,RV.val,Ne.symm e]
def qB1 {L:List Tok} (hL:xn L) (n:Nat) {base B P O:Nat} {w:World} {tv nv v0:Value} {i f:Nat} {xs:List NV} (hS:PSt base B w tv nv L i f xs) (hn:xs.length<=2*i+2) (hP:Blk w P #[.pointer (some ⟨B,0,none⟩)] 83) (hO:Blk w O #[v0] 9) (hbO:base<=O) (hno:jF L n i f≠ .oof):
  Calls Tryz.prog 54 #[.pointer (some ⟨B,0,none⟩),.func (.func 275) #[] #[.pointer (some ⟨P,0,none⟩),.pointer (some ⟨O,0,none⟩)]] w (qmc base B O w tv nv L i xs (jF L n i f)):=by
 have hb0:=hS.bW;have hil:=hS.il;have htl:=hS.tl;refine qjR fun ρ r0 r1 rg=>?_;simp [qdV,r0];refine vO fun A W1 hA U hbA _=>?_;simp [Value.cells,r0] at hbA;simp;refine qX z4 fun Y W2 hY hE2 hbY _=>?_;simp;have hS2:=hS.ext (U.trans' hE2);have hA2:=hbA.ext hE2;refine vZ (hpn:=qhG (by decide)) qjQ (fun W=>Blk W A #[.pointer (some ⟨B,0,none⟩)] 83/\Blk W B #[tv,.int .i64 (i:Int),.int .i64 (f:Int),nv] 85) fun W3 V _=>?_;have u:=hS2.ext V;have o:=hA2.ext V;have hJ:Blk W3 A #[.pointer (some ⟨B,0,none⟩)] 83/\Blk W3 B #[tv,.int .i64 (i:Int),.int .i64 (f:Int),nv] 85:=⟨o,u.blk⟩;refine ⟨hJ, ?_⟩;have cA:∀W,(Blk W A #[.pointer (some ⟨B,0,none⟩)] 83/\Blk W B #[tv,.int .i64 (i:Int),.int .i64 (f:Int),nv] 85)->W.cell? ⟨A,0,none⟩=some (.pointer (some ⟨B,0,none⟩))/\W.cell? ⟨B,1,none⟩=some (.int .i64 (i:Int))/\W.cell? ⟨B,3,none⟩=some nv:=fun W h=>⟨by rw [h.1.cell];rfl,by rw [h.2.cell];rfl,by rw [h.2.cell];rfl⟩;have hisl:=hS.own.isl;simp+contextual -implicitDefEqProofs [qf5,cA,hJ,hisl];have rest:∀(C:qa) (W4:World) (X5 X6:Nat),qc W3 W4->Blk W4 X5 #[.int .i64 (i:Int)] 3->Blk W4 X6 #[.int .i64 (xs.length:Int)] 3->C 1=ρ 1->C 2=.pointer (some ⟨A,0,none⟩)->C 4=.pointer (some ⟨Y,0,none⟩)->C 5=.pointer (some ⟨X5,0,none⟩)->C 6=.pointer (some ⟨X6,0,none⟩)->C gS=.tuple #[]->qbr.wp ⟨Tryz.prog,19,qbs,y6⟩ (vz Tryz.prog [.cell1 4] (qmc base B O w tv nv L i xs (jF L n i f)) .returning) (xj Tryz.prog [.cell1 4] (qmc base B O w tv nv L i xs (jF L n i f))) C W4:=by
  intro C W4 X5 X6 a I z e1 e2 e4 e5 e6 eg;have H:=u.ext a;have hA4:=o.ext a;have hY4:=(hbY.ext V).ext a;have R:qc w W4:=((U.trans' hE2).trans' V).trans' a;have hP4:=hP.ext R;have hO4:=hO.ext R;have hT4:Tn base B nv nv w W4:=Tn.ext R hb0;have hYO:Y≠O:=by have:=hO.lt;have:=U.size;omega
  have hYw:w.heap.size<=Y:=by have:=U.size;omega
  have hYB:Y≠B:=by have:=hS.blk.lt;omega
  simp [qbr];refine qgL (f:=116) (caps:=#[.pointer (some ⟨X5,0,none⟩),.pointer (some ⟨A,0,none⟩),.pointer (some ⟨X6,0,none⟩),.pointer (some ⟨Y,0,none⟩)]) (by simp [e2,e4,e5,e6]) trivial ?_;have eg':C 1000000000=.tuple #[]:=eg;simp [gS,e1,r1,eg'];refine kL (f:=275) (by simp) (fs:=#[]) (caps:=#[.pointer (some ⟨P,0,none⟩),.pointer (some ⟨O,0,none⟩)]) (by simp) ?_;simp;refine (qCG hL n H hn hP4 hO4 hno).mono ?_;intro e w5 hp;generalize hr:jF L n i f=r at hp hno;cases r with
  |oof=>exact absurd rfl hno
  |ok s j g=>
   obtain ⟨rfl,nv2,w4,t,y,hOn,hbO5⟩:=hp;have S:=hOn.blk (H.var y hY4 (by decide) (by decide)) hYO;simp;refine qW (B:=Y) (i:=0) (by simp [e4]) S (by simp) (by simp [Value.cells]) (by simp) sz4 fun W6 c z=>?_;simp at z;simp [xj,vz,gS,e4];refine vu (by simp) qcH (qlN.mono ?_);rintro e u' w' ⟨⟨v,rfl⟩,rfl,rfl⟩;refine qaA ?_;have cY:w'.cell? ⟨Y,0,none⟩=some (.bool true):=by rw [z.cell];rfl
   simp [qB,vY,RV.val,e4,cY,yu];have hO5:=H.var y hO4 (by decide) (by decide);have hS6:=(t.only (cs:=#[v0]) (T:=9) hOn (fun _=>hO5.heap) (by decide) (by decide) (by decide) (by decide)).only (cs:=#[.bool false]) (T:=4) c (fun _=>S.heap) (by decide) (by decide) (by decide) (by decide);refine ⟨rfl,nv2,hS6,((hT4.trans y).toO.only hOn (.inl rfl) hbO).only c (.inr hYw) (by omega),c.blk hbO5 (Ne.symm hYO),y.gr⟩
  |no g=>
   obtain ⟨rfl,j,nv2,ys,t,y⟩:=hp;have S:=H.var y hY4 (by decide) (by decide);have h55:=H.var y I (by decide) (by decide);have h56:=H.var y z (by decide) (by decide);have hA5:=H.var y hA4 (by decide) (by decide);have hl5:=(L01.jR t.own).len;rw [yV,kh] at hl5;simp [xj,vz,gS,e4];refine vu (by simp) qcH ((qlM h55 hA5 h56 (.inr S) t.blk t.own.isl (by omega)).mono ?_);rintro e u' w' ⟨⟨v,rfl⟩,hu,W6,W7,hE6,E,F,hO8,hb8⟩;show vB _ _ _ _ [] (settle u') w';rw [hu];refine qaA ?_;have cY:w'.cell? ⟨Y,0,none⟩=some (.bool false):=by rw [hb8.cell];rfl
   simp [qB,vY,RV.val,e4,cY,yu];obtain ⟨hS7,hT7⟩:=(t.ext hE6).cut E F hil;have hY7:=E.blk (S.ext hE6) hYB;have hS8:=hS7.only (cs:=#[.bool false]) (T:=4) hO8 (fun _=>hY7.heap) (by decide) (by decide) (by decide) (by decide);exact ⟨rfl,_,hS8,(((hT4.trans y).extR hE6 hb0).toW.trans hT7).toO.only hO8 (.inr hYw) (by omega)⟩
 have nvl:ql nv=xs.length:=by
  have:=(L01.jR hS.own).len;rw [yV] at this;omega
 refine ⟨?_, ?_⟩
 ·refine qX z3 fun X5 W4 hX5 a hb4 hs4=>⟨⟨o.ext a,(u.ext a).blk⟩, ?_⟩;refine qX z3 fun X6 W5 hX6 b I hs5=>⟨⟨(o.ext a).ext b,((u.ext a).ext b).blk⟩, ?_⟩;have t:=(u.ext a).ext b;have l5:W3.heap.size<=X5:=hX5;have J:X5≠X6:=by omega
  refine qW (B:=X5) (i:=0) (by simp) (hb4.ext b) (by simp) (by simp [Value.cells]) (by simp) vp fun W6 c z=>?_;simp at z;have Z:=c.blk ((o.ext a).ext b) (by have:=o.lt;omega);have hB6:=c.blk t.blk (by have:=u.blk.lt;omega);refine ⟨⟨Z,hB6⟩, ?_⟩;refine qW (B:=X6) (i:=0) (by simp) (c.blk I (Ne.symm J)) (by simp) (by simp [Value.cells]) (by simp) vp fun W7 E F=>?_;simp [nvl] at F;exact rest _ W7 X5 X6 (E.ext (c.ext (a.trans' b) l5) (by have:=a.size;omega)) (E.blk z J) F (by simp) (by simp) (by simp) (by simp) (by simp) (by simp [gS] at rg⊢;exact rg)
 ·refine qX z3 fun X6 W4 hX6 a hb4 hs4=>⟨⟨o.ext a,(u.ext a).blk⟩, ?_⟩;refine qX z3 fun X5 W5 hX5 b I hs5=>⟨⟨(o.ext a).ext b,((u.ext a).ext b).blk⟩, ?_⟩;have t:=(u.ext a).ext b;have l5:W3.heap.size<=X5:=Nat.le_trans a.size hX5;have J:X6≠X5:=by omega
  refine qW (B:=X5) (i:=0) (by simp) I (by simp) (by simp [Value.cells]) (by simp) vp fun W6 c z=>?_;simp at z;have Z:=c.blk ((o.ext a).ext b) (by have:=o.lt;omega);have hB6:=c.blk t.blk (by have:=u.blk.lt;omega);refine ⟨⟨Z,hB6⟩, ?_⟩;refine qW (B:=X6) (i:=0) (by simp) (c.blk (hb4.ext b) J) (by simp) (by simp [Value.cells]) (by simp) vp fun W7 E F=>?_;simp [nvl] at F;exact rest _ W7 X5 X6 (E.ext (c.ext (a.trans' b) l5) hX6) (E.blk z (Ne.symm J)) F (by simp) (by simp) (by simp) (by simp) (by simp) (by simp [gS] at rg⊢;exact rg)
noncomputable def qqf:Code:=((Tryz.f217.body).getD .skip)
noncomputable def qju:IR:=zq [za 64 (zl (zv 1)),za 68 (zI .add (zo 1 (zN (zv 64))) (zK 1)),za 70 (zf 1 (zN (zv 64))),zw 3 (zt 70) (zt 68),za 71 (zl (zv 1)),zE 72 (.buildSlice 51 1 #[(0,(zY #[40]))]) 51,zc 73 153 #[zt 71,zt 72] #[83,51] 0,za 74 (zl (zv 1)),zc 75 62 #[zt 74] #[83] 3,zE 76 (.buildSlice 40 1 #[(0,(zt 75))]) 40,za 77 (zf 5 (zv 8)),zw 40 (zt 77) (zt 76),za 78 (zl (zv 1)),zE 79 (.buildSlice 51 1 #[(0,(zY #[41]))]) 51,zc 80 153 #[zt 78,zt 79] #[83,51] 0,za 81 (zl (zv 1)),za 82 (zM 6 (zv 8)),zc 83 140 #[zt 81,zt 82] #[83,44] 3,zm 2 83,za 3 (zQ false)] <| .ret
noncomputable def qqe:IR:=zq [za 121 (zl (zv 1)),za 125 (zI .add (zo 1 (zN (zv 121))) (zK 1)),za 127 (zf 1 (zN (zv 121))),zw 3 (zt 127) (zt 125),za 128 (zl (zv 1)),za 130 (zo 1 (zv 4)),zE 131 (.build 44 #[(0,(.const (zu 4))),(1,(zt 130))]) 44,zc 132 140 #[zt 128,zt 131] #[83,44] 3,zm 2 132,za 3 (zQ false)] <| .ret
noncomputable def qqd:IR:=.ret
noncomputable def qfQ:IR:=.seq (.raw (qP qqf 37)) (qqd)
noncomputable def qqg:IR:=zq [zE 1 (.box 83 (zt 0)) 0,za 2 (zK 0),za 3 (zQ false),za 11 (zl (zv 1)),zc 12 142 #[zt 11,zO 0] #[83,3] 53,zA 4 53,zw 53 (zt 4) (zt 12),za 13 (zl (zv 1)),zc 14 142 #[zt 13,zO 1] #[83,3] 53,za 5 (.op1 (.fld 1) (zv 14))] <| .seq (.block 0 (zq [za 16 (zB .eql (zo 0 (zv 4)) (.const (zu 3)))] <| .cond (zv 16) (zq [za 20 (zl (zv 1)),za 24 (zI .add (zo 1 (zN (zv 20))) (zK 1)),za 26 (zf 1 (zN (zv 20))),zw 3 (zt 26) (zt 24),za 29 (zo 1 (zv 4)),zc 30 273 #[zt 29] #[9] 127,zm 27 30,za 31 (ze 0 (zv 27)),za 32 (ze 1 (zv 27)),zm 6 31,zm 7 32,za 33 (zl (zv 1)),zm 34 6,zE 35 (.build 44 #[(0,(.const (zu 1))),(4,(zt 34))]) 44,zc 36 140 #[zt 33,zt 35] #[83,44] 3,zm 2 36,za 3 (zQ false)] <| .ret) (zq [za 38 (zl (zv 1)),zc 39 117 #[zt 38,zY #[116,114,117,101]] #[83,9] 4,zm 37 39] <| .cond (zv 37) (zq [za 40 (zl (zv 1)),zE 41 (.build 44 #[(0,(.const (zu 2))),(4,(zO 1))]) 44,zc 42 140 #[zt 40,zt 41] #[83,44] 3,zm 2 42,za 3 (zQ false)] <| .ret) (zq [za 44 (zl (zv 1)),zc 45 117 #[zt 44,zY #[102,97,108,115,101]] #[83,9] 4,zm 43 45] <| .cond (zv 43) (zq [za 46 (zl (zv 1)),zE 47 (.build 44 #[(0,(.const (zu 2)))]) 44,zc 48 140 #[zt 46,zt 47] #[83,44] 3,zm 2 48,za 3 (zQ false)] <| .ret) (zq [za 50 (zl (zv 1)),zc 51 117 #[zt 50,zY #[110,105,108]] #[83,9] 4,zm 49 51] <| .cond (zv 49) (zq [za 52 (zl (zv 1)),zE 53 (.build 44 #[(0,(.const (zu 3)))]) 44,zc 54 140 #[zt 52,zt 53] #[83,44] 3,zm 2 54,za 3 (zQ false)] <| .ret) (zq [za 56 (zl (zv 1)),zE 57 (.buildSlice 51 2 #[(0,(zY #[117,112])),(1,(zY #[100,111,119,110]))]) 51,zc 58 141 #[zt 56,zt 57] #[83,51] 4,zm 55 58] <| .cond (zv 55) (zq [zE 59 (.build 44 #[(0,(.const (zu 9)))]) 44,zA 8 44,zw 44 (zt 8) (zt 59),za 60 (zl (zv 1)),zE 61 (.buildSlice 51 1 #[(0,(zY #[100,111,119,110]))]) 51,zc 62 141 #[zt 60,zt 61] #[83,51] 4] <| .seq (.cond (zv 62) (.reg [za 63 (zf 0 (zv 8)),zw 5 (zt 63) (.const (zu 10))]) .skip) (qju)) (zq [za 85 (zl (zv 1)),zc 86 117 #[zt 85,zY #[40]] #[83,9] 4,zm 84 86] <| .cond (zv 84) (zq [za 87 (zl (zv 1)),zc 88 62 #[zt 87] #[83] 3,zm 9 88,za 89 (zl (zv 1)),zE 90 (.buildSlice 51 1 #[(0,(zY #[41]))]) 51,zc 91 153 #[zt 89,zt 90] #[83,51] 0,zm 2 9,za 3 (zQ false)] <| .ret) (zq [za 93 (.ite (zB .eql (zo 0 (zv 4)) (.const (zu 1))) (.ite (zS .eql (zv 5) (.const (zs #[40]))) (zQ true) (zS .eql (zv 5) (.const (zs #[123])))) (zQ false))] <| .cond (zv 93) (zq [za 105 (zl (zv 1)),zc 106 274 #[zt 105] #[83] 3,zm 2 106,za 3 (zQ true)] <| .ret) (zq [za 107 (.ite (zB .eql (zo 0 (zv 4)) (.const (zu 1))) (zS .eql (zv 5) (.const (zs #[91]))) (zQ false))] <| .cond (zv 107) (zq [zA 10 9,zw 9 (zt 10) (zY #[]),za 115 (zl (zv 1)),zE 116 (.makeFunc (.func 275) #[] #[zt 1,zt 10]) 1,zc 117 54 #[zt 115,zt 116] #[83,1] 4] <| .seq (.cond (zv 117) (zq [za 118 (zl (zv 1)),za 119 (zl (zv 10)),zc 120 277 #[zt 118,zt 119] #[83,9] 3,zm 2 120,za 3 (zQ true)] <| .ret) .skip) (qqe)) (zq [za 133 (.ite (zB .eql (zo 0 (zv 4)) (.const (zu 1))) (zS .neq (zv 5) (.const (zs #[36]))) (zQ false))] <| .cond (zv 133) (zq [za 141 (zl (zv 1)),za 145 (zI .add (zo 1 (zN (zv 141))) (zK 1)),za 147 (zf 1 (zN (zv 141))),zw 3 (zt 147) (zt 145),za 148 (zl (zv 1)),za 150 (zo 1 (zv 4)),zE 151 (.build 44 #[(0,(.const (zu 4))),(1,(zt 150))]) 44,zc 152 140 #[zt 148,zt 151] #[83,44] 3,zm 2 152,za 3 (zQ false)] <| .ret) .skip)))))))))) (qfQ)
def qdQ:List Nat:=zV 157 [15,17,18,19,21,22,23,25,28,65,66,67,69,92,94,95,96,97,98,99,100,101,102,103,104,108,109,110,111,112,113,114,122,123,124,126,129,134,135,136,137,138,139,140,142,143,144,146,149]
def qEd:C1 217 157 qdQ qqg [.tmp 2,.tmp 3]:=c1 [37] Tryz.func217
noncomputable def qqc:OT:=zy 153 (zl (zv 1))<|zy 154 (zl (zv 1))<| .step (zc 155 276 #[zt 154] #[83] 9) true<| .step (zc 156 277 #[zt 153,zt 155] #[83,9] 3) false<| .step (zm 2 156) false<| .step (za 3 (zQ true)) false<| .done
theorem qEc:zj Tryz.prog 157 qdQ 3 (qP qqf 37)=some qqc:=by kernel_rfl
end Go.L02
