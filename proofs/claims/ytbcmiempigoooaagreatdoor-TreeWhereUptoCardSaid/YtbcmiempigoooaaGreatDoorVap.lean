/- Lemmas for a claim about layer 2 (tree). No conditions but those they state. -/
import Derived.Test.YtbcmiempigoooaaGreatDoorVao
import Derived.Lib.AtoiAll
import Derived.Lib.ItoaNum
import Derived.Test.YtbcmiempigoooaaGreatDoorProg
import Derived.KernelRfl
set_option linter.all false
noncomputable section
namespace Go.L01
open Go.Eng Go.Lib
def zG (a:Nat) (l:Bs):Nat:=l.foldl (fun a c=>a*10+(c.toNat - 48)) a
def qcQ (a:Nat) (c:UInt8) (l:Bs):zG a (c::l)=zG (a*10+(c.toNat - 48)) l:=by unfold zG;rw [List.foldl_cons]
def qgO:∀(l:Bs) (a:Nat),a<=zG a l
 |[],a=>kh _
 |c::l,a=>by rw [qcQ];have:=qgO l (a*10+(c.toNat - 48));omega
def qgN:∀(l:Bs) (a:Nat),(∀c∈l,qV c=true)->zG a l<(a+1)*10^l.length
 |[],a,_=>by simp [zG]
 |c::l,a,h=>by
  have b:=h c (by simp);simp [qV] at b;rw [qcQ];have:=qgN l (a*10+(c.toNat - 48)) fun x e=>h x (by simp [e]);refine uT this ?_;rw [List.length_cons,Nat.pow_succ,Nat.mul_comm (10^l.length) 10,<-Nat.mul_assoc];exact JT _ (by omega)
def qxp (a:Nat) (l:Bs) (c:UInt8):zG a (l++[c])=zG a l*10+(c.toNat - 48):=by simp [zG]
def qif:∀(l:Bs) (a:Nat),(∀c∈l,qV c=true)->zG a l<10000000000->parseUint10 a l=.ok (zG a l)
 |[],a,_,_=>rfl
 |c::l,a,h,b=>by
  have e:=h c (by simp);simp [qV] at e;rw [qcQ] at b⊢;have n:=qgO l (a*10+(c.toNat - 48));rw [parseUint10,j0 e,q3 (by omega),q3 (by omega)];exact qif l _ (fun x o=>h x (by simp [o])) b
def qoX {c:UInt8} (h:qV c=true):UInt8.ofNat (48+(c.toNat - 48))=c:=by
 simp [qV] at h;have:48+(c.toNat - 48)=c.toNat:=by omega
 rw [this];simp
def qvS:∀(n:Nat) (l:Bs),l.length=n->l≠[]->(∀c∈l,qV c=true)->(l.length=1\/l.getD 0 0≠48)->decDigits (zG 0 l)=l:=by
 intro n
 induction n with
 |zero=>intro l u o;exact absurd (uJ.1 u) o
 |succ n O=>
  intro l u o q S;rcases List.eq_nil_or_concat l with rfl|⟨t,c,rfl⟩
  ·exact absurd rfl o
  rw [List.concat_eq_append] at*;have y:qV c=true:=q c (by simp);rw [qxp];have z:=y;simp [qV] at z;by_cases C:t=[]
  ·subst C;simp only [zG,List.foldl_nil,List.nil_append];rw [decDigits,dif_pos (by omega),Nat.zero_mul,ur,qoX y]
  ·obtain ⟨a,b,rfl⟩:∃a b,t=a::b:=by cases t with|nil=>exact absurd rfl C|cons a b=>exact ⟨a,b,rfl⟩
   have F:a≠48:=by
    rcases S with h|h
    ·simp at h
    ·simpa using h
   have v:=q a (by simp);simp [qV] at v;have H:a.toNat≠48:=fun e=>F (UInt8.toNat_inj.1 e);have U:1<=zG 0 (a::b):=by
    rw [qcQ];have:=qgO b (0*10+(a.toNat - 48));omega
   have R:=O (a::b) (by simp at u⊢;omega) (by simp) (fun x E=>q x (by simp at E⊢;rcases E with h|h<;>simp [h])) (.inr (by simpa using F));rw [decDigits,dif_neg (by omega)];have I:(zG 0 (a::b)*10+(c.toNat - 48)) / 10=zG 0 (a::b):=by omega
   have J:(zG 0 (a::b)*10+(c.toNat - 48))%10=c.toNat - 48:=by omega
   rw [I,J,R,qoX y]
def qIw (u:Nat):∀c∈decDigits u,qV c=true:=by
 induction u using Nat.strongRecOn with
 |_ u b=>
  have one:∀d,d<10->qV (UInt8.ofNat (48+d))=true:=by decide
  rw [decDigits];split
  ·intro c a;rw [uu] at a;subst a;exact one u (by omega)
  ·intro c a;simp only [uv,uu] at a;rcases a with a|a
   ·exact b (u / 10) (by omega) c a
   ·subst a;exact one _ (by omega)
def qIv (u:Nat) (h:0<u):decDigits u≠[]/\(decDigits u).getD 0 0≠48:=by
 induction u using Nat.strongRecOn with
 |_ u o=>
  have one:∀d,0<d->d<10->UInt8.ofNat (48+d)≠48:=by
   intro d c b
   match d,c,b with
   |1,_,_|2,_,_|3,_,_|4,_,_|5,_,_|6,_,_|7,_,_|8,_,_|9,_,_=>decide
  rw [decDigits];split
  ·rename_i e;exact ⟨by simp,one u h e⟩
  ·obtain ⟨c,b⟩:=o (u / 10) (by omega) (by omega);cases n:decDigits (u / 10) with
   |nil=>exact absurd n c
   |cons a t=>
    rw [n] at b;exact ⟨by simp,by simpa using b⟩
def qvT (u:Nat):(decDigits u).length=nDigits u:=by rw [decDigits_eq];simp
def qIu {u:Nat} (h:u<=1000000000):(decDigits u).length<=10/\((decDigits u).length<10\/u=1000000000):=by
 rw [qvT];have q:=nDigits_pos u;by_cases t:u=1000000000
 ·have:nDigits u=9+1:=nDigits_unique 9 u (by omega) (by omega);omega
 ·have:nDigits u<10:=by
   rcases JA (nDigits u) 10 with c|c
   ·exact c
   ·exfalso;have key:∀(n u:Nat),nDigits u=n+1->(n=0\/10^n<=u):=by
     intro n
     induction n with
     |zero=>intro u _;exact .inl rfl
     |succ n o=>
      intro u e;right;have a:¬u<10:=fun h=>by rw [nDigits_small h] at e;omega
      rw [nDigits_big a] at e;rcases o (u / 10) (by omega) with b|b
      ·subst b;simpa using a
      ·rw [Nat.pow_succ];omega
    rcases key (nDigits u - 1) u (by omega) with b|b
    ·omega
    ·have:(10:Nat)^9<=10^(nDigits u - 1):=Vj (by decide) (by omega);omega
  omega
def qkK {s:Bs}:jO s=s.length↔∀c∈s,qV c=true:=by
 unfold jO;constructor
 ·intro h c b;have e:s.takeWhile qV=s:=(Jm qV).eq_of_length h;have a:c∈s.takeWhile qV:=by rw [e];exact b
  exact ut.1 (u9 (p:=qV) (l:=s)) c a
 ·intro h;have:s.takeWhile qV=s:=by
   have:=Jz (p:=qV) (l₁:=s) (l₂:=[]) h;simpa using this
  rw [this]
def qdC (s:Bs):Bool:=match atoiAll s with
 | .ok v=>decide (0<=v)&&decide (v<=1000000000)&&decide (itoa v=s)
 |_=>false
def qCF:decDigits 1000000000=most:=by
 have:zG 0 most=1000000000:=by decide
 rw [<-this];exact qvS 10 most rfl (by decide) (by decide) (.inr (by decide))
def qoZ (s:Bs):qdC s=jX s:=by
 rw [uR];constructor
 ·intro h;unfold qdC at h;split at h
  ·rename_i v I;simp only [km,ue] at h;obtain ⟨⟨C,t⟩,b⟩:=h;rw [itoa,q3 (by omega)] at b;have q:=qIw v.toNat;have E:=qIu (u:=v.toNat) (by omega);rw [b] at q E;have F:0<s.length:=by rw [<-b,qvT];exact nDigits_pos _
   have H:=qkK.2 q;have y:1<s.length->s.getD 0 0≠48:=by
    intro t;rw [<-b];refine (qIv v.toNat ?_).2;rcases Nat.eq_zero_or_pos v.toNat with h|h
    ·rw [<-b,h,decDigits] at t;simp at t
    ·exact h
   have z:s.length<10\/s=most:=by
    rcases E.2 with h|h
    ·exact .inl h
    ·right;rw [<-b,h,qCF]
   unfold jX;simp only [km,ux,uZ,JF,uX,uS,ue];exact ⟨⟨⟨⟨by omega,by omega⟩,by omega⟩,(JA 1 s.length).elim (fun h=> .inr (y h)) fun h=> .inl (by omega)⟩,z⟩
  ·cases h
 ·intro h;unfold jX at h;simp only [km,ux,uZ,JF,uX,uS,ue] at h;obtain ⟨⟨⟨⟨C,R⟩,q⟩,y⟩,z⟩:=h;have a:=qkK.1 (Decidable.of_not_not q);have I:zG 0 s<=1000000000:=by
   rcases z with h|h
   ·have t:=qgN s 0 a;have b:(10:Nat)^s.length<=10^9:=Vj (by decide) (by omega);omega
   ·rw [h];decide
  have o:s≠[]:=fun e=>C (by rw [e];rfl);have n:=qvS s.length s rfl o a (by
   rcases y with h|h
   ·left;omega
   ·exact .inr h)
  obtain ⟨c,r,rfl⟩:∃c r,s=c::r:=by cases s with|nil=>exact absurd rfl o|cons c r=>exact ⟨c,r,rfl⟩
  have J:=a c (by simp);simp [qV] at J;have O:atoiAll (c::r)=.ok (zG 0 (c::r):Int):=by
   unfold atoiAll;simp only [];rw [q3 (by omega),parseMag,q3 (by simp),qif _ 0 a (by omega)];simp only [];rw [q3 (by omega),q3 (by omega),q3 (by omega)]
  unfold qdC;rw [O];simp only [km,ue];refine ⟨⟨by omega,by omega⟩, ?_⟩;rw [itoa,q3 (by omega)];exact n
end Go.L01
namespace Go.L01
open Go Go.Eng Go.Proofs Go.RowKit
set_option maxRecDepth 100000
set_option maxHeartbeats 2000000
def qx3 (l:List Bs) (k:Nat) (h:k<l.length) (s:Bs):(l.take (k+1)).contains s=((l.take k).contains s||decide (l[k]=s)):=by
 rw [JQ,uj h,uR];simp only [Option.toList_some,JI,uv,uu,ue,uS];exact or_congr Iff.rfl ⟨fun h=>h.symm,fun h=>h.symm⟩
def qyg {w:AA} (hG:G w):Calls Tryz.prog 233 #[] w fun e w'=>∃B ps,e=.returned (.map (some B))/\qc w w'/\MapB w' B ps/\∀s,vg ps (qb s)=if vI s then some (.bool true) else none:=by
 refine qFt fun ρ=>?_;simp [qsv];refine qf9 fun B W hB Z hm hsz=>?_;simp;refine (qyc (hG.ext Z)).mono ?_;rintro _ W2 ⟨v,rfl,hO,q⟩;have Y:=Own.sl (enc:=qi) (xs:=xb) hO (by decide);simp [Y.is,Y.len];refine zH 7 46 (fun k b w'=>qc w w'/\B<w'.heap.size/\b 1=.map (some B)/\b 5=v/\b 6=.int .i64 46/\Own W.heap.size 9 1 w' v (xb.map qi)/\∃ps,MapB w' B ps/\∀s,vg ps (qb s)=if (xb.take k).contains s then some (.bool true) else none)
  (by simp) ⟨Z.trans' q,by have:=q.size;omega,by simp,by simp,by simp [qxl],hO,[],hm.ext q,by simp⟩ ?_
 rintro k b w' hk J ⟨E,S,V,h5,U,y,ps,C,c⟩;have o:=Own.sl (enc:=qi) (xs:=xb) y (by decide);by_cases u:k<46
 ·have a:k<xb.length:=u;have F:(k:Int)<46:=by omega
  simp [F,qjv,qst,V,h5,U,J,u,o.is,o.len,a,o.cell k a,qi];refine qf8 (s:=qb xb[k]) (kt:=9) (et:=4) (by kernel_rfl) (by kernel_rfl) (by simp) (by simp) C fun W6 t H=>?_;simp at H;simp [qsu,V,h5,U,J,q7 (n:=(k:Int)+1) (by omega)];refine ⟨t.ext E hB,by rw [t.size];exact S,by simpa [qi] using y.only t (by omega),_,H,fun s=>?_⟩;have O:=qx3 xb k a s;simp only [JI] at O c;rw [qfd,c];by_cases I:xb[k]=s
  ·simp [I];have:s∈List.take (k+1) xb:=by simpa [I] using O
   exact this
  ·have:¬qb xb[k]=qb s:=fun h=>I (vv.1 h);simp [this];have z:(s∈List.take (k+1) xb)↔s∈List.take k xb:=by simpa [I] using O
   simp [z]
 ·have R:k=46:=by omega
  subst R;simp [qjv,U,J,qss,V];exact ⟨E,ps,C,c⟩
@[simp] theorem qNo:qk Tryz.prog 229=true:=by kernel_rfl
@[simp] theorem qIU:qk Tryz.prog 160=true:=by kernel_rfl
@[simp] theorem qNI:qk Tryz.prog 165=true:=by kernel_rfl
@[simp] theorem qNn:qk Tryz.prog 231=true:=by kernel_rfl
@[simp] theorem qNJ:qk Tryz.prog 163=true:=by kernel_rfl
@[simp] theorem qNF:qk Tryz.prog 168=true:=by kernel_rfl
@[simp] theorem qMC:qk Tryz.prog 77=true:=by kernel_rfl
@[simp] theorem qMX:qk Tryz.prog 309=true:=by kernel_rfl
@[simp] theorem qNg:qk Tryz.prog 245=true:=by kernel_rfl
@[simp] theorem qNh:qk Tryz.prog 244=true:=by kernel_rfl
@[simp] theorem qIT:qk Tryz.prog 273=true:=by kernel_rfl
@[simp] theorem qND:qk Tryz.prog 171=true:=by kernel_rfl
def qmg {w:AA} (n:G w) (s:Bs):Calls Tryz.prog 166 #[.string (qb s)] w fun e w'=>e=.returned (.bool (vI s))/\qc w w':=by
 refine qGs fun ρ b=>?_;simp [qtx];refine (qyg n).mono ?_;rintro _ w1 ⟨B,ps,rfl,c,h,a⟩;simp [b];refine qga (s:=qb s) (kt:=9) (et:=4) (z:=.bool false) (by kernel_rfl) (by kernel_rfl) (by kernel_rfl) (by simp) (by simp) h false ?_;simp [a];cases o:vI s<;>simp [c]
def qAp {w:AA} (s:Bs):Calls Tryz.prog 169 #[.string (qb s)] w fun e w'=>e=.returned (.bool (vI s))/\qc w w':=by
 refine qGm fun ρ b=>?_;simp [qtu];refine qAm.mono ?_;rintro _ w1 ⟨v,rfl,a⟩;simp [b];refine (qhX s (a.sl (by decide))).mono ?_;rintro _ w2 ⟨rfl,rfl⟩;simp;exact ⟨by rw [vI,JI],a.2⟩
def qzo {w:AA} {v:AB} {l:List Bs} (s:Bs) (o:qW w v l):Calls Tryz.prog 229 #[v,.string (qb s)] w fun e w'=>∃n:Int,e=.returned (.int .i64 n)/\(0<=n↔l.contains s=true)/\w'=w:=by
 have H:=o.bd;refine qsC fun ρ q y=>?_;simp [qfH,q,o.is,o.len];refine zH 8 l.length (fun k a w'=>w'=w/\a 0=v/\a 1=.string (qb s)/\a 7=.int .i64 l.length/\∀j (u:j<l.length),j<k->l[j]≠s) (by simp) ⟨rfl,by simp [q],by simp [y],by simp,by simp⟩ ?_;rintro k a w' O E ⟨rfl,q,y,z,b⟩;by_cases t:k<l.length
 ·simp [qdT,qfF,E,z,q,y,o.is,o.len,t,o.cell k t,qi,vv];by_cases F:l[k]=s
  ·have c:s=l[k]:=F.symm;simp [c]
  ·have c:¬s=l[k]:=fun h=>F h.symm;simp [c,qfG,E,q7 (n:=(k:Int)+1) (by omega),q,y,z];intro j u I;by_cases e:j=k
   ·subst e;exact F
   ·exact b j u (by omega)
 ·have C:k=l.length:=by omega
  subst C;simp [qdT,E,z,qfE];intro J;obtain ⟨j,u,rfl⟩:=J5 J;exact b j u u rfl
def qhB {w:AA} {v:AB} {l:List Bs} (s:Bs) (h:qW w v l):Calls Tryz.prog 160 #[v,.string (qb s)] w fun e w'=>e=.returned (.bool (l.contains s))/\w'=w:=by
 refine qtC fun ρ a c=>?_;simp [qfO,a,c];refine (qzo s h).mono ?_;rintro _ _ ⟨n,rfl,b,rfl⟩;simp;simpa using b
def qxH (c:UInt8):IntKind.u8.wrap (c.toNat:Int)=c.toNat:=by
 have a:=c.toNat_lt;exact u8w (by omega)
def qyj (c:UInt8) (w:AA):Calls Tryz.prog 164 #[.int .i32 (c.toNat:Int)] w fun e w'=>e=.returned (.bool (!part c))/\w'=w:=by
 refine qtz fun ρ n=>?_;by_cases h:c.toNat<=126
 ·have b:(c.toNat:Int)<=126:=by omega
  have a:¬126<(c.toNat:Int):=by omega
  simp [qfN,n,b,a,qxH];refine (qmf c w).mono ?_;rintro _ _ ⟨rfl,rfl⟩;simp [a]
 ·have b:¬(c.toNat:Int)<=126:=by omega
  have a:126<(c.toNat:Int):=by omega
  simp [qfN,n,b,a,part,vH,qV];omega
def qyi {r:Int} (b:126<r) (w:AA):Calls Tryz.prog 164 #[.int .i32 r] w fun e w'=>e=.returned (.bool true)/\w'=w:=by
 refine qtz fun ρ a=>?_;have c:¬r<=126:=by omega
 simp [qfN,a,c,b]
def qib (w:AA) (B:Nat):Nat:=match w.heap[B]? with
 |some (.stringIter _ k)=>k
 |_=>0
def qoe {w:AA} {B k:Nat} {s:ByteArray} (h:w.heap[B]? =some (.stringIter s k)):qib w B=k:=by simp [qib,h]
def qzn {w:AA} (s:Bs):Calls Tryz.prog 231 #[.string (qb s),.func (.func 164) #[] #[],.bool true] w fun e w'=>∃n:Int,e=.returned (.int .i64 n)/\(n<0↔s.all part=true)/\qc w w':=by
 have c:(qb s).size=s.length:=rfl;refine qFx fun ρ S H z=>?_;simp [qsA,S];refine qIc (s:=qb s) (by kernel_rfl) (by simp) fun B W I V hit=>?_;simp;refine kr (fun q w'=>∃k,k<=s.length/\qc w w'/\q 1=.func (.func 164) #[] #[]/\q 2=.bool true/\q 10=.pointer (some ⟨B,0,none⟩)/\w'.heap[B]? =some (.stringIter (qb s) k)/\∀j (F:j<s.length),j<k->part s[j]=true)
  (fun _ w'=>s.length - qib w' B) ⟨0,uf _,V,by simp [H],by simp [z],by simp,hit,by simp⟩ ?_
 rintro q w' ⟨k,hk,t,H,z,E,hit,v⟩;have C:=qoe hit;simp [qsx];refine qId (s:=qb s) (by simpa using E) hit (fun b W2 J o=>?_) (fun b=>?_)
 ·rw [c] at b;have a:(qb s)[k]'(by rw [c];exact b)=s[k]:=by
   show (qb s).data[k]=_;simp [qb]
  simp [qsz,H,z];refine xh (f:=164) (by kernel_rfl) (fs:=#[]) (caps:=#[]) (by simp) ?_;simp;by_cases Y:s[k].toNat<128
  ·have O:=decode_ascii (qb s) k (by rw [c];exact b) (by rw [a];exact Y);rw [a] at O;rw [O] at o⊢;refine (qyj s[k] W2).mono ?_;rintro _ _ ⟨rfl,rfl⟩;cases u:part s[k] with
   |true=>
    simp [u,z,C];refine ⟨⟨k+1,by omega,J.ext t I,H,E,o, ?_⟩, ?_⟩
    ·intro j F Z;by_cases e:j=k
     ·subst e;exact u
     ·exact v j F (by omega)
    ·rw [qoe o];omega
   |false=>
    simp [u,z];have y:¬∀x∈s,part x=true:=fun h=>by
     rw [h s[k] (uo _)] at u;cases u
    refine ⟨by simpa using y,J.ext t I⟩
  ·obtain ⟨R,hw⟩:=decode_high (qb s) k (by rw [c];exact b) (by rw [a];omega);refine (qyi (r:=((Utf8.decode (qb s) k).1:Int)) (by omega) W2).mono ?_;rintro _ _ ⟨rfl,rfl⟩;simp [z];have u:part s[k]=false:=by simp [part,vH,qV];omega
   have y:¬∀x∈s,part x=true:=fun h=>by
    rw [h s[k] (uo _)] at u;cases u
   refine ⟨by simpa using y,J.ext t I⟩
 ·rw [c] at b;simp [qsy];refine ⟨fun x U=>?_,t⟩;obtain ⟨j,F,rfl⟩:=J5 U;exact v j F (by omega)
def qzq {w:AA} (s:Bs):Calls Tryz.prog 163 #[.string (qb s),.func (.func 164) #[] #[]] w fun e w'=>∃n:Int,e=.returned (.int .i64 n)/\(n<0↔s.all part=true)/\qc w w':=by
 refine qGx fun ρ a h=>?_;simp [qtA,a,h];refine (qzn s).mono ?_;rintro _ w' ⟨n,rfl,b,c⟩;simp;exact ⟨by simpa using b,c⟩
def qzV {s:Bs}:qX s=s.length↔s.all part=true:=by
 unfold qX;rw [ut];constructor
 ·intro h c b;have e:s.takeWhile part=s:=(Jm part).eq_of_length h;have a:c∈s.takeWhile part:=by rw [e];exact b
  exact ut.1 (u9 (p:=part) (l:=s)) c a
 ·intro h;have:s.takeWhile part=s:=by
   have:=Jz (p:=part) (l₁:=s) (l₂:=[]) h;simpa using this
  rw [this]
def yp {w:AA} (H:G w) (s:Bs):Calls Tryz.prog 77 #[.string (qb s)] w fun e w'=>e=.returned (.bool (qJ s))/\qc w w':=by
 refine qDu fun ρ t=>?_;by_cases E:0<s.length/\s.length<=12
 ·obtain ⟨q,u⟩:=E;have a:0<(s.length:Int):=by omega
  have c:(s.length:Int)<=12:=by omega
  have z:s.getD 0 0=s[0]:=by simp [uH,q]
  simp [qft,t,q,u,a,c];refine (qhb s[0] w).mono ?_;rintro _ _ ⟨rfl,rfl⟩;cases F:vH s[0] with
  |false=>
   have o:qJ s=false:=by unfold qJ;rw [z,F];simp
   simp [o];exact jd _
  |true=>
   simp [t];refine (qzq s).mono ?_;rintro _ w1 ⟨n,rfl,o,y⟩;have C:(n<0)↔qX s=s.length:=o.trans qzV.symm;by_cases b:n<0
   ·simp [b,t];refine (qmg (H.ext y) s).mono ?_;rintro _ w2 ⟨rfl,v⟩;simp [qJ,q,u,z,F,C.1 b];exact y.trans' v
   ·have:¬qX s=s.length:=fun h=>b (C.2 h);simp [b,qJ,this];exact y
 ·have o:qJ s=false:=by
   unfold qJ;rcases Nat.eq_zero_or_pos s.length with h|h
   ·simp [h]
   ·have:¬s.length<=12:=fun u=>E ⟨h,u⟩;simp [this]
  by_cases q:0<s.length
  ·have a:0<(s.length:Int):=by omega
   have c:¬(s.length:Int)<=12:=by omega
   simp [qft,t,q,a,c,o];exact jd _
  ·have a:¬0<(s.length:Int):=by omega
   simp [qft,t,q,a,o];exact jd _
def qzp {w:AA} (y:G w) (s:Bs) (q:s.length<=281474976710656):Calls Tryz.prog 273 #[.string (qb s)] w fun e w'=>qc w w'/\∃(n:Int) (x:AB),e=.returned (.tuple #[.int .i64 n,x])/\
  ((Lib.atoiAll s=.ok n/\x=.nilIface)\/((∀v,Lib.atoiAll s≠ .ok v)/\∃u p,x=.iface u p)):=by
 cases o:Lib.atoiAll s
 ·rename_i v;refine (Tryz.atoi_ok (qb s) (by show s.length<=_;omega) v o w).mono ?_;rintro _ w' ⟨rfl,C⟩;refine ⟨?_,v,_,rfl,.inl ⟨rfl,rfl⟩⟩;rcases C with rfl|⟨t,rfl⟩
  ·exact jd _
  ·exact ⟨rfl,rfl,rfl,by rw [Lib.bytesWorld_size];omega,fun k z=>Lib.bytesWorld_at_old _ _ _ _ z⟩
 ·obtain ⟨h,a,c⟩:=y.es;refine (Tryz.atoi_syntax (qb s) q o _ w c (.inr ⟨h,a,rfl⟩)).mono ?_;rintro _ w' ⟨N,rfl,_,_,b⟩;exact ⟨b,_,_,rfl,.inr ⟨by simp,_,_,rfl⟩⟩
 ·obtain ⟨h,a,c⟩:=y.er;refine (Tryz.atoi_range (qb s) q o _ w c (.inr ⟨h,a,rfl⟩)).mono ?_;rintro _ w' ⟨N,rfl,_,_,b⟩;exact ⟨b,_,_,rfl,.inr ⟨by simp,_,_,rfl⟩⟩
def qzm {w:AA} (c:G w) {n:Int} (h:0<=n) (b:n<=9223372036854775807):Calls Tryz.prog 171 #[.int .i64 n] w fun e w'=>e=.returned (.string (qb (Lib.itoa n)))/\qc w w':=by
 refine (Tryz.itoa n (by omega) b w c.pow).mono ?_;rintro _ w' ⟨rfl,k,os,rfl⟩;refine ⟨rfl,rfl,rfl,rfl,by simp [Sort.grow,World.drewN],fun j a=>?_⟩;rw [Sort.heap_grow_old _ _ (by simpa [World.drewN] using a)];rfl
theorem qyl {w:AA} (z:G w) (s:Bs) (C:s.length<=281474976710656):Calls Tryz.prog 309 #[.string (qb s)] w fun e w'=>e=.returned (.bool (jX s))/\qc w w':=by
 refine qEy fun ρ y=>?_;simp [qru,y];refine (qzp z s C).mono ?_;rintro _ w1 ⟨a,n,x,rfl,⟨q,rfl⟩|⟨q,u,p,rfl⟩⟩
 ·have b:jX s=(decide (0<=n)&&decide (n<=1000000000)&&decide (Lib.itoa n=s)):=by
   rw [<-qoZ,qdC,q]
  simp;refine qvG (by kernel_rfl) (by simp) ?_;by_cases c:0<=n
  ·by_cases t:n<=1000000000
   ·simp [c,t];refine (qzm (z.ext a) c (by omega)).mono ?_;rintro _ w2 ⟨rfl,o⟩;simp [y,b,c,t,vv];exact a.trans' o
   ·simp [c,t,b];exact a
  ·simp [c,b];exact a
 ·have b:jX s=false:=by
   rw [<-qoZ,qdC];cases h:Lib.atoiAll s with
   |ok v=>exact absurd h (q v)
   |_=>rfl
  simp;refine qvF (by kernel_rfl) (by simp;exact ⟨rfl,rfl⟩) ?_;simp [b];exact a
def qAq (s:Bs) (V:s.length<4611686018427387904) (w:AA):Calls Tryz.prog 245 #[.string (qb s)] w fun e w'=>e=.returned (.bool (jX s))/\w'=w:=by
 refine qFk fun ρ a=>?_;have W:(s.length=0)=((s.length:Int)=0):=by rw [eq_iff_iff];omega
 by_cases v:s.length=0\/10<s.length
 ·have O:jX s=false:=by
   unfold jX;rcases v with h|h<;>simp [h]
  rcases v with h|h
  ·have U:s=[]:=uJ.1 h;subst U;simp [qfD,a,O]
  ·have E:(10:Int)<s.length:=by omega
   have z:s≠[]:=fun e=>by subst e;simp at h
   simp [qfD,a,O,E,z]
 ·have E:¬s.length=0:=fun h=>v (.inl h);have z:¬10<s.length:=fun h=>v (.inr h);have q:s≠[]:=fun e=>E (by rw [e];rfl);have C:¬(10:Int)<s.length:=by omega
  have t:0<s.length:=by omega
  simp [qfD,a,q,C];refine (qnD s V w).mono ?_;rintro _ w2 ⟨rfl,rfl⟩;have F:s[0]? =some s[0]:=uj t;have R:s.getD 0 0=s[0]:=by simp [uH,t]
  have S:jX s=(!(decide (jO s≠s.length)||(decide (1<s.length)&&decide (s[0]=48)))&&(decide (s.length<10)||decide (s=most))):=by
   unfold jX;rw [R];simp [q,z]
  rw [S];by_cases u:jO s=s.length
  ·have I:=yU s[0] 48 (by decide);have J:∀ρ:qa,ρ 0=.string (qb s)->qfC.wp ⟨Tryz.prog,35,qsi,[]⟩ (qz [.tmp 2] fun e w'=>e=.returned (.bool (decide (s.length<10)||decide (s=most)))/\w'=w2) (qM [.tmp 2] fun e w'=>e=.returned (.bool (decide (s.length<10)||decide (s=most)))/\w'=w2) ρ w2:=by
    intro ρ a;by_cases H:s.length<10
    ·have n:(s.length:Int)<10:=by omega
     simp [qfC,a,H,n]
    ·have n:¬(s.length:Int)<10:=by omega
     have e:(⟨#[49,48,48,48,48,48,48,48,48,48]⟩:ByteArray)=qb most:=rfl;simp [qfC,a,H,n,e,vv]
   by_cases o:1<s.length
   ·have c:(1:Int)<s.length:=by omega
    by_cases b:s[0]=48
    ·have:(s[0].toNat:Int)=48:=I.2 b;simp [u,a,o,c,b,this,F]
    ·have:¬(s[0].toNat:Int)=48:=fun h=>b (I.1 h);simp [u,a,o,c,b,this,F];exact J _ (by simp [a])
   ·have c:¬(1:Int)<s.length:=by omega
    simp [u,a,o,c];exact J _ (by simp [a])
  ·have y:¬(jO s:Int)=s.length:=by omega
   simp [a,u,y]
def qcu (t:Tok):AB:=.agg #[.int .u8 (t.kind:Int),.string (qb t.text),.int .i64 t.line]
@[simp] theorem qM0:qk Tryz.prog 306=true:=by kernel_rfl
@[simp] theorem qM2:qk Tryz.prog 304=true:=by kernel_rfl
@[simp] theorem qMZ:qk Tryz.prog 307=true:=by kernel_rfl
@[simp] theorem qM3:qk Tryz.prog 303=true:=by kernel_rfl
@[simp] theorem qM1:qk Tryz.prog 305=true:=by kernel_rfl
@[simp] theorem qMY:qk Tryz.prog 308=true:=by kernel_rfl
@[simp] theorem qMV:qk Tryz.prog 311=true:=by kernel_rfl
@[simp] theorem qNz:qk Tryz.prog 198=true:=by kernel_rfl
abbrev wW (s:Bs) (at' line:Int) (cv:AB):Array AB:=#[.string (qb s),.int .i64 at',.int .i64 line,cv]
theorem vp:jh Tryz.prog 3 1=true:=by kernel_rfl
def qkI (s:Bs) (k:Nat):(qb s).extract k s.length=qb (s.drop k):=by
 apply JG;apply Array.ext';show ((qb s).extract k s.length).data.toList=_;simp [qb];exact uz (by simp)
def qcx (s:Bs) (k n:Nat):(qb s).extract k (k+n)=qb ((s.drop k).take n):=by
 apply JG;apply Array.ext';show ((qb s).extract k (k+n)).data.toList=_;simp [qb]
def qbR {w:AA} {B k:Nat} {s:Bs} {line:Int} {cv:AB} (a:Blk w B (wW s k line cv) 217) (c:k<=s.length):
  Calls Tryz.prog 306 #[.pointer (some ⟨B,0,none⟩)] w fun e w'=>e=.returned (.string (qb (s.drop k)))/\qc w w':=by
 refine qEE fun ρ b=>?_;simp [qrB,b,a.cell,c,qrA,qkI]
def qyh {w:AA} {B k n:Nat} {s:Bs} {line:Int} {cv:AB} (u:Blk w B (wW s k line cv) 217) (R:k+n<=s.length) (O:s.length<4611686018427387904) (J:0<=line/\line<=4611686018427387904):
  Calls Tryz.prog 304 #[.pointer (some ⟨B,0,none⟩),.int .i64 (n:Int)] w fun e w'=>e=.returned (.string (qb ((s.drop k).take n)))/\Blk w' B (wW s ((k:Int)+(n:Int)) (line+((((s.drop k).take n).count 10:Nat):Int)) cv) 217/\w.grownBy w' (some B):=by
 have C:(k:Int)+(n:Int)<=s.length:=by omega
 have q:(0:Int)<=(k:Int)+(n:Int):=by omega
 have y:(k:Int)<=(k:Int)+(n:Int):=by omega
 have F:((k:Int)+(n:Int)).toNat=k+n:=by omega
 refine qEH fun ρ t E=>?_;simp [qrH,t,E,u.cell,q7 (n:=(k:Int)+(n:Int)) (by omega),C,q,y,F,qcx];intro w1 b;simp [qrD];refine js qEG (qc w1) fun w2 a _=>⟨a, ?_⟩;have H:∀w',qc w1 w'->∀i,w'.cell? ⟨B,i,none⟩=(wW s k line cv)[i]? :=fun w' h=>((u.ext b).ext h).cell;simp+contextual [qrC,t,H,a];refine (Tryz.count_one (qb ((s.drop k).take n)) 10 w2).mono ?_;rintro _ _ ⟨rfl,rfl⟩;have I:((s.drop k).take n).count 10<=s.length:=by
  refine Nat.le_trans List.count_le_length ?_;simp;omega
 simp+contextual [Lib.countByte,t,a,q7 (n:=line+((((s.drop k).take n).count 10:Nat):Int)) (by omega)];refine qD (B:=B) (i:=2) (by simp) ((u.ext b).ext a) (by simp) rfl rfl vp fun W3 v c=>?_;simp at c;simp [qrE,t,E,c.cell,q7 (n:=(k:Int)+(n:Int)) (by omega)];refine qD (B:=B) (i:=1) (by simp) c (by simp) rfl rfl vp fun W4 z o=>?_;simp at o⊢;exact ⟨o,qvf (qvf (qvg (qvg (qHJ _ w) b) a) v) z⟩
def qll (f:AB) (p:UInt8->Bool):Prop:=∃i,f=.func (.func i) #[] #[]/\qk Tryz.prog i=true/\∀c w,Calls Tryz.prog i #[jE c] w fun e w'=>e=.returned (.bool (p c))/\w'=w
def qIJ:qll (.func (.func 165) #[] #[]) part:=⟨165,rfl,by kernel_rfl,qmf⟩
def qIK:qll (.func (.func 232) #[] #[]) qV:=⟨232,rfl,by kernel_rfl,qhd⟩
def qme {w:AA} {B k:Nat} {s:Bs} {line:Int} {cv f:AB} {p:UInt8->Bool} (R:Blk w B (wW s k line cv) 217) (I:k<=s.length) (V:s.length<4611686018427387904) (O:qll f p):
  Calls Tryz.prog 307 #[.pointer (some ⟨B,0,none⟩),f] w fun e w'=>e=.returned (.int .i64 (((s.drop k).takeWhile p).length:Int))/\qc w w':=by
 obtain ⟨i,rfl,y,C⟩:=O;refine qEC fun ρ J t=>?_;simp [qrz,J];refine (qbR R I).mono ?_;rintro _ w1 ⟨rfl,H⟩;simp;generalize v:s.drop k=r;have U:r.length<=s.length:=by rw [<-v];simp
 refine zH 11 r.length (fun k b w'=>w'=w1/\b 1=.func (.func i) #[] #[]/\b 5=.string (qb r)/\b 10=.int .i64 r.length/\∀j (q:j<r.length),j<k->p r[j]=true) (by simp) ⟨rfl,by simp [t],by simp [v],by simp [<-v],by simp⟩ ?_;rintro k b w' I o ⟨rfl,t,E,c,a⟩;by_cases u:k<r.length
 ·simp [qjf,qrx,o,c,E,t,u];refine xh (f:=i) y (fs:=#[]) (caps:=#[]) (by simp) ?_;simp;refine (C r[k] _).mono ?_;rintro _ _ ⟨rfl,rfl⟩;cases F:p r[k] with
  |true=>
   simp [qry,o,t,E,c,q7 (n:=(k:Int)+1) (by omega)];intro j q S;by_cases e:j=k
   ·subst e;exact F
   ·exact a j q (by omega)
  |false=>
   simp;exact ⟨(wA r k (by omega) (fun j q h=>a j q h) fun _=>F).symm,H⟩
 ·have z:k=r.length:=by omega
  subst z;simp [qjf,o,c,E,qrw];exact ⟨(wA r r.length (kh _) (fun j q h=>a j q h) fun h=>by omega).symm,H⟩
def qY {t n B:Nat} {ρ:qa} {w:AA} {cs:Array AB} {T:TypeId} {R:Ending->AA->Prop} (b:ρ t=.pointer (some ⟨B,0,none⟩)) (a:Blk w B cs T) (c:cs.size=n) (h:R (.returned (.agg cs)) w):qz [.cellN t n] R ρ w:=by
 subst c;simp only [qz,vX,RV.val,b,qdr,xc a,Option.map_some,Option.bind_some];exact h
theorem qlp:jU Tryz.prog 289=some #[.nilFunc,.nilFunc,.nilFunc]:=by kernel_rfl
theorem qJM:Tryz.prog.built 289 [(0,.func (.func 165) #[] #[]),(1,.func (.func 232) #[] #[]),(2,.func (.func 346) #[] #[])]=some #[.func (.func 165) #[] #[],.func (.func 232) #[] #[],.func (.func 346) #[] #[]]:=by kernel_rfl
theorem qmy:jh Tryz.prog 289 3=true:=by kernel_rfl
theorem qgq (a b:Int):Tryz.prog.built 26 [(0,.int .i64 a),(1,.int .i64 b)]=some #[.int .i64 a,.int .i64 b]:=by kernel_rfl
theorem qI7 (a b:Int):Tryz.prog.built 212 [(0,.agg #[.int .i64 a,.int .i64 b])]=some #[.int .i64 a,.int .i64 b]:=by kernel_rfl
def qmh {w:AA}:Calls Tryz.prog 303 #[] w fun e w'=>e=.returned (.agg #[.func (.func 165) #[] #[],.func (.func 232) #[] #[],.func (.func 346) #[] #[]])/\qc w w':=by
 refine qEI fun ρ=>?_;simp [qrI];refine qQ qlp fun B W c n b _=>?_;simp [qJM];refine jg (B:=B) (by simp) b (by simp [Value.cells]) (by simp [Value.cells];decide) (by simpa [Value.cells] using qmy) fun W2 h a=>?_;simp [Value.cells] at a;simp;refine qY (by simp) a rfl ?_;exact ⟨rfl,h.ext n c⟩
def qhc {w:AA} {B:Nat} {s:Bs} {a line e:Int} {cv:AB} (b:Blk w B (wW s a line cv) 217):
  Calls Tryz.prog 308 #[.pointer (some ⟨B,0,none⟩),.int .i64 e] w fun n w'=>n=.panicked [{v:=.iface 212 (.agg #[.int .i64 e,.int .i64 line]),recovered:=false}]/\w'=w:=by
 refine qEA fun ρ c h=>?_;simp [qrv,c,h,b.cell,qgq,qI7];refine qkn (by simp;exact ⟨rfl,rfl⟩) ?_;simp
structure Sc (base B:Nat) (W:AA) (s:Bs) (k:Nat) (line:Int) (coms:List Bs) (cv:AB):Prop where
 blk:Blk W B (wW s k line cv) 217
 own:Own base 9 1 W cv (coms.map qi)
 ne:cv.ownBlock≠some B
 bB:base<=B
 bW:base<=W.heap.size
 kl:k<=s.length
 sl:s.length<=20000
 l0:1<=line
 l1:line<=(k:Int)+1
 cl:coms.length<=k
structure Tn (B:Nat) (cv cv':AB) (W W':AA):Prop where
 os:W'.os=W.os
 tape:W'.tape=W.tape
 output:W'.output=W.output
 size:W.heap.size<=W'.heap.size
 block:∀k,k<W.heap.size->k≠B->cv.ownBlock≠some k->W'.heap[k]? =W.heap[k]?
 own:cv'.ownBlock=cv.ownBlock\/∀k,cv'.ownBlock=some k->W.heap.size<=k
theorem Tn.refl (B:Nat) (cv:AB) (W:AA):Tn B cv cv W W:=⟨rfl,rfl,rfl,kh _,fun _ _ _ _=>rfl,.inl rfl⟩
def Tn.trans {B:Nat} {a b c:AB} {U V W:AA} (h:Tn B a b U V) (k:Tn B b c V W):Tn B a c U W:=by
 refine ⟨k.os.trans h.os,k.tape.trans h.tape,k.output.trans h.output,Nat.le_trans h.size k.size,fun i o u t=>?_, ?_⟩
 ·rw [k.block i (uT o h.size) u ?_,h.block i o u t];rcases h.own with n|n
  ·rw [n];exact t
  ·intro e;have:=n i e;omega
 ·rcases k.own with q|q
  ·rcases h.own with n|n
   ·exact .inl (q.trans n)
   ·exact .inr fun i o=>n i (q▸o)
  ·exact .inr fun i o=>Nat.le_trans h.size (q i o)
def Tn.ext {B:Nat} {a:AB} {U V:AA} (h:qc U V):Tn B a a U V:=⟨h.os,h.tape,h.output,h.size,fun k b _ _=>h.block k b,.inl rfl⟩
def Tn.gb {B:Nat} {a:AB} {U V:AA} (h:U.grownBy V (some B)):Tn B a a U V:=⟨h.os,h.tape,h.output,h.size,fun k c b _=>h.block k c (by simpa using b),.inl rfl⟩
def Sc.ext {base B:Nat} {W W':AA} {s:Bs} {k:Nat} {line:Int} {coms:List Bs} {cv:AB} (h:Sc base B W s k line coms cv) (a:qc W W'):Sc base B W' s k line coms cv:=
 ⟨h.blk.ext a,h.own.ext a,h.ne,h.bB,Nat.le_trans h.bW a.size,h.kl,h.sl,h.l0,h.l1,h.cl⟩
def Sc.line {base B:Nat} {W:AA} {s:Bs} {k:Nat} {line:Int} {coms:List Bs} {cv:AB} (h:Sc base B W s k line coms cv):0<=line/\line<=4611686018427387904:=by
 have:=h.l0;have:=h.l1;have:=h.kl;have:=h.sl;omega
def Sc.short {base B:Nat} {W:AA} {s:Bs} {k:Nat} {line:Int} {coms:List Bs} {cv:AB} (h:Sc base B W s k line coms cv):s.length<4611686018427387904:=by
 have:=h.sl;omega
def qhz {base B:Nat} {W:AA} {s:Bs} {k n:Nat} {line:Int} {coms:List Bs} {cv:AB} (h:Sc base B W s k line coms cv) (b:k+n<=s.length):
  Calls Tryz.prog 304 #[.pointer (some ⟨B,0,none⟩),.int .i64 (n:Int)] W fun e w'=>e=.returned (.string (qb ((s.drop k).take n)))/\Sc base B w' s (k+n) (line+((((s.drop k).take n).count 10:Nat):Int)) coms cv/\Tn B cv cv W w':=by
 refine (qyh h.blk b h.short h.line).mono ?_;rintro _ w' ⟨rfl,c,a⟩;have o:((s.drop k).take n).count 10<=n:=by
  refine Nat.le_trans List.count_le_length ?_;simp;omega
 have:=h.l0;have:=h.l1;have:=h.cl;have:=h.bW;have:=a.size;refine ⟨rfl,⟨by simpa using c,h.own.kept a (.inr h.ne),h.ne,h.bB,by omega,b,h.sl,by omega,by simp;omega,by omega⟩,Tn.gb a⟩
def atOf (w:AA) (B:Nat):Nat:=match w.cell? ⟨B,1,none⟩ with
 |some (.int _ n)=>n.toNat
 |_=>0
def Sc.at {base B:Nat} {W:AA} {s:Bs} {k:Nat} {line:Int} {coms:List Bs} {cv:AB} (h:Sc base B W s k line coms cv):atOf W B=k:=by
 simp [atOf,h.blk.cell]
structure Skipped (base B:Nat) (w0 w:AA) (s:Bs) (k0:Nat) (l0:Int) (c0:List Bs) (v0:AB) (k:Nat) (l:Int) (new:List Bs) (v:AB):Prop where
 sc:Sc base B w s k l (c0++new) v
 tn:Tn B v0 v w0 w
 le:k0<=k
 eq:qF (s.drop k0) l0=(qF (s.drop k) l).add [] new
def qmH (s:Bs) (k:Nat):Prop:=∀h:k<s.length,ww s[k]=false/\s[k]≠37
def wG {s:Bs} {k:Nat} (h:k<s.length):s.drop k=s[k]::s.drop (k+1):=uM h
def qzj {c:UInt8} {r:Bs} {l:Int} (h:ww c=true):qF (c::r) l=qF r (l+(((c::r).take 1).count 10:Nat)):=by
 simp only [ww,uS,ue] at h;by_cases a:c=10
 ·subst a;rw [wV];simp
 ·have b:c=32\/c=9:=by
   rcases h with (h|h)|h
   ·exact .inl h
   ·exact .inr h
   ·exact absurd h a
  rw [yw r l b];have:((c::r).take 1).count 10=0:=by simp [a]
  rw [this];simp
section
variable {P:Program} {Q:Ks} {d:Option Nat} {ty:TypeId} {K:qa->AA->Prop} {ρ:qa} {w:AA}
theorem qgd {t e sz bytes:Nat} (I:xM P t=some (e,sz,bytes)) {base:Nat} (c:base<=w.heap.size) {s x:Operand} {sv xv:AB} (H:qd ρ s=sv) (C:qd ρ x=xv) {xs news:List AB}
  (q:Own base e sz w sv xs) (n:Cells w xv sz news) (J:∀u∈news,u.oneCell'=true)
  (o:xs.length+news.length<4611686018427387904) (a:(xs.length+news.length)*bytes<=140737488355328*sz)
  (h:∀b W,Own base e sz W b (xs++news)->w.grownBy W sv.ownBlock->(b.ownBlock=sv.ownBlock\/b.ownBlock=some w.heap.size)->K (qp ρ d b) W):qB P Q d (.call {callee:=.builtin .append,args:=#[s,x],argTypes:=#[t,t]}) ty K ρ w:=by
 subst H;subst C;obtain ⟨b,W,E,F,z,y⟩:=qeI (P:=P) (ty:=ty) I q n J o a c;refine jN (v:=b) (w':=W) ?_ (h b W F z y);simp only [execOp,qR,resolve,invoke,builtin,Sem.run_bind,Sem.run_pure,Result.andThen_ok,List.map_toArray,List.map_cons,List.map_nil,E]
end
def qe1 {base e sz:Nat} {w:AA} {v:AB} {xs:List AB} (h:Own base e sz w v xs):v.cells=#[v]/\v.oneCell=true:=by
 rcases h with ⟨rfl,_⟩|⟨g,off,n,cap,cur,rfl,_⟩<;>exact ⟨rfl,rfl⟩
def jw {base e sz:Nat} {w:AA} {v:AB} {xs:List AB} (h:Own base e sz w v xs):Cells w v sz xs:=by
 have a:=h.isl;rcases h with ⟨rfl,rfl⟩|⟨g,off,n,cap,cur,rfl,u,q,t,y,C,z,o⟩
 ·exact ⟨rfl,by simp [qm],fun j b=>by simp at b⟩
 ·refine ⟨a,t,fun j b=>?_⟩;have c:((cur.toList.drop off).take (n*sz))[j]? =xs[j]? :=by rw [o]
  rw [Jv,j0 (by omega),u0] at c;simp only [qN,zD,World.cell?,q];simpa [b] using c
theorem qnx:xM Tryz.prog 51=some (9,1,16):=by kernel_rfl
theorem qex:jh Tryz.prog 51 1=true:=by kernel_rfl
def qu9:∀l:Bs,(Lib.indexByte l 10= -1/\jo l=l.length)\/(Lib.indexByte l 10=jo l)
 |[]=> .inl ⟨rfl,rfl⟩
 |c::l=>by
  by_cases h:c=10
  ·subst h;right;simp [Lib.indexByte,jo]
  ·have b:jo (c::l)=jo l+1:=by simp [jo,List.takeWhile_cons,h]
   rcases qu9 l with ⟨a,e⟩|a
   ·left;refine ⟨?_,by rw [b,e];rfl⟩;simp [Lib.indexByte,h,a]
   ·right;rw [b];have:¬(jo l:Int)= -1:=by omega
    simp [Lib.indexByte,h,this,a]
def qIH (s:Bs):((s.take (jo s)).count 10)=0:=by
 rw [List.count_eq_zero];intro h;rw [jo,qmb] at h;have:=ut.1 (u9 (p:=fun c=>decide (c≠10)) (l:=s)) 10 h;simp at this
def qzi {r t:Bs} {l:Int} (h:r=37::t):qF r l=(qF (r.drop (jo r)) l).add [] [r.take (jo r)]:=by
 subst h;rw [qax,q3 (by decide),q3 (by decide),j0 rfl]
def qgD (base B:Nat) (w:AA) (s:Bs) (k0:Nat) (l0:Int) (c0:List Bs) (v0:AB):Ending->AA->Prop:=
 fun e w'=>e=.returned (.tuple #[])/\∃k l new v,Skipped base B w w' s k0 l0 c0 v0 k l new v/\qmH s k
def qgE (base B:Nat) (w:AA) (s:Bs) (k0:Nat) (l0:Int) (c0:List Bs) (v0:AB):qa->AA->Prop:=
 fun ρ' w'=>ρ' 0=.pointer (some ⟨B,0,none⟩)/\ρ' 2=.func (.func 346) #[] #[]/\∃k l new v,Skipped base B w w' s k0 l0 c0 v0 k l new v
def qmd {base B:Nat} {w:AA} {s:Bs} {R:Nat} {l0:Int} {c0:List Bs} {v0:AB} (h:Sc base B w s R l0 c0 v0):
  Calls Tryz.prog 266 #[.pointer (some ⟨B,0,none⟩)] w (qgD base B w s R l0 c0 v0):=by
 refine qFf fun ρ u=>?_;simp [qjr];refine qmh.mono ?_;rintro _ w1 ⟨rfl,hE1⟩;simp;refine qIi (n:=3) (k:=2) (e:=288) (v:=.func (.func 346) #[] #[]) (cs:=#[.func (.func 165) #[] #[],.func (.func 232) #[] #[],.func (.func 346) #[] #[]]) (inf:=_) (by kernel_rfl) rfl (by kernel_rfl) (by simp) (by simp;rfl) (by decide) rfl (by kernel_rfl) ?_;simp;refine qnA ?_;simp [qsd];refine kr (qgE base B w s R l0 c0 v0) (fun _ w'=>s.length - atOf w' B) ⟨by simp [u],by simp,R,l0,[],v0,⟨by simpa using h.ext hE1,Tn.ext hE1,kh _,by simp⟩⟩ ?_;rintro ρ' w' ⟨u,h2,k,l,new,v,z⟩;have hat:=z.sc.at
 have hb:=z.sc.blk;by_cases b:k<s.length
 ·simp [qjn,u,hb.cell,b];intro w2 E;have hb2:=hb.ext E;have hS2:=z.sc.ext E;have hT2:=z.tn.trans (Tn.ext E);simp [qjo,qse];refine js qFe (qc w2) fun w3 F _=>⟨F, ?_⟩;have hc:∀w',qc w2 w'->∀i,w'.cell? ⟨B,i,none⟩=(wW s k l v)[i]? :=fun w' h=>(hb2.ext h).cell;simp+contextual [qsc,u,h2,hc,F,b,qc6 b];refine xh (f:=346) (by kernel_rfl) (fs:=#[]) (caps:=#[]) (by simp) ?_;simp;refine (qym s[k] w3).mono ?_;rintro _ w3 ⟨rfl,rfl⟩;have aj:=hS2.ext F;have af:=hT2.trans (Tn.ext F);cases hbl:ww s[k] with
  |true=>
   simp [qfA,u];refine (qhz (n:=1) aj (by omega)).mono ?_;rintro _ w4 ⟨rfl,C,ah⟩;simp;refine ⟨⟨by simp [u],by simp [h2],k+1,_,new,v,C,af.trans ah,by have:=z.le;omega, ?_⟩, ?_⟩
   ·rw [z.eq,wG b,qzj hbl]
   ·rw [C.at,hat];omega
  |false=>
   have hu:=yU s[k] 37 (by decide);have hc3:=hc w3 F;have hst:∀w4,qc w3 w4->qgD base B w s R l0 c0 v0 (Ending.returned (Value.tuple #[])) w4\/s[k]=37:=by
    intro w4 y;by_cases o:s[k]=37
    ·exact .inr o
    ·exact .inl ⟨rfl,k,l,new,v,⟨aj.ext y,af.trans (Tn.ext y),z.le,z.eq⟩,fun _=>⟨hbl,o⟩⟩
   by_cases o:s[k]=37
   ·have O:(s[k].toNat:Int)=37:=hu.2 o;simp [qfA,u,hc3,b,qc6 b,O,qjp];intro w4 y;have C:=aj.ext y;have ah:=af.trans (Tn.ext y);refine (qbR C.blk C.kl).mono ?_;rintro _ w5 ⟨rfl,hE5⟩;have ai:=C.ext hE5;have hT5:=ah.trans (Tn.ext hE5);simp;refine (Tryz.indexByte (qb (s.drop k)) 10 w5).mono ?_;rintro _ w5 ⟨rfl,rfl⟩;have hix:Lib.indexByte (qb (s.drop k)).data.toList (Int.toNat 10).toUInt8=Lib.indexByte (s.drop k) 10:=rfl;rw [hix];have hn1:1<=jo (s.drop k):=by rw [wG b,o];exact qgj _
    have hn2:jo (s.drop k)<=s.length - k:=by have:=qv2 (s.drop k);simpa using this
    have H:∀(I:qa) (w6:AA),I 0=.pointer (some ⟨B,0,none⟩)->I 2=.func (.func 346) #[] #[]->I 3=.int .i64 (jo (s.drop k):Int)->qc w5 w6->
     qjq.wp ⟨Tryz.prog,75,qcj,[]⟩ (fun q t=>qgE base B w s R l0 c0 v0 q t/\s.length - atOf t B<s.length - atOf w' B) (((((qM [] (qgD base B w s R l0 c0 v0)).blk 0 (qz [] (qgD base B w s R l0 c0 v0))).blk 1 (fun q t=>qgE base B w s R l0 c0 v0 q t/\s.length - atOf t B<s.length - atOf w' B)).blk 2 (fun q t=>qgE base B w s R l0 c0 v0 q t/\s.length - atOf t B<s.length - atOf w' B))) I w6:=by
     intro I w6 u h2 h3 Y;have V:=ai.ext Y;have hT6:=hT5.trans (Tn.ext Y);simp only [qjq];refine js qFd (fun W=>W.cell? ⟨B,3,none⟩=some v) fun w7 hE7 _=>?_;have ag:=V.ext hE7;have hT7:=hT6.trans (Tn.ext hE7);refine ⟨by simp [ag.blk.cell], ?_⟩;simp+contextual [qsb,u,h3,ag.blk.cell];refine (qhz (n:=jo (s.drop k)) ag (by omega)).mono ?_;rintro _ w8 ⟨rfl,U,hT8⟩;rw [qIH] at U;simp [U.blk.cell];refine jC qeB (by decide) (by decide) (by simp [Value.cells]) fun B9 W9 hB9 hE9 hb9 _=>?_;have a:=U.ext hE9;simp [Value.cells] at hb9;simp [a.blk.cell];have hcl:=a.cl;have hO9:Own base 9 1 W9 (.slice (some ⟨B9,0,none⟩) 1 1) [qi ((s.drop k).take (jo (s.drop k)))]:=Own.lit (cs:=[qi ((s.drop k).take (jo (s.drop k)))]) hb9 rfl (Nat.le_trans U.bW hB9) (by decide);have hnew:Cells W9 (.slice (some ⟨B9,0,none⟩) 1 1) 1 [qi ((s.drop k).take (jo (s.drop k)))]:=jw hO9;have hk9:=a.kl;have hs9:=a.sl;refine qgd qnx a.bW (by simp) (by simp) a.own hnew (by simp [qi];rfl) (by simp at hcl⊢;omega) (by simp at hcl⊢;omega) fun v' W10 aa c ae=>?_;have ab:Blk W10 B _ 217:=⟨(c.block B a.blk.lt (fun e=>a.ne e.symm)).trans a.blk.heap⟩;simp [ab.cell];have h1:=qe1 aa;refine qD (B:=B) (i:=3) (by simp) ab (by simp) (by simpa using h1.1) (by simpa using h1.2) qex fun W11 J ac=>?_;simp at ac;have Z:v'.ownBlock≠some B:=by
      rcases ae with e|e
      ·rw [e];exact a.ne
      ·rw [e];have:=a.blk.lt;intro h;cases h;omega
     have S:Own base 9 1 W11 v' ((c0++(new++[(s.drop k).take (jo (s.drop k))])).map qi):=by
      have:=aa.kept (qe5 J) (.inr Z);simpa using this
     have hsz10:=c.size;have ad:Sc base B W11 s (k+jo (s.drop k)) l (c0++(new++[(s.drop k).take (jo (s.drop k))])) v':=
      ⟨by simpa using ac,S,Z,a.bB,by have:=a.bW;rw [J.size];omega,hk9,hs9,V.l0,by have:=V.l1;omega,by have:=V.cl;simp at this⊢;omega⟩
     have hT10:Tn B v v' W9 W10:=⟨c.os,c.tape,c.output,c.size,fun k hk _ hv=>c.block k hk (fun e=>hv e.symm),by
      rcases ae with e|e
      ·exact .inl e
      ·exact .inr fun i hi=>by rw [e] at hi;cases hi;exact kh _⟩
     have hT11:Tn B v0 v' w W11:=(((hT7.trans hT8).trans (Tn.ext hE9)).trans hT10).trans (Tn.gb (qe5 J));simp;refine ⟨⟨by simp [u],by simp [h2],_,_,_,_,ad,hT11,by have:=z.le;omega, ?_⟩, ?_⟩
     ·rw [z.eq];have:qF (s.drop k) l=(qF (s.drop (k+jo (s.drop k))) l).add [] [(s.drop k).take (jo (s.drop k))]:=by
       rw [<-Jj];exact qzi (by rw [wG b,o])
      rw [this,Res.add_add];rfl
     ·rw [ad.at,hat];omega
    rcases qu9 (s.drop k) with ⟨e1,e2⟩|e1
    ·rw [e1];simp [u];refine (qbR ai.blk ai.kl).mono ?_;rintro _ w6 ⟨rfl,Y⟩;simp;exact H _ _ (by simp [u]) (by simp [h2]) (by simp [e2]) Y
    ·rw [e1];simp;exact H _ _ (by simp [u]) (by simp [h2]) (by simp) (jd _)
   ·have O:¬(s[k].toNat:Int)=37:=fun h=>o (hu.1 h);simp [qfA,u,hc3,b,qc6 b,O,qjp];intro w4 y;rcases hst w4 y with h|h
    ·exact h
    ·exact absurd h o
 ·simp [qjn,u,hb.cell,b,qjo];intro w2 E;exact ⟨rfl,k,l,new,v,⟨z.sc.ext E,z.tn.trans (Tn.ext E),z.le,z.eq⟩,fun h=>absurd h b⟩
theorem z38:jU Tryz.prog 53=some #[.int .u8 0,.string ⟨#[]⟩,.int .i64 0]:=by kernel_rfl
theorem qJx (l:Int):Tryz.prog.built 53 [(2,.int .i64 l)]=some #[.int .u8 0,.string ⟨#[]⟩,.int .i64 l]:=by kernel_rfl
theorem qhk:jh Tryz.prog 53 3=true:=by kernel_rfl
theorem sz5:jh Tryz.prog 5 1=true:=by kernel_rfl
theorem kL:jh Tryz.prog 9 1=true:=by kernel_rfl
def clV:Array AB:=#[.func (.func 165) #[] #[],.func (.func 232) #[] #[],.func (.func 346) #[] #[]]
def brk (e l:Int):Ending:=.panicked [{v:=.iface 212 (.agg #[.int .i64 e,.int .i64 l]),recovered:=false}]
def qad (base B:Nat) (w:AA) (s:Bs) (k:Nat) (l:Int) (coms:List Bs) (cv:AB):Ending->AA->Prop:=fun e w'=>
 Tn B cv cv w w'/\
 (((first (s.drop k)).2.2=0/\e=.returned (qcu ⟨(first (s.drop k)).1,(s.drop k).take (first (s.drop k)).2.1,l⟩)/\Sc base B w' s (k+(first (s.drop k)).2.1) l coms cv)\/
  ((first (s.drop k)).2.2≠0/\e=brk (first (s.drop k)).2.2 l))
def Tn.blk {B C:Nat} {cv a:AB} {W W':AA} {cs:Array AB} {t:TypeId} (h:Tn B cv a W W') (b:Blk W C cs t) (e:C≠B) (c:cv.ownBlock≠some C):Blk W' C cs t:=⟨(h.block C b.lt e c).trans b.heap⟩
def Sc.off {base B:Nat} {W:AA} {s:Bs} {k:Nat} {line:Int} {coms:List Bs} {cv:AB} (h:Sc base B W s k line coms cv) {C:Nat} (a:W.heap.size<=C):C≠B/\cv.ownBlock≠some C:=by
 refine ⟨?_, ?_⟩
 ·have:=h.blk.lt;omega
 ·intro e;have:=(h.own.blk C e).2;omega
def Sc.only {base B C:Nat} {W W':AA} {s:Bs} {k:Nat} {line:Int} {coms:List Bs} {cv:AB} (h:Sc base B W s k line coms cv) (a:Only C W W') (c:C≠B) (b:cv.ownBlock≠some C):Sc base B W' s k line coms cv:=
 ⟨a.blk h.blk (ub c),h.own.kept (qe5 a) (.inr b),h.ne,h.bB,by rw [a.size];exact h.bW,h.kl,h.sl,h.l0,h.l1,h.cl⟩
def Tn.new {B C:Nat} {a b:AB} {U V W:AA} (h:Tn B a b U V) (c:Only C V W) (q:U.heap.size<=C):Tn B a b U W:=
 ⟨c.os.trans h.os,c.tape.trans h.tape,c.output.trans h.output,by rw [c.size];exact h.size,fun k o n e=>(c.block k (by omega)).trans (h.block k o n e),h.own⟩
section
variable {base B:Nat} {w:AA} {s:Bs} {k:Nat} {l:Int} {coms:List Bs} {cv:AB}
theorem qCv {ρ:qa} {W:AA} {B2 B3:Nat} {z:Array AB} {n:Int} {tx:Bs} {Q:Ks} {R:Ending->AA->Prop} (e:ρ 2=.pointer (some ⟨B2,0,none⟩)) (q:ρ 3=.pointer (some ⟨B3,0,none⟩)) (b:Blk W B2 z 53) (o:z.size=3)
  (a:Blk W B3 #[.int .u8 n,.string (qb tx),.int .i64 l] 53) (t:∀ρ w,Q.rt ρ w=qz [.cellN 2 3] R ρ w) (h:∀W',Only B2 W W'->R (.returned (.agg #[.int .u8 n,.string (qb tx),.int .i64 l])) W') {KK:qa->AA->Prop}:
  qbu.wp ⟨Tryz.prog,114,kC,[]⟩ KK Q ρ W:=by
 simp [qbu,q,a.cell];refine jg (B:=B2) (by simpa using e) b (by simp [Value.cells,o]) (by simp [Value.cells]) (by rw [o];exact qhk) fun W2 u c=>?_;simp [Value.cells] at c;simp [t];refine qY (by simpa using e) c rfl ?_;exact h W2 u
theorem qf5 (a:k<s.length):(s.drop k).getD 0 0=s[k]:=by rw [wG a];rfl
theorem qx2 {a n:Nat} {r:Bs} (h:right a (r.take n)=true):(r.take n).count 10=0:=by
 rw [List.count_eq_zero];intro b;exact (wY h 10 b).1 rfl
structure Nx (base B:Nat) (w:AA) (s:Bs) (k:Nat) (l:Int) (coms:List Bs) (cv:AB) (B2 B3 B4:Nat) (kd:Int) (ρ:qa) (W:AA):Prop where
 r0:ρ 0=.pointer (some ⟨B,0,none⟩)
 r2:ρ 2=.pointer (some ⟨B2,0,none⟩)
 r3:ρ 3=.pointer (some ⟨B3,0,none⟩)
 r4:ρ 4=.pointer (some ⟨B4,0,none⟩)
 sc:Sc base B W s k l coms cv
 b2:Blk W B2 #[.int .u8 0,.string ⟨#[]⟩,.int .i64 0] 53
 b3:Blk W B3 #[.int .u8 kd,.string ⟨#[]⟩,.int .i64 l] 53
 b4:Blk W B4 clV 289
 tn:Tn B cv cv w W
 n2:w.heap.size<=B2/\B2<B3/\B3<B4
 n3:B3≠B/\B2≠B
 n4:cv.ownBlock≠some B3/\cv.ownBlock≠some B2
 g:G W
 gw:G w
theorem Nx.env {B2 B3 B4:Nat} {b:Int} {ρ a:qa} {W:AA} (h:Nx base B w s k l coms cv B2 B3 B4 b ρ W) (c:a 0=ρ 0) (n:a 2=ρ 2) (e:a 3=ρ 3) (o:a 4=ρ 4):Nx base B w s k l coms cv B2 B3 B4 b a W:=
 ⟨c.trans h.r0,n.trans h.r2,e.trans h.r3,o.trans h.r4,h.sc,h.b2,h.b3,h.b4,h.tn,h.n2,h.n3,h.n4,h.g,h.gw⟩
theorem Nx.ext {B2 B3 B4:Nat} {b:Int} {ρ:qa} {W W':AA} (h:Nx base B w s k l coms cv B2 B3 B4 b ρ W) (a:qc W W'):Nx base B w s k l coms cv B2 B3 B4 b ρ W':=
 ⟨h.r0,h.r2,h.r3,h.r4,h.sc.ext a,h.b2.ext a,h.b3.ext a,h.b4.ext a,h.tn.trans (Tn.ext a),h.n2,h.n3,h.n4,h.g.ext a,h.gw⟩
theorem Nx.kind {B2 B3 B4:Nat} {q e:Int} {ρ:qa} {W W':AA} (h:Nx base B w s k l coms cv B2 B3 B4 q ρ W) (u:qc w W) (n:Only B3 W W') (o:Blk W' B3 #[.int .u8 e,.string ⟨#[]⟩,.int .i64 l] 53) (t:G W'):Nx base B w s k l coms cv B2 B3 B4 e ρ W':=by
 obtain ⟨a,b,c⟩:=h.n2;exact ⟨h.r0,h.r2,h.r3,h.r4,h.sc.only n h.n3.1 h.n4.1,n.blk h.b2 (by omega),o,n.blk h.b4 (by omega),h.tn.new n (by omega),h.n2,h.n3,h.n4,t,h.gw⟩
theorem qe7 {B2 B3 B4 n kd:Nat} {ρ:qa} {W:AA} (h:Nx base B w s k l coms cv B2 B3 B4 (kd:Int) ρ W) (q:first (s.drop k)=(kd,n,0)) (F:s.drop k≠[]) {t H R I vn:Nat} (Y:ρ vn=.int .i64 (n:Int))
  (hd:5<=t/\5<=H/\5<=R/\5<=I/\t≠vn/\t≠H/\R≠I) {KK:qa->AA->Prop} {Q:Ks} (hK:∀ρ W,KK ρ W=qbu.wp ⟨Tryz.prog,114,kC,[]⟩ (qz [.cellN 2 3] (qad base B w s k l coms cv)) (qM [.cellN 2 3] (qad base B w s k l coms cv)) ρ W):
  (IR.reg [.asg none t (.op1 (.fadr 0) (.op1 .nilc (.var 0))),.asg none H (.var vn),
   .eff none (some R) (.call {callee:=.value (.func 304),args:=#[(.tmp t),(.tmp H)],argTypes:=#[215,3]}) 9,
   .asg none I (.op1 (.fadr 1) (.var 3)),.eff none none (.store 9 (.tmp I) (.tmp R)) 0]).wp ⟨Tryz.prog,114,kC,[]⟩ KK Q ρ W:=by
 have b:=qcq (s:=s.drop k) (by rw [q]) F;have a:=(qvp F (by rw [q])).1;rw [q] at b a;simp only [uU] at b;have hkl:=h.sc.kl;obtain ⟨Z,e2,U,e4,e5,e6,O⟩:=hd;have C:=qx2 a;have f0:(0:Nat)≠t:=by omega
 have c:∀d,5<=d->(3:Nat)≠d:=by omega
 have J:∀d,5<=d->(2:Nat)≠d:=by omega
 simp [h.r0,Y,f0,e5,e6,O,ub e5];refine (qhz (n:=n) h.sc (by omega)).mono ?_;rintro _ W1 ⟨rfl,y,o⟩;rw [C] at y;have u:=o.blk h.b3 h.n3.1 h.n4.1;have z:=o.blk h.b2 h.n3.2 h.n4.2;simp [h.r3,c _ Z,c _ e2,c _ U,c _ e4];refine qD (B:=B3) (i:=1) (by simp) u (by simp) (by simp [O];rfl) (by simp [O]) kL fun W2 e E=>?_;simp [O] at E;show KK _ _;rw [hK];obtain ⟨n1,n2,n3⟩:=h.n2;refine qCv (by simp [J _ Z,J _ e2,J _ U,J _ e4,h.r2]) (by simp [c _ Z,c _ e2,c _ U,c _ e4,h.r3]) (e.blk z (by omega)) rfl E (fun _ _=>rfl) fun W3 v=>?_;have V:=(y.only e h.n3.1 h.n4.1).only v h.n3.2 h.n4.2;have S:=((h.tn.trans o).new e (by omega)).new v n1;refine ⟨S,.inl ⟨by rw [q], ?_, ?_⟩⟩
 ·rw [q];simp [qcu]
 ·rw [q];simpa using V
theorem Nx.brk {B2 B3 B4:Nat} {c:Int} {ρ:qa} {W:AA} (h:Nx base B w s k l coms cv B2 B3 B4 c ρ W) {e:Int} (a:(first (s.drop k)).2.2=e) (b:e≠0):qad base B w s k l coms cv (brk e l) W:=
 ⟨h.tn,.inr ⟨by rw [a];exact b,by rw [a]⟩⟩
abbrev nxR (base B:Nat) (w:AA) (s:Bs) (k:Nat) (l:Int) (coms:List Bs) (cv:AB):qa->AA->Prop:=qz [.cellN 2 3] (qad base B w s k l coms cv)
abbrev nxQ (base B:Nat) (w:AA) (s:Bs) (k:Nat) (l:Int) (coms:List Bs) (cv:AB):Ks:=qM [.cellN 2 3] (qad base B w s k l coms cv)
theorem qCu {B2 B3 B4:Nat} {ρ:qa} {W:AA} (h:Nx base B w s k l coms cv B2 B3 B4 0 ρ W) (hE:qc w W) (C:k<s.length) (hc:vH s[k]=true) {Q:Ks} (hQ:∀ρ c w',Q.pn ρ c w'=qad base B w s k l coms cv (.panicked c) w') {KK:qa->AA->Prop} (hK:∀ρ W,KK ρ W=qbu.wp (Cx.mk Tryz.prog 114 kC []) (nxR base B w s k l coms cv) (nxQ base B w s k l coms cv) ρ W):
  (IR.raw (qv qci 16)).wp (Cx.mk Tryz.prog 114 kC []) (qjm.wp (Cx.mk Tryz.prog 114 kC []) KK Q) Q ρ W:=by
 have aa:s.drop k≠[]:=by rw [wG C];exact Ji _ _
 have a:first (s.drop k)=if vI ((s.drop k).take (qX (s.drop k))) then (2,qX (s.drop k),0) else if 12<qX (s.drop k) then (0,0,12) else (1,qX (s.drop k),0):=by
  unfold first
  rw [j0 (by rw [qf5 C];exact hc)]
 have U:=h.sc.kl;refine js qE9 (qc W) (fun w3 o _=>⟨o, ?_⟩) (fun _ _ ρ v c w h=>by rw [hQ] at h⊢;exact h);have h3:=h.ext o;have hc4:∀w',qc W w'->∀i,w'.cell? ⟨B4,i,none⟩=clV[i]? :=fun w' hh=>(h.b4.ext hh).cell;simp -implicitDefEqProofs [qr5,h.r0];refine qgb (n:=3) (k:=0) (e:=288) (inf:=_) (by kernel_rfl) rfl (by kernel_rfl) (by simp;exact h.r4) (by simp;rfl) (by decide) ?_;simp+contextual -implicitDefEqProofs [hc4,o,clV];refine (qme h3.sc.blk U h3.sc.short qIJ).mono ?_;rintro _ W4 ⟨rfl,V⟩;have h4:=h3.ext V;have J:=(hE.trans' o).trans' V;have F:((s.drop k).takeWhile part).length=qX (s.drop k):=rfl;simp [F,qjm,h.r0];refine (qbR h4.sc.blk U).mono ?_;rintro _ W5 ⟨rfl,ab⟩;have h5:=h4.ext ab;have u:=J.trans' ab;have ac:qX (s.drop k)<=s.length - k:=by have:=qam part (s.drop k);simpa [qX] using this
 have R:(qb (s.drop k)).extract 0 (qX (s.drop k))=qb ((s.drop k).take (qX (s.drop k))):=by
  have:=qcx (s.drop k) 0 (qX (s.drop k));simpa using this
 simp [h.r3,ac,R];refine qD (B:=B3) (i:=0) (by simp) h5.b3 (by simp) rfl rfl sz5 fun W6 S Y=>?_;simp at Y;obtain ⟨n1,n2,n3⟩:=h.n2;have q:qc w W6:=S.ext u (by omega);have Z:G W6:=h.gw.ext q;have h6:Nx base B w s k l coms cv B2 B3 B4 ((1:Nat):Int) ρ W6:=h5.kind u S Y Z;simp;refine (qmg Z _).mono ?_;rintro _ W7 ⟨rfl,E⟩;have y:=h6.ext E;have t:=q.trans' E;cases hw:vI ((s.drop k).take (qX (s.drop k))) with
 |true=>
  rw [hw,j0 rfl] at a;simp [h.r3];refine qD (B:=B3) (i:=0) (by simp) y.b3 (by simp) rfl rfl sz5 fun W8 H I=>?_;simp at I⊢;have O:qc w W8:=H.ext t (by omega);have h8:Nx base B w s k l coms cv B2 B3 B4 ((2:Nat):Int) ρ W8:=y.kind t H I (h.gw.ext O);exact qe7 (h8.env (by simp) (by simp) (by simp) (by simp)) a aa (by simp) (by omega) hK
 |false=>
  rw [hw,q3 (by simp)] at a;by_cases z:12<qX (s.drop k)
  ·rw [j0 z] at a;have b:(12:Int)<(qX (s.drop k):Int):=by omega
   simp [b,h.r0];refine (qhc y.sc.blk).mono ?_;rintro _ _ ⟨rfl,rfl⟩;simp [hQ];exact y.brk (by rw [a]) (by decide)
  ·rw [q3 z] at a;have b:¬(12:Int)<(qX (s.drop k):Int):=by omega
   simp [b];exact qe7 (y.env (by simp) (by simp) (by simp) (by simp)) a aa (by simp) (by omega) hK
theorem qCw {B2 B3 B4:Nat} {ρ:qa} {W:AA} (h:Nx base B w s k l coms cv B2 B3 B4 0 ρ W) (hE:qc w W) (t:k<s.length) (hl:vH s[k]=false) (hc:qV s[k]=true) {Q:Ks} (hQ:∀ρ c w',Q.pn ρ c w'=qad base B w s k l coms cv (.panicked c) w') {KK:qa->AA->Prop} (hK:∀ρ W,KK ρ W=qbu.wp (Cx.mk Tryz.prog 114 kC []) (nxR base B w s k l coms cv) (nxQ base B w s k l coms cv) ρ W):
  (IR.raw (qv qci 25)).wp (Cx.mk Tryz.prog 114 kC []) (qjl.wp (Cx.mk Tryz.prog 114 kC []) KK Q) Q ρ W:=by
 have Y:s.drop k≠[]:=by rw [wG t];exact Ji _ _
 have a:first (s.drop k)=if jX ((s.drop k).take (jO (s.drop k))) then (3,jO (s.drop k),0) else (0,0,11):=by
  unfold first
  rw [qf5 t,q3 (by rw [hl];simp),j0 hc]
 have I:=h.sc.kl;refine js qE8 (qc W) (fun w3 b _=>⟨b, ?_⟩) (fun _ _ ρ v c w h=>by rw [hQ] at h⊢;exact h);have U:=h.ext b;have V:∀w',qc W w'->∀i,w'.cell? ⟨B4,i,none⟩=clV[i]? :=fun w' hh=>(h.b4.ext hh).cell;simp -implicitDefEqProofs [qr4,h.r0];refine qgb (n:=3) (k:=1) (e:=288) (inf:=_) (by kernel_rfl) rfl (by kernel_rfl) (by simp;exact h.r4) (by simp;rfl) (by decide) ?_;simp+contextual -implicitDefEqProofs [V,b,clV];refine (qme U.sc.blk I U.sc.short qIK).mono ?_;rintro _ W4 ⟨rfl,J⟩;have h4:=U.ext J;have C:=(hE.trans' b).trans' J;have u:((s.drop k).takeWhile qV).length=jO (s.drop k):=rfl;simp [u,qjl,h.r0];refine (qbR h4.sc.blk I).mono ?_;rintro _ W5 ⟨rfl,O⟩;have h5:=h4.ext O;have q:=C.trans' O;have S:jO (s.drop k)<=s.length - k:=by have:=qam qV (s.drop k);simpa [jO] using this
 have H:(qb (s.drop k)).extract 0 (jO (s.drop k))=qb ((s.drop k).take (jO (s.drop k))):=by
  have:=qcx (s.drop k) 0 (jO (s.drop k));simpa using this
 simp [S,H];have Z:=h.sc.sl;refine (qyl (h.gw.ext q) _ (by simp;omega)).mono ?_;rintro _ W6 ⟨rfl,E⟩;have R:=h5.ext E;have o:=q.trans' E;obtain ⟨n1,n2,n3⟩:=h.n2;cases hw:jX ((s.drop k).take (jO (s.drop k))) with
 |false=>
  rw [hw,q3 (by simp)] at a;simp [h.r0];refine (qhc R.sc.blk).mono ?_;rintro _ _ ⟨rfl,rfl⟩;simp [hQ];exact R.brk (by rw [a]) (by decide)
 |true=>
  rw [hw,j0 rfl] at a;simp [qr8,h.r3];refine qD (B:=B3) (i:=0) (by simp) R.b3 (by simp) rfl rfl sz5 fun W8 y z=>?_;simp at z;have F:qc w W8:=y.ext o (by omega);have h8:Nx base B w s k l coms cv B2 B3 B4 ((3:Nat):Int) ρ W8:=R.kind o y z (h.gw.ext F);exact qe7 (h8.env (by simp) (by simp) (by simp) (by simp)) a Y (vn:=8) (by simp) (by omega) hK
def vG (s:Bs):List Bs->Nat
 |[]=>0
 |g::l=>if Lib.hasPrefix s g then max (vG s l) g.length else vG s l
theorem qpf (s:Bs) (g:Bs):∀l,vG s (l++[g])=if Lib.hasPrefix s g then max (vG s l) g.length else vG s l
 |[]=>by simp [vG]
 |a::l=>by
  have b:=qpf s g l;simp only [List.cons_append,vG,b];split<;>split<;>omega
theorem qpe (s:Bs):∀l:List Bs,(∀g∈l,g.length=1\/g.length=2)->(vG s l=2↔∃g∈l,g.length=2/\Lib.hasPrefix s g=true)/\(vG s l=0↔∀g∈l,Lib.hasPrefix s g=false)/\vG s l<=2
 |[],_=>by simp [vG]
 |a::l,h=>by
  obtain ⟨o,t,q⟩:=qpe s l fun g b=>h g (by simp [b]);have v:=h a (by simp);simp only [vG];cases e:Lib.hasPrefix s a with
  |false=>
   simp only [uk,ud];refine ⟨o.trans ⟨fun ⟨g,b,x⟩=>⟨g,by simp [b],x⟩, ?_⟩,t.trans ⟨fun c g b=>?_,fun c g b=>c g (by simp [b])⟩,q⟩
   ·rintro ⟨g,b,x,y⟩;rcases ug.1 b with rfl|b
    ·rw [e] at y;cases y
    ·exact ⟨g,b,x,y⟩
   ·rcases ug.1 b with rfl|b
    ·exact e
    ·exact c g b
  |true=>
   simp only [wh];refine ⟨⟨fun u=>?_, ?_⟩,⟨fun u=>by omega,fun c=>?_⟩,by omega⟩
   ·by_cases n:a.length=2
    ·exact ⟨a,by simp,n,e⟩
    ·obtain ⟨g,b,x⟩:=o.1 (by omega);exact ⟨g,by simp [b],x⟩
   ·rintro ⟨g,b,x,y⟩;rcases ug.1 b with rfl|b
    ·omega
    ·have:=o.2 ⟨g,b,x,y⟩;omega
   ·have:=c a (by simp);rw [e] at this;cases this
theorem qeV {s g:Bs}:Lib.hasPrefix s g=true↔g.length<=s.length/\s.take g.length=g:=by
 unfold Lib.hasPrefix;rw [List.isPrefixOf_iff_prefix];constructor
 ·intro h;exact ⟨h.length_le,(List.prefix_iff_eq_take.1 h).symm⟩
 ·rintro ⟨_,h⟩;rw [<-h];exact List.take_prefix _ _
theorem qmW {g:Bs} (h:g∈ji):g.length=1\/g.length=2:=(qbZ g h).1
theorem qCJ {s:Bs} (C:s≠[]):vG s ji=if 1<s.length/\jA (s.take 2)=true then 2 else if jA (s.take 1) then 1 else 0:=by
 have I:0<s.length:=Jf.2 C;obtain ⟨q,v,J⟩:=qpe s ji fun g b=>qmW b;have z:(∃g∈ji,g.length=2/\Lib.hasPrefix s g=true)↔(1<s.length/\jA (s.take 2)=true):=by
  constructor
  ·rintro ⟨g,b,x,y⟩;obtain ⟨t,e⟩:=qeV.1 y;rw [x] at t e;exact ⟨by omega,by rw [e];simpa [jA] using b⟩
  ·rintro ⟨x,y⟩;have a:(s.take 2).length=2:=by rw [uF];omega
   exact ⟨s.take 2,by simpa [jA] using y,a,qeV.2 ⟨by omega,by rw [a]⟩⟩
 have F:jA (s.take 1)=true->vG s ji≠0:=by
  intro c H;have a:(s.take 1).length=1:=by rw [uF];omega
  have:=v.1 H (s.take 1) (by simpa [jA] using c);rw [qeV.2 ⟨by omega,by rw [a]⟩] at this;cases this
 split
 ·rename_i h;exact q.2 (z.2 h)
 ·rename_i h;have o:vG s ji≠2:=fun E=>h (z.1 (q.1 E));split
  ·rename_i c;have:=F c;omega
  ·rename_i c;refine v.2 fun g b=>?_;cases u:Lib.hasPrefix s g with
   |false=>rfl
   |true=>
    obtain ⟨t,e⟩:=qeV.1 u;rcases qmW b with n|n
    ·rw [n] at e;exact absurd (by rw [e];simpa [jA] using b) c
    ·exact absurd (q.2 ⟨g,b,n,u⟩) o
theorem qCt {B2 B3 B4:Nat} {ρ:qa} {W:AA} (h:Nx base B w s k l coms cv B2 B3 B4 0 ρ W) (hE:qc w W) (O:k<s.length) (hl:vH s[k]=false) (hc:qV s[k]=false) {Q:Ks} (hQ:∀ρ c w',Q.pn ρ c w'=qad base B w s k l coms cv (.panicked c) w') {KK:qa->AA->Prop} (hK:∀ρ W,KK ρ W=qbu.wp (Cx.mk Tryz.prog 114 kC []) (nxR base B w s k l coms cv) (nxQ base B w s k l coms cv) ρ W):
  (IR.reg [.asg none 9 (.const (.int .i64 0)),
      .eff none (some 30) (.call {callee:=.value (.func 310),args:=#[],argTypes:=#[]}) 51,
      .asg none 31 (.op1 .lenS (.var 30)),
      .asg none 32 (.const (.int .i64 0))]).wp (Cx.mk Tryz.prog 114 kC []) ((IR.block 1 (.loop qdS)).wp (Cx.mk Tryz.prog 114 kC []) (qfz.wp (Cx.mk Tryz.prog 114 kC []) KK Q) Q) Q ρ W:=by
 have aa:s.drop k≠[]:=by rw [wG O];exact Ji _ _
 have hfr:first (s.drop k)=if 1<(s.drop k).length/\jA ((s.drop k).take 2)=true then (4,2,0) else if jA ((s.drop k).take 1) then (4,1,0) else (0,0,10):=by
  unfold first
  rw [qf5 O,q3 (by rw [hl];simp),q3 (by rw [hc];simp)]
 have hkl:=h.sc.kl;simp;refine (qye (h.gw.ext hE)).mono ?_;rintro _ W1 ⟨v,rfl,hO,R⟩;have I:=Own.sl (enc:=qi) (xs:=ji) hO (by decide);simp [I.is,I.len];refine zH 32 21 (fun j e W'=>qc W1 W'/\e 0=ρ 0/\e 2=ρ 2/\e 3=ρ 3/\e 4=ρ 4/\e 30=v/\e 31=.int .i64 21/\e 9=.int .i64 (vG (s.drop k) (ji.take j):Nat)) (by simp) ⟨jd _,by simp,by simp,by simp,by simp,by simp,by simp [qy5],by simp [vG]⟩ ?_;rintro j e W' hj u ⟨z,h0,h2,h3,h4,H,y,J⟩;have E:=(h.ext (R.trans' z)).env h0 h2 h3 h4;by_cases C:j<21
 ·have ab:(j:Int)<21:=by omega
  have t:j<ji.length:=C;have F:=I.ext z;simp [qdS,qr7,y,u,ab,C,H,F.is,F.len,t,F.cell j t,qi,E.r0];refine (qbR E.sc.blk hkl).mono ?_;rintro _ W2 ⟨rfl,Y⟩;simp;refine (Tryz.hasPrefix (qb (s.drop k)) (qb ji[j]) W2).mono ?_;rintro _ W2 ⟨rfl,rfl⟩;have o:vG (s.drop k) (ji.take (j+1))=if Lib.hasPrefix (s.drop k) ji[j] then max (vG (s.drop k) (ji.take j)) ji[j].length else vG (s.drop k) (ji.take j):=by
   rw [JQ,uj t];exact qpf _ _ _
  cases hp:Lib.hasPrefix (s.drop k) ji[j] with
  |true=>
   rw [hp,j0 rfl] at o;simp [hp,J];refine qko (a:=(vG (s.drop k) (ji.take j):Nat)) (b:=(ji[j].length:Nat)) (k:=.i64) (by simp) (by simp) ?_;simp [qjk,u,q7 (n:=(j:Int)+1) (by omega),h0,h2,h3,h4,H,y];refine ⟨z.trans' Y, ?_⟩;rw [o];split<;>omega
  |false=>
   rw [hp,q3 (by simp)] at o;simp [hp,qjk,u,q7 (n:=(j:Int)+1) (by omega),h0,h2,h3,h4,H,y,J,o];exact z.trans' Y
 ·have hj':j=21:=by omega
  subst hj';have o:vG (s.drop k) (ji.take 21)=vG (s.drop k) ji:=rfl;rw [o] at J;have q:(vG (s.drop k) ji=0/\first (s.drop k)=(0,0,10))\/(vG (s.drop k) ji≠0/\first (s.drop k)=(4,vG (s.drop k) ji,0)):=by
   rw [hfr,qCJ aa];split
   ·exact .inr ⟨by decide,rfl⟩
   ·split
    ·exact .inr ⟨by decide,rfl⟩
    ·exact .inl ⟨rfl,rfl⟩
  generalize vG (s.drop k) ji=m at J q;rcases q with ⟨rfl,hf⟩|⟨hm,hf⟩
  ·simp [qdS,y,u,qfz,J,E.r0];refine (qhc E.sc.blk).mono ?_;rintro _ _ ⟨rfl,rfl⟩;simp [hQ];exact E.brk (by rw [hf]) (by decide)
  ·simp [qdS,y,u,qfz,J,hm,qr6,E.r3];obtain ⟨n1,n2,n3⟩:=h.n2;have Z:qc w W':=(hE.trans' R).trans' z;refine qD (B:=B3) (i:=0) (by simp) E.b3 (by simp) rfl rfl sz5 fun W8 S U=>?_;simp at U;have V:qc w W8:=S.ext Z (by omega);have h8:Nx base B w s k l coms cv B2 B3 B4 ((4:Nat):Int) e W8:=E.kind Z S U (h.gw.ext V);exact qe7 (h8.env (by simp) (by simp) (by simp) (by simp)) hf aa (vn:=9) (by simp [J]) (by omega) hK
theorem qyk (hG:G w) (h:Sc base B w s k l coms cv) (a:k<s.length):Calls Tryz.prog 267 #[.pointer (some ⟨B,0,none⟩)] w (qad base B w s k l coms cv):=by
 have hs64:=h.short;have hs20:=h.sl;have hfk:=qf5 a;have hne:s.drop k≠[]:=by rw [wG a];exact Ji _ _
 refine qFb fun ρ I=>?_;simp [qsa];refine qQ z38 fun B2 W2 O b Z _=>?_;have F:=h.ext b;simp [I,F.blk.cell,qJx];refine qQ z38 fun B3 W3 aa u hb3 _=>?_;have hS3:=F.ext u;have W:=Z.ext u;simp;refine jg (B:=B3) (by simp) hb3 (by simp [Value.cells]) (by simp [Value.cells]) (by simpa [Value.cells] using qhk) fun W4 v y=>?_;have J:B2<B3:=by have:=Z.lt;omega
 have o3:=F.off aa;have o2:=h.off O;have hS4:=hS3.only v o3.1 o3.2;have U:=v.blk W (by omega);have hT4:Tn B cv cv w W4:=(Tn.ext (b.trans' u)).new v (by have:=b.size;omega);simp [Value.cells] at y;simp;refine qmh.mono ?_;rintro _ W5 ⟨rfl,t⟩;simp;refine qQ qlp fun B4 W6 hB4 n H _=>?_;simp;have E:=y.ext t;have hl4:B3<B4:=by have:=E.lt;omega
 refine jg (B:=B4) (by simp) H (by simp [Value.cells]) (by simp [Value.cells];decide) (by simpa [Value.cells] using qmy) fun W7 q z=>?_;have Y:=hS4.ext t;have o4:=Y.off hB4;have R:=(Y.ext n).only q o4.1 o4.2;have V:=q.blk (E.ext n) (by omega);have S:=q.blk ((U.ext t).ext n) (by omega);have hT7:Tn B cv cv w W7:=((hT4.trans (Tn.ext t)).trans (Tn.ext n)).new q (by have:=b.size;omega);have C:qc w W7:=by
  have e4:qc w W4:=v.ext (b.trans' u) (by have:=b.size;omega);exact q.ext ((e4.trans' t).trans' n) (by have:=b.size;omega)
 simp [Value.cells] at z;simp [I,R.blk.cell,a,qc6 a];intro W8 c;have hN:∀e:qa,e 0=.pointer (some ⟨B,0,none⟩)->e 2=.pointer (some ⟨B2,0,none⟩)->e 3=.pointer (some ⟨B3,0,none⟩)->e 4=.pointer (some ⟨B4,0,none⟩)->Nx base B w s k l coms cv B2 B3 B4 0 e W8:=fun e a0 a2 a3 a4=>
  ⟨a0,a2,a3,a4,R.ext c,S.ext c,V.ext c,z.ext c,hT7.trans (Tn.ext c),⟨O,J,hl4⟩,⟨o3.1,o2.1⟩,⟨o3.2,o2.2⟩,hG.ext (C.trans' c),hG⟩
 have o:=C.trans' c;simp [qr9];refine (qhb s[k] W8).mono ?_;rintro _ W8 ⟨rfl,rfl⟩;cases hl:vH s[k] with
 |true=>
  simp;refine qCu (hN _ (by simp [I]) (by simp) (by simp) (by simp)) o a hl (fun _ _ _=>rfl) fun _ _=>rfl
 |false=>
  simp;refine (qhd s[k] W8).mono ?_;rintro _ W8 ⟨rfl,rfl⟩;cases hc:qV s[k] with
  |true=>
   simp;refine qCw (hN _ (by simp [I]) (by simp) (by simp) (by simp)) o a hl hc (fun _ _ _=>rfl) fun _ _=>rfl
  |false=>
   simp only [vL];refine qCt (hN _ (by simp [I]) (by simp) (by simp) (by simp)) o a hl hc (fun _ _ _=>rfl) fun _ _=>rfl
end
end Go.L01
namespace Go.L01
open Go Go.Eng Go.Proofs
set_option maxRecDepth 100000
noncomputable def qpx:Code:=(Tryz.f200.body).getD .skip
noncomputable def qfo (v:AB):IR:=zq [za 6 (.const v)] <| .block 0 (zq [zE 8 (.binOp .eql 20 (zt 6) (.const .nilIface) 20) 4] <| .cond (zv 8) (.reg [zm 3 6]) (zq [zE 9 (.typeAssert (zt 6) 20 212 true) 0,za 10 (ze 1 (zv 9)),za 11 (ze 0 (zv 9))] <| .cond (zv 10) (zq [zA 4 212,zw 212 (zt 4) (zt 11)] <| .raw (qv qpx 7)) (.reg [zm 5 6,zm 7 5,.eff none none (.panic (zt 7)) 0])))
def qfn:List Nat:=zV 14 []
theorem qC9 (v:AB):(jk Tryz.prog Tryz.f200.ntmps qfn [7] (qa8 v (Tryz.f200.body.getD .skip))).map IR.norm=some (qfo v):=by kernel_rfl
def qpw {v0 b a:AB} {u:FrameMode} {w:AA} {R:Ending->FrameMode->AA->Prop} (h:∀ρ:qa,ρ 0=v0->ρ 1=b->ρ 2=a->(qfo (xd u)).wp ⟨Tryz.prog,14,qfn,[]⟩ (qaz [] (xp u) R) (qb4 [] (xp u) R) ρ w):
  CallsDIn Fence.wide 0 Tryz.prog 200 #[v0,b,a] u w R:=by
 obtain ⟨n,o,e⟩:=uc.1 (qC9 (xd u));exact qv9 (args:=#[v0,b,a]) Tryz.func200 (c:=Tryz.f200.body.getD .skip) rfl (by kernel_rfl) o e (by kernel_rfl) (show zi Tryz.prog qfn Tryz.f200.results.toList=some [] by kernel_rfl) (uI rfl) (h _ rfl rfl rfl)
def qpv:OT:=zy 12 (zf 0 (zv 4))<|zy 13 (zM 2 (zv 12))<| .step (zw 48 (zt 0) (.const (.slice none 0 0))) true<| .step (zw 51 (zt 1) (.const (.slice none 0 0))) true<| .step (zw 26 (zt 2) (zt 13)) false<| .done
theorem qDa:jx Tryz.prog 14 qfn 4 (qv qpx 7)=some qpv:=by kernel_rfl
end Go.L01
namespace Go.L01
open Go Go.Eng Go.Proofs Go.RowKit
set_option maxRecDepth 100000
set_option maxHeartbeats 2000000
@[simp] theorem qNd:qk Tryz.prog 266=true:=by kernel_rfl
@[simp] theorem qNc:qk Tryz.prog 267=true:=by kernel_rfl
theorem qAj {cx:Cx} {g:Operand} {ps:Array Tmp} {assign body:Code} {gf:FuncId} {fs lb:Array AB} {K:qa->AA->Prop} {Q:Ks} {ρ:qa} {w:AA} (hD:cx.D≠[]) (Y:qd ρ g=.func (.func gf) fs lb) (H:zP cx.V g=false)
  (o:qk cx.P gf=true)
  (h:∀(a:Act) (r:Loop) (W1:AA),Agree cx.n cx.V ρ a->r.tmps=a.tmps->r.params=ps->r.assign=assign->r.body=body->r.state=.ready->r.pending=none->qc w W1->W1.heap.size=w.heap.size+2->LoopB W1 (w.heap.size+1) w.heap.size r->
   Calls cx.P gf (fs++ #[.func (.yield (w.heap.size+1)) #[] #[]]++lb) W1 (qCN cx (w.heap.size+1) w.heap.size r K Q (qx ρ gS (yM (qaI w.heap.size) (ρ gS))))):
  (IR.raw (.rangeFunc g ps assign body)).wp cx K Q ρ w:=by
 intro a I hDa hdf;refine (wpIn_wide (n:=0)).1 (wpIn_rangeFunc fun fn _=>?_);obtain ⟨rec,b⟩:∃rec:Loop,rec={state:=.ready,pending:=none,fn,tmps:=a.tmps,params:=ps,assign,body,defers:=w.heap.size}:=⟨_,rfl⟩;obtain ⟨W1,u⟩:∃W1,(w.alloc (.deferred (some []))).alloc (.loop rec)=W1:=⟨_,rfl⟩;have hE:qc w W1:=by rw [<-u];exact (yK _ _).trans' (yK _ _)
 have J:W1.heap.size=w.heap.size+2:=by rw [<-u];simp
 have hL:LoopB W1 (w.heap.size+1) w.heap.size rec:=by
  rw [<-u];refine ⟨?_, ?_⟩
  ·have:=World.alloc_heap_new (w.alloc (.deferred (some []))) (.loop rec);rwa [World.size_alloc] at this
  ·exact (Below.heap_alloc _ _ _ (by simp)).trans (World.alloc_heap_new w _)
 have F:a.eval g=.func (.func gf) fs lb:=by
  rw [<-Y];cases g with
  |tmp t=>
   have Z:t∈cx.V:=by simpa [zP] using H
   simp [Act.eval,qd,I.at Z]
  |const v=>rfl
  |global v=>rfl
  |func v=>rfl
 refine ⟨w.heap.size+1,[qaI w.heap.size],W1,{target:=.fn (.func gf) lb,args:=fs++ #[.func (.yield (w.heap.size+1)) #[] #[]]},W1,gf,fs++ #[.func (.yield (w.heap.size+1)) #[] #[]]++lb,W1, ?_, ?_,fun _ _=>trivial, ?_,fun W=>(by cases W), ?_⟩
 ·rw [<-u,b];exact run_enterLoop_outer _ _ _ _ _
 ·simp only [resolve,F];simp [Deferred.ofValue,Act.eval]
 ·unfold qk at o;split at o
  ·rename_i f2 R;simp only [km,ux,JV,ne_eq] at o;cases U:f2.body with
   |none=>simp [U] at o
   |some c=>simp [invoke,callFunc,R,o.1,U]
  ·cases o
 ·refine (callsIn_wide (n:=0 - 1)).2 ((h a rec W1 I (by rw [b]) (by rw [b]) (by rw [b]) (by rw [b]) (by rw [b]) (by rw [b]) hE J hL).mono ?_);have q:=I.defer (qaI w.heap.size);have y:vy cx {a with defers:=[qaI w.heap.size]++a.defers}:=fun e=>absurd e hD;intro e W3 O;cases e with
  |returned v=>
   obtain ⟨st,z,S,E,C⟩:=O;have C:=C _ (qcb _ _ _) (E.put _);refine ⟨z,_,run_endLoop E.rcd S, ?_⟩;cases z with
   |none=>exact ⟨y,_,q,C⟩
   |some c=>
    cases c<;>first|exact C.elim|skip
    ·exact wpIn_exit ⟨y,_,q,C⟩
    ·exact wpIn_ret ⟨y,_,q,C⟩
  |panicked c=>exact ⟨y,_,q,O⟩
  |outgrown=>exact qfg O
def qKk (base B:Nat) (s:Bs) (J:List Tok->AB->AA->Prop):Ending->AA->Prop:=fun e W'=>
 (∃v ts coms cv line,e=.returned v/\qF s 1=.ok ts coms/\J ts cv W'/\Sc base B W' s s.length line coms cv)\/
 (∃er line ts cv,e=brk er line/\qF s 1=.bad er line/\J ts cv W')
def qKl (base B l:Nat) (s:Bs) (J:List Tok->AB->AA->Prop) (ρ':qa) (W':AA):Prop:=
 ρ' 0=.pointer (some ⟨B,0,none⟩)/\ρ' 1=.func (.yield l) #[] #[]/\∃ts k line coms cv,Sc base B W' s k line coms cv/\J ts cv W'/\qmH s k/\qF s 1=(qF (s.drop k) line).add ts coms/\ts.length<=k
def qDg {W:AA} {base B l:Nat} {s:Bs} {cv0:AB} (J:List Tok->AB->AA->Prop) (hg:∀b cv W,J b cv W->G W) (C:∀b cv F W W',J b cv W->Tn B cv F W W'->J b F W')
  (hY:∀b cv t W k line coms,J b cv W->Sc base B W s k line coms cv->b.length<=20000->qcG Tryz.prog l #[qcu t] W fun e W'=>e=.returned (.bool true)/\J (b++[t]) cv W'/\Sc base B W' s k line coms cv)
  (h0:J [] cv0 W) (q:Sc base B W s 0 1 [] cv0):
  Calls Tryz.prog 201 #[.pointer (some ⟨B,0,none⟩),.func (.yield l) #[] #[]] W (qKk base B s J):=by
 refine qGd fun ρ r0 r1=>?_;simp [qtg,r0];refine (qmd q).mono ?_;rintro _ W1 ⟨rfl,k,line,new,cv,R,u⟩;simp;refine kr (qKl base B l s J) (fun _ w'=>s.length - atOf w' B) ⟨by simp [r0],by simp [r1],[],k,line,new,cv,by simpa using R.sc,C _ _ _ _ _ h0 R.tn,u,by simpa using R.eq,by simp⟩ ?_;clear R u;rintro ρ' W' ⟨r0,r1,b,k,line,coms,cv,q,hj,u,y,ae⟩;have Z:=q.at
 by_cases c:k<s.length
 ·simp [qjB,r0,q.blk.cell,c];intro W2 o;have ab:=q.ext o;have z:=C _ _ _ _ _ hj (Tn.ext o);obtain ⟨U,V⟩:=u c;have H:=U;simp only [ww,uZ,uX] at H;obtain ⟨⟨b1,b2⟩,b3⟩:=H;have n:=qax s[k] (s.drop (k+1)) line;rw [<-wG c,q3 b3,q3 (by rintro (h|h)<;>contradiction),q3 V] at n;simp [qjC,qte,r0,r1];refine (qyk (hg _ _ _ z) ab c).mono ?_;rintro e W3 ⟨E,⟨O,rfl,aa⟩|⟨O,rfl⟩⟩
  ·rw [q3 (by simpa using O)] at n;have ad:=C _ _ _ _ _ z E;simp;refine qIa (l:=l) (by simp) (by simp) ?_;simp;refine (hY b cv _ W3 _ _ _ ad aa (by have:=q.kl;have:=q.sl;omega)).mono ?_;rintro _ W4 ⟨rfl,Y,ac⟩;simp [qtf,r0];refine (qmd ac).mono ?_;rintro _ W5 ⟨rfl,k5,v,af,S,a,I⟩;have hpos:=qcq O (by rw [wG c];exact Ji _ _);simp;refine ⟨⟨by simp [r0],by simp [r1],_,k5,v,_,S,a.sc,C _ _ _ _ _ Y a.tn,I, ?_, ?_⟩, ?_⟩
   ·rw [y,n,Jj,a.eq,Res.add_add,Res.add_add];simp
   ·have:=a.le;simp;omega
   ·rw [a.sc.at,Z];have:=a.le;omega
  ·rw [j0 O] at n;simp [brk];exact .inr ⟨_,_,b,cv,rfl,by rw [y,n];rfl,C _ _ _ _ _ z E⟩
 ·have hk:k=s.length:=by have:=q.kl;omega
  subst hk;simp [qjB,r0,q.blk.cell,qjC];intro W2 o;refine .inl ⟨_,b,coms,cv,line,rfl, ?_,C _ _ _ _ _ hj (Tn.ext o),q.ext o⟩;rw [y,J1,QP];simp [Res.add]
theorem vA:Tryz.prog.underlying 20=some (.interface (Tryz.prog.methodsAt 20)):=by kernel_rfl
def vw:Option TypeDesc->Bool|some (.struct _)=>true|_=>false
def qxF:∃ds,Tryz.prog.underlying 212=some ds/\∀m,ds≠ .interface m:=by
 have h:vw (Tryz.prog.underlying 212)=true:=by kernel_rfl
 unfold vw at h;split at h
 ·rename_i fs a;exact ⟨_,a,fun m b=>by cases b⟩
 ·cases h
theorem z84:jU Tryz.prog 212=some #[.int .i64 0,.int .i64 0]:=by kernel_rfl
theorem qyw:jh Tryz.prog 212 2=true:=by kernel_rfl
theorem yq:jh Tryz.prog 26 2=true:=by kernel_rfl
theorem qew:jh Tryz.prog 48 1=true:=by kernel_rfl
def qkZ (e l:Int):List PanicEntry:=[{v:=.iface 212 (.agg #[.int .i64 e,.int .i64 l]),recovered:=false}]
def qIz {v0 c a:AB} {w:AA}:CallsDIn Fence.wide 0 Tryz.prog 200 #[v0,c,a] .returning w fun e b w'=>(∃v,e=.returned v)/\b=.returning/\w'=w:=by
 refine qpw fun ρ h o n=>?_;simp [qfo,xd,xp];refine qvG vA (by simp) ?_;simp
def qIA {w:AA} {L C F:Nat} {x y:AB} {f:Array AB} {er ln:Int} (O:Blk w L #[x] 48) (hC:Blk w C #[y] 51) (hF:Blk w F f 26) (hf:f.size=2) (h1:L≠C) (h2:L≠F) (h3:C≠F):
  CallsDIn Fence.wide 0 Tryz.prog 200 #[.pointer (some ⟨L,0,none⟩),.pointer (some ⟨C,0,none⟩),.pointer (some ⟨F,0,none⟩)] (.panicking (qkZ er ln)) w fun e u' w'=>(∃v,e=.returned v)/\settle u'=.returning/\
   (∃W,qc w W/\∃W2,Only L W W2/\∃W3,Only C W2 W3/\Only F W3 w')/\Blk w' L #[.slice none 0 0] 48/\Blk w' C #[.slice none 0 0] 51/\Blk w' F #[.int .i64 er,.int .i64 ln] 26:=by
 obtain ⟨ds,hu,hd⟩:=qxF;refine qpw fun ρ r0 r1 r2=>?_;simp [qfo,xd,xp,qkZ];refine qvF (u:=212) (v:=.agg #[.int .i64 er,.int .i64 ln]) vA (by simp) ?_;simp;refine qvJ (a:=212) (v:=.agg #[.int .i64 er,.int .i64 ln]) hu hd (by simp) ?_;simp;refine qQ z84 fun B W hB J hb _=>?_;simp;refine jg (B:=B) (by simp) hb (by simp [Value.cells]) (by simp [Value.cells]) (by simpa [Value.cells] using qyw) fun W1 n H=>?_;simp [Value.cells] at H;have Z:=n.blk (O.ext J) (by have:=O.lt;omega);have V:=n.blk (hC.ext J) (by have:=hC.lt;omega);have Y:=n.blk (hF.ext J) (by have:=hF.lt;omega);simp;refine js qDa (fun W=>Blk W B #[.int .i64 er,.int .i64 ln] 212) fun W2 c _=>?_;have q:=H.ext c;refine ⟨q, ?_⟩;have U:∀w',Blk w' B #[.int .i64 er,.int .i64 ln] 212->∀i,w'.cell? ⟨B,i,none⟩=#[Value.int .i64 er,.int .i64 ln][i]? :=fun w' h=>h.cell;simp+contextual -implicitDefEqProofs [qpv,q.cell,U];refine qD (B:=L) (i:=0) (by simp [r0]) (Z.ext c) (by simp) rfl rfl qew fun W3 b z=>?_;refine ⟨b.blk q (by have:=O.lt;omega), ?_⟩;simp;have R:=b.blk (V.ext c) (ub h1);refine qD (B:=C) (i:=0) (by simp [r1]) R (by simp) rfl rfl qex fun W4 o E=>?_;refine ⟨o.blk (b.blk q (by have:=O.lt;omega)) (by have:=hC.lt;omega), ?_⟩;simp;have S:=o.blk (b.blk (Y.ext c) (ub h2)) (ub h3);refine jg (B:=F) (by simp [r2]) S (by simp [Value.cells,hf]) (by simp [Value.cells]) (by rw [hf];exact yq) fun W5 t I=>?_;simp [Value.cells] at z E I⊢;refine ⟨by rfl,⟨W2,(n.ext J hB).trans' c,W3,b,W4,o,t⟩,t.blk (o.blk z h1) h2,t.blk E h3,I⟩
def qH (ts:List Tok):List AB:=ts.flatMap fun t=>[.int .u8 (t.kind:Int),.string (qb t.text),.int .i64 t.line]
@[simp] theorem qKw:qH []=[]:=rfl
def ql6 (a:List Tok) (t:Tok):qH (a++[t])=qH a++[.int .u8 (t.kind:Int),.string (qb t.text),.int .i64 t.line]:=by simp [qH]
theorem jp (a:List Tok):(qH a).length=a.length*3:=by
 induction a with
 |nil=>rfl
 |cons t a b=>
  have:qH (t::a)=[.int .u8 (t.kind:Int),.string (qb t.text),.int .i64 t.line]++qH a:=rfl;rw [this,ky,b];simp;omega
def Own.same {base e sz:Nat} {w w':AA} {v:AB} {xs:List AB} (h:Own base e sz w v xs) (c:∀k,v.ownBlock=some k->w'.heap[k]? =w.heap[k]?):Own base e sz w' v xs:=by
 rcases h with h|⟨g,off,n,cap,cur,rfl,a,b,r⟩
 ·exact .inl h
 ·exact .inr ⟨g,off,n,cap,cur,rfl,a,(c g rfl).trans b,r⟩
structure SJ (w:AA) (B L C F l Db:Nat) (rec:Loop) (ts:List Tok) (cv:AB) (lv:AB) (W:AA):Prop where
 ext:qc w W
 lp:LoopB W l Db rec
 bl:Blk W L #[lv] 48
 bc:Blk W C #[.slice none 0 0] 51
 bf:Blk W F #[.int .i64 0,.int .i64 0] 26
 own:Own w.heap.size 53 3 W lv (qH ts)
 ne:∀X∈[B,L,C,F,l,Db],lv.ownBlock≠some X
 nc:∀X∈[L,C,F,l,Db],cv.ownBlock≠some X/\X≠B
 nn:∀k,lv.ownBlock=some k->cv.ownBlock≠some k
def SJ.turn {w:AA} {B L C F l Db:Nat} {rec:Loop} {v:List Tok} {cv o u:AB} {W W':AA} (h:SJ w B L C F l Db rec v cv u W) (b:Tn B cv o W W') (J:w.heap.size<=B) (E:∀k,cv.ownBlock=some k->w.heap.size<=k):SJ w B L C F l Db rec v o u W':=by
 have n:=h.lp.lt;have keep:∀X∈[L,C,F,l,Db],X<W.heap.size->W'.heap[X]? =W.heap[X]? :=fun X c z=>b.block X z (h.nc X c).2 (h.nc X c).1;have H:=h.bl.lt;have I:=h.bc.lt;have y:=h.bf.lt;refine ⟨⟨b.os.trans h.ext.os,b.tape.trans h.ext.tape,b.output.trans h.ext.output,Nat.le_trans h.ext.size b.size,fun k a=>(b.block k (uT a h.ext.size) (by omega) fun e=>by have:=E k e;omega).trans (h.ext.block k a)⟩,
  h.lp.keep (keep l (by simp) n.1) (keep Db (by simp) n.2),⟨(keep L (by simp) H).trans h.bl.heap⟩,⟨(keep C (by simp) I).trans h.bc.heap⟩,⟨(keep F (by simp) y).trans h.bf.heap⟩, ?_,h.ne, ?_, ?_⟩
 ·refine Own.same h.own fun k a=>?_;have t:=(h.own.blk k a).2;exact b.block k t (fun e=>h.ne B (by simp) (by rw [a,e])) (h.nn k a)
 ·intro X c;refine ⟨?_,(h.nc X c).2⟩;rcases b.own with e|e
  ·rw [e];exact (h.nc X c).1
  ·intro q;have:=e X q;simp only [ug,uN,uQ] at c;rcases c with rfl|rfl|rfl|rfl|rfl<;>omega
 ·intro k a;rcases b.own with e|e
  ·rw [e];exact h.nn k a
  ·intro q;have R:=e k q;have O:=(h.own.blk k a).2;omega
def SJ.round {w:AA} {B L C F l Db:Nat} {rec a:Loop} {o:List Tok} {cv n:AB} {W W':AA} (h:SJ w B L C F l Db rec o cv n W) (b:Only l W W') (q:w.heap.size<=l) (c:L≠l/\C≠l/\F≠l) (t:LoopB W' l Db a):SJ w B L C F l Db a o cv n W':=
 ⟨b.ext h.ext q,t,b.blk h.bl c.1,b.blk h.bc c.2.1,b.blk h.bf c.2.2,Own.same h.own fun k u=>b.block k (fun e=>h.ne l (by simp) (by rw [u,e])),h.ne,h.nc,h.nn⟩
def SJ.app {w:AA} {B L C F l Db:Nat} {rec:Loop} {ts t:List Tok} {cv v a:AB} {W W1 W':AA} (h:SJ w B L C F l Db rec ts cv v W) (J:W.grownBy W1 v.ownBlock) (Z:Own w.heap.size 53 3 W1 a (qH t)) (O:a.ownBlock=v.ownBlock\/a.ownBlock=some W.heap.size)
  (E:Only L W1 W') (U:Blk W' L #[a] 48) (u:C≠L/\F≠L/\l≠L/\Db≠L) (V:B<W.heap.size) (Y:∀k,cv.ownBlock=some k->k<W.heap.size) (y:w.heap.size<=L):SJ w B L C F l Db rec t cv a W':=by
 have b:=h.lp.lt;have hL:=h.bl.lt;have R:=h.bc.lt;have I:=h.bf.lt;have keep:∀X∈[C,F,l,Db],X<W.heap.size->X≠L->W'.heap[X]? =W.heap[X]? :=by
  intro X c S z;rw [E.block X z];refine J.block X S fun e=>h.ne X ?_ e.symm;simp only [ug,uN,uQ] at c⊢;rcases c with rfl|rfl|rfl|rfl<;>simp
 have q:∀X∈[B,L,C,F,l,Db],X<W.heap.size:=by
  intro X c;simp only [ug,uN,uQ] at c;rcases c with rfl|rfl|rfl|rfl|rfl|rfl
  ·exact V
  ·exact hL
  ·exact R
  ·exact I
  ·exact b.1
  ·exact b.2
 have n:∀X∈[B,L,C,F,l,Db],a.ownBlock≠some X:=by
  intro X c;rcases O with e|e
  ·rw [e];exact h.ne X c
  ·rw [e];intro H;cases H;have:=q _ c;omega
 refine ⟨?_,h.lp.keep (keep l (by simp) b.1 u.2.2.1) (keep Db (by simp) b.2 u.2.2.2),U,⟨(keep C (by simp) R u.1).trans h.bc.heap⟩,⟨(keep F (by simp) I u.2.1).trans h.bf.heap⟩, ?_,n,h.nc, ?_⟩
 ·exact E.ext (h.ext.grown J h.ext.size fun k o=>(h.own.blk k o).1) y
 ·exact Own.same Z fun k o=>E.block k fun e=>n L (by simp) (by rw [o,e])
 ·intro k o;rcases O with e|e
  ·exact h.nn k (e▸o)
  ·rw [e] at o;cases o;intro H;have:=Y _ H;omega
def Sc.gb {base B:Nat} {W W':AA} {s:Bs} {k:Nat} {line:Int} {coms:List Bs} {cv:AB} {row:Option Nat} (h:Sc base B W s k line coms cv) (a:W.grownBy W' row) (c:row≠some B) (b:cv.ownBlock=none\/cv.ownBlock≠row):Sc base B W' s k line coms cv:=
 ⟨⟨(a.block B h.blk.lt (fun e=>c e.symm)).trans h.blk.heap⟩,h.own.kept a b,h.ne,h.bB,Nat.le_trans h.bW a.size,h.kl,h.sl,h.l0,h.l1,h.cl⟩
def qnw:∃b,xM Tryz.prog 48=some (53,3,b)/\b<=64:=by
 have h:(match xM Tryz.prog 48 with|some (e,s,b)=>decide (e=53)&&decide (s=3)&&decide (b<=64)|none=>false)=true:=by kernel_rfl
 split at h
 ·rename_i e s b a;simp only [km,ue] at h;obtain ⟨⟨rfl,rfl⟩,c⟩:=h;exact ⟨b,a,c⟩
 ·cases h
theorem qmX:xB Tryz.prog 48=some (53,3):=by kernel_rfl
theorem qwi:Tryz.prog.built 26 [(0,.int .i64 2)]=some #[.int .i64 2,.int .i64 0]:=by kernel_rfl
theorem qgp:Tryz.prog.built 26 []=some #[.int .i64 0,.int .i64 0]:=by kernel_rfl
theorem qI6 (s:Bs):Tryz.prog.built 215 [(0,.string (qb s)),(2,.int .i64 1)]=some #[.string (qb s),.int .i64 0,.int .i64 1]:=by kernel_rfl
theorem qI5 (s:Bs):Tryz.prog.built 217 [(0,.agg #[.string (qb s),.int .i64 0,.int .i64 1])]=some #[.string (qb s),.int .i64 0,.int .i64 1,.slice none 0 0]:=by kernel_rfl
theorem z28:jU Tryz.prog 48=some #[.slice none 0 0]:=by kernel_rfl
theorem z25:jU Tryz.prog 51=some #[.slice none 0 0]:=by kernel_rfl
theorem z31:jU Tryz.prog 26=some #[.int .i64 0,.int .i64 0]:=by kernel_rfl
@[simp] theorem qv4:qk Tryz.prog 200=true:=by kernel_rfl
@[simp] theorem qNy:qk Tryz.prog 201=true:=by kernel_rfl
def qbG (w:AA) (src:Bs):Ending->AA->Prop:=fun e w'=>∃v c,e=.returned (.tuple #[v,c,.agg #[.int .i64 (qC src).err,.int .i64 (qC src).at]])/\
 Own w.heap.size 53 3 w' v (qH (qC src).toks)/\Own w.heap.size 9 1 w' c ((qC src).coms.map qi)/\qc w w'
def qhU {t u z A B C:Nat} {x y:AB} {cs:Array AB} {T U V:TypeId} {R:Ending->AA->Prop} {ρ:qa} {w:AA} (c:ρ t=.pointer (some ⟨A,0,none⟩)) (b:Blk w A #[x] T) (o:ρ u=.pointer (some ⟨B,0,none⟩)) (n:Blk w B #[y] U)
  (F:ρ z=.pointer (some ⟨C,0,none⟩)) (a:Blk w C cs V) (v:cs.size=2) (h:R (.returned (.tuple #[x,y,.agg cs])) w):qz [.cell1 t,.cell1 u,.cellN z 2] R ρ w:=by
 have E:w.cell? ⟨A,0,none⟩=some x:=by rw [b.cell];rfl
 have q:w.cell? ⟨B,0,none⟩=some y:=by rw [n.cell];rfl
 have e:q9 w (.loadN 2) (.pointer (some ⟨C,0,none⟩))=some (.agg cs):=by rw [qdr,<-v,xc a];rfl
 simp only [qz,vX,RV.val,c,o,F,qAx,E,q,e,Option.map_some,Option.bind_some];exact h
def jZ {P:Program} {rs:List RV} {R:Ending->AA->Prop} {ρ:qa} {w:AA} {f:FuncId} {caps:Array AB} {u:FrameMode} (q:u≠ .run) (a:qk P f=true)
  (h:CallsDIn Fence.wide 0 P f caps u w fun
   | .returned _,e,w'=>vo P rs R ρ [] (settle e) w'
   | .panicked b,e,w'=>vo P rs R ρ [] (raised e b) w'
   | .outgrown,_,w'=>R .outgrown w'):vo P rs R ρ [.func (.func f) #[] caps] u w:=by
 refine ⟨q,f,caps, ?_,h⟩;unfold qk at a;split at a
 ·rename_i fn o;simp only [km,ux,JV,ne_eq] at a;cases n:fn.body with
  |none=>simp [n] at a
  |some c=>simp [invoke,callFunc,o,a.1,n]
 ·cases a
def qzk {R:Ending->AA->Prop} {l:List Nat} (q:∀d∈l,d≠gS/\d≠2/\d≠3/\d≠4):∀d∈l,∀ρ v c w,(zJ Tryz.prog [.cell1 2,.cell1 3,.cellN 4 2] R).pn (qx ρ d v) c w->(zJ Tryz.prog [.cell1 2,.cell1 3,.cellN 4 2] R).pn ρ c w:=by
 intro d a ρ v c w h;obtain ⟨n,e,b,o⟩:=q d a;refine qvB n (fun w=>?_) h;simp [vX,RV.val,ub e,ub b,ub o]
def qyf {w:AA} (hG:G w) (src:Bs) (hs:src.length<4611686018427387904):Calls Tryz.prog 115 #[.string (qb src)] w (qbG w src):=by
 refine qHz fun ρ r0 rg=>?_;have rg':ρ 1000000000=.tuple #[]:=rg;simp [qkd,r0];refine qQ z28 fun L W1 hL hE1 hbL hs1=>?_;simp;refine qQ z25 fun C W2 hC hE2 hbC hs2=>?_;simp;refine qQ z31 fun F W3 hF hE3 hbF hs3=>?_;have hE13:=(hE1.trans' hE2).trans' hE3;have hbL3:=(hbL.ext hE2).ext hE3;have hbC3:=hbC.ext hE3;have z1:=hE1.size;have z2:=hE2.size;have z3:=hE3.size;by_cases hlen:20000<src.length
 ·have hlI:(20000:Int)<src.length:=by omega
  have S:qC src=.bad 2 0:=by rw [qC,j0 hlen]
  simp [hlI,qwi,r0];refine qD (B:=L) (i:=0) (by simp) hbL3 (by simp) rfl rfl qew fun W4 hO4 hb4=>?_;simp;refine qD (B:=C) (i:=0) (by simp) (hO4.blk hbC3 (by omega)) (by simp) rfl rfl qex fun W5 hO5 hb5=>?_;simp;refine jg (B:=F) (by simp) (hO5.blk (hO4.blk hbF (by omega)) (by omega)) (by simp [Value.cells]) (by simp [Value.cells]) (by simpa [Value.cells] using yq) fun W6 hO6 hb6=>?_;simp [Value.cells] at hb4 hb5 hb6⊢;refine qH9 (by simp [gS,rg']) ?_;refine qhU (by simp) (hO6.blk (hO5.blk hb4 (by omega)) (by omega)) (by simp) (hO6.blk hb5 (by omega)) (by simp) hb6 rfl ?_;refine ⟨_,_,by rw [S];rfl,by rw [S];exact Own.nil _ _ _ _,by rw [S];exact Own.nil _ _ _ _, ?_⟩;exact hO6.ext (hO5.ext (hO4.ext hE13 hL) (by omega)) (by omega)
 ·have hlI:¬(20000:Int)<src.length:=by omega
  have S:qC src=qF src 1:=by rw [qC,q3 hlen]
  simp [hlI,r0,qu2];refine qgc (f:=200) (caps:=#[.pointer (some ⟨L,0,none⟩),.pointer (some ⟨C,0,none⟩),.pointer (some ⟨F,0,none⟩)]) (by simp) trivial ?_;simp [gS,rg',r0,qI6,qI5];refine vC fun B W4 hB hE4 hbB hs4=>?_;simp [Value.cells] at hbB⊢;have y:=hE13.trans' hE4;have hbL4:=hbL3.ext hE4;have hbC4:=hbC3.ext hE4;have hbF4:=hbF.ext hE4;have hS4:Sc w.heap.size B W4 src 0 1 [] (.slice none 0 0):=⟨by simpa using hbB,Own.nil _ _ _ _,by simp [Value.ownBlock],by omega,y.size,uf _,by omega,by omega,by omega,by simp⟩;obtain ⟨Q,hQ⟩:∃Q,Q=zJ Tryz.prog [.cell1 2,.cell1 3,.cellN 4 2] (qbG w src):=⟨_,rfl⟩;have hQrt:Q.rt=vl Tryz.prog [.cell1 2,.cell1 3,.cellN 4 2] (qbG w src) .returning:=by rw [hQ];rfl
  have hQpn:∀ρ c w',Q.pn ρ c w'=vl Tryz.prog [.cell1 2,.cell1 3,.cellN 4 2] (qbG w src) (.panicking c) ρ w':=by rw [hQ];intros;rfl
  have key:∀n:qa,n 2=.pointer (some ⟨L,0,none⟩)->n 3=.pointer (some ⟨C,0,none⟩)->n 4=.pointer (some ⟨F,0,none⟩)->n 5=.pointer (some ⟨B,0,none⟩)->n 17=.func (.func 201) #[.pointer (some ⟨B,0,none⟩)] #[]->
    n gS=.tuple #[.func (.func 200) #[] #[.pointer (some ⟨L,0,none⟩),.pointer (some ⟨C,0,none⟩),.pointer (some ⟨F,0,none⟩)]]->
    (IR.raw qdV).wp ⟨Tryz.prog,29,Q3,yL⟩ (qf0.wp ⟨Tryz.prog,29,Q3,yL⟩ (vl Tryz.prog [.cell1 2,.cell1 3,.cellN 4 2] (qbG w src) .returning) Q) (Q.blk 0 (qf0.wp ⟨Tryz.prog,29,Q3,yL⟩ (vl Tryz.prog [.cell1 2,.cell1 3,.cellN 4 2] (qbG w src) .returning) Q)) n W4:=by
   intro n e2 e3 e4 e5 e17 eg;obtain ⟨bA,bB,hrf,hpA,hpB⟩:=qHw;rw [hrf];refine qAj (gf:=201) (fs:=#[.pointer (some ⟨B,0,none⟩)]) (lb:=#[]) (by simp [yL]) (by simpa using e17) (by decide) (by simp) fun a rec W5 hag hrt hrp hra hrb hrs hrpd ad hsz5 hL5=>?_;have hJ0:SJ w B L C F (W4.heap.size+1) W4.heap.size rec [] (.slice none 0 0) (.slice none 0 0) W5:=
    ⟨y.trans' ad,hL5,hbL4.ext ad,hbC4.ext ad,hbF4.ext ad,Own.nil _ _ _ _,by simp [Value.ownBlock],by simp [Value.ownBlock];omega,by simp [Value.ownBlock]⟩
   simp only [List.append_toArray,List.cons_append,List.nil_append,Array.append_empty];refine (qDg (base:=w.heap.size) (B:=B) (l:=W4.heap.size+1) (s:=src) (cv0:=.slice none 0 0) (fun V cv W=>(∃q,SJ w B L C F (W4.heap.size+1) W4.heap.size rec V cv q W)/\∀k,cv.ownBlock=some k->w.heap.size<=k) (fun V cv W h=>?_) (fun V cv cv' W W' h hT=>?_) (fun V cv t W k line coms hJ hS hlen'=>?_) ⟨⟨_,hJ0⟩,by simp [Value.ownBlock]⟩ (hS4.ext ad)).mono ?_
   ·obtain ⟨⟨q,h⟩,_⟩:=h;exact hG.ext h.ext
   ·obtain ⟨⟨q,h⟩,hc⟩:=h;refine ⟨⟨q,h.turn hT (by omega) hc⟩,fun k u=>?_⟩;rcases hT.own with e|e
    ·exact hc k (e▸u)
    ·have:=e k u;have:=h.ext.size;omega
   ·obtain ⟨⟨q,h⟩,hc⟩:=hJ;refine qxa h.lp hrs hag hrt hrp (by rfl) (by decide) (by rw [hra];exact hpA) (by rw [hrb];exact hpB) ?_;simp [qeY,qu5];refine qQ z38 fun Bt W6 hBt hE6 hbt _=>?_;simp;refine jg (B:=Bt) (by simp) hbt (by simp [Value.cells,qcu]) (by simp [Value.cells,qcu]) (by simpa [Value.cells] using qhk) fun W7 ac hb7=>?_;simp [Value.cells,qcu] at hb7;have off:=hS.off hBt;have hS7:=(hS.ext hE6).only ac off.1 off.2;have h7:SJ w B L C F (W4.heap.size+1) W4.heap.size rec V cv q W7:=h.turn ((Tn.ext hE6).new ac hBt) (by omega) hc;simp;refine ⟨h7.lp,fun W8 hO8 hL8=>?_⟩;have h4s:=h7.nc (W4.heap.size+1) (by simp);have z:SJ w B L C F (W4.heap.size+1) W4.heap.size _ V cv q W8:=h7.round hO8 (by have:=y.size;omega) ⟨by omega,by omega,by omega⟩ hL8;have H:=hS7.only hO8 h4s.2 h4s.1;have hltl:=h7.lp.lt;have hb8:=hO8.blk hb7 (by have:=h.lp.lt;omega);simp [qu4,e2,z.bl.cell,hb8.cell];refine jC qmX (by decide) (by decide) (by simp [Value.cells]) fun B9 W9 hB9 hE9 hb9 _=>?_;simp [Value.cells] at hb9;have Z:=z.turn (Tn.ext hE9) (by omega) hc;have hS9:=H.ext hE9;have o:Own w.heap.size 53 3 W9 (.slice (some ⟨B9,0,none⟩) 1 1) [.int .u8 (t.kind:Int),.string (qb t.text),.int .i64 t.line]:=Own.lit hb9 rfl (by have:=z.ext.size;omega) (by decide);obtain ⟨R,ri,hbb⟩:=qnw;simp;refine qgd ri Z.ext.size (by simp) (by simp) Z.own (jw o) (by simp;exact ⟨rfl,rfl,rfl⟩) (by rw [jp];simp;omega) (by
     rw [jp];have:(V.length*3+3)*R<=(V.length*3+3)*64:=Nat.mul_le_mul_left _ hbb;simp;omega) fun lv' W10 ho10 aa hf10=>?_
    have hbl10:Blk W10 L #[q] 48:=⟨(aa.block L Z.bl.lt (fun e=>Z.ne L (by simp) e.symm)).trans Z.bl.heap⟩;have E:=qe1 ho10;simp [e2];refine qD (B:=L) (i:=0) (by simp [e2]) hbl10 (by simp) (by simpa using E.1) (by simpa using E.2) qew fun W11 hO11 hb11=>?_;simp at hb11;have h11:SJ w B L C F (W4.heap.size+1) W4.heap.size _ (V++[t]) cv lv' W11:=Z.app aa (by rw [ql6];exact ho10) hf10 hO11 hb11 ⟨by omega,by omega,by omega,by omega⟩ hS9.blk.lt (fun k u=>(hS9.own.blk k u).2) hL;have hcl:cv.ownBlock=none\/cv.ownBlock≠q.ownBlock:=by
     cases u:cv.ownBlock with
     |none=>exact .inl rfl
     |some k=>exact .inr fun e=>Z.nn k e.symm u
    have hnL:=Z.nc L (by simp);have hS11:=(hS9.gb aa (Z.ne B (by simp)) hcl).only hO11 hnL.2 hnL.1;simp [qnu];refine ⟨h11.lp,fun W12 hO12 hL12=>?_⟩;exact ⟨⟨⟨lv',h11.round hO12 (by have:=y.size;omega) ⟨by omega,by omega,by omega⟩ (hL12.ready hrs hrpd)⟩,hc⟩,hS11.only hO12 h4s.2 h4s.1⟩
   ·rintro e W6 (⟨v,V,coms,cv,line,rfl,ab,⟨⟨q,h⟩,hc⟩,hS6⟩|⟨er,line,V,cv,rfl,ab,⟨⟨q,h⟩,hc⟩⟩)
    ·refine ⟨.ready,none,by simp,h.lp.ready' hrs hrpd,fun W7 ac hL7=>?_⟩;have hl4:=h.nc (W4.heap.size+1) (by simp);have h7:=h.round ac (by have:=y.size;omega) ⟨by omega,by omega,by omega⟩ hL7;have hS7:=hS6.only ac hl4.2 hl4.1;have nB:=(h7.nc L (by simp)).2;have nC:=(h7.nc C (by simp)).2;simp only [qf0,qu3,qlr];refine js qHy (fun W=>Blk W L #[q] 48/\Blk W B (wW src src.length line cv) 217) (fun W8 hE8 _=>?_) (by rw [hQ];exact qzk (by simp [OT.takes,qkb,gS]));have z:=h7.turn (Tn.ext hE8) (by omega) hc;have H:=hS7.ext hE8;refine ⟨⟨z.bl,H.blk⟩, ?_⟩;have cL:∀W,Blk W L #[q] 48->W.cell? ⟨L,0,none⟩=some q:=fun W h=>by rw [h.cell];rfl
     have cB:∀W,Blk W B (wW src src.length line cv) 217->W.cell? ⟨B,3,none⟩=some cv:=fun W h=>by rw [h.cell];rfl
     have E:=qe1 z.own;have honc:=qe1 H.own;have hLB:=(z.nc L (by simp)).2;have hCB:=(z.nc C (by simp)).2;have fin:∀(b:qa) (Wa Wb Wc:AA),b 2=.pointer (some ⟨L,0,none⟩)->b 3=.pointer (some ⟨C,0,none⟩)->b 4=.pointer (some ⟨F,0,none⟩)->
       b gS=.tuple #[.int .i64 W4.heap.size,.func (.func 200) #[] #[.pointer (some ⟨L,0,none⟩),.pointer (some ⟨C,0,none⟩),.pointer (some ⟨F,0,none⟩)]]->
       Only L W8 Wa->Blk Wa L #[q] 48->Only C Wa Wb->Blk Wb C #[cv] 51->Only F Wb Wc->Blk Wc F #[.int .i64 0,.int .i64 0] 26->vl Tryz.prog [.cell1 2,.cell1 3,.cellN 4 2] (qbG w src) .returning b Wc:=by
      intro b Wa Wb Wc f2 f3 f4 fg oa J ob R oc bc;have hcol:Wc.heap[W4.heap.size]? =some (.deferred (some [])):=by
       rw [oc.block _ (by omega),ob.block _ (by omega),oa.block _ (by omega)];exact z.lp.col
      simp only [vl,fg];refine qpj (by simp) hcol fun W9 o=>?_;refine jZ (by simp) qv4 (qIz.mono ?_);rintro e u' w' ⟨⟨v,rfl⟩,rfl,rfl⟩;refine qaJ (qhU f2 (o.blk (oc.blk (ob.blk J (by omega)) (by omega)) (by omega)) f3 (o.blk (oc.blk R (by omega)) (by omega)) f4 (o.blk bc (by omega)) rfl ?_);have I:∀k,k∈[L,C,F,W4.heap.size]->q.ownBlock≠some k/\cv.ownBlock≠some k:=by
       intro k u;simp only [ug,uN,uQ] at u;rcases u with rfl|rfl|rfl|rfl
       ·exact ⟨z.ne _ (by simp),(z.nc _ (by simp)).1⟩
       ·exact ⟨z.ne _ (by simp),(z.nc _ (by simp)).1⟩
       ·exact ⟨z.ne _ (by simp),(z.nc _ (by simp)).1⟩
       ·exact ⟨z.ne _ (by simp),(z.nc _ (by simp)).1⟩
      have same:∀k,k≠L->k≠C->k≠F->k≠W4.heap.size->w'.heap[k]? =W8.heap[k]? :=fun k k1 k2 k3 k4=>by
       rw [o.block k k4,oc.block k k3,ob.block k k2,oa.block k k1]
      have O:qC src=.ok V coms:=S.trans ab;refine ⟨q,cv,by rw [O];rfl, ?_, ?_, ?_⟩
      ·rw [O];refine Own.same z.own fun k u=>same k ?_ ?_ ?_ ?_
       ·rintro rfl;exact (I k (by simp)).1 u
       ·rintro rfl;exact (I k (by simp)).1 u
       ·rintro rfl;exact (I k (by simp)).1 u
       ·rintro rfl;exact (I _ (by simp)).1 u
      ·rw [O];refine Own.same H.own fun k u=>same k ?_ ?_ ?_ ?_
       ·rintro rfl;exact (I k (by simp)).2 u
       ·rintro rfl;exact (I k (by simp)).2 u
       ·rintro rfl;exact (I k (by simp)).2 u
       ·rintro rfl;exact (I _ (by simp)).2 u
      ·exact o.ext (oc.ext (ob.ext (oa.ext z.ext hL) (by omega)) (by omega)) (by have:=y.size;omega)
     have stL:∀(K:qa->AA->Prop) (b:qa),b 2=.pointer (some ⟨L,0,none⟩)->b 23=q->(∀Wa,Only L W8 Wa->Blk Wa L #[q] 48->(Blk Wa L #[q] 48/\Blk Wa B (wW src src.length line cv) 217)->K b Wa)->qB Tryz.prog Q.noRd none (.store 48 (.tmp 2) (.tmp 23)) 0 K b W8:=by
      intro K b f2 f23 u;refine qD (B:=L) (i:=0) (by simpa using f2) z.bl (by simp) (by simp [f23,E.1]) (by simp [f23,E.2]) qew fun Wa oa J=>?_;have ba':Blk Wa L #[q] 48:=by simpa [f23] using J
      exact u Wa oa ba' ⟨ba',oa.blk H.blk (ub hLB)⟩
     have stC:∀(K:qa->AA->Prop) (b:qa) (Wa:AA),Only L W8 Wa->Blk Wa L #[q] 48->b 3=.pointer (some ⟨C,0,none⟩)->b 27=cv->(∀Wb,Only C Wa Wb->Blk Wb C #[cv] 51->(Blk Wb L #[q] 48/\Blk Wb B (wW src src.length line cv) 217)->K b Wb)->qB Tryz.prog Q.noRd none (.store 51 (.tmp 3) (.tmp 27)) 0 K b Wa:=by
      intro K b Wa oa J f3 f27 u;refine qD (B:=C) (i:=0) (by simpa using f3) (oa.blk z.bc (by omega)) (by simp) (by simp [f27,honc.1]) (by simp [f27,honc.2]) qex fun Wb ob R=>?_;have bb':Blk Wb C #[cv] 51:=by simpa [f27] using R
      exact u Wb ob bb' ⟨ob.blk J (by omega),ob.blk (oa.blk H.blk (ub hLB)) (ub hCB)⟩
     have stF:∀(b:qa) (Wa Wb:AA),Only L W8 Wa->Blk Wa L #[q] 48->Only C Wa Wb->Blk Wb C #[cv] 51->b 2=.pointer (some ⟨L,0,none⟩)->b 3=.pointer (some ⟨C,0,none⟩)->b 4=.pointer (some ⟨F,0,none⟩)->b 28=.agg #[.int .i64 0,.int .i64 0]->
       b gS=.tuple #[.int .i64 W4.heap.size,.func (.func 200) #[] #[.pointer (some ⟨L,0,none⟩),.pointer (some ⟨C,0,none⟩),.pointer (some ⟨F,0,none⟩)]]->qB Tryz.prog Q.noRd none (.store 26 (.tmp 4) (.tmp 28)) 0 (fun ρ' w'=>Q.rt ρ' w') b Wb:=by
      intro b Wa Wb oa J ob R f2 f3 f4 f28 fg;refine jg (B:=F) (by simpa using f4) (ob.blk (oa.blk z.bf (by omega)) (by omega)) (by simp [f28,Value.cells]) (by simp [f28,Value.cells]) (by simpa [Value.cells] using yq) fun Wc oc bc=>?_;simp [f28,Value.cells] at bc;simp [hQrt];exact fin _ Wa Wb Wc f2 f3 f4 fg oa J ob R oc bc
     have Y:(yM (qaI W4.heap.size) (n gS))=.tuple #[.int .i64 W4.heap.size,.func (.func 200) #[] #[.pointer (some ⟨L,0,none⟩),.pointer (some ⟨C,0,none⟩),.pointer (some ⟨F,0,none⟩)]]:=by rw [eg];simp
     simp -implicitDefEqProofs+contextual [qkb,e2,e5,cL,cB,z.bl,H.blk];refine ⟨?_, ?_⟩
     ·rw [qgp];dsimp only [qT];refine stL _ _ (by simp [e2]) (by simp) fun Wa oa J hSa=>⟨hSa, ?_⟩;refine stC _ _ Wa oa J (by simp [e3]) (by simp) fun Wb ob R U=>⟨U, ?_⟩;exact stF _ Wa Wb oa J ob R (by simp [e2]) (by simp [e3]) (by simp [e4]) (by simp) (by simp [Y])
     ·refine stL _ _ (by simp [e2]) (by simp) fun Wa oa J hSa=>⟨hSa, ?_, ?_⟩
      ·rw [qgp];dsimp only [qT];refine ⟨hSa, ?_⟩;refine stC _ _ Wa oa J (by simp [e3]) (by simp) fun Wb ob R U=>⟨U, ?_⟩;exact stF _ Wa Wb oa J ob R (by simp [e2]) (by simp [e3]) (by simp [e4]) (by simp) (by simp [Y])
      ·refine stC _ _ Wa oa J (by simp [e3]) (by simp) fun Wb ob R U=>⟨U, ?_⟩;rw [qgp];exact ⟨U,stF _ Wa Wb oa J ob R (by simp [e2]) (by simp [e3]) (by simp [e4]) (by simp) (by simp [Y])⟩
    ·show Q.pn _ (qkZ er line) _;have Y:(yM (qaI W4.heap.size) (n gS))=.tuple #[.int .i64 W4.heap.size,.func (.func 200) #[] #[.pointer (some ⟨L,0,none⟩),.pointer (some ⟨C,0,none⟩),.pointer (some ⟨F,0,none⟩)]]:=by rw [eg];simp
     have hgs:qx n gS (yM (qaI W4.heap.size) (n gS)) gS=.tuple #[.int .i64 W4.heap.size,.func (.func 200) #[] #[.pointer (some ⟨L,0,none⟩),.pointer (some ⟨C,0,none⟩),.pointer (some ⟨F,0,none⟩)]]:=by simp [Y]
     rw [hQpn];simp only [vl,hgs];have hlt:=h.lp.lt;refine qpj (by simp) h.lp.col fun W9 o=>?_;refine jZ (by simp) qv4 ((qIA (o.blk h.bl (by omega)) (o.blk h.bc (by omega)) (o.blk h.bf (by omega)) rfl (by omega) (by omega) (by omega)).mono ?_);rintro e u' w' ⟨⟨v,rfl⟩,hu,⟨Wx,ex,Wy,oy,Wz,oz,ow⟩,cl,cc,cf⟩;show vo _ _ _ _ [] (settle u') w';rw [hu];refine qaJ (qhU (by simp [e2]) cl (by simp [e3]) cc (by simp [e4]) cf rfl ?_);have O:qC src=.bad er line:=S.trans ab;refine ⟨_,_,by rw [O];rfl,by rw [O];exact Own.nil _ _ _ _,by rw [O];exact Own.nil _ _ _ _, ?_⟩;have Z:qc w W9:=o.ext h.ext (by have:=y.size;omega);exact ow.ext (oz.ext (oy.ext (Z.trans' ex) hL) (by omega)) (by omega)
  rw [hQ] at key;exact key _ (by simp) (by simp) (by simp) (by simp) (by simp) (by simp [gS])
structure SlK (w:AA) (v:AB) (ts:List Tok):Prop where
 is:qA v=true
 len:qm v=ts.length
 bd:ts.length<1537228672809129301
 cell:∀(i:Nat) (h:i<ts.length),w.cell? (qN v (i*3))=some (.int .u8 (ts[i].kind:Int))/\w.cell? (qN v (i*3+1))=some (.string (qb ts[i].text))/\w.cell? (qN v (i*3+2))=some (.int .i64 ts[i].line)
def SlK.ext {w w':AA} {v:AB} {n:List Tok} (h:SlK w v n) (e:qc w w'):SlK w' v n:=
 ⟨h.is,h.len,h.bd,fun i o=>let ⟨a,b,c⟩:=h.cell i o;⟨e.cell a,e.cell b,e.cell c⟩⟩
def jM:∀(a:List Tok) (i:Nat) (h:i<a.length),(qH a)[i*3]? =some (.int .u8 (a[i].kind:Int))/\(qH a)[i*3+1]? =some (.string (qb a[i].text))/\(qH a)[i*3+2]? =some (.int .i64 a[i].line)
 |t::a,0,_=>by simp [qH]
 |t::a,i+1,h=>by
  have:=jM a i (by simpa using h);have e:∀j,(qH (t::a))[(i+1)*3+j]? =(qH a)[i*3+j]? :=fun j=>by
   rw [show (i+1)*3+j=(i*3+j)+3 by omega];simp [qH]
  have b:=e 0;simp only [Nat.add_zero] at b;rw [b,e 1,e 2];simpa using this
def SlK.own {base:Nat} {w:AA} {v:AB} {a:List Tok} (h:Own base 53 3 w v (qH a)) (o:a.length<1537228672809129301):SlK w v a:=by
 have b:=jw h;have n:=b.len;rw [jp] at n;refine ⟨b.is,by omega,o,fun i u=>?_⟩;obtain ⟨y,q,t⟩:=jM a i u;have c:(qH a).length=a.length*3:=jp a;have g:∀j x,j<a.length*3->(qH a)[j]? =some x->w.cell? (qN v j)=some x:=fun j x z e=>by
  rw [b.cell j (by omega),<-uj,e]
 exact ⟨g _ _ (by omega) y,g _ _ (by omega) q,g _ _ (by omega) t⟩
def SlK.nil (w:AA):SlK w (.slice none 0 0) []:=⟨rfl,rfl,by simp,fun i h=>by simp at h⟩
def qx1 (s:Bs) (l:Int):(qF s l).toks.length<=s.length/\(qF s l).coms.length<=s.length:=by
 refine qb0 (P:=fun s l=>(qF s l).toks.length<=s.length/\(qF s l).coms.length<=s.length) ?_ ?_ ?_ ?_ ?_ ?_ s l
 ·intro l;simp [QP,Res.toks,Res.coms]
 ·intro r l h;rw [wV];simp;omega
 ·intro c r l t h;rw [yw r l t];simp;omega
 ·intro a r l v b h;rw [qay l v b];cases n:qF r l with
  |bad e x=>simp [Res.add,Res.toks,Res.coms]
  |ok z cs=>
   rw [n] at h;simp [Res.add,Res.toks,Res.coms] at h⊢;omega
 ·intro c r l C y q u h;rw [qb2 l C y q u h];simp [Res.toks,Res.coms]
 ·intro k s r l b o h;rw [yZ (wq b).1 o (wY b)];have E:0<s.length:=Jf.2 (wq b).1;cases n:qF r l with
  |bad e x=>simp [Res.add,Res.toks,Res.coms]
  |ok z cs=>
   rw [n] at h;simp [Res.add,Res.toks,Res.coms] at h⊢;omega
def qhy (s:Bs):(qC s).toks.length<=20000/\(qC s).coms.length<=20000:=by
 unfold qC;split
 ·simp [Res.toks,Res.coms]
 ·have:=qx1 s 1;omega
@[simp] theorem qN2:qk Tryz.prog 115=true:=by kernel_rfl
@[simp] theorem qMB:qk Tryz.prog 87=true:=by kernel_rfl
@[simp] theorem qNC:qk Tryz.prog 175=true:=by kernel_rfl
@[simp] theorem qNB:qk Tryz.prog 176=true:=by kernel_rfl
def jW {b a e sz:Nat} {w:AA} {v:AB} {xs:List AB} (o:b<=a) (h:Own a e sz w v xs):Own b e sz w v xs:=by
 rcases h with h|⟨g,off,n,cap,cur,rfl,c,r⟩
 ·exact .inl h
 ·exact .inr ⟨g,off,n,cap,cur,rfl,by omega,r⟩
def fV (src:Bs):AB:=.agg #[.int .i64 (qC src).err,.int .i64 (qC src).at]
def qcH (w:AA) (src:Bs):Ending->AA->Prop:=fun e w'=>∃v,e=.returned (.tuple #[v,fV src])/\Own w.heap.size 53 3 w' v (qH (qC src).toks)/\qc w w'
def jR {t z C:Nat} {x:AB} {cs:Array AB} {V:TypeId} {R:Ending->AA->Prop} {ρ:qa} {w:AA} (a:ρ t=x) (e:ρ z=.pointer (some ⟨C,0,none⟩)) (n:Blk w C cs V) (c:cs.size=2) (h:R (.returned (.tuple #[x,.agg cs])) w):qz [.tmp t,.cellN z 2] R ρ w:=by
 have b:q9 w (.loadN 2) (.pointer (some ⟨C,0,none⟩))=some (.agg cs):=by rw [qdr,<-c,xc n];rfl
 simp only [qz,vX,RV.val,a,e,b,Option.map_some,Option.bind_some];exact h
def qhe {w:AA} (U:G w) (src:Bs) (S:src.length<4611686018427387904):Calls Tryz.prog 53 #[.string (qb src)] w (qcH w src):=by
 refine qDX fun ρ r0=>?_;simp [qqE,r0];refine qQ z31 fun B W O C z _=>?_;simp [r0];refine (qyf (U.ext C) src S).mono ?_;rintro _ W1 ⟨v,c,rfl,I,_,n⟩;simp;refine qQ z31 fun B2 W2 J u H _=>?_;simp;refine jg (B:=B2) (by simp) H (by simp [Value.cells]) (by simp [Value.cells]) (by simpa [Value.cells] using yq) fun W3 t o=>?_;simp [Value.cells] at o⊢;have F:=t.blk ((z.ext n).ext u) (by have:=z.lt;have:=n.size;omega);refine js qDW (fun W=>Blk W B2 #[.int .i64 (qC src).err,.int .i64 (qC src).at] 26) fun W4 a _=>⟨o.ext a, ?_⟩;have R:∀W,Blk W B2 #[.int .i64 (qC src).err,.int .i64 (qC src).at] 26->∀i,W.cell? ⟨B2,i,none⟩=#[Value.int .i64 (qC src).err,.int .i64 (qC src).at][i]? :=fun W h=>h.cell;simp+contextual -implicitDefEqProofs [qqA,R,o.ext a];refine jg (B:=B) (by simp) (F.ext a) (by simp [Value.cells]) (by simp [Value.cells]) (by simpa [Value.cells] using yq) fun W5 q y=>?_;simp [Value.cells] at y;simp [qqB];refine jR (x:=v) (by simp) (by simp) y rfl ?_;have E:=C.size;have b:qc W1 W4:=(t.ext u (by omega)).trans' a;have Z:Own w.heap.size 53 3 W5 v (qH (qC src).toks):=by
  refine Own.same (w:=W4) ?_ fun k V=>q.block k fun e=>?_
  ·have Y:Own W.heap.size 53 3 W4 v (qH (qC src).toks):=I.ext b;exact jW E Y
  ·have:=(I.blk k V).1;have:=z.lt;omega
 exact ⟨v,rfl,Z,q.ext ((C.trans' n).trans' b) O⟩
def qgg (s:Bs) (n:Nat):(qb s).extract 0 n=qb (s.take n):=by
 have:=qcx s 0 n;simpa using this
def qAr {w:AA} (s:Bs) (U:s≠[]) (Y:s.length<4611686018427387904):Calls Tryz.prog 176 #[.string (qb s)] w fun e w'=>e=.returned (.tuple #[.int .u8 ((first s).1:Int),.int .i64 ((first s).2.1:Int),.int .i64 (first s).2.2])/\qc w w':=by
 have H:0<s.length:=Jf.2 U;have O:s.getD 0 0=s[0]:=by simp [uH,H]
 have Z:s[0]? =some s[0]:=uj H;refine qGj fun ρ r0=>?_;simp [qtr,r0,Z];refine (qnC s[0] w).mono ?_;rintro _ w ⟨rfl,rfl⟩;cases R:vH s[0] with
 |true=>
  have a:first s=if vI (s.take (qX s)) then (2,qX s,0) else if 12<qX s then (0,0,12) else (1,qX s,0):=by
   unfold first
   rw [O,j0 R]
  simp [r0];refine (qAn s Y _).mono ?_;rintro _ w ⟨rfl,rfl⟩;have y:qX s<=s.length:=qam _ _;simp [r0,y,qgg];refine (qAp _).mono ?_;rintro _ w2 ⟨rfl,F⟩;cases I:vI (s.take (qX s)) with
  |true=>
   rw [I,j0 rfl] at a;simp [a];exact F
  |false=>
   rw [I,q3 (by simp)] at a;by_cases E:12<qX s
   ·have o:(12:Int)<(qX s:Int):=by omega
    rw [j0 E] at a;simp [qjH,o,a];exact F
   ·have o:¬(12:Int)<(qX s:Int):=by omega
    rw [q3 E] at a;simp [qjH,o,a,qtq];exact F
 |false=>
  simp [qtm,r0];refine (qhY s[0] w).mono ?_;rintro _ w ⟨rfl,rfl⟩;cases V:qV s[0] with
  |true=>
   have a:first s=if jX (s.take (jO s)) then (3,jO s,0) else (0,0,11):=by
    unfold first
    rw [O,q3 (by rw [R];simp),j0 V]
   simp [r0];refine (qnD s Y _).mono ?_;rintro _ w ⟨rfl,rfl⟩;have y:jO s<=s.length:=qam _ _;simp [r0,y,qgg];refine (qAq _ (by simp;omega) _).mono ?_;rintro _ w ⟨rfl,rfl⟩;cases I:jX (s.take (jO s)) with
   |true=>
    rw [I,j0 rfl] at a;simp [a,qtp];exact jd _
   |false=>
    rw [I,q3 (by simp)] at a;simp [a];exact jd _
  |false=>
   have a:first s=if 1<s.length/\jA (s.take 2)=true then (4,2,0) else if jA (s.take 1) then (4,1,0) else (0,0,10):=by
    unfold first
    rw [O,q3 (by rw [R];simp),q3 (by rw [V];simp)]
   simp [qtn];have rest:∀(u:qa) (W:AA),u 0=.string (qb s)->qc w W->¬(1<s.length/\jA (s.take 2)=true)->qjF.wp ⟨Tryz.prog,45,qfM,[]⟩ (qz [.tmp 2,.tmp 3,.tmp 4] fun e w'=>e=.returned (.tuple #[.int .u8 ((first s).1:Int),.int .i64 ((first s).2.1:Int),.int .i64 (first s).2.2])/\qc w w') (qM [.tmp 2,.tmp 3,.tmp 4] fun e w'=>e=.returned (.tuple #[.int .u8 ((first s).1:Int),.int .i64 ((first s).2.1:Int),.int .i64 (first s).2.2])/\qc w w') u W:=by
    intro u W r0 F h2;rw [q3 h2] at a;simp [qjF];refine js qGh (qc W) fun W1 b _=>⟨b, ?_⟩;have S:(1:Int)<=s.length:=by omega
    simp -implicitDefEqProofs [qtl,r0,S,qgg];refine qnB.mono ?_;rintro _ W2 ⟨v,rfl,z⟩;have c:=(F.trans' b).trans' z.2;refine ⟨b.trans' z.2, ?_⟩;simp -implicitDefEqProofs;refine (qhX (s.take 1) (z.sl (by decide))).mono ?_;rintro _ W2 ⟨rfl,rfl⟩;have n:jA (s.take 1)=ji.contains (s.take 1):=rfl;cases q:ji.contains (s.take 1) with
    |true=>
     rw [n,q,j0 rfl] at a;simp [q,qjG,a];exact c
    |false=>
     rw [n,q,q3 (by simp)] at a;simp [q,qjG,qto,a];exact c
   refine js qGi (qc w) fun W1 b _=>⟨b, ?_⟩;by_cases J:1<s.length
   ·have t:(1:Int)<s.length:=by omega
    have C:(2:Int)<=s.length:=by omega
    simp -implicitDefEqProofs [qjE,r0,J,t,C,qgg];refine qnB.mono ?_;rintro _ W2 ⟨v,rfl,z⟩;have c:=b.trans' z.2;refine ⟨c, ?_⟩;simp -implicitDefEqProofs;refine (qhX (s.take 2) (z.sl (by decide))).mono ?_;rintro _ W2 ⟨rfl,rfl⟩;have n:jA (s.take 2)=ji.contains (s.take 2):=rfl;cases q:ji.contains (s.take 2) with
    |true=>
     rw [n,q,j0 ⟨J,rfl⟩] at a;simp [q,qfK,a];exact c
    |false=>
     simp [q,qfK];exact rest _ _ (by simp [r0]) c (by rw [n,q];simp)
   ·have t:¬(1:Int)<s.length:=by omega
    simp -implicitDefEqProofs [qjE,r0,J,t];simp [qfK];refine ⟨b,rest _ _ ?_ b (fun h=>J h.1)⟩;simp [r0]
theorem qJy (k l:Int) (s:Bs):Tryz.prog.built 53 [(0,.int .u8 k),(1,.string (qb s)),(2,.int .i64 l)]=some #[.int .u8 k,.string (qb s),.int .i64 l]:=by kernel_rfl
def qKm (w:AA) (src:Bs):Ending->AA->Prop:=fun e w'=>∃v c,e=.returned (.tuple #[v,c,fV src])/\Own w.heap.size 53 3 w' v (qH (qC src).toks)/\Own w.heap.size 9 1 w' c ((qC src).coms.map qi)/\qc w w'
def jQ {t u z C:Nat} {x y:AB} {cs:Array AB} {V:TypeId} {R:Ending->AA->Prop} {ρ:qa} {w:AA} (a:ρ t=x) (e:ρ u=y) (n:ρ z=.pointer (some ⟨C,0,none⟩)) (o:Blk w C cs V) (c:cs.size=2) (h:R (.returned (.tuple #[x,y,.agg cs])) w):qz [.tmp t,.tmp u,.cellN z 2] R ρ w:=by
 have b:q9 w (.loadN 2) (.pointer (some ⟨C,0,none⟩))=some (.agg cs):=by rw [qdr,<-c,xc o];rfl
 simp only [qz,vX,RV.val,a,e,n,b,Option.map_some,Option.bind_some];exact h
structure RdI (w:AA) (src:Bs) (B:Nat) (ρ:qa) (W:AA) (k:Nat) (line:Int) (ts:List Tok) (cs:List Bs) (tv cv:AB):Prop where
 r0:ρ 0=.string (qb src)
 r4:ρ 4=.pointer (some ⟨B,0,none⟩)
 r5:ρ 5=tv
 r6:ρ 6=cv
 r7:ρ 7=.int .i64 line
 r8:ρ 8=.int .i64 (k:Int)
 kl:k<=src.length
 l0:1<=line/\line<=(k:Int)+1
 tl:ts.length<=k/\cs.length<=k
 ext:qc w W
 blk:Blk W B #[.int .i64 0,.int .i64 0] 26
 o1:Own w.heap.size 53 3 W tv (qH ts)
 o2:Own w.heap.size 9 1 W cv (cs.map qi)
 ap:∀k,tv.ownBlock=some k->cv.ownBlock≠some k
 nb:tv.ownBlock≠some B/\cv.ownBlock≠some B
 eq:qF src 1=(qF (src.drop k) line).add ts cs
def QX (ρ:qa):Nat:=(RowKit.intOf (ρ 8)).toNat
def qAo {w:AA} (src:Bs) (hs:src.length<4611686018427387904):Calls Tryz.prog 87 #[.string (qb src)] w (qKm w src):=by
 refine qDq fun ρ r0=>?_;simp [qpY,r0];refine qQ z31 fun B W hB hE hb hsz=>?_;by_cases hlen:20000<src.length
 ·have hlI:(20000:Int)<src.length:=by omega
  have b:qC src=.bad 2 0:=by rw [qC,j0 hlen]
  simp [hlI,qwi,r0];refine jg (B:=B) (by simp) hb (by simp [Value.cells]) (by simp [Value.cells]) (by simpa [Value.cells] using yq) fun W3 F v=>?_;simp [Value.cells] at v⊢;refine jQ (x:=.slice none 0 0) (y:=.slice none 0 0) (by simp) (by simp) (by simp) v rfl ?_;exact ⟨_,_,by rw [fV,b];rfl,by rw [b];exact Own.nil _ _ _ _,by rw [b];exact Own.nil _ _ _ _,F.ext hE hB⟩
 ·have hlI:¬(20000:Int)<src.length:=by omega
  have hscn:qC src=qF src 1:=by rw [qC,q3 hlen]
  simp [hlI,qpU,r0];have hBn:∀(W':AA),qc W W'->B<W'.heap.size:=fun W' h=>by have:=h.size;omega
  refine kr (fun t W'=>∃k line Z cs tv cv,RdI w src B t W' k line Z cs tv cv) (fun t _=>src.length - QX t)
   ⟨0,1,[],[],.slice none 0 0,.slice none 0 0,by simp [r0],by simp,by simp,by simp,by simp,by simp,uf _,by omega,by simp,hE,hb,Own.nil _ _ _ _,Own.nil _ _ _ _,by simp [Value.ownBlock],by simp [Value.ownBlock],by simp⟩ ?_
  rintro t W' ⟨k,line,Z,cs,tv,cv,h⟩;have hkO:QX t=k:=by simp [QX,h.r8]
  have hkl:=h.kl;have hl0:=h.l0;have htl:=h.tl;have hb20:src.length<=20000:=by omega
  by_cases O:k<src.length
  ·have hx:=qc6 O;have hu10:=yU src[k] 10 (by decide);have hu32:=yU src[k] 32 (by decide);have hu9:=yU src[k] 9 (by decide);have hu37:=yU src[k] 37 (by decide);have b:=qax src[k] (src.drop (k+1)) line;rw [<-wG O] at b;simp [qiH,h.r8,h.r0,O,qpW,hx];by_cases e10:src[k]=10
   ·have S:(src[k].toNat:Int)=10:=hu10.2 e10;rw [j0 e10] at b;simp [S,h.r7,h.r8,q7 (n:=(k:Int)+1) (by omega),q7 (n:=line+1) (by omega)];refine ⟨⟨k+1,line+1,Z,cs,tv,cv,by simp [h.r0],by simp [h.r4],by simp [h.r5],by simp [h.r6],by simp,by simp,by omega,by omega,by omega,h.ext,h.blk,h.o1,h.o2,h.ap,h.nb,by rw [h.eq,b]⟩, ?_⟩;rw [hkO];simp [QX];omega
   ·have S:¬(src[k].toNat:Int)=10:=fun x=>e10 (hu10.1 x);rw [q3 e10] at b;simp [S];have blk:∀(u:qa),(src[k]=32\/src[k]=9)->u 0=t 0->u 4=t 4->u 5=t 5->u 6=t 6->u 7=t 7->u 8=.int .i64 ((k:Int)+1)->(∃k line Z cs tv cv,RdI w src B u W' k line Z cs tv cv)/\src.length - QX u<src.length - QX t:=by
     intro u hb a0 a4 a5 a6 a7 a8;rw [j0 hb] at b;refine ⟨⟨k+1,line,Z,cs,tv,cv,a0.trans h.r0,a4.trans h.r4,a5.trans h.r5,a6.trans h.r6,a7.trans h.r7,by simp [a8],by omega,by omega,by omega,h.ext,h.blk,h.o1,h.o2,h.ap,h.nb,by rw [h.eq,b]⟩, ?_⟩;rw [hkO];simp [QX,a8];omega
    by_cases e32:src[k]=32
    ·have z:(src[k].toNat:Int)=32:=hu32.2 e32;simp [z,qdM,h.r8,q7 (n:=(k:Int)+1) (by omega)];exact blk _ (.inl e32) (by simp) (by simp) (by simp) (by simp) (by simp) (by simp)
    have z:¬(src[k].toNat:Int)=32:=fun x=>e32 (hu32.1 x);by_cases e9:src[k]=9
    ·have e9':(src[k].toNat:Int)=9:=hu9.2 e9;simp [z,e9',qdM,h.r8,q7 (n:=(k:Int)+1) (by omega)];exact blk _ (.inr e9) (by simp) (by simp) (by simp) (by simp) (by simp) (by simp)
    have e9':¬(src[k].toNat:Int)=9:=fun x=>e9 (hu9.1 x);rw [q3 (by rintro (x|x)<;>contradiction)] at b;have hdl:(src.drop k).length=src.length - k:=by simp
    by_cases V:src[k]=37
    ·have Y:(src[k].toNat:Int)=37:=hu37.2 V;rw [j0 V] at b;have hn1:1<=jo (src.drop k):=by rw [wG O,V];exact qgj _
     have hn2:jo (src.drop k)<=src.length - k:=by have:=qv2 (src.drop k);omega
     have hkI:(k:Int)<=src.length:=by omega
     simp [z,e9',Y,qdM,h.r0,h.r8,hkI,hkl,qkI];refine (qAs (src.drop k) (by omega) W').mono ?_;rintro _ W' ⟨rfl,rfl⟩;have hI1:(k:Int)<=(k:Int)+(jo (src.drop k):Int):=by omega
     have hI2:(k:Int)+(jo (src.drop k):Int)<=src.length:=by omega
     have hI3:((k:Int)+(jo (src.drop k):Int)).toNat=k+jo (src.drop k):=by omega
     simp [h.r0,h.r6,h.r8,q7 (n:=(k:Int)+(jo (src.drop k):Int)) (by omega),hI1,hI2,hI3,qcx];refine jC qeB (by decide) (by decide) (by simp [Value.cells]) fun B9 W9 hB9 a J _=>?_;simp [Value.cells] at J;have hO9:Own w.heap.size 9 1 W9 (.slice (some ⟨B9,0,none⟩) 1 1) [qi ((src.drop k).take (jo (src.drop k)))]:=Own.lit (cs:=[qi ((src.drop k).take (jo (src.drop k)))]) J rfl (by have:=h.ext.size;omega) (by decide);have ho2:=h.o2.ext a;simp;refine qgd qnx (by have:=h.ext.size;have:=a.size;omega) (by simp) (by simp) ho2 (jw hO9) (by simp [qi];rfl) (by simp;omega) (by simp;omega) fun v' W10 R o E=>?_;have U:Blk W10 B #[.int .i64 0,.int .i64 0] 26:=⟨(o.block B (by have:=h.blk.lt;have:=a.size;omega) (fun e=>h.nb.2 e.symm)).trans (h.blk.ext a).heap⟩;simp [h.r8,q7 (n:=(k:Int)+(jo (src.drop k):Int)) (by omega)];refine ⟨⟨k+jo (src.drop k),line,Z,cs++[(src.drop k).take (jo (src.drop k))],tv,v',by simp [h.r0],by simp [h.r4],by simp [h.r5],by simp,by simp [h.r7],by simp,by omega,by omega,by simp;omega, ?_,U, ?_,by simpa using R, ?_,⟨h.nb.1, ?_⟩, ?_⟩, ?_⟩
     ·exact (h.ext.trans' a).grown o (by have:=h.ext.size;have:=a.size;omega) fun k hk=>(ho2.blk k hk).1
     ·refine (h.o1.ext a).kept o ?_;cases hk:tv.ownBlock with
      |none=>exact .inl rfl
      |some q=>exact .inr fun e=>h.ap q hk e.symm
     ·intro q hq;rcases E with e|e
      ·rw [e];exact h.ap q hq
      ·rw [e];intro e2;cases e2;have:=(h.o1.blk _ hq).2;have:=a.size;omega
     ·rcases E with e|e
      ·rw [e];exact h.nb.2
      ·rw [e];intro e2;cases e2;have:=h.blk.lt;have:=a.size;omega
     ·rw [h.eq,b,Jj,Res.add_add];simp
     ·rw [hkO];simp [QX];omega
    have Y:¬(src[k].toNat:Int)=37:=fun x=>V (hu37.1 x);rw [q3 V] at b;have hkI:(k:Int)<=src.length:=by omega
    have hdne:src.drop k≠[]:=by rw [wG O];exact Ji _ _
    simp [z,e9',Y,qdM,h.r0,h.r8,hkI,hkl,qkI];have I:(first (src.drop k)).2.2=0->0<(first (src.drop k)).2.1/\(first (src.drop k)).2.1<=(src.drop k).length:=fun hh=>qcq hh hdne;have hrf:=qAr (w:=W') (src.drop k) hdne (by omega);generalize first (src.drop k)=p at b I hrf
    obtain ⟨fk,fn,fe⟩:=p;refine hrf.mono ?_;rintro _ W2 ⟨rfl,C⟩;have H:=h.ext.trans' C;by_cases hf:fe=0
    ·rw [q3 (by simpa using hf)] at b;have hpos:=I hf;simp only at hpos;have hI1:(k:Int)<=(k:Int)+(fn:Int):=by omega
     have hI2:(k:Int)+(fn:Int)<=src.length:=by omega
     have hI3:((k:Int)+(fn:Int)).toNat=k+fn:=by omega
     simp -implicitDefEqProofs [hf,qpX,h.r0,h.r5,h.r7,h.r8,q7 (n:=(k:Int)+(fn:Int)) (by omega),hI1,hI2,hI3,qcx,qJy];refine jC qmX (by decide) (by decide) (by simp [Value.cells]) fun B9 W9 hB9 a J _=>?_;simp [Value.cells] at J;have hO9:Own w.heap.size 53 3 W9 (.slice (some ⟨B9,0,none⟩) 1 1) [.int .u8 (fk:Int),.string (qb ((src.drop k).take fn)),.int .i64 line]:=Own.lit J rfl (by have:=H.size;omega) (by decide);have ho1:=(h.o1.ext C).ext a;obtain ⟨bb,ri,hbb⟩:=qnw;simp;refine qgd ri (by have:=H.size;have:=a.size;omega) (by simp) (by simp) ho1 (jw hO9) (by simp;exact ⟨rfl,rfl,rfl⟩) (by rw [jp];simp;omega) (by
      rw [jp];have:(Z.length*3+3)*bb<=(Z.length*3+3)*64:=Nat.mul_le_mul_left _ hbb;simp;omega) fun v' W10 R o E=>?_
     have U:Blk W10 B #[.int .i64 0,.int .i64 0] 26:=⟨(o.block B (by have:=h.blk.lt;have:=C.size;have:=a.size;omega) (fun e=>h.nb.1 e.symm)).trans ((h.blk.ext C).ext a).heap⟩;simp [h.r8,q7 (n:=(k:Int)+(fn:Int)) (by omega)];refine ⟨⟨k+fn,line,Z++[⟨fk,(src.drop k).take fn,line⟩],cs,v',cv,by simp [h.r0],by simp [h.r4],by simp,by simp [h.r6],by simp [h.r7],by simp,by omega,by omega,by simp;omega, ?_,U,by rw [ql6];exact R, ?_, ?_,⟨?_,h.nb.2⟩, ?_⟩, ?_⟩
     ·exact (H.trans' a).grown o (by have:=H.size;have:=a.size;omega) fun k hk=>(ho1.blk k hk).1
     ·refine ((h.o2.ext C).ext a).kept o ?_;cases hk:cv.ownBlock with
      |none=>exact .inl rfl
      |some q=>exact .inr fun e=>h.ap q e.symm hk
     ·intro q hq;rcases E with e|e
      ·exact h.ap q (e▸hq)
      ·rw [e] at hq;cases hq;intro e2;have:=(h.o2.blk _ e2).2;have:=a.size;have:=C.size;omega
     ·rcases E with e|e
      ·rw [e];exact h.nb.1
      ·rw [e];intro e2;cases e2;have:=h.blk.lt;have:=a.size;have:=C.size;omega
     ·rw [h.eq,b,Jj,Res.add_add];simp
     ·rw [hkO];simp [QX];omega
    ·rw [j0 hf] at b;have c:qC src=.bad fe line:=by
      rw [hscn,h.eq,b];rfl
     simp -implicitDefEqProofs [hf,h.r7,qgq];refine jg (B:=B) (by simp [h.r4]) (h.blk.ext C) (by simp [Value.cells]) (by simp [Value.cells]) (by simpa [Value.cells] using yq) fun W3 F v=>?_;simp [Value.cells] at v⊢;refine jQ (x:=.slice none 0 0) (y:=.slice none 0 0) (by simp) (by simp) (by simp [h.r4]) v rfl ?_;exact ⟨_,_,by rw [fV,c];rfl,by rw [c];exact Own.nil _ _ _ _,by rw [c];exact Own.nil _ _ _ _,F.ext H hB⟩
  ·have hk:k=src.length:=by omega
   subst hk;have c:qC src=.ok Z cs:=by
    rw [hscn,h.eq,J1,QP];simp [Res.add]
   simp [qiH,h.r8,h.r0,qpV,h.r5,h.r6,qgp];refine jg (B:=B) (by simp [h.r4]) h.blk (by simp [Value.cells]) (by simp [Value.cells]) (by simpa [Value.cells] using yq) fun W3 F v=>?_;simp [Value.cells] at v⊢;refine jQ (x:=tv) (y:=cv) (by simp) (by simp) (by simp [h.r4]) v rfl ?_;refine ⟨_,_,by rw [fV,c];rfl, ?_, ?_,F.ext h.ext hB⟩
   ·rw [c];exact Own.same h.o1 fun q hq=>F.block q fun e=>h.nb.1 (by rw [hq,e])
   ·rw [c];exact Own.same h.o2 fun q hq=>F.block q fun e=>h.nb.2 (by rw [hq,e])
def qAt {w:AA} (src:Bs) (S:src.length<4611686018427387904):Calls Tryz.prog 33 #[.string (qb src)] w (qcH w src):=by
 refine qEb fun ρ r0=>?_;simp [qq1,r0];refine qQ z31 fun B W O H z _=>?_;simp [r0];refine (qAo (w:=W) src S).mono ?_;rintro _ W1 ⟨v,c,rfl,I,_,n⟩;simp [fV];refine qQ z31 fun B2 W2 J u F _=>?_;simp [fV];refine jg (B:=B2) (by simp) F (by simp [Value.cells]) (by simp [Value.cells]) (by simpa [Value.cells] using yq) fun W3 t o=>?_;simp [Value.cells] at o⊢;have E:=t.blk ((z.ext n).ext u) (by have:=z.lt;have:=n.size;omega);refine js qEa (fun W=>Blk W B2 #[.int .i64 (qC src).err,.int .i64 (qC src).at] 26) fun W4 a _=>⟨o.ext a, ?_⟩;have R:∀W,Blk W B2 #[.int .i64 (qC src).err,.int .i64 (qC src).at] 26->∀i,W.cell? ⟨B2,i,none⟩=#[Value.int .i64 (qC src).err,.int .i64 (qC src).at][i]? :=fun W h=>h.cell;simp+contextual -implicitDefEqProofs [qqX,R,o.ext a];refine jg (B:=B) (by simp) (E.ext a) (by simp [Value.cells]) (by simp [Value.cells]) (by simpa [Value.cells] using yq) fun W5 q y=>?_;simp [Value.cells] at y;simp [qqY];refine jR (x:=v) (by simp) (by simp) y rfl ?_;have C:=H.size;have b:qc W1 W4:=(t.ext u (by omega)).trans' a;have Y:Own w.heap.size 53 3 W5 v (qH (qC src).toks):=by
  refine Own.same (w:=W4) ?_ fun k U=>q.block k fun e=>?_
  ·have V:Own W.heap.size 53 3 W4 v (qH (qC src).toks):=I.ext b;exact jW C V
  ·have:=(I.blk k U).1;have:=z.lt;omega
 exact ⟨v,rfl,Y,q.ext ((H.trans' n).trans' b) O⟩
end Go.L01
namespace Go.L02
open Go Go.Eng Go.RowKit
open Go.Proofs hiding encI
open Go.L01 (Bd Bs Own.same SlK Tok jM jQ jR jW jp qH qW qY qi)
set_option maxRecDepth 100000
set_option maxHeartbeats 2000000
structure NV where
 nd:Nd
 kv:AB
def qe (x:NV):List AB:=[.int .u8 (x.nd.d.kind:Int),.string (qb x.nd.d.name),.string (qb x.nd.d.vr),.string (qb x.nd.d.typ),.int .i64 x.nd.d.n,x.kv]
def jY (xs:List NV):List AB:=xs.flatMap qe
theorem wo (xs:List NV):(jY xs).length=xs.length*6:=by
 induction xs with
 |nil=>rfl
 |cons x xs a=>
  have:jY (x::xs)=qe x++jY xs:=rfl;rw [this,ky,a];simp [qe];omega
def qe8 (a b:List NV):jY (a++b)=jY a++jY b:=by simp [jY]
structure Tn (base B:Nat) (nv nv':AB) (w w':AA):Prop where
 below:Below base w w'
 block:∀k,k<w.heap.size->k≠B->nv.ownBlock≠some k->w'.heap[k]? =w.heap[k]?
 row:∀k,nv'.ownBlock=some k->nv.ownBlock=some k\/w.heap.size<=k
 gr:nv'=nv\/qm nv<qm nv'
def Tn.size {base B:Nat} {nv nv':AB} {w w':AA} (h:Tn base B nv nv' w w'):w.heap.size<=w'.heap.size:=h.below.size
def Tn.trans {base B:Nat} {a b c:AB} {w w' o:AA} (h:Tn base B a b w w') (k:Tn base B b c w' o):Tn base B a c w o:=by
 have y:=h.size;refine ⟨h.below.trans k.below,fun j q v u=>?_,fun j q=>?_,by
  rcases k.gr with e|e
  ·rw [e];exact h.gr
  ·rcases h.gr with t|t
   ·rw [t] at e;exact .inr e
   ·exact .inr (by omega)⟩
 ·refine (k.block j (by omega) v fun e=>?_).trans (h.block j q v u);rcases h.row j e with n|n
  ·exact u n
  ·omega
 ·rcases k.row j q with n|n
  ·exact h.row j n
  ·exact .inr (by omega)
theorem Tn.refl (base B:Nat) (nv:AB) (w:AA):Tn base B nv nv w w:=⟨Below.refl _ _,fun _ _ _ _=>rfl,fun _ h=> .inl h,.inl rfl⟩
def Tn.ext {base B:Nat} {nv:AB} {w w':AA} (h:qc w w') (a:base<=w.heap.size):Tn base B nv nv w w':=⟨h.mono a,fun k b _ _=>h.block k b,fun _ h=> .inl h,.inl rfl⟩
def Tn.ne {base B X:Nat} {nv nv':AB} {w w':AA} (h:Tn base B nv nv' w w') (c:X<w.heap.size) (a:nv.ownBlock≠some X):nv'.ownBlock≠some X:=fun e=>by
 rcases h.row X e with b|b
 ·exact a b
 ·omega
def Tn.blk {base B X:Nat} {nv nv':AB} {w w':AA} {cs:Array AB} {T:TypeId} (h:Tn base B nv nv' w w') (b:Blk w X cs T) (c:X≠B) (a:nv.ownBlock≠some X):Blk w' X cs T:=
 ⟨(h.block X b.lt c a).trans b.heap⟩
structure PSt (base B:Nat) (W:AA) (tv nv:AB) (L:List Tok) (i f:Nat) (xs:List NV):Prop where
 blk:Blk W B #[tv,.int .i64 (i:Int),.int .i64 (f:Int),nv] 85
 tok:Own 0 53 3 W tv (qH L)
 own:Own base 44 6 W nv (jY xs)
 kid:∀x∈xs,Own 0 3 1 W x.kv (x.nd.kids.map encI)
 bB:base<=B
 bW:base<=W.heap.size
 tl:L.length<=20000
 il:i<=L.length
 fl:f<=L.length
section
variable {base B:Nat} {w w':AA} {tv nv nv':AB} {L:List Tok} {i f:Nat} {xs:List NV}
theorem Own.row {b e sz:Nat} {w:AA} {v:AB} {ys:List AB} {k:Nat} (h:Own b e sz w v ys) (a:v.ownBlock=some k):∃cur,w.heap[k]? =some (.cells cur e (0,0)):=by
 rcases h with ⟨rfl,_⟩|⟨g,off,n,cap,cur,rfl,_,c,_⟩
 ·cases a
 ·cases a;exact ⟨cur,c⟩
theorem PSt.rowNe (h:PSt base B w tv nv L i f xs) {k:Nat} {cs:Array AB} {T:TypeId} {z:Nat×Nat} (a:w.heap[k]? =some (.cells cs T z)) (c:T≠44):nv.ownBlock≠some k:=fun e=>by
 obtain ⟨cur,b⟩:=Own.row h.own e;rw [b] at a;cases a;exact c rfl
theorem PSt.blkNe (h:PSt base B w tv nv L i f xs) {k:Nat} {cs:Array AB} {T:TypeId} {z:Nat×Nat} (a:w.heap[k]? =some (.cells cs T z)) (b:T≠85):k≠B:=fun e=>by
 subst e;rw [h.blk.heap] at a;cases a;exact b rfl
theorem PSt.keep (h:PSt base B w tv nv L i f xs) (t:Tn base B nv nv' w w') {b e sz:Nat} {v:AB} {ys:List AB} (c:Own b e sz w v ys) (o:e≠44) (n:e≠85):Own b e sz w' v ys:=by
 refine Own.same c fun k q=>?_;obtain ⟨cur,a⟩:=Own.row c q;exact t.block k (ul.1 a).1 (h.blkNe a n) (h.rowNe a o)
theorem PSt.var (h:PSt base B w tv nv L i f xs) (e:Tn base B nv nv' w w') {X:Nat} {cs:Array AB} {T:TypeId} (a:Blk w X cs T) (c:T≠44) (b:T≠85):Blk w' X cs T:=
 e.blk a (h.blkNe a.heap b) (h.rowNe a.heap c)
theorem PSt.slk (h:PSt base B w tv nv L i f xs):SlK w tv L:=SlK.own h.tok (by have:=h.tl;omega)
theorem PSt.ext (h:PSt base B w tv nv L i f xs) (a:qc w w'):PSt base B w' tv nv L i f xs:=
 ⟨h.blk.ext a,h.tok.ext a,h.own.ext a,fun x b=>(h.kid x b).ext a,h.bB,Nat.le_trans h.bW a.size,h.tl,h.il,h.fl⟩
theorem PSt.only (h:PSt base B w tv nv L i f xs) {X:Nat} (n:Only X w w') {cs:Array AB} {T:TypeId} {z:Nat×Nat} (t:X<w.heap.size->w.heap[X]? =some (.cells cs T z)) (H:T≠44) (F:T≠85) (y:T≠3) (E:T≠53):PSt base B w' tv nv L i f xs:=by
 have ne:∀k cur e,e≠T->w.heap[k]? =some (.cells cur e (0,0))->k≠X:=fun k cur e o a c=>by
  subst c;have:=t (ul.1 a).1;rw [a] at this;cases this;exact o rfl
 have keep:∀{b e sz:Nat} {v:AB} {ys:List AB},e≠T->Own b e sz w v ys->Own b e sz w' v ys:=fun o q=>Own.same q fun k a=>by
  obtain ⟨cur,C⟩:=Own.row q a;exact n.block k (ne k cur _ o C)
 refine ⟨n.blk h.blk (ne B _ 85 (ub F) h.blk.heap),keep (ub E) h.tok,keep (ub H) h.own,fun x u=>keep (ub y) (h.kid x u),h.bB,by rw [n.size];exact h.bW,h.tl,h.il,h.fl⟩
theorem PSt.move (h:PSt base B w tv nv L i f xs) {q n:Nat} (a:Only B w w') (z:Blk w' B #[tv,.int .i64 (q:Int),.int .i64 (n:Int),nv] 85) (F:q<=L.length) (u:n<=L.length):
  PSt base B w' tv nv L q n xs/\Tn base B nv nv w w':=by
 have keep:∀{b e sz:Nat} {v:AB} {ys:List AB},e≠85->Own b e sz w v ys->Own b e sz w' v ys:=fun E t=>Own.same t fun k c=>by
  obtain ⟨cur,C⟩:=Own.row t c;exact a.block k (h.blkNe C E)
 refine ⟨⟨z,keep (by decide) h.tok,keep (by decide) h.own,fun x y=>keep (by decide) (h.kid x y),h.bB,by rw [a.size];exact h.bW,h.tl,F,u⟩, ?_,fun k c o _=>a.block k o,fun k c=> .inl c,.inl rfl⟩;exact kq a h.bB
end
@[simp] theorem qNP:qk Tryz.prog 142=true:=by kernel_rfl
@[simp] theorem qNQ:qk Tryz.prog 141=true:=by kernel_rfl
@[simp] theorem qN1:qk Tryz.prog 117=true:=by kernel_rfl
@[simp] theorem qNO:qk Tryz.prog 143=true:=by kernel_rfl
@[simp] theorem qNY:qk Tryz.prog 120=true:=by kernel_rfl
@[simp] theorem qNN:qk Tryz.prog 153=true:=by kernel_rfl
@[simp] theorem qIU:qk Tryz.prog 160=true:=by kernel_rfl
theorem z53:jU Tryz.prog 53=some #[.int .u8 0,.string ⟨#[]⟩,.int .i64 0]:=by kernel_rfl
theorem QG:jh Tryz.prog 53 3=true:=by kernel_rfl
theorem vp:jh Tryz.prog 3 1=true:=by kernel_rfl
theorem qJc:Tryz.prog.built 53 []=some #[.int .u8 0,.string ⟨#[]⟩,.int .i64 0]:=by kernel_rfl
theorem kj:xB Tryz.prog 51=some (9,1):=by kernel_rfl
def vF (t:Tok):AB:=.agg #[.int .u8 (t.kind:Int),.string (qb t.text),.int .i64 t.line]
def wZ {base B:Nat} {w:AA} {tv nv:AB} {L:List Tok} {i f:Nat} {xs:List NV} (h:PSt base B w tv nv L i f xs) (n:Nat) (Z:n<=1):
  Calls Tryz.prog 142 #[.pointer (some ⟨B,0,none⟩),.int .i64 (n:Int)] w fun e w'=>e=.returned (vF (tk L (i+n)))/\qc w w':=by
 have Y:=h.tl;have S:=h.il;refine qGZ fun ρ r0 r1=>?_;simp [qui,r0,r1];refine qQ z53 fun X W J E U _=>?_;have H:=h.ext E;have R:=H.slk;have O:IntKind.i64.wrap ((i:Int)+(n:Int))=((i+n:Nat):Int):=by rw [q7 (by omega)];push_cast;rfl
 simp [H.blk.cell,r0,r1,R.is,R.len,O];intro W2 o;have v:=H.ext o;have I:=v.slk;have C:=U.ext o;by_cases t:i+n<L.length
 ·have c:=I.cell (i+n) t;have b:((i:Int)+(n:Int)<(L.length:Int)):=by omega
  simp [qj0,b];refine js qGY (fun W=>PSt base B W tv nv L i f xs) fun W3 q _=>⟨v.ext q, ?_⟩;have z:=v.ext q;have u:=z.slk;have c:=u.cell (i+n) t;have F:∀W,PSt base B W tv nv L i f xs->∀j,W.cell? ⟨B,j,none⟩=#[tv,Value.int .i64 (i:Int),.int .i64 (f:Int),nv][j]? :=fun W h=>h.blk.cell;simp+contextual -implicitDefEqProofs [qud,F,z,r0,r1,O];have V:((i:Int)+(n:Int)).toNat=i+n:=by omega
  rw [j0 ⟨u.is,by omega,by rw [u.len];omega⟩,V];simp [c.1,c.2.1,c.2.2];refine jg (B:=X) (by simp) (C.ext q) (by simp [Value.cells]) (by simp [Value.cells]) (by simpa [Value.cells] using QG) fun W4 y a=>?_;simp [Value.cells] at a;simp [quf];refine qY (by simp) a rfl ⟨?_, ?_⟩
  ·rw [qes t];rfl
  ·exact y.ext (((E.trans' o).trans' q)) J
 ·have b:¬((i:Int)+(n:Int)<(L.length:Int)):=by omega
  simp [qj0,que,b];rw [qJc];dsimp only [qT];refine jg (B:=X) (by simp) C (by simp [Value.cells]) (by simp [Value.cells]) (by simpa [Value.cells] using QG) fun W4 y a=>?_;simp [Value.cells] at a;simp;refine qY (by simp) a rfl ⟨?_, ?_⟩
  ·rw [qbQ (by omega)];rfl
  ·exact y.ext (E.trans' o) J
section
variable {base B:Nat} {w:AA} {tv nv:AB} {L:List Tok} {i f:Nat} {xs:List NV}
theorem xN {w:AA} {X:Nat} {a b c:AB} {T:TypeId} (h:Blk w X #[a,b,c] T):w.cell? ⟨X,0,none⟩=some a/\w.cell? ⟨X,1,none⟩=some b/\w.cell? ⟨X,2,none⟩=some c:=
 ⟨by rw [h.cell];rfl,by rw [h.cell];rfl,by rw [h.cell];rfl⟩
theorem qb8 (h:PSt base B w tv nv L i f xs) {v:AB} {ss:List Bs} (F:qW w v ss):
  Calls Tryz.prog 141 #[.pointer (some ⟨B,0,none⟩),v] w fun e w'=>e=.returned (.bool (qo L i ss))/\qc w w':=by
 refine qG0 fun ρ r0 r1=>?_;simp [quj,r0,r1];refine (wZ h 0 (by decide)).mono ?_;rintro _ w1 ⟨rfl,y⟩;simp;refine qQ z53 fun X W H t E _=>?_;simp;refine jg (B:=X) (by simp) E (by simp [Value.cells,vF]) (by simp [Value.cells,vF]) (by simpa [Value.cells] using QG) fun W2 q o=>?_;simp [Value.cells,vF] at o;obtain ⟨c0,c1,c2⟩:=xN o;have a:qc w W2:=q.ext (y.trans' t) (by have:=y.size;omega);have C:∀n:Nat,(((tk L i).kind:Int)=(n:Int))↔(tk L i).kind=n:=fun n=>by omega
 have b:=C 2;have c:=C 4;simp only [Int.cast_ofNat_Int] at b c;simp [c0,c1,r1];unfold qo;by_cases z:(tk L i).kind=2\/(tk L i).kind=4
 ·have u:((tk L i).kind:Int)=2\/((tk L i).kind:Int)=4:=by omega
  simp [u,r1];refine (L01.qhB (tk L i).text (F.ext a)).mono ?_;rintro _ _ ⟨rfl,rfl⟩;simp [z];refine ⟨?_,a⟩;simp only [b,c]
 ·have u:¬(((tk L i).kind:Int)=2\/((tk L i).kind:Int)=4):=by omega
  simp [u,z];exact a
def qlg (base B:Nat) (w:AA) (tv nv:AB) (L:List Tok) (i f:Nat) (xs:List NV) (b:Bool):Ending->AA->Prop:=fun e w'=>e=.returned (.bool b)/\PSt base B w' tv nv L (if b then i+1 else i) f xs/\Tn base B nv nv w w'
theorem qdx (h:PSt base B w tv nv L i f xs) (s:Bs):Calls Tryz.prog 117 #[.pointer (some ⟨B,0,none⟩),.string (qb s)] w (qlg base B w tv nv L i f xs (qo L i [s])):=by
 have H:=h.tl;have C:=h.il;refine qHt fun ρ r0 r1=>?_;simp [quY,r0,r1];refine jC kj (by decide) (by decide) (by simp [Value.cells]) fun X W J z y _=>?_;simp [Value.cells] at y⊢;have F:qW W (.slice (some ⟨X,0,none⟩) 1 1) [s]:=⟨rfl,rfl,by simp,fun j I=>by
  have:j=0:=by simpa using I
  subst this;simp [qN,y.cell,qi]⟩
 refine (qb8 (h.ext z) F).mono ?_;rintro _ w1 ⟨rfl,o⟩;have a:=z.trans' o;have c:=h.ext a;simp;cases E:qo L i [s] with
 |false=>
  simp [qlg];exact ⟨c,Tn.ext a h.bW⟩
 |true=>
  have e:=xR E;have v:IntKind.i64.wrap ((i:Int)+1)=((i+1:Nat):Int):=by rw [q7 (by omega)];push_cast;rfl
  simp [quX,r0,c.blk.cell,v];refine qD (B:=B) (i:=1) (by simp) c.blk (by simp) rfl rfl vp fun W2 n b=>?_;simp at b;have t:Blk W2 B #[tv,.int .i64 ((i+1:Nat):Int),.int .i64 (f:Int),nv] 85:=by rw [<-v];simpa [v] using b
  obtain ⟨u,q⟩:=c.move n t e h.fl;simp [qlg];exact ⟨u,(Tn.ext a h.bW).trans q⟩
end
def yr:List PanicEntry:=[{v:=.iface 153 (.agg #[]),recovered:=false}]
structure Ans (α:Type) where
 nodes:Nat->α->List Nd
 val:AA->AA->Nat->α->AB->Prop
def aU:Ans Unit:=⟨fun _ _=>[],fun _ _ _ _ v=>v=.tuple #[]⟩
def aS:Ans Bs:=⟨fun _ _=>[],fun _ _ _ s v=>v=.string (qb s)⟩
def aB:Ans Bool:=⟨fun _ _=>[],fun _ _ _ b v=>v=.bool b⟩
def aT:Ans T:=⟨fun b t=>t.flat b,fun _ _ b t v=>v=.int .i64 ((b:Int)+t.size - 1)⟩
def kH:Ans (T×Nat):=⟨fun b t=>t.1.flat b,fun _ _ b t v=>v=.tuple #[.int .i64 ((b:Int)+t.1.size - 1),.int .i64 (t.2:Int)]⟩
def x8:Ans (T×Bool):=⟨fun b t=>t.1.flat b,fun _ _ b t v=>v=.tuple #[.int .i64 ((b:Int)+t.1.size - 1),.bool t.2]⟩
def aTs:Ans (List T):=⟨fun b ts=>flats b ts,fun w w' b ts v=>Own w.heap.size 3 1 w' v ((qg b ts).map encI)⟩
def aSs:Ans (List Bs):=⟨fun _ _=>[],fun w w' _ l v=>Own w.heap.size 9 1 w' v (l.map qi)⟩
def xW (w:AA) (v:AB):Prop:=∀k,v.ownBlock=some k->w.heap.size<=k
def xW.mono {w w':AA} {v:AB} (h:xW w' v) (a:w.heap.size<=w'.heap.size):xW w v:=fun k b=>Nat.le_trans a (h k b)
def Own.fresh {e sz:Nat} {w w':AA} {v:AB} {xs:List AB} (h:Own w.heap.size e sz w' v xs):xW w v:=fun k a=>(h.blk k a).1
def PR {α:Type} (A:Ans α) (base B:Nat) (tv nv:AB) (L:List Tok) (xs:List NV) (w:AA):Rs α->Ending->AA->Prop
 | .oof,_,_=>False
 | .ok a j g,e,w'=>∃v nv' ys,e=.returned v/\PSt base B w' tv nv' L j g (xs++ys)/\ys.map (·.nd)=A.nodes xs.length a/\(∀y∈ys,xW w y.kv)/\Tn base B nv nv' w w'/\A.val w w' xs.length a v
 | .no g,e,w'=>∃j nv' ys,e=.panicked yr/\PSt base B w' tv nv' L j g (xs++ys)/\Tn base B nv nv' w w'
def Mt {α:Type} (A:Ans α) (L:List Tok) (F:FuncId) (args:AB->Array AB) (m:M α):Prop:=∀base B w tv nv i f xs,PSt base B w tv nv L i f xs->xs.length<=2*i+2->m i f≠ .oof->
 Calls Tryz.prog F (args (.pointer (some ⟨B,0,none⟩))) w (PR A base B tv nv L xs w (m i f))
def me (v:AB):Array AB:=#[v]
def QI {α β:Type} {A:Ans α} {A':Ans β} {L:List Tok} {m:M α} {k:α->M β} {r:Rs β} {base B:Nat} {w w1:AA} {tv nv nv1:AB} {i f:Nat} {xs ys:List NV} {K:qa->AA->Prop} {Q:Ks} {ρ:qa} {d:Option Nat}
  {F:FuncId} {args:Array AB} (J:m i f≠ .oof->Calls Tryz.prog F args w1 (PR A base B tv nv1 L (xs++ys) w1 (m i f))) (y:Tn base B nv nv1 w w1) (u:bnd m k i f=r) (E:r≠ .oof)
  (hpn:∀c w',PR A' base B tv nv L xs w r (.panicked c) w'->Q.pn ρ c w')
  (h:∀a j g v nv2 zs w2,m i f=.ok a j g->PSt base B w2 tv nv2 L j g (xs++(ys++zs))->zs.map (·.nd)=A.nodes (xs++ys).length a->(∀z∈zs,xW w1 z.kv)->Tn base B nv1 nv2 w1 w2->Tn base B nv nv2 w w2->A.val w1 w2 (xs++ys).length a v->k a j g=r->
   K (qp ρ d v) w2):Calls Tryz.prog F args w1 (vL Q d K ρ):=by
 have q:m i f≠ .oof:=fun e=>E (by rw [<-u,vc e]);refine (J q).mono ?_;intro e w2 t;cases b:m i f with
 |oof=>exact absurd b q
 |no g=>
  rw [b] at t;obtain ⟨j,nv2,zs,rfl,o,n⟩:=t;rw [qkX];refine hpn _ _ ?_;rw [<-u,jT b];exact ⟨j,nv2,ys++zs,rfl,by simpa using o,y.trans n⟩
 |ok a j g=>
  rw [b] at t;obtain ⟨v,nv2,zs,rfl,o,I,H,n,C⟩:=t;rw [qcC];refine h a j g v nv2 zs w2 b (by simpa using o) I H n (y.trans n) C ?_;rw [<-u,jS b]
theorem qJJ:Tryz.prog.built 153 []=some #[]:=by kernel_rfl
section
variable {base B:Nat} {w:AA} {tv nv:AB} {L:List Tok} {i f:Nat} {xs:List NV}
def qwZ (base B:Nat) (w:AA) (tv nv:AB) (L:List Tok) (i f:Nat) (xs:List NV):Ending->AA->Prop:=fun e w'=>e=.panicked yr/\PSt base B w' tv nv L i (max f i) xs/\Tn base B nv nv w w'
theorem QR (h:PSt base B w tv nv L i f xs):Calls Tryz.prog 143 #[.pointer (some ⟨B,0,none⟩)] w (qwZ base B w tv nv L i f xs):=by
 have H:=h.tl;have o:=h.il;have E:=h.fl;refine qGX fun ρ r0=>?_;simp [quc];refine js qGW (fun W=>PSt base B W tv nv L i f xs) fun W3 e _=>⟨h.ext e, ?_⟩;have c:=h.ext e;have q:∀W,PSt base B W tv nv L i f xs->∀j,W.cell? ⟨B,j,none⟩=#[tv,Value.int .i64 (i:Int),.int .i64 (f:Int),nv][j]? :=fun W h=>h.blk.cell;simp+contextual -implicitDefEqProofs [qt8,q,c,r0];refine qko (k:=.i64) (a:=(f:Int)) (b:=(i:Int)) (by simp) (by simp) ?_;have F:(if (i:Int)>(f:Int) then (i:Int) else (f:Int))=((max f i:Nat):Int):=by split<;>omega
 rw [F];refine ⟨c, ?_⟩;simp [r0];refine qD (B:=B) (i:=2) (by simp) c.blk (by simp) (by simp [Value.cells]) (by simp) vp fun W4 z n=>?_;simp at n;have C:Blk W4 B #[tv,.int .i64 (i:Int),.int .i64 ((max f i:Nat):Int),nv] 85:=by simpa using n
 obtain ⟨y,u⟩:=c.move z C o (by omega);simp [qt9];rw [qJJ];dsimp only [qT];refine qkn (t:=153) (v:=.agg #[]) (by simp) ?_;simp [qwZ,yr];exact ⟨y,(Tn.ext e h.bW).trans u⟩
theorem qx8 {s:Bs} {ss:List Bs}:needs L (s::ss) i f=if qo L i [s] then needs L ss (i+1) f else .no (max f i):=rfl
theorem qBp (h:PSt base B w tv nv L i f xs) {v:AB} {ss:List Bs} (y:Own 0 9 1 w v (ss.map qi)) (u:ss.length<4611686018427387904):Calls Tryz.prog 153 #[.pointer (some ⟨B,0,none⟩),v] w (PR aU base B tv nv L xs w (needs L ss i f)):=by
 have H:qW w v ss:=Own.sl y u;refine qGL fun ρ r0 r1=>?_;simp [qtX,r1,H.is,H.len];refine zH 8 ss.length (fun k c w'=>c 0=.pointer (some ⟨B,0,none⟩)/\c 6=v/\c 7=.int .i64 (ss.length:Int)/\PSt base B w' tv nv L (i+k) f xs/\Tn base B nv nv w w'/\Own 0 9 1 w' v (ss.map qi)/\needs L ss i f=needs L (ss.drop k) (i+k) f) (by simp)
  ⟨by simp [r0],by simp [r1],by simp [H.len],h,Tn.refl _ _ _ _,y,by simp⟩ ?_
 rintro k c w' S r8 ⟨r0,r6,r7,F,I,e,a⟩;have t:qW w' v ss:=Own.sl e u;by_cases o:k<ss.length
 ·have J:=uM o;rw [J,qx8] at a;simp [qjQ,qtV,r8,r7,o,r6,t.is,t.len,t.cell k o,qi,r0];refine (qdx F ss[k]).mono ?_;rintro _ w2 ⟨rfl,b,q⟩;cases O:qo L (i+k) [ss[k]] with
  |true=>
   rw [O] at a b;simp [qtW,r8,q7 (n:=(k:Int)+1) (by omega),r0,r6,r7];exact ⟨b,I.trans q,F.keep q e (by decide) (by decide),by rw [a];rfl⟩
  |false=>
   rw [O] at a b;simp [r0];refine (QR b).mono ?_;rintro _ R ⟨rfl,C,z⟩;simp;rw [a];exact ⟨i+k,nv,[],rfl,by simpa using C,(I.trans q).trans z⟩
 ·have E:k=ss.length:=by omega
  subst E;simp [qjQ,r8,r7];rw [a];simp only [J1,needs,ret,PR,aU];exact ⟨_,nv,[],rfl,by simpa using F,rfl,by simp,I,rfl⟩
theorem x4 (h:PSt base B w tv nv L i f xs):Calls Tryz.prog 120 #[.pointer (some ⟨B,0,none⟩)] w (PR aS base B tv nv L xs w (name L i f)):=by
 have R:=h.tl;have I:=h.il;refine qHo fun ρ r0=>?_;simp [quR,r0];refine (wZ h 0 (by decide)).mono ?_;rintro _ w1 ⟨rfl,C⟩;simp;refine qQ z53 fun X W S z J _=>?_;simp;refine jg (B:=X) (by simp) J (by simp [Value.cells,vF]) (by simp [Value.cells,vF]) (by simpa [Value.cells] using QG) fun W2 y e=>?_;simp [Value.cells,vF] at e;obtain ⟨c0,c1,c2⟩:=xN e;have c:qc w W2:=y.ext (C.trans' z) (by have:=C.size;omega);have t:=h.ext c;have V:(((tk L i).kind:Int)=1)↔(tk L i).kind=1:=by omega
 simp [c0,r0];by_cases u:(tk L i).kind=1
 ·have v:=QV u (by decide);have O:IntKind.i64.wrap ((i:Int)+1)=((i+1:Nat):Int):=by rw [q7 (by omega)];push_cast;rfl
  have n:X≠B:=by have:=h.blk.lt;have:=C.size;omega
  simp [u,quQ,r0,t.blk.cell,O];refine qD (B:=B) (i:=1) (by simp) t.blk (by simp) (by simp [Value.cells]) (by simp) vp fun W3 o q=>?_;simp at q;have E:Blk W3 B #[tv,.int .i64 ((i+1:Nat):Int),.int .i64 (f:Int),nv] 85:=by simpa using q
  obtain ⟨b,a⟩:=t.move o E v h.fl;have H:W3.cell? ⟨X,1,none⟩=some (.string (qb (tk L i).text)):=(xN (o.blk e n)).2.1;simp [H];rw [qCD u];exact ⟨_,nv,[],rfl,by simpa using b,rfl,by simp,(Tn.ext c h.bW).trans a,rfl⟩
 ·have n:name L i f=.no (max f i):=by unfold name;rw [q3 u]
  have F:¬((tk L i).kind:Int)=1:=by omega
  simp [F,r0];refine (QR t).mono ?_;rintro _ U ⟨rfl,b,a⟩;simp;rw [n];exact ⟨i,nv,[],rfl,by simpa using b,(Tn.ext c h.bW).trans a⟩
theorem qii (h:PSt base B w tv nv L i f xs):Calls Tryz.prog 156 #[.pointer (some ⟨B,0,none⟩)] w (PR aU base B tv nv L xs w (param L i f)):=by
 have V:=h.tl;have J:=h.il;refine qGF fun ρ r0=>?_;simp [qtP,r0];refine (wZ h 0 (by decide)).mono ?_;rintro _ w1 ⟨rfl,F⟩;simp;refine qQ z53 fun X W Y y R _=>?_;simp;refine jg (B:=X) (by simp) R (by simp [Value.cells,vF]) (by simp [Value.cells,vF]) (by simpa [Value.cells] using QG) fun W2 v t=>?_;simp [Value.cells,vF] at t;obtain ⟨c0,c1,c2⟩:=xN t;have c:qc w W2:=v.ext (F.trans' y) (by have:=F.size;omega);have q:=h.ext c;have I:(⟨#[116]⟩:ByteArray)=qb [116]:=rfl;simp [c0,c1,r0];unfold param;by_cases n:(tk L i).kind=1/\(tk L i).text=[116]
 ·have u:=QV n.1 (by decide);have U:IntKind.i64.wrap ((i:Int)+1)=((i+1:Nat):Int):=by rw [q7 (by omega)];push_cast;rfl
  rw [j0 n];simp [n.1,n.2,I,qtO,r0,q.blk.cell,U];refine qD (B:=B) (i:=1) (by simp) q.blk (by simp) (by simp [Value.cells]) (by simp) vp fun W3 C o=>?_;simp at o;have E:Blk W3 B #[tv,.int .i64 ((i+1:Nat):Int),.int .i64 (f:Int),nv] 85:=by simpa using o
  obtain ⟨b,a⟩:=q.move C E u h.fl;simp;exact ⟨_,nv,[],rfl,by simpa using b,rfl,by simp,(Tn.ext c h.bW).trans a,rfl⟩
 ·rw [q3 n];by_cases H:(tk L i).kind=1
  ·have S:(tk L i).text≠[116]:=fun e=>n ⟨H,e⟩;simp [H,I,vv,S,r0];refine (QR q).mono ?_;rintro _ O ⟨rfl,b,a⟩;simp;exact ⟨i,nv,[],rfl,by simpa using b,(Tn.ext c h.bW).trans a⟩
  ·have z:¬((tk L i).kind:Int)=1:=by omega
   simp [z,r0];refine (QR q).mono ?_;rintro _ O ⟨rfl,b,a⟩;simp;exact ⟨i,nv,[],rfl,by simpa using b,(Tn.ext c h.bW).trans a⟩
theorem qBF (h:PSt base B w tv nv L i f xs):Calls Tryz.prog 63 #[.pointer (some ⟨B,0,none⟩)] w (PR aU base B tv nv L xs w (fin L i f)):=by
 have t:=h.tl;have q:=h.il;refine qDI fun ρ r0=>?_;have n:=h.slk;simp [qqa,r0,h.blk.cell,n.is,n.len];intro W2 b;have o:=h.ext b;unfold fin;by_cases a:i<L.length
 ·rw [j0 a];simp [qiJ,a,r0];refine (QR o).mono ?_;rintro _ u ⟨rfl,e,c⟩;simp;exact ⟨i,nv,[],rfl,by simpa using e,(Tn.ext b h.bW).trans c⟩
 ·rw [q3 a];simp [qiJ,a];exact ⟨_,nv,[],rfl,by simpa using o,rfl,by simp,Tn.ext b h.bW,rfl⟩
theorem qyB:jh Tryz.prog 44 6=true:=by kernel_rfl
theorem qbV:jh Tryz.prog 29 1=true:=by kernel_rfl
theorem qy7:xB Tryz.prog 29=some (44,6):=by kernel_rfl
theorem qAd:xM Tryz.prog 29=some (44,6,88):=by kernel_rfl
theorem qeG {w:AA} {X:Nat} {cs:Array AB} {T:TypeId} {n:Nat} (h:Blk w X cs T) (a:cs.size=n):q9 w (.loadN n) (.pointer (some ⟨X,0,none⟩))=some (.agg cs):=by
 rw [qdr,<-a,xc h];rfl
theorem yf {P:Program} {t e sz bytes:Nat} (I:xM P t=some (e,sz,bytes)) {base:Nat} {w:AA} {ρ:qa} {Q:Ks} {d:Option Nat} {ty:TypeId} {K:qa->AA->Prop} (c:base<=w.heap.size) {s x:Operand} {sv xv:AB} (H:qd ρ s=sv) (z:qd ρ x=xv) {xs news:List AB}
  (q:Own base e sz w sv xs) (n:Cells w xv sz news) (y:∀u∈news,u.oneCell'=true)
  (o:xs.length+news.length<4611686018427387904) (a:(xs.length+news.length)*bytes<=140737488355328*sz)
  (h:∀b W,Own base e sz W b (xs++news)->w.grownBy W sv.ownBlock->(b.ownBlock=sv.ownBlock\/b.ownBlock=some w.heap.size)->K (qp ρ d b) W):qB P Q d (.call {callee:=.builtin .append,args:=#[s,x],argTypes:=#[t,t]}) ty K ρ w:=by
 obtain ⟨b,W,y,F,C,E⟩:=qeI (ty:=ty) I q n y o a c;refine jN (v:=b) (w':=W) ?_ (h b W F C E);simp [execOp,qR,resolve,invoke,builtin,H,z,y]
def qw2 (base B:Nat) (w:AA) (tv nv:AB) (L:List Tok) (i f:Nat) (xs:List NV) (x:NV):Ending->AA->Prop:=fun e w'=>e=.returned (.int .i64 (xs.length:Int))/\∃nv',PSt base B w' tv nv' L i f (xs++[x])/\Tn base B nv nv' w w'
theorem qBV (h:PSt base B w tv nv L i f xs) (x:NV) (Z:Own 0 3 1 w x.kv (x.nd.kids.map encI)) (hn:xs.length<=1000000):Calls Tryz.prog 140 #[.pointer (some ⟨B,0,none⟩),.agg (qe x).toArray] w (qw2 base B w tv nv L i f xs x):=by
 refine qG3 fun ρ r0 r1=>?_;have hkc:x.kv.cells=#[x.kv]:=qn Z.isl;have hk1:x.kv.oneCell=true:=jf Z.isl;simp [qup,r0,r1];refine vC fun X W hX hE hb hsz=>?_;simp [r1,Value.cells] at hb;have hS:=h.ext hE;simp;have hXr:nv.ownBlock≠some X:=fun e=>by
  have:=(h.own.blk X e).2;omega
 have hXB:X≠B:=by have:=h.blk.lt;omega
 refine js qG2 (fun W'=>Blk W' B #[tv,Value.int .i64 (i:Int),.int .i64 (f:Int),nv] 85/\Blk W' X (qe x).toArray 44) (fun W3 n _=>⟨⟨hS.blk.ext n,hb.ext n⟩, ?_⟩);have J:=hS.ext n;have q:=hb.ext n;have hcB:∀W,Blk W B #[tv,Value.int .i64 (i:Int),.int .i64 (f:Int),nv] 85/\Blk W X (qe x).toArray 44->∀j,W.cell? ⟨B,j,none⟩=#[tv,Value.int .i64 (i:Int),.int .i64 (f:Int),nv][j]? :=fun W h=>h.1.cell;have ad:∀W,Blk W B #[tv,Value.int .i64 (i:Int),.int .i64 (f:Int),nv] 85/\Blk W X (qe x).toArray 44->q9 W (.loadN 6) (.pointer (some ⟨X,0,none⟩))=some (.agg (qe x).toArray):=fun W h=>qeG h.2 (by simp [qe]);have hSS:Blk W3 B #[tv,Value.int .i64 (i:Int),.int .i64 (f:Int),nv] 85/\Blk W3 X (qe x).toArray 44:=⟨J.blk,q⟩;simp+contextual -implicitDefEqProofs [quk,hcB,ad,hSS,r0];refine jC qy7 (by decide) (by decide) (by simp [Value.cells,qe]) fun Y W4 hY c R hsz4=>?_;simp [Value.cells] at R;have a:=J.ext c;refine ⟨⟨a.blk,q.ext c⟩, ?_⟩;have ab:=wo xs;have hnd:(qe x).length=6:=rfl;refine yf qAd (base:=base) (sv:=nv) (xv:=.slice (some ⟨Y,0,none⟩) 1 1) (xs:=jY xs) (news:=qe x) a.bW (by simp) (by simp) a.own (Blk.cells R (by simp [qe])) ?_ (by omega) (by omega) fun nv2 W5 o t O=>?_
 ·intro u hu;simp only [qe,ug,uN,uQ] at hu;rcases hu with rfl|rfl|rfl|rfl|rfl|rfl<;>first|rfl|skip
  have:=Z.isl
  revert this
  cases x.kv<;>simp [Value.oneCell',qA]
 have hBne:B≠X:=ub hXB;have z:=a.rowNe a.blk.heap (by decide);have H:Blk W5 B #[tv,Value.int .i64 (i:Int),.int .i64 (f:Int),nv] 85:=⟨(t.block B a.blk.lt (fun e=>z e.symm)).trans a.blk.heap⟩;have ae:Blk W5 X (qe x).toArray 44:=⟨(t.block X (q.ext c).lt (fun e=>hXr e.symm)).trans (q.ext c).heap⟩;refine ⟨⟨H,ae⟩, ?_⟩;simp [r0];have ac:(nv2.cells=#[nv2]):=qn o.isl;refine qD (B:=B) (i:=3) (by simp) H (by simp) (by simp [ac]) (by simpa using jf o.isl) qbV fun W6 C V=>?_;simp at V;have F:Blk W6 B #[tv,.int .i64 (i:Int),.int .i64 (f:Int),nv2] 85:=by simpa using V
 have E:=o.isl;have S:=(L01.jw o).len;have hl2:qm nv2=xs.length+1:=by
  rw [ky,ab,hnd] at S;omega
 have e1:IntKind.i64.wrap ((qm nv2:Int) - 1)=(xs.length:Int):=by rw [hl2,q7 (by omega)];push_cast;omega
 have hT4:Tn base B nv nv2 W4 W6:=by
  refine ⟨(qkf (v:=nv) t (fun k b=>(a.own.blk k b).1) a.bW).trans (kq C h.bB),fun k b hkB hkr=>?_,fun k b=>?_,.inr (by have h1:=(L01.jw a.own).len;omega)⟩
  ·rw [C.block k hkB];exact t.block k b fun e=>hkr e.symm
  ·rcases O with e|e
   ·exact .inl (e▸b)
   ·rw [e] at b;cases b;exact .inr (kh _)
 have U:Tn base B nv nv2 w W6:=(Tn.ext ((hE.trans' n).trans' c) h.bW).trans hT4;have aa:Own base 44 6 W6 nv2 (jY (xs++[x])):=by
  rw [qe8,show jY [x]=qe x by simp [jY]];refine Own.same o fun k b=>C.block k fun e=>?_;subst e;rcases O with e|e
  ·exact z (e▸b)
  ·rw [e] at b;cases b;have:=a.blk.lt;omega
 simp [qul,r0,F.cell,E,e1,qw2];refine ⟨nv2,⟨F,h.keep U h.tok (by decide) (by decide),aa,fun y I=>?_,h.bB,Nat.le_trans h.bW U.size,h.tl,h.il,h.fl⟩,U⟩;rcases uv.1 I with I|I
 ·exact h.keep U (h.kid y I) (by decide) (by decide)
 ·have:y=x:=by simpa using I
  subst this;exact h.keep U Z (by decide) (by decide)
end
def qjz:IR:=zq [zm 25 0,zc 26 117 #[zt 25,zY #[115,105,103,110,97,108,115]] #[83,9] 4] <| .cond (zv 26) (.reg [zm 27 0,zE 28 (.buildSlice 51 1 #[(0,(zY #[40]))]) 51,zc 29 153 #[zt 27,zt 28] #[83,51] 0,zm 30 1,zm 31 0,zm 32 0,zE 33 (.makeFunc (.func 120) #[zt 32] #[]) 129,zc 34 154 #[zt 31,zt 33] #[83,129] 51,za 36 (zf 3 (zN (zv 30))),zw 51 (zt 36) (zt 34),zm 37 0,zE 38 (.buildSlice 51 1 #[(0,(zY #[41]))]) 51,zc 39 153 #[zt 37,zt 38] #[83,51] 0]) .skip
def qjA:IR:=.seq (.block 0 (zq [za 4 (zo 0 (zN (zv 1)))] <| .cond (zv 4) (.reg [zm 9 0,zE 10 (.buildSlice 51 1 #[(0,(zY #[121,105,101,108,100,115]))]) 51,zc 11 153 #[zt 9,zt 10] #[83,51] 0,zm 12 1,zm 13 0,zc 14 202 #[zt 13] #[83] 9,za 16 (zf 2 (zN (zv 12))),zw 9 (zt 16) (zt 14)]) (zq [zm 18 0,zc 19 117 #[zt 18,zY #[114,101,116,117,114,110,115]] #[83,9] 4,zm 17 19] <| .cond (zv 17) (.reg [zm 20 1,zm 21 0,zc 22 202 #[zt 21] #[83] 9,za 24 (zf 2 (zN (zv 20))),zw 9 (zt 24) (zt 22)]) .skip))) (qjz)
def qs8:List Nat:=zV 40 [2,3,5,6,7,8,15,23,35]
def qF6:C2 205 40 qs8 qjA []:=c2 [] Tryz.func205
def quS:IR:=zq [zm 5 0,zE 6 (.buildSlice 51 1 #[(0,(zY #[112,114,111,99]))]) 51,zc 7 153 #[zt 5,zt 6] #[83,51] 0,za 2 (zQ false)] <| .ret
def quT:IR:=zq [za 2 (zQ false),zm 3 0,zc 4 117 #[zt 3,zY #[105,116,101,114]] #[83,9] 4] <| .seq (.cond (zv 4) (zq [za 2 (zQ true)] <| .ret) .skip) (quS)
def qHr:List Nat:=zV 8 [1]
def qHq:C1 119 8 qHr quT [.tmp 2]:=c1 [] Tryz.func119
def qr2:IR:=.block 1 (.reg [zm 11 5,zm 12 1,zE 13 (.call {callee:=.value (zt 12),args:=#[],argTypes:=#[]}) 222,zE 14 (.buildSlice 219 1 #[(0,(zt 13))]) 219,zp 15 #[zt 11,zt 14] #[219,219] 219,zm 5 15])
def qr0:IR:=zq [zm 9 0,zc 10 117 #[zt 9,zY #[44]] #[83,9] 4] <| .seq (.cond (zv 10) .skip (.exit 0)) (qr2)
def qr1:IR:=zq [zm 4 5] <| .ret
def qr3:IR:=zq [za 4 (.const (.slice none 0 0)),zm 6 1,zE 7 (.call {callee:=.value (zt 6),args:=#[],argTypes:=#[]}) 222,zE 8 (.buildSlice 219 1 #[(0,(zt 7))]) 219,zm 5 8] <| .seq (.block 0 (.loop qr0)) (qr1)
def qE7:List Nat:=zV 16 [2,3]
def qE6:C2 268 17 qE7 qr3 [.tmp 4]:=c2 [] Tryz.func268
def qta:IR:=zq [zm 11 0,zm 12 1,zc 13 268 #[zt 11,zt 12] #[83,223] 219,zm 5 13,zm 14 0,zE 15 (.buildSlice 51 1 #[(0,(zY #[41]))]) 51,zc 16 153 #[zt 14,zt 15] #[83,51] 0,zm 4 5] <| .ret
def qtb:IR:=zq [za 4 (.const (.slice none 0 0)),zm 6 0,zE 7 (.buildSlice 51 1 #[(0,(zY #[40]))]) 51,zc 8 153 #[zt 6,zt 7] #[83,51] 0,zm 9 0,zc 10 117 #[zt 9,zY #[41]] #[83,9] 4] <| .seq (.cond (zv 10) (zq [za 4 (.const (.slice none 0 0))] <| .ret) .skip) (qta)
def qGa:List Nat:=zV 17 [2,3]
def qF9:C2 203 18 qGa qtb [.tmp 4]:=c2 [] Tryz.func203
def qs9:IR:=zq [zA 1 222,za 3 (zl (zv 0)),zc 4 120 #[zt 3] #[83] 9,zE 5 (.build 222 #[(0,(zt 4))]) 222,zA 2 222,zw 222 (zt 2) (zt 5),za 6 (zl (zv 0)),zE 7 (.buildSlice 51 1 #[(0,(zY #[58]))]) 51,zc 8 153 #[zt 6,zt 7] #[83,51] 0,za 9 (zl (zv 0)),zc 10 202 #[zt 9] #[83] 9,za 11 (zf 1 (zv 2)),zw 9 (zt 11) (zt 10),za 12 (zM 2 (zv 2)),zw 222 (zt 1) (zt 12)] <| .ret
def qF8:List Nat:=zV 13 []
def qF7:C1 204 13 qF8 qs9 [.cellN 1 2]:=c1 [] Tryz.func204
def qs6:IR:=.block 1 (.reg [zm 11 5,zm 12 1,zE 13 (.call {callee:=.value (zt 12),args:=#[],argTypes:=#[]}) 132,zE 14 (.buildSlice 60 1 #[(0,(zt 13))]) 60,zp 15 #[zt 11,zt 14] #[60,60] 60,zm 5 15])
def qs4:IR:=zq [zm 9 0,zc 10 117 #[zt 9,zY #[44]] #[83,9] 4] <| .seq (.cond (zv 10) .skip (.exit 0)) (qs6)
def qs5:IR:=zq [zm 4 5] <| .ret
def qs7:IR:=zq [za 4 (.const (.slice none 0 0)),zm 6 1,zE 7 (.call {callee:=.value (zt 6),args:=#[],argTypes:=#[]}) 132,zE 8 (.buildSlice 60 1 #[(0,(zt 7))]) 60,zm 5 8] <| .seq (.block 0 (.loop qs4)) (qs5)
def qF5:List Nat:=zV 16 [2,3]
def qF4:C2 206 17 qF5 qs7 [.tmp 4]:=c2 [] Tryz.func206
def qs3:IR:=zq [zA 1 132,za 3 (zl (zv 0)),zc 4 120 #[zt 3] #[83] 9,zE 5 (.build 132 #[(0,(zt 4))]) 132,zA 2 132,zw 132 (zt 2) (zt 5),za 6 (zl (zv 0)),zE 7 (.buildSlice 51 1 #[(0,(zY #[58]))]) 51,zc 8 153 #[zt 6,zt 7] #[83,51] 0,za 9 (zl (zv 0)),zc 10 119 #[zt 9] #[83] 4,za 12 (zf 0 (zf 1 (zv 2))),zw 4 (zt 12) (zt 10),za 13 (zl (zv 0)),za 14 (zl (zv 0)),zE 15 (.makeFunc (.func 202) #[zt 14] #[]) 129,zc 16 208 #[zt 13,zt 15] #[83,129] 51,za 18 (zf 1 (zf 1 (zv 2))),zw 51 (zt 18) (zt 16),za 19 (zl (zv 0)),za 20 (zf 1 (zv 2)),zc 21 205 #[zt 19,zt 20] #[83,225] 0,za 22 (zM 5 (zv 2)),zw 132 (zt 1) (zt 22)] <| .ret
def qF3:List Nat:=zV 23 [11,17]
def qF2:C1 207 23 qF3 qs3 [.cellN 1 5]:=c1 [] Tryz.func207
def qs1:IR:=zq [zm 11 0,zm 12 1,zc 13 154 #[zt 11,zt 12] #[83,129] 51,zm 5 13,zm 14 0,zE 15 (.buildSlice 51 1 #[(0,(zY #[41]))]) 51,zc 16 153 #[zt 14,zt 15] #[83,51] 0,zm 4 5] <| .ret
def qs2:IR:=zq [za 4 (.const (.slice none 0 0)),zm 6 0,zE 7 (.buildSlice 51 1 #[(0,(zY #[40]))]) 51,zc 8 153 #[zt 6,zt 7] #[83,51] 0,zm 9 0,zc 10 117 #[zt 9,zY #[41]] #[83,9] 4] <| .seq (.cond (zv 10) (zq [za 4 (.const (.slice none 0 0))] <| .ret) .skip) (qs1)
def qF1:List Nat:=zV 17 [2,3]
def qF0:C2 208 18 qF1 qs2 [.tmp 4]:=c2 [] Tryz.func208
def quL:IR:=zq [za 6 (zl (zv 1)),zc 7 156 #[zt 6] #[83] 0,za 8 (zl (zv 1)),zE 9 (.buildSlice 51 1 #[(0,(zY #[104,97,115]))]) 51,zc 10 153 #[zt 8,zt 9] #[83,51] 0,za 11 (zl (zv 1)),zE 12 (.makeFunc (.func 207) #[] #[zt 1]) 227,zc 13 206 #[zt 11,zt 12] #[83,227] 60,zm 2 13] <| .ret
def quM:IR:=zq [zE 1 (.box 83 (zt 0)) 0,za 2 (.const (.slice none 0 0)),za 3 (zl (zv 1)),zc 4 117 #[zt 3,zY #[119,104,101,114,101]] #[83,9] 4,za 5 (zn (zv 4))] <| .seq (.cond (zv 5) (zq [za 2 (.const (.slice none 0 0))] <| .ret) .skip) (quL)
def qHk:List Nat:=zV 14 []
def qHj:C1 123 14 qHk quM [.tmp 2]:=c1 [] Tryz.func123
def quO:IR:=zq [zm 6 0,zc 7 156 #[zt 6] #[83] 0,zm 8 0,zE 9 (.buildSlice 51 1 #[(0,(zY #[93]))]) 51,zc 10 153 #[zt 8,zt 9] #[83,51] 0,za 2 (zQ true)] <| .ret
def quP:IR:=zq [za 2 (zQ false),zm 3 0,zc 4 117 #[zt 3,zY #[91]] #[83,9] 4,za 5 (zn (zv 4))] <| .seq (.cond (zv 5) (zq [za 2 (zQ false)] <| .ret) .skip) (quO)
def qHn:List Nat:=zV 11 [1]
def qHm:C1 121 11 qHn quP [.tmp 2]:=c1 [] Tryz.func121
def quK:IR:=.reg [zm 4 0,zE 5 (.buildSlice 51 1 #[(0,(zY #[105,115]))]) 51,zc 6 153 #[zt 4,zt 5] #[83,51] 0,za 9 (zf 3 (zN (zv 0))),zw 29 (zt 9) (.const (.slice none 0 0)),zm 10 0,zc 11 209 #[zt 10] #[83] 3,zm 12 1,za 16 (zo 3 (zN (zv 0))),za 18 (zf 6 (zN (zv 12))),zw 29 (zt 18) (zt 16),zm 19 0,zE 20 (.buildSlice 51 1 #[(0,(zY #[101,110,100]))]) 51,zc 21 153 #[zt 19,zt 20] #[83,51] 0]
def qHi:List Nat:=zV 22 [2,3,7,8,13,14,15,17]
def qHh:C2 124 22 qHi quK []:=c2 [] Tryz.func124
def quV:IR:=.reg [za 5 (zQ false)]
def qfY:IR:=.seq (.block 1 (.reg [zm 39 0,zc 40 119 #[zt 39] #[83] 4,zE 41 (.build 80 #[(0,(zt 40))]) 80,zE 42 (.build 82 #[(1,(zt 41))]) 82,zA 6 82,zw 82 (zt 6) (zt 42),zm 43 0,zc 44 120 #[zt 43] #[83] 9,za 45 (zf 0 (zv 6)),zw 9 (zt 45) (zt 44),zm 46 0,zc 47 122 #[zt 46,zt 6] #[83,156] 0,zm 48 0,zc 49 124 #[zt 48,zt 6] #[83,156] 0,za 51 (zo 6 (zv 3)),za 52 (zM 7 (zv 6)),zE 53 (.buildSlice 64 1 #[(0,(zt 52))]) 64,zp 54 #[zt 51,zt 53] #[64,64] 64,za 55 (zf 6 (zv 3)),zw 64 (zt 55) (zt 54)])) (quV)
def qfV:IR:=zq [zm 34 5,zg 34 false 35 (zv 0),.eff (some (34,false)) (some 36) (.buildSlice 51 2 #[(0,(zY #[112,114,111,99])),(1,(zY #[105,116,101,114]))]) 51,zh 34 false 37 141 #[zt 35,zt 36] #[83,51] 4,za 38 (.ite (zv 34) (zQ true) (zv 37))] <| .seq (.cond (zv 38) .skip (.exit 0)) (qfY)
def qfX:IR:=.reg [za 83 (zo 4 (zf 0 (zv 3))),za 84 (zM 5 (zv 9)),zE 85 (.buildSlice 61 1 #[(0,(zt 84))]) 61,zp 86 #[zt 83,zt 85] #[61,61] 61,za 88 (zf 4 (zf 0 (zv 3))),zw 61 (zt 88) (zt 86)]
def qka:IR:=.reg [za 61 (zI .add (zv 61) (zK 1))]
def quU:IR:=.seq (.block 3 (zq [zm 63 61,za 65 (zl (zx 1 (zv 59) (zv 61))),zm 7 63,zm 8 65,zm 66 8,zE 67 (.build 135 #[(0,(zt 66))]) 135,zA 9 135,zw 135 (zt 9) (zt 67),za 72 (zI .lss (zv 7) (zL (zo 6 (zv 3))))] <| .seq (.cond (zv 72) (.reg [za 78 (zM 4 (zf 1 (zx 7 (zo 6 (zv 3)) (zv 7)))),zc 79 125 #[zt 78] #[80] 80,za 80 (zf 1 (zv 9)),zw 80 (zt 80) (zt 79)]) .skip) (qfX))) (qka)
def qj8:IR:=zq [za 62 (zI .lss (zv 61) (zv 60))] <| .seq (.cond (zv 62) .skip (.exit 2)) (quU)
def qj9:IR:=zq [za 90 (zM 7 (zv 3)),zw 66 (zt 2) (zt 90)] <| .ret
def qfW:IR:=zq [zm 56 0,zE 57 (.buildSlice 51 1 #[(0,(zY #[101,110,100]))]) 51,zc 58 153 #[zt 56,zt 57] #[83,51] 0,zm 59 4,za 60 (zL (zv 59)),za 61 (zK 0)] <| .seq (.block 2 (.loop qj8)) (qj9)
def quW:IR:=zq [zA 2 66,zm 10 0,zc 11 120 #[zt 10] #[83] 9,zm 12 0,zc 13 121 #[zt 12] #[83] 4,zE 14 (.build 63 #[(0,(zt 11)),(1,(.const (zu 3))),(2,(zt 13))]) 63,zE 15 (.build 66 #[(0,(zt 14))]) 66,zA 3 66,zw 66 (zt 3) (zt 15),zm 16 0,zE 17 (.buildSlice 51 1 #[(0,(zY #[105,115]))]) 51,zc 18 153 #[zt 16,zt 17] #[83,51] 0,zm 19 0,zm 20 0,zE 21 (.makeFunc (.func 120) #[zt 20] #[]) 129,zc 22 154 #[zt 19,zt 21] #[83,129] 51,zm 4 22,zm 23 0,zc 24 123 #[zt 23] #[83] 60,za 26 (zf 3 (zf 0 (zv 3))),zw 60 (zt 26) (zt 24),zm 27 0,zE 28 (.buildSlice 51 2 #[(0,(zY #[114,101,112])),(1,(zY #[61]))]) 51,zc 29 153 #[zt 27,zt 28] #[83,51] 0,zm 30 0,zc 31 202 #[zt 30] #[83] 9,za 32 (zf 5 (zv 3)),zw 9 (zt 32) (zt 31),za 5 (zQ true)] <| .seq (.block 0 (.loop qfV)) (qfW)
def Qf:List Nat:=zV 91 [1,25,33,50,64,68,69,70,71,73,74,75,76,77,81,82,87,89]
def qHs:C1 118 91 Qf quW [.cellN 2 7]:=c1 [] Tryz.func118
noncomputable def qfv:Code:=((Tryz.f56.body).getD .skip)
def qqr:IR:=zq [za 48 (zM 7 (zv 3)),zE 49 (.buildSlice 64 1 #[(0,(zt 48))]) 64,za 50 (zf 6 (zv 4)),zw 64 (zt 50) (zt 49),za 51 (zM 7 (zv 4)),zw 66 (zt 2) (zt 51)] <| .ret
def qqq:IR:=zq [zm 31 0,zc 32 122 #[zt 31,zt 3] #[83,156] 0,zm 33 0,zc 34 123 #[zt 33] #[83] 60,za 36 (zf 3 (zf 0 (zv 4))),zw 60 (zt 36) (zt 34),zm 37 0,zc 38 124 #[zt 37,zt 3] #[83,156] 0] <| .seq (.raw (qv qfv 12)) (qqr)
def qiQ:IR:=zq [zm 20 0,zc 21 120 #[zt 20] #[83] 9,za 22 (zf 0 (zv 3)),zw 9 (zt 22) (zt 21)] <| .seq (.raw (qv qfv 8)) (qqq)
def qiP:IR:=zq [zm 9 0,zc 10 119 #[zt 9] #[83] 4,zE 11 (.build 80 #[(0,(zt 10))]) 80,zE 12 (.build 82 #[(1,(zt 11))]) 82,zA 3 82,zw 82 (zt 3) (zt 12),zE 13 (.build 63 #[(1,(.const (zu 1)))]) 63,zE 14 (.build 66 #[(0,(zt 13))]) 66,zA 4 66,zw 66 (zt 4) (zt 14),za 17 (zo 0 (zf 1 (zv 3)))] <| .seq (.cond (zv 17) (.reg [za 19 (zf 1 (zf 0 (zv 4))),zw 5 (zt 19) (.const (zu 2))]) .skip) (qiQ)
def qqs:IR:=zq [zA 2 66,zm 5 0,zc 6 117 #[zt 5,zY #[99,108,117,115,116,101,114]] #[83,9] 4] <| .seq (.cond (zv 6) (zq [zm 7 0,zc 8 118 #[zt 7] #[83] 66,zw 66 (zt 2) (zt 8)] <| .ret) .skip) (qiP)
def qdP:List Nat:=zV 52 [1,15,16,18,35]
def qDR:C1 56 52 qdP qqs [.cellN 2 7]:=c1 [12,8] Tryz.func56
def qqo:OT:=zy 23 (zf 0 (zv 3))<|zy 24 (zl (zv 23))<|zy 25 (zv 0)<|zy 27 (zf 0 (zv 4))<|zy 28 (zf 0 (zv 27))<| .step (zc 26 121 #[zt 25] #[83] 4) true<| .step (zw 9 (zt 28) (zt 24)) false<| .step (za 29 (zf 0 (zv 4))) false<| .step (za 30 (zf 2 (zv 29))) false<| .step (zw 4 (zt 30) (zt 26)) false<| .done
theorem qDP:jx Tryz.prog 52 qdP 6 (qv qfv 8)=some qqo:=by kernel_rfl
def qqp:OT:=zy 39 (zf 0 (zv 3))<|zy 40 (zl (zv 39))<|zy 41 (zf 1 (zv 3))<|zy 42 (zM 4 (zv 41))<| .step (zc 43 125 #[zt 42] #[80] 80) true<| .step (zE 44 (.build 135 #[(0,(zt 40)),(1,(zt 43))]) 135) false<| .step (zE 45 (.buildSlice 61 1 #[(0,(zt 44))]) 61) false<| .step (za 46 (zf 0 (zv 4))) false<| .step (za 47 (zf 4 (zv 46))) false<| .step (zw 61 (zt 47) (zt 45)) false<| .done
theorem qDQ:jx Tryz.prog 52 qdP 5 (qv qfv 12)=some qqp:=by kernel_rfl
noncomputable def quH:Code:=((Tryz.f125.body).getD .skip)
def quG:IR:=zq [za 11 (zM 4 (zv 1)),zw 80 (zt 2) (zt 11)] <| .ret
def quJ:IR:=zq [zE 1 (.box 80 (zt 0)) 0,zA 2 80] <| .seq (.raw (qv quH 1)) (quG)
def quI:List Nat:=zV 12 []
def qHg:C1 125 12 quI quJ [.cellN 2 4]:=c1 [1] Tryz.func125
def quF:OT:=zy 3 (zf 1 (zv 1))<|zy 4 (zl (zv 3))<|zy 6 (zf 3 (zv 1))<|zy 7 (zl (zv 6))<| .step (zc 5 210 #[zt 4] #[51] 51) true<|zy 9 (zf 1 (zv 1))<| .step (zc 8 210 #[zt 7] #[51] 51) true<| .step (zw 51 (zt 9) (zt 5)) false<| .step (za 10 (zf 3 (zv 1))) false<| .step (zw 51 (zt 10) (zt 8)) false<| .done
theorem qHf:jx Tryz.prog 12 quI 7 (qv quH 1)=some quF:=by kernel_rfl
def qqm:IR:=zq [zm 8 0,zm 9 1,za 12 (zI .sub (zL (zv 0)) (zK 1)),zE 13 (.call {callee:=.builtin .min,args:=#[zt 9,zt 12],argTypes:=#[3,3]}) 3,za 4 (zo 2 (zx 3 (zv 8) (zv 13)))] <| .ret
def qqn:IR:=zq [za 4 (zK 0),za 7 (zI .eql (zL (zv 0)) (zK 0))] <| .seq (.cond (zv 7) (zq [za 4 (zK 1)] <| .ret) .skip) (qqm)
def qDO:List Nat:=[0,1,4,7,8,9,12,13]
def qDN:C2 57 17 qDO qqn [.tmp 4]:=c2 [] Tryz.func57
noncomputable def qfw:Code:=((Tryz.f55.body).getD .skip)
def qqx:IR:=.raw (qv qfw 2)
def qqw:IR:=.block 1 (.seq (.raw (qv qfw 1)) (qqx))
def qiR:IR:=.seq (.cond (zv 10) .skip (.exit 0)) (qqw)
def qqv:IR:=.seq (.drw [za 10 (zI .lss (zo 1 (zN (zl (zv 0)))) (zL (zl (zv 1))))]) (qiR)
def qqy:IR:=.block 0 (.loop qqv)
def qiS:List Nat:=zV 27 [4,5,6,7,8,9]
def qDU:C4 55 27 qiS qqy []:=c4 [2,1] Tryz.func55
def qqu:OT:=zy 11 (zl (zv 2))<|zy 12 (zl (zv 1))<|zy 13 (zl (zv 0))<|zy 14 (zN (zv 13))<|zy 15 (zf 1 (zv 14))<|zy 16 (zl (zv 15))<|zy 17 (zx 3 (zv 12) (zv 16))<|zy 18 (zf 2 (zv 17))<|zy 19 (zl (zv 18))<| .step (zE 20 (.buildSlice 40 1 #[(0,(zt 19))]) 40) true<| .step (zp 21 #[zt 11,zt 20] #[40,40] 40) false<| .step (zw 40 (zt 2) (zt 21)) false<| .done
theorem qDT:jx Tryz.prog 27 qiS 10 (qv qfw 1)=some qqu:=by kernel_rfl
def qqt:OT:=zy 22 (zl (zv 3))<|zy 23 (zl (zv 0))<| .step (zc 24 56 #[zt 23] #[83] 66) true<| .step (zE 25 (.buildSlice 23 1 #[(0,(zt 24))]) 23) true<| .step (zp 26 #[zt 22,zt 25] #[23,23] 23) false<| .step (zw 23 (zt 3) (zt 26)) false<| .done
theorem qDS:jx Tryz.prog 27 qiS 4 (qv qfw 2)=some qqt:=by kernel_rfl
noncomputable def qck:Code:=((Tryz.f15.body).getD .skip)
def qtN:IR:=.ret
def qtM:IR:=.ret
def qtL:IR:=.ret
def qtK:IR:=.reg [za 40 (zI .add (zv 40) (zK 1))]
def qtJ:IR:=.seq (.block 1 (zq [zm 42 40,za 44 (zM 7 (zx 7 (zv 38) (zv 40))),zA 10 66,zm 9 42,zw 66 (zt 10) (zt 44),za 45 (zM 7 (zv 10)),zc 46 58 #[zt 45] #[66] 4,za 47 (zn (zv 46))] <| .cond (zv 47) (.seq (.raw (qv qck 15)) (qtL)) .skip)) (qtK)
def qjO:IR:=zq [za 41 (zI .lss (zv 40) (zv 39))] <| .seq (.cond (zv 41) .skip (.exit 0)) (qtJ)
def qtI:IR:=zq [za 54 (zl (zv 7)),zE 55 (.build 26 #[]) 26,zm 2 54,zw 26 (zt 3) (zt 55)] <| .ret
def qtH:IR:=zq [za 38 (zl (zv 7)),za 39 (zL (zv 38)),za 40 (zK 0)] <| .seq (.block 0 (.loop qjO)) (qtI)
def qjP:IR:=zq [za 36 (zI .gtr (zL (zl (zv 7))) (zK 20))] <| .seq (.cond (zv 36) (zq [zE 37 (.build 26 #[(0,(zO 2))]) 26,za 2 (.const (.slice none 0 0)),zw 26 (zt 3) (zt 37)] <| .ret) .skip) (qtH)
def qtG:IR:=zq [za 20 (zl (zv 4)),zE 21 (.build 85 #[(0,(zt 20))]) 85,zE 22 (.box 85 (zt 21)) 83,zA 6 83,zw 83 (zt 6) (zt 22),zA 7 23,zA 8 40,za 23 (zl (zv 6)),zE 24 (.makeFunc (.func 55) #[] #[zt 6,zt 4,zt 8,zt 7]) 1,zc 25 54 #[zt 23,zt 24] #[83,1] 4,za 26 (zn (zv 25))] <| .seq (.cond (zv 26) (.seq (.raw (qv qck 8)) (qtM)) .skip) (qjP)
def qtY:IR:=zq [za 2 (.const (.slice none 0 0)),zA 3 26,zm 12 0,zc 13 53 #[zt 12] #[9] 49,zm 11 13,za 14 (ze 0 (zv 11)),za 15 (ze 1 (zv 11)),zA 4 48,zA 5 26,zw 48 (zt 4) (zt 14),zw 26 (zt 5) (zt 15),za 18 (zI .neq (zo 0 (zv 5)) (zK 0))] <| .seq (.cond (zv 18) (.seq (.raw (qv qck 3)) (qtN)) .skip) (qtG)
def qfP:List Nat:=zV 56 [1,16,17,34,35,43,53]
def qGE:C1 15 56 qfP qtY [.tmp 2,.cellN 3 2]:=c1 [15,8,3] Tryz.func15
def qtE:OT:=zy 19 (zM 2 (zv 5))<|zy 2 (.const (.slice none 0 0))<| .step (zw 26 (zt 3) (zt 19)) false<| .done
theorem qGC:jx Tryz.prog 56 qfP 2 (qv qck 3)=some qtE:=by kernel_rfl
def qtD:OT:=zy 27 (zl (zv 4))<|zy 28 (zl (zv 6))<|zy 29 (zN (zv 28))<|zy 30 (zf 2 (zv 29))<|zy 31 (zl (zv 30))<| .step (zc 32 57 #[zt 27,zt 31] #[48,3] 3) true<|zy 2 (.const (.slice none 0 0))<| .step (zE 33 (.build 26 #[(0,(zO 20)),(1,(zt 32))]) 26) true<| .step (zw 26 (zt 3) (zt 33)) false<| .done
theorem qGB:jx Tryz.prog 56 qfP 8 (qv qck 8)=some qtD:=by kernel_rfl
def qtF:OT:=zy 48 (zl (zv 8))<|zy 49 (zv 9)<|zy 50 (zx 1 (zv 48) (zv 49))<|zy 51 (zl (zv 50))<|zy 2 (.const (.slice none 0 0))<| .step (zE 52 (.build 26 #[(0,(zO 21)),(1,(zt 51))]) 26) true<| .step (zw 26 (zt 3) (zt 52)) false<| .done
theorem qGD:jx Tryz.prog 56 qfP 6 (qv qck 15)=some qtF:=by kernel_rfl
def qp6:IR:=.reg [za 1 (zl (zv 0)),zc 2 72 #[zt 1] #[83] 0,za 3 (zl (zv 0)),zc 4 63 #[zt 3] #[83] 0]
def qDD:List Nat:=zV 5 []
def qDC:C1 71 5 qDD qp6 []:=c1 [] Tryz.func71
def qsB:IR:=zq [zm 19 3,zE 20 (.build 85 #[(0,(zt 19))]) 85,zE 21 (.box 85 (zt 20)) 83,zA 5 83,zw 83 (zt 5) (zt 21),za 22 (zl (zv 5)),zE 23 (.makeFunc (.func 71) #[] #[zt 5]) 1,zc 24 54 #[zt 22,zt 23] #[83,1] 4,zm 25 24,zg 25 true 26 (zv 3),zh 25 true 27 73 #[zt 26] #[48] 9,za 2 (.ite (zv 25) (zS .eql (zv 27) (zv 0)) (zQ false))] <| .ret
def qsP:IR:=zq [za 2 (zQ false),zm 7 0,zc 8 53 #[zt 7] #[9] 49,zm 6 8,za 9 (ze 0 (zv 6)),za 10 (ze 1 (zv 6)),zA 4 26,zm 3 9,zw 26 (zt 4) (zt 10),za 18 (.ite (zI .neq (zo 0 (zv 4)) (zK 0)) (zQ true) (zI .gtr (zT (zv 0)) (zK 100)))] <| .seq (.cond (zv 18) (zq [za 2 (zQ false)] <| .ret) .skip) (qsB)
def qFA:List Nat:=zV 28 [1,11,12,13,14,15,16,17]
def qFz:C1 22 31 qFA qsP [.tmp 2]:=c1 [] Tryz.func22
def qp0:IR:=zq [za 2 (zQ false),zE 3 (.buildSlice 51 4 #[(0,(zY #[109,111,100])),(1,(zY #[97,110,100])),(2,(zY #[111,114])),(3,(zY #[110,111,116]))]) 51,zm 4 0,zc 5 160 #[zt 3,zt 4] #[51,9] 4,zm 2 5] <| .ret
def qDx:List Nat:=zV 6 [1]
def qDw:C1 75 6 qDx qp0 [.tmp 2]:=c1 [] Tryz.func75
def qsg:IR:=zq [zm 9 0,zc 10 76 #[zt 9,zY #[95]] #[9,9] 107,zm 8 10,za 11 (ze 0 (zv 8)),za 12 (ze 1 (zv 8)),za 13 (ze 2 (zv 8)),zm 3 11,zm 4 12,zm 5 13,zm 14 3,zc 15 77 #[zt 14] #[9] 4,zm 16 15,zg 16 true 19 (zn (zv 5)),zg 19 false 20 (zv 4),zh 19 false 21 77 #[zt 20] #[9] 4,za 2 (.ite (zv 16) (.ite (zv 19) (zQ true) (zv 21)) (zQ false))] <| .ret
def qsl:IR:=zq [za 2 (zQ false),zm 6 0,zc 7 75 #[zt 6] #[9] 4] <| .seq (.cond (zv 7) (zq [za 2 (zQ true)] <| .ret) .skip) (qsg)
def qFh:List Nat:=zV 22 [1,17,18]
def qFg:C1 24 24 qFh qsl [.tmp 2]:=c1 [] Tryz.func24
section
variable {base B:Nat} {w w':AA} {tv nv nv':AB} {L:List Tok} {i f:Nat} {xs:List NV}
def jF (out:AB) (xs:List NV):Prop:=∀x∈xs,∀k,x.kv.ownBlock=some k->out.ownBlock≠some k
theorem jF.app {c:AB} {a b:List NV} (n:jF c a) (e:jF c b):jF c (a++b):=fun x o=>by
 rcases uv.1 o with h|h
 ·exact n x h
 ·exact e x h
theorem jF.old {b:AB} {a:List NV} (h:∀x∈a,∀k,x.kv.ownBlock=some k->k<w.heap.size) (c:xW w b):jF b a:=fun x n k o e=>by
 have:=h x n k o;have:=c k e;omega
theorem jF.new {b:AB} {a:List NV} (h:∀x∈a,xW w x.kv) (c:∀k,b.ownBlock=some k->k<w.heap.size):jF b a:=fun x n k o e=>by
 have:=h x n k o;have:=c k e;omega
theorem PSt.old (h:PSt base B w tv nv L i f xs):∀x∈xs,∀k,x.kv.ownBlock=some k->k<w.heap.size:=fun x a k b=>((h.kid x a).blk k b).2
theorem PSt.grown (h:PSt base B w tv nv L i f xs) {a:AB} {e sz b:Nat} {cs:List AB} (F:Own b e sz w a cs) (q:w.grownBy w' a.ownBlock) (I:jF a xs) (R:e≠44) (H:e≠85) (E:e≠53):PSt base B w' tv nv L i f xs:=by
 have ne:∀k cur T,T≠e->w.heap[k]? =some (.cells cur T (0,0))->some k≠a.ownBlock:=fun k cur T J c y=>by
  obtain ⟨z,n⟩:=Own.row F y.symm;rw [c] at n;cases n;exact J rfl
 have keep:∀{C u wg:Nat} {v:AB} {ys:List AB},u≠e->Own C u wg w v ys->Own C u wg w' v ys:=fun O o=>Own.same o fun k c=>by
  obtain ⟨cur,n⟩:=Own.row o c;exact q.block k (ul.1 n).1 (ne k cur _ O n)
 refine ⟨⟨(q.block B h.blk.lt (ne B _ 85 (ub H) h.blk.heap)).trans h.blk.heap⟩,keep (ub E) h.tok,keep (ub R) h.own,fun x t=>Own.same (h.kid x t) fun k c=>q.block k ((h.kid x t).blk k c).2 fun e=>I x t k c e.symm,h.bB,Nat.le_trans h.bW q.size,h.tl,h.il,h.fl⟩
theorem Tn.grown (h:Tn base B nv nv' w w') {W:AA} {row:Option Nat} (a:w'.grownBy W row) (c:∀k,row=some k->w.heap.size<=k) (t:base<=w.heap.size):Tn base B nv nv' w W:=by
 have q:=h.size;refine ⟨⟨a.os.trans h.below.os,a.tape.trans h.below.tape,a.output.trans h.below.output,Nat.le_trans q a.size,fun k b=>?_⟩,fun k b o n=>?_,h.row,h.gr⟩
 ·exact (a.block k (by omega) fun e=>by have:=c k e.symm;omega).trans (h.below.block k b)
 ·exact (a.block k (by omega) fun e=>by have:=c k e.symm;omega).trans (h.block k b o n)
theorem Tn.extR (h:Tn base B nv nv' w w') {W:AA} (a:qc w' W) (c:base<=w.heap.size):Tn base B nv nv' w W:=
 ⟨h.below.trans (a.mono (Nat.le_trans c h.size)),fun k b n e=>(a.block k (uT b h.size)).trans (h.block k b n e),h.row,h.gr⟩
end
structure Pu (α:Type) where
 nodes:Nat->α->List Nd
 ev:Nat->α->AB
 μ:α->Nat
 len:∀b a,(nodes b a).length=μ a
section
variable {α:Type} (p:Pu α)
def Pu.ans:Ans α:=⟨p.nodes,fun _ _ b a v=>v=p.ev b a⟩
def Pu.nodesL:Nat->List α->List Nd
 |_,[]=>[]
 |b,a::ls=>p.nodes b a++Pu.nodesL (b+p.μ a) ls
def Pu.evL:Nat->List α->List AB
 |_,[]=>[]
 |b,a::ls=>(p.ev b a).cells.toList++Pu.evL (b+p.μ a) ls
def Pu.ansL (e sz:Nat):Ans (List α):=⟨p.nodesL,fun w w' b l v=>Own w.heap.size e sz w' v (p.evL b l)⟩
theorem Pu.nodesL_snoc (a:α):∀(l:List α) (b:Nat),p.nodesL b (l++[a])=p.nodesL b l++p.nodes (b+(p.nodesL b l).length) a
 |[],b=>by simp [Pu.nodesL]
 |x::l,b=>by
  simp only [List.cons_append,Pu.nodesL,Pu.nodesL_snoc a l,ky,p.len,un,uB]
theorem Pu.evL_len {sz:Nat} (h:∀b a,(p.ev b a).cells.size=sz):∀(l:List α) (b:Nat),(p.evL b l).length=l.length*sz
 |[],b=>by simp [Pu.evL]
 |x::l,b=>by simp only [Pu.evL,ky,Pu.evL_len h l,List.length_cons,Array.length_toList,h,uK];omega
theorem Pu.evL_snoc (a:α):∀(l:List α) (b:Nat),p.evL b (l++[a])=p.evL b l++(p.ev (b+(p.nodesL b l).length) a).cells.toList
 |[],b=>by simp [Pu.evL,Pu.nodesL]
 |x::l,b=>by
  simp only [List.cons_append,Pu.evL,Pu.evL_snoc a l,Pu.nodesL,ky,p.len,un,uB]
end
def Bx (B:Nat) (bx:Option Nat) (w:AA):Prop:=∀b,bx=some b->Blk w b #[.pointer (some ⟨B,0,none⟩)] 83
def Bx.keep {base B:Nat} {w w':AA} {tv nv nv':AB} {L:List Tok} {i f:Nat} {xs:List NV} {a:Option Nat} (h:Bx B a w) (e:PSt base B w tv nv L i f xs) (n:Tn base B nv nv' w w'):Bx B a w':=fun b c=>e.var n (h b c) (by decide) (by decide)
def Bx.ext {B:Nat} {w w':AA} {a:Option Nat} (h:Bx B a w) (e:qc w w'):Bx B a w':=fun b c=>(h b c).ext e
def Bx.grown {B:Nat} {w w':AA} {n:Option Nat} (h:Bx B n w) {a:AB} {e sz b:Nat} {cs:List AB} (q:Own b e sz w a cs) (v:w.grownBy w' a.ownBlock) (t:e≠83):Bx B n w':=fun b u=>by
 have c:=h b u;refine ⟨(v.block b c.lt fun y=>?_).trans c.heap⟩;obtain ⟨cur,o⟩:=Own.row q y.symm;rw [c.heap] at o;cases o;exact t rfl
structure FnM {α:Type} (A:Ans α) (bx:Option Nat) (B:Nat) (L:List Tok) (fv:AB) (m:M α):Prop where
 fn:∃F fs caps,fv=.func (.func F) fs caps/\qk Tryz.prog F=true/\∀base w tv nv i f xs,PSt base B w tv nv L i f xs->Bx B bx w->xs.length<=2*i+2->m i f≠ .oof->Calls Tryz.prog F (fs++caps) w (PR A base B tv nv L xs w (m i f))
def atOf (B:Nat) (w:AA):Nat:=match w.cell? ⟨B,1,none⟩ with|some (.int _ n)=>n.toNat|_=>0
def PSt.atOf {base B:Nat} {w:AA} {tv nv:AB} {L:List Tok} {i f:Nat} {xs:List NV} (h:PSt base B w tv nv L i f xs):atOf B w=i:=by
 unfold L02.atOf;rw [h.blk.cell];rfl
theorem qdi:xM Tryz.prog 51=some (9,1,16):=by kernel_rfl
theorem qmS:xB Tryz.prog 51=some (9,1):=by kernel_rfl
@[simp] theorem qNM:qk Tryz.prog 154=true:=by kernel_rfl
theorem qeZ {α:Type} {p:Pu α} {bx:Option Nat} {base B:Nat} {w:AA} {tv nv fv:AB} {L:List Tok} {i f:Nat} {xs:List NV} {m:M α} (hf:FnM p.ans bx B L fv m) (hu:Up m) (hz:Sz p.μ 0 m)
  (hc:∀b a,(p.ev b a).cells.size=1/\∀u∈(p.ev b a).cells.toList,u.oneCell'=true) (n:Nat) (h:PSt base B w tv nv L i f xs) (hEw:Bx B bx w) (hn:xs.length<=2*i+2) (ho:listed L n m i f≠ .oof):
  Calls Tryz.prog 154 #[.pointer (some ⟨B,0,none⟩),fv] w (PR (p.ansL 9 1) base B tv nv L xs w (listed L n m i f)):=by
 obtain ⟨F,fs,caps,rfl,hcb,S⟩:=hf.fn;generalize hr:listed L n m i f=r at ho;refine qGJ fun ρ r0 r1=>?_;simp [qtU,r0,r1];refine xh (f:=F) hcb (fs:=fs) (caps:=caps) (by simp) ?_;simp;refine QI (ys:=[]) (xs:=xs) (r:=r) (A':=p.ansL 9 1) (nv:=nv) (w:=w) (k:=fun x=>bnd (more L m n) fun xs=>ret (x::xs)) (fun hno=>by simpa using S base w tv nv i f xs h hEw hn hno) (Tn.refl _ _ _ _) hr ho (fun c w' hp=>by simpa using hp) ?_;intro a j g v nv2 zs w2 aa o C W z O hv E;simp only [ua,List.nil_append] at o C hv;change v=p.ev xs.length a at hv;change zs.map (·.nd)=p.nodes xs.length a at C;subst hv;have H:=hc xs.length a;simp;refine jC qmS (by decide) (by decide) (by simpa using H.1) fun X W3 hX ab af hsz3=>?_;simp at af;have J:=o.ext ab;have I:=(hEw.keep h z).ext ab;have hzz:=hz _ _ _ _ _ aa;have hzl:zs.length=p.μ a:=by rw [<-p.len xs.length a,<-C,uq]
 simp;refine kr (fun ac w'=>∃Z f' nv' ys t Y n',ac 0=.pointer (some ⟨B,0,none⟩)/\ac 1=.func (.func F) fs caps/\ac 5=t/\PSt base B w' tv nv' L Z f' (xs++ys)/\ys.map (·.nd)=p.nodesL xs.length Y/\(∀y∈ys,xW w y.kv)/\Tn base B nv nv' w w'/\Bx B bx w'/\
   Own w.heap.size 9 1 w' t (p.evL xs.length Y)/\jF t (xs++ys)/\(xs++ys).length<=2*Z+2/\Y.length<=Z+1/\(more L m n' Z f').andThen (fun bs j g=> .ok (Y++bs) j g)=r) (fun _ w'=>L.length - atOf B w')
  ⟨j,g,nv2,zs,.slice (some ⟨X,0,none⟩) 1 1,[a],n,by simp [r0],by simp [r1],by simp,J,by simpa [Pu.nodesL] using C,W,O.extR ab h.bW,I, ?_, ?_,by simp;omega,by simp, ?_⟩ ?_
 ·have:=Own.lit (base:=w.heap.size) (sz:=1) (n:=1) (cs:=(p.ev xs.length a).cells.toList) (by simpa using af) (by simp [H.1]) (by have:=z.size;omega) (by decide);simpa [Pu.evL] using this
 ·refine jF.old (w:=w2) o.old ?_;intro k E;cases E;exact hX
 ·rw [<-E];simp only [bnd];cases more L m n j g<;>rfl
 clear E o C W z O af J I hX ab aa hzz hzl hsz3;rintro ac w' ⟨Z,f',nv',ys,t,Y,n',r0,r1,r5,hS,C,W,hT,hEw',hO,hsep,hcnt,hll,hsp⟩;have hat:=hS.atOf;simp [qtR,r0];refine (qdx hS [44]).mono ?_;rintro _ w2 ⟨rfl,o,z⟩;have ad:=hEw'.keep hS z;have hO2:=hS.keep z hO (by decide) (by decide);cases n' with
 |zero=>exact absurd hsp.symm ho
 |succ n'=>
  have q:(qt L [44] (listed L n' m) (ret []) Z f').andThen (fun bs j g=> .ok (Y++bs) j g)=r:=hsp;unfold qt at q;cases aj:qo L Z [[44]] with
  |false=>
   rw [aj] at q o;simp only [uk,ud,ret,Rs.andThen,ua] at q o;simp [qtS,r5];rw [<-q];exact ⟨t,nv',ys,rfl,o,C,W,hT.trans z,hO2⟩
  |true=>
   rw [aj] at q o;have hlt:=xR aj;simp only [wh] at q o;have hsep2:jF t (xs++ys):=hsep;have hout:∀k,t.ownBlock=some k->k<w2.heap.size:=fun k E=>(hO2.blk k E).2;simp [qtT,r1,r5];refine xh (f:=F) hcb (fs:=fs) (caps:=caps) (by simp [r1]) ?_;simp;have hb:bnd m (fun x=>fun i f=>(more L m n' i f).andThen (fun bs j g=> .ok ((Y++[x])++bs) j g)) (Z+1) f'=r:=by
    rw [<-q];simp only [listed,bnd];cases m (Z+1) f' with
    |oof=>rfl
    |no g=>rfl
    |ok a j g=>
     have e2:(bnd (more L m n') fun xs=>ret (a::xs)) j g=(more L m n' j g).andThen fun bs j g=> .ok (a::bs) j g:=rfl;simp only [Rs.andThen];rw [e2];cases more L m n' j g<;>simp [Rs.andThen]
   refine QI (ys:=ys) (xs:=xs) (r:=r) (A':=p.ansL 9 1) (nv:=nv) (w:=w) (fun hno=>by simpa using S base w2 tv nv' (Z+1) f' (xs++ys) o ad (by omega) hno) (hT.trans z) hb ho (fun c w' hp=>by simpa using hp) ?_;intro a j g v nv3 zs w3 aa J U ae hT3 O hv E;change v=p.ev (xs++ys).length a at hv;change zs.map (·.nd)=p.nodes (xs++ys).length a at U;subst hv;have H:=hc (xs++ys).length a;have hO3:=o.keep hT3 hO2 (by decide) (by decide);have I:=ad.keep o hT3;have hzz:=hz _ _ _ _ _ aa;have hzl:zs.length=p.μ a:=by rw [<-p.len (xs++ys).length a,<-U,uq]
   have R:jF t (xs++(ys++zs)):=by rw [<-un];exact hsep2.app (jF.new ae hout)
   have hyl:ys.length=(p.nodesL xs.length Y).length:=by rw [<-C,uq]
   have hil3:=J.il;have htl3:=J.tl;have hlen:(p.evL xs.length Y).length=(qm t)*1:=(L01.jw hO3).len;simp;refine jC qmS (by decide) (by decide) (by simpa using H.1) fun X W4 hX V hb4 hsz4=>?_;simp at hb4;have hS4:=J.ext V;have ag:=hO3.ext V;have ai:w.heap.size<=W4.heap.size:=Nat.le_trans O.size V.size;have hcl:(p.ev (xs++ys).length a).cells.toList.length=1:=by rw [Array.length_toList];exact H.1
   simp;refine yf qdi (base:=w.heap.size) (sv:=t) (xv:=.slice (some ⟨X,0,none⟩) 1 1) (xs:=p.evL xs.length Y) (news:=(p.ev (xs++ys).length a).cells.toList) ai (by simp [r5]) (by simp) ag (Blk.cells (by simpa using hb4) (by simpa using H.1)) H.2 ?_ ?_ fun out' W5 hO5 ah hr5=>?_
   ·rw [p.evL_len (fun b a=>(hc b a).1),hcl];omega
   ·rw [p.evL_len (fun b a=>(hc b a).1),hcl];omega
   have hS5:=hS4.grown ag ah R (by decide) (by decide) (by decide);have hEw5:=(I.ext V).grown ag ah (by decide);have hT5:Tn base B nv nv3 w W5:=(O.extR V h.bW).grown ah (fun k E=>(hO.blk k E).1) h.bW;have hsep5:jF out' (xs++(ys++zs)):=by
    rcases hr5 with e|e
    ·intro x hx k E;rw [e];exact R x hx k E
    ·refine jF.old (w:=W4) hS4.old ?_;intro k E;rw [e] at E;cases E;exact kh _
   simp;refine ⟨⟨r0,r1,j,g,nv3,ys++zs,hS5,Y++[a], ?_, ?_,hT5,hEw5, ?_,hsep5, ?_, ?_,n',E⟩, ?_⟩
   ·rw [uy,C,U,Pu.nodesL_snoc,<-hyl,ky]
   ·intro y hy;rcases uv.1 hy with hy|hy
    ·exact W y hy
    ·exact (ae y hy).mono (hT.trans z).size
   ·rw [Pu.evL_snoc,<-hyl,<-ky];exact hO5
   ·simp only [ky] at hcnt⊢;omega
   ·simp;omega
   ·rw [hS5.atOf,hat];omega
theorem qeK:xM Tryz.prog 40=some (3,1,8):=by kernel_rfl
theorem qbb:xB Tryz.prog 40=some (3,1):=by kernel_rfl
@[simp] theorem qMJ:qk Tryz.prog 364=true:=by kernel_rfl
theorem qBr {α:Type} {p:Pu α} {bx:Option Nat} {base B:Nat} {w:AA} {tv nv fv:AB} {L:List Tok} {i f:Nat} {xs:List NV} {m:M α} (hf:FnM p.ans bx B L fv m) (hu:Up m) (hz:Sz p.μ 0 m)
  (hc:∀b a,(p.ev b a).cells.size=1/\∀u∈(p.ev b a).cells.toList,u.oneCell'=true) (n:Nat) (h:PSt base B w tv nv L i f xs) (hEw:Bx B bx w) (hn:xs.length<=2*i+2) (ho:listed L n m i f≠ .oof):
  Calls Tryz.prog 364 #[.pointer (some ⟨B,0,none⟩),fv] w (PR (p.ansL 3 1) base B tv nv L xs w (listed L n m i f)):=by
 obtain ⟨F,fs,caps,rfl,hcb,S⟩:=hf.fn;generalize hr:listed L n m i f=r at ho;refine qD4 fun ρ r0 r1=>?_;simp [qqT,r0,r1];refine xh (f:=F) hcb (fs:=fs) (caps:=caps) (by simp) ?_;simp;refine QI (ys:=[]) (xs:=xs) (r:=r) (A':=p.ansL 3 1) (nv:=nv) (w:=w) (k:=fun x=>bnd (more L m n) fun xs=>ret (x::xs)) (fun hno=>by simpa using S base w tv nv i f xs h hEw hn hno) (Tn.refl _ _ _ _) hr ho (fun c w' hp=>by simpa using hp) ?_;intro a j g v nv2 zs w2 aa o C W z O hv E;simp only [ua,List.nil_append] at o C hv;change v=p.ev xs.length a at hv;change zs.map (·.nd)=p.nodes xs.length a at C;subst hv;have H:=hc xs.length a;simp;refine jC qbb (by decide) (by decide) (by simpa using H.1) fun X W3 hX ab af hsz3=>?_;simp at af;have J:=o.ext ab;have I:=(hEw.keep h z).ext ab;have hzz:=hz _ _ _ _ _ aa;have hzl:zs.length=p.μ a:=by rw [<-p.len xs.length a,<-C,uq]
 simp;refine kr (fun ac w'=>∃Z f' nv' ys t Y n',ac 0=.pointer (some ⟨B,0,none⟩)/\ac 1=.func (.func F) fs caps/\ac 5=t/\PSt base B w' tv nv' L Z f' (xs++ys)/\ys.map (·.nd)=p.nodesL xs.length Y/\(∀y∈ys,xW w y.kv)/\Tn base B nv nv' w w'/\Bx B bx w'/\
   Own w.heap.size 3 1 w' t (p.evL xs.length Y)/\jF t (xs++ys)/\(xs++ys).length<=2*Z+2/\Y.length<=Z+1/\(more L m n' Z f').andThen (fun bs j g=> .ok (Y++bs) j g)=r) (fun _ w'=>L.length - atOf B w')
  ⟨j,g,nv2,zs,.slice (some ⟨X,0,none⟩) 1 1,[a],n,by simp [r0],by simp [r1],by simp,J,by simpa [Pu.nodesL] using C,W,O.extR ab h.bW,I, ?_, ?_,by simp;omega,by simp, ?_⟩ ?_
 ·have:=Own.lit (base:=w.heap.size) (sz:=1) (n:=1) (cs:=(p.ev xs.length a).cells.toList) (by simpa using af) (by simp [H.1]) (by have:=z.size;omega) (by decide);simpa [Pu.evL] using this
 ·refine jF.old (w:=w2) o.old ?_;intro k E;cases E;exact hX
 ·rw [<-E];simp only [bnd];cases more L m n j g<;>rfl
 clear E o C W z O af J I hX ab aa hzz hzl hsz3;rintro ac w' ⟨Z,f',nv',ys,t,Y,n',r0,r1,r5,hS,C,W,hT,hEw',hO,hsep,hcnt,hll,hsp⟩;have hat:=hS.atOf;simp [qqQ,r0];refine (qdx hS [44]).mono ?_;rintro _ w2 ⟨rfl,o,z⟩;have ad:=hEw'.keep hS z;have hO2:=hS.keep z hO (by decide) (by decide);cases n' with
 |zero=>exact absurd hsp.symm ho
 |succ n'=>
  have q:(qt L [44] (listed L n' m) (ret []) Z f').andThen (fun bs j g=> .ok (Y++bs) j g)=r:=hsp;unfold qt at q;cases aj:qo L Z [[44]] with
  |false=>
   rw [aj] at q o;simp only [uk,ud,ret,Rs.andThen,ua] at q o;simp [qqR,r5];rw [<-q];exact ⟨t,nv',ys,rfl,o,C,W,hT.trans z,hO2⟩
  |true=>
   rw [aj] at q o;have hlt:=xR aj;simp only [wh] at q o;have hsep2:jF t (xs++ys):=hsep;have hout:∀k,t.ownBlock=some k->k<w2.heap.size:=fun k E=>(hO2.blk k E).2;simp [qqS,r1,r5];refine xh (f:=F) hcb (fs:=fs) (caps:=caps) (by simp [r1]) ?_;simp;have hb:bnd m (fun x=>fun i f=>(more L m n' i f).andThen (fun bs j g=> .ok ((Y++[x])++bs) j g)) (Z+1) f'=r:=by
    rw [<-q];simp only [listed,bnd];cases m (Z+1) f' with
    |oof=>rfl
    |no g=>rfl
    |ok a j g=>
     have e2:(bnd (more L m n') fun xs=>ret (a::xs)) j g=(more L m n' j g).andThen fun bs j g=> .ok (a::bs) j g:=rfl;simp only [Rs.andThen];rw [e2];cases more L m n' j g<;>simp [Rs.andThen]
   refine QI (ys:=ys) (xs:=xs) (r:=r) (A':=p.ansL 3 1) (nv:=nv) (w:=w) (fun hno=>by simpa using S base w2 tv nv' (Z+1) f' (xs++ys) o ad (by omega) hno) (hT.trans z) hb ho (fun c w' hp=>by simpa using hp) ?_;intro a j g v nv3 zs w3 aa J U ae hT3 O hv E;change v=p.ev (xs++ys).length a at hv;change zs.map (·.nd)=p.nodes (xs++ys).length a at U;subst hv;have H:=hc (xs++ys).length a;have hO3:=o.keep hT3 hO2 (by decide) (by decide);have I:=ad.keep o hT3;have hzz:=hz _ _ _ _ _ aa;have hzl:zs.length=p.μ a:=by rw [<-p.len (xs++ys).length a,<-U,uq]
   have R:jF t (xs++(ys++zs)):=by rw [<-un];exact hsep2.app (jF.new ae hout)
   have hyl:ys.length=(p.nodesL xs.length Y).length:=by rw [<-C,uq]
   have hil3:=J.il;have htl3:=J.tl;have hlen:(p.evL xs.length Y).length=(qm t)*1:=(L01.jw hO3).len;simp;refine jC qbb (by decide) (by decide) (by simpa using H.1) fun X W4 hX V hb4 hsz4=>?_;simp at hb4;have hS4:=J.ext V;have ag:=hO3.ext V;have ai:w.heap.size<=W4.heap.size:=Nat.le_trans O.size V.size;have hcl:(p.ev (xs++ys).length a).cells.toList.length=1:=by rw [Array.length_toList];exact H.1
   simp;refine yf qeK (base:=w.heap.size) (sv:=t) (xv:=.slice (some ⟨X,0,none⟩) 1 1) (xs:=p.evL xs.length Y) (news:=(p.ev (xs++ys).length a).cells.toList) ai (by simp [r5]) (by simp) ag (Blk.cells (by simpa using hb4) (by simpa using H.1)) H.2 ?_ ?_ fun out' W5 hO5 ah hr5=>?_
   ·rw [p.evL_len (fun b a=>(hc b a).1),hcl];omega
   ·rw [p.evL_len (fun b a=>(hc b a).1),hcl];omega
   have hS5:=hS4.grown ag ah R (by decide) (by decide) (by decide);have hEw5:=(I.ext V).grown ag ah (by decide);have hT5:Tn base B nv nv3 w W5:=(O.extR V h.bW).grown ah (fun k E=>(hO.blk k E).1) h.bW;have hsep5:jF out' (xs++(ys++zs)):=by
    rcases hr5 with e|e
    ·intro x hx k E;rw [e];exact R x hx k E
    ·refine jF.old (w:=W4) hS4.old ?_;intro k E;rw [e] at E;cases E;exact kh _
   simp;refine ⟨⟨r0,r1,j,g,nv3,ys++zs,hS5,Y++[a], ?_, ?_,hT5,hEw5, ?_,hsep5, ?_, ?_,n',E⟩, ?_⟩
   ·rw [uy,C,U,Pu.nodesL_snoc,<-hyl,ky]
   ·intro y hy;rcases uv.1 hy with hy|hy
    ·exact W y hy
    ·exact (ae y hy).mono (hT.trans z).size
   ·rw [Pu.evL_snoc,<-hyl,<-ky];exact hO5
   ·simp only [ky] at hcnt⊢;omega
   ·simp;omega
   ·rw [hS5.atOf,hat];omega
theorem qAf:xM Tryz.prog 219=some (222,2,32):=by kernel_rfl
theorem qmT:xB Tryz.prog 219=some (222,2):=by kernel_rfl
@[simp] theorem qNb:qk Tryz.prog 268=true:=by kernel_rfl
theorem qBs {α:Type} {p:Pu α} {bx:Option Nat} {base B:Nat} {w:AA} {tv nv fv:AB} {L:List Tok} {i f:Nat} {xs:List NV} {m:M α} (hf:FnM p.ans bx B L fv m) (hu:Up m) (hz:Sz p.μ 0 m)
  (hc:∀b a,(p.ev b a).cells.size=2/\∀u∈(p.ev b a).cells.toList,u.oneCell'=true) (n:Nat) (h:PSt base B w tv nv L i f xs) (hEw:Bx B bx w) (hn:xs.length<=2*i+2) (ho:listed L n m i f≠ .oof):
  Calls Tryz.prog 268 #[.pointer (some ⟨B,0,none⟩),fv] w (PR (p.ansL 222 2) base B tv nv L xs w (listed L n m i f)):=by
 obtain ⟨F,fs,caps,rfl,hcb,S⟩:=hf.fn;generalize hr:listed L n m i f=r at ho;refine qE6 fun ρ r0 r1=>?_;simp [qr3,r0,r1];refine xh (f:=F) hcb (fs:=fs) (caps:=caps) (by simp) ?_;simp;refine QI (ys:=[]) (xs:=xs) (r:=r) (A':=p.ansL 222 2) (nv:=nv) (w:=w) (k:=fun x=>bnd (more L m n) fun xs=>ret (x::xs)) (fun hno=>by simpa using S base w tv nv i f xs h hEw hn hno) (Tn.refl _ _ _ _) hr ho (fun c w' hp=>by simpa using hp) ?_;intro a j g v nv2 zs w2 aa o C W z O hv E;simp only [ua,List.nil_append] at o C hv;change v=p.ev xs.length a at hv;change zs.map (·.nd)=p.nodes xs.length a at C;subst hv;have H:=hc xs.length a;simp;refine jC qmT (by decide) (by decide) (by simpa using H.1) fun X W3 hX ab af hsz3=>?_;simp at af;have J:=o.ext ab;have I:=(hEw.keep h z).ext ab;have hzz:=hz _ _ _ _ _ aa;have hzl:zs.length=p.μ a:=by rw [<-p.len xs.length a,<-C,uq]
 simp;refine kr (fun ac w'=>∃Z f' nv' ys t Y n',ac 0=.pointer (some ⟨B,0,none⟩)/\ac 1=.func (.func F) fs caps/\ac 5=t/\PSt base B w' tv nv' L Z f' (xs++ys)/\ys.map (·.nd)=p.nodesL xs.length Y/\(∀y∈ys,xW w y.kv)/\Tn base B nv nv' w w'/\Bx B bx w'/\
   Own w.heap.size 222 2 w' t (p.evL xs.length Y)/\jF t (xs++ys)/\(xs++ys).length<=2*Z+2/\Y.length<=Z+1/\(more L m n' Z f').andThen (fun bs j g=> .ok (Y++bs) j g)=r) (fun _ w'=>L.length - atOf B w')
  ⟨j,g,nv2,zs,.slice (some ⟨X,0,none⟩) 1 1,[a],n,by simp [r0],by simp [r1],by simp,J,by simpa [Pu.nodesL] using C,W,O.extR ab h.bW,I, ?_, ?_,by simp;omega,by simp, ?_⟩ ?_
 ·have:=Own.lit (base:=w.heap.size) (sz:=2) (n:=1) (cs:=(p.ev xs.length a).cells.toList) (by simpa using af) (by simp [H.1]) (by have:=z.size;omega) (by decide);simpa [Pu.evL] using this
 ·refine jF.old (w:=w2) o.old ?_;intro k E;cases E;exact hX
 ·rw [<-E];simp only [bnd];cases more L m n j g<;>rfl
 clear E o C W z O af J I hX ab aa hzz hzl hsz3;rintro ac w' ⟨Z,f',nv',ys,t,Y,n',r0,r1,r5,hS,C,W,hT,hEw',hO,hsep,hcnt,hll,hsp⟩;have hat:=hS.atOf;simp [qr0,r0];refine (qdx hS [44]).mono ?_;rintro _ w2 ⟨rfl,o,z⟩;have ad:=hEw'.keep hS z;have hO2:=hS.keep z hO (by decide) (by decide);cases n' with
 |zero=>exact absurd hsp.symm ho
 |succ n'=>
  have q:(qt L [44] (listed L n' m) (ret []) Z f').andThen (fun bs j g=> .ok (Y++bs) j g)=r:=hsp;unfold qt at q;cases aj:qo L Z [[44]] with
  |false=>
   rw [aj] at q o;simp only [uk,ud,ret,Rs.andThen,ua] at q o;simp [qr1,r5];rw [<-q];exact ⟨t,nv',ys,rfl,o,C,W,hT.trans z,hO2⟩
  |true=>
   rw [aj] at q o;have hlt:=xR aj;simp only [wh] at q o;have hsep2:jF t (xs++ys):=hsep;have hout:∀k,t.ownBlock=some k->k<w2.heap.size:=fun k E=>(hO2.blk k E).2;simp [qr2,r1,r5];refine xh (f:=F) hcb (fs:=fs) (caps:=caps) (by simp [r1]) ?_;simp;have hb:bnd m (fun x=>fun i f=>(more L m n' i f).andThen (fun bs j g=> .ok ((Y++[x])++bs) j g)) (Z+1) f'=r:=by
    rw [<-q];simp only [listed,bnd];cases m (Z+1) f' with
    |oof=>rfl
    |no g=>rfl
    |ok a j g=>
     have e2:(bnd (more L m n') fun xs=>ret (a::xs)) j g=(more L m n' j g).andThen fun bs j g=> .ok (a::bs) j g:=rfl;simp only [Rs.andThen];rw [e2];cases more L m n' j g<;>simp [Rs.andThen]
   refine QI (ys:=ys) (xs:=xs) (r:=r) (A':=p.ansL 222 2) (nv:=nv) (w:=w) (fun hno=>by simpa using S base w2 tv nv' (Z+1) f' (xs++ys) o ad (by omega) hno) (hT.trans z) hb ho (fun c w' hp=>by simpa using hp) ?_;intro a j g v nv3 zs w3 aa J U ae hT3 O hv E;change v=p.ev (xs++ys).length a at hv;change zs.map (·.nd)=p.nodes (xs++ys).length a at U;subst hv;have H:=hc (xs++ys).length a;have hO3:=o.keep hT3 hO2 (by decide) (by decide);have I:=ad.keep o hT3;have hzz:=hz _ _ _ _ _ aa;have hzl:zs.length=p.μ a:=by rw [<-p.len (xs++ys).length a,<-U,uq]
   have R:jF t (xs++(ys++zs)):=by rw [<-un];exact hsep2.app (jF.new ae hout)
   have hyl:ys.length=(p.nodesL xs.length Y).length:=by rw [<-C,uq]
   have hil3:=J.il;have htl3:=J.tl;have hlen:(p.evL xs.length Y).length=(qm t)*2:=(L01.jw hO3).len;simp;refine jC qmT (by decide) (by decide) (by simpa using H.1) fun X W4 hX V hb4 hsz4=>?_;simp at hb4;have hS4:=J.ext V;have ag:=hO3.ext V;have ai:w.heap.size<=W4.heap.size:=Nat.le_trans O.size V.size;have hcl:(p.ev (xs++ys).length a).cells.toList.length=2:=by rw [Array.length_toList];exact H.1
   simp;refine yf qAf (base:=w.heap.size) (sv:=t) (xv:=.slice (some ⟨X,0,none⟩) 1 1) (xs:=p.evL xs.length Y) (news:=(p.ev (xs++ys).length a).cells.toList) ai (by simp [r5]) (by simp) ag (Blk.cells (by simpa using hb4) (by simpa using H.1)) H.2 ?_ ?_ fun out' W5 hO5 ah hr5=>?_
   ·rw [p.evL_len (fun b a=>(hc b a).1),hcl];omega
   ·rw [p.evL_len (fun b a=>(hc b a).1),hcl];omega
   have hS5:=hS4.grown ag ah R (by decide) (by decide) (by decide);have hEw5:=(I.ext V).grown ag ah (by decide);have hT5:Tn base B nv nv3 w W5:=(O.extR V h.bW).grown ah (fun k E=>(hO.blk k E).1) h.bW;have hsep5:jF out' (xs++(ys++zs)):=by
    rcases hr5 with e|e
    ·intro x hx k E;rw [e];exact R x hx k E
    ·refine jF.old (w:=W4) hS4.old ?_;intro k E;rw [e] at E;cases E;exact kh _
   simp;refine ⟨⟨r0,r1,j,g,nv3,ys++zs,hS5,Y++[a], ?_, ?_,hT5,hEw5, ?_,hsep5, ?_, ?_,n',E⟩, ?_⟩
   ·rw [uy,C,U,Pu.nodesL_snoc,<-hyl,ky]
   ·intro y hy;rcases uv.1 hy with hy|hy
    ·exact W y hy
    ·exact (ae y hy).mono (hT.trans z).size
   ·rw [Pu.evL_snoc,<-hyl,<-ky];exact hO5
   ·simp only [ky] at hcnt⊢;omega
   ·simp;omega
   ·rw [hS5.atOf,hat];omega
section
variable {α β:Type} {A:Ans α} {A':Ans β} {L:List Tok} {m:M α} {k:α->M β} {r:Rs β} {base B:Nat} {w w1:AA} {tv nv nv1:AB} {i f:Nat} {xs zs:List NV} {K:qa->AA->Prop} {Q:Ks} {ρ:qa} {d:Option Nat}
theorem wC (H:∀b a,A.nodes b a=[]) {F:FuncId} {args:Array AB} (y:∃ys,zs=xs++ys) (O:m i f≠ .oof->Calls Tryz.prog F args w1 (PR A base B tv nv1 L zs w1 (m i f))) (J:Tn base B nv nv1 w w1) (u:bnd m k i f=r) (E:r≠ .oof)
  (hpn:∀c w',PR A' base B tv nv L xs w r (.panicked c) w'->Q.pn ρ c w')
  (h:∀a j g v nv2 w2,m i f=.ok a j g->PSt base B w2 tv nv2 L j g zs->Tn base B nv1 nv2 w1 w2->Tn base B nv nv2 w w2->A.val w1 w2 zs.length a v->k a j g=r->K (qp ρ d v) w2):
  Calls Tryz.prog F args w1 (vL Q d K ρ):=by
 obtain ⟨ys,rfl⟩:=y;refine QI (xs:=xs) (ys:=ys) (r:=r) (A':=A') O J u E hpn ?_;intro a j g v nv2 z w2 q t e _ n o C I;rw [H] at e;obtain rfl:z=[]:=by simpa using e
 simp only [ua] at t;exact h a j g v nv2 w2 q t n o C I
theorem yW {s:Bs} {x y:M β} (t:∃ys,zs=xs++ys) (o:PSt base B w1 tv nv1 L i f zs) (h:Tn base B nv nv1 w w1) (c:qt L s x y i f=r)
  (q:∀w2,qo L i [s]=true->PSt base B w2 tv nv1 L (i+1) f zs->Tn base B nv1 nv1 w1 w2->Tn base B nv nv1 w w2->x (i+1) f=r->K (qp ρ d (.bool true)) w2)
  (n:∀w2,qo L i [s]=false->PSt base B w2 tv nv1 L i f zs->Tn base B nv1 nv1 w1 w2->Tn base B nv nv1 w w2->y i f=r->K (qp ρ d (.bool false)) w2):
  Calls Tryz.prog 117 #[.pointer (some ⟨B,0,none⟩),.string (qb s)] w1 (vL Q d K ρ):=by
 refine (qdx o s).mono ?_;rintro _ w2 ⟨rfl,a,b⟩;rw [qcC];unfold qt at c;cases e:qo L i [s] with
 |true=>
  rw [e] at c a;simp only [wh] at c a;exact q w2 e a b (h.trans b) c
 |false=>
  rw [e] at c a;simp only [uk,ud] at c a;exact n w2 e a b (h.trans b) c
theorem Qc {ty:TypeId} (e:PSt base B w1 tv nv1 L i f zs) (n:Tn base B nv nv1 w w1) (c:base<=w.heap.size) (s:Bs) (h:∀v w2,qc w1 w2->PSt base B w2 tv nv1 L i f zs->Tn base B nv nv1 w w2->Own 0 9 1 w2 v ([s].map qi)->K (qp ρ d v) w2):
  qB Tryz.prog Q d (.buildSlice 51 1 #[(0,.const (.string ⟨s.toArray⟩))]) ty K ρ w1:=by
 refine jC kj (by decide) (by simp) (by simp [Value.cells]) fun X W o b a _=>?_;simp [Value.cells] at a;exact h _ W b (e.ext b) (n.extR b c) (Own.lit (sz:=1) (cs:=[qi s]) (by simpa [qi,qb] using a) (by simp) (uf _) (by decide))
theorem yX {ss:List Bs} {k:Unit->M β} {v:AB} (u:∃ys,zs=xs++ys) (z:PSt base B w1 tv nv1 L i f zs) (a:Own 0 9 1 w1 v (ss.map qi)) (b:ss.length<4611686018427387904) (E:Tn base B nv nv1 w w1) (t:bnd (needs L ss) k i f=r) (y:r≠ .oof)
  (hpn:∀c w',PR A' base B tv nv L xs w r (.panicked c) w'->Q.pn ρ c w')
  (h:∀j g nv2 w2,needs L ss i f=.ok () j g->PSt base B w2 tv nv2 L j g zs->Tn base B nv1 nv2 w1 w2->Tn base B nv nv2 w w2->k () j g=r->K (qp ρ d (.tuple #[])) w2):
  Calls Tryz.prog 153 #[.pointer (some ⟨B,0,none⟩),v] w1 (vL Q d K ρ):=
 wC (A:=aU) (A':=A') (fun _ _=>rfl) u (fun _=>qBp z a b) E t y hpn fun _ j g v nv2 w2 q o e n a C=>by
  change v=_ at a;subst a;exact h j g nv2 w2 q o e n C
end
section
variable {L:List Tok} {base B:Nat} {w w':AA} {tv nv nv':AB} {i f:Nat} {xs:List NV}
theorem Ja {r:Rs Unit} (b:PSt base B w' tv nv' L i f xs) (a:Tn base B nv nv' w w') (c:ret () i f=r):PR aU base B tv nv L xs w r (.returned (.tuple #[])) w':=by
 rw [<-c];exact ⟨_,nv',[],rfl,by simpa using b,rfl,by simp,a,rfl⟩
theorem qcs {r:Rs Bs} {s:Bs} (a:PSt base B w' tv nv' L i f xs) (c:Tn base B nv nv' w w') (b:ret s i f=r):PR aS base B tv nv L xs w r (.returned (.string (qb s))) w':=by
 rw [<-b];exact ⟨_,nv',[],rfl,by simpa using a,rfl,by simp,c,rfl⟩
theorem vj (xs:List NV):∃ys,xs=xs++ys:=⟨[],by simp⟩
end
def pS:Pu Bs:=⟨fun _ _=>[],fun _ s=> .string (qb s),fun _=>0,fun _ _=>rfl⟩
@[simp] theorem qMF:qk Tryz.prog 72=true:=by kernel_rfl
@[simp] theorem qNL:qk Tryz.prog 156=true:=by kernel_rfl
theorem qBk {L:List Tok} {k:M Unit} (Y:Mt aU L 72 me k) (hu:Up k):Mt aS L 155 me (wn L k):=by
 intro base B w tv nv i f xs I hn a;generalize b:wn L k i f=r at a;have S:=I.bW;refine qGH fun ρ r0=>?_;simp [qtQ,r0];refine wC (A:=aS) (A':=aS) (nv:=nv) (w:=w) (fun _ _=>rfl) (vj xs) (fun _=>x4 I) (Tn.refl _ _ _ _) b a (fun c w' h=>by simpa using h) ?_;intro s j g v nv2 w2 F y R q hv b;simp [r0];refine Qc y q S [58] fun v2 w3 ab u e t=>?_;simp;refine yX (A':=aS) (vj xs) u t (by simp) e b a (fun c w' h=>by simpa using h) ?_;intro J Z C U H z W o b;simp [r0];have hj:=((qq _).ok H).1;have ac:=(jm.ok F).1;refine wC (A:=aU) (A':=aS) (nv:=nv) (w:=w) (fun _ _=>rfl) (vj xs) (fun a=>Y base B U tv C J Z xs z (by omega) a) o b a (fun c w' h=>by simpa using h) ?_;intro _ j5 g5 v5 O w5 _ E aa n V b;simp;exact qcs (s:=[]) E n b
def qvh {L:List Tok} {k:M Unit} (h:Mt aU L 72 me k) (c:Up k) (B:Nat):FnM pS.ans none B L (.func (.func 155) #[.pointer (some ⟨B,0,none⟩)] #[]) (wn L k):=
 ⟨155,_,_,rfl,by kernel_rfl,fun base w tv nv i f xs e _ b a=>qBk h c base B w tv nv i f xs e b a⟩
def qml {L:List Tok} {k:M Unit} (a:Up k):Sz pS.μ 0 (wn L k):=qcZ (qcT a)
def qe0 (b:Nat) (s:Bs):(pS.ev b s).cells.size=1/\∀u∈(pS.ev b s).cells.toList,u.oneCell'=true:=⟨rfl,by simp [pS,Value.cells,Value.oneCell']⟩
def qdE:∀(b:Nat) (l:List Bs),(pS.ansL 9 1).nodes b l=[]
 |_,[]=>rfl
 |b,_::l=>qdE b l
theorem qij {L:List Tok}:∀n,Mt aU L 72 me (kind L n)
 |0=>fun _ _ _ _ _ _ _ _ _ _ h=>absurd rfl h
 |n+1=>by
  have ih:=qij (L:=L) n;intro base B w tv nv i f xs hS hn o;generalize e:kind L (n+1) i f=r at o;have hb:=hS.bW;refine qDA fun ρ r0=>?_;simp [qp5,r0];refine yW (s:=[105,110,116]) (w:=w) (nv:=nv) (xs:=xs) (vj xs) hS (Tn.refl _ _ _ _) e (fun w1 J H W t e=>?_) (fun w1 J H W t e=>?_)
  ·simp;exact Ja H t e
  simp [r0];refine yW (s:=[98,111,111,108]) (w:=w) (nv:=nv) (xs:=xs) (vj xs) H t e (fun w1 J H W t e=>?_) (fun w1 J H W t e=>?_)
  ·simp;exact Ja H t e
  simp [r0];refine yW (s:=[110,117,108,108]) (w:=w) (nv:=nv) (xs:=xs) (vj xs) H t e (fun w1 J H W t e=>?_) (fun w1 J H W t e=>?_)
  ·simp;exact Ja H t e
  simp [r0];refine yW (s:=[97,114,114,97,121]) (w:=w) (nv:=nv) (xs:=xs) (vj xs) H t e (fun w2 J hS2 hT2 V e=>?_) (fun w2 J hS2 hT2 V e=>?_)
  ·simp [r0];refine Qc hS2 V hb [91] fun v3 w3 hE3 v q hv3=>?_;simp;refine yX (A':=aU) (vj xs) v hv3 (by simp) q e o (fun c w' y=>by simpa using y) ?_;intro j g ag w4 ab R hT4 z e;have hj:=((qq _).ok ab).1;simp [r0];refine wC (A:=aU) (A':=aU) (nv:=nv) (w:=w) (fun _ _=>rfl) (vj xs) (fun o=>ih base B w4 tv ag j g xs R (by omega) o) z e o (fun c w' y=>by simpa using y) ?_;intro _ j5 g5 v5 af w5 hk5 E aa u hv5 e;simp [r0];refine Qc E u hb [93] fun v6 w6 hE6 S C ad=>?_;simp;refine yX (A':=aU) (k:=ret) (vj xs) S ad (by simp) C (by rw [kO];exact e) o (fun c w' y=>by simpa using y) ?_;intro j7 g7 nv7 w7 hne7 O hT7 F e;simp;exact Ja O F e
  simp [r0];refine yW (s:=[114,101,99,111,114,100]) (w:=w) (nv:=nv) (xs:=xs) (vj xs) hS2 V e (fun w3 J v U q e=>?_) (fun w3 J v U q e=>?_)
  ·simp [r0];refine Qc v q hb [91] fun v4 w4 hE4 R z ac=>?_;simp;refine yX (A':=aU) (vj xs) R ac (by simp) z e o (fun c w' y=>by simpa using y) ?_;intro j g af w5 ab E aa u e;have hj:=((qq _).ok ab).1;simp [r0];refine wC (A:=pS.ansL 9 1) (A':=aU) (m:=listed L n (wn L (kind L n))) (nv:=nv) (w:=w) (fun _ a=>qdE _ a) (vj xs) (fun o=>qeZ (qvh ih (yS n) B) (qcT (yS n)) (qml (yS n)) qe0 n E (fun b h=>by cases h) (by omega) o) u e o (fun c w' y=>by simpa using y) ?_;intro _ j6 g6 v6 nv6 w6 hk6 S hT6 C ad e;simp [r0];refine Qc S C hb [93] fun v7 w7 hE7 O F Y=>?_;simp;refine yX (A':=aU) (k:=ret) (vj xs) O Y (by simp) F (by rw [kO];exact e) o (fun c w' y=>by simpa using y) ?_;intro j8 g8 nv8 w8 ae Z hT8 I e;simp;exact Ja Z I e
  simp [r0];refine yW (s:=[111,110,101,111,102]) (w:=w) (nv:=nv) (xs:=xs) (vj xs) v q e (fun w3 J v U q e=>?_) (fun w3 J v U q e=>?_)
  ·simp [r0];refine Qc v q hb [91] fun v4 w4 hE4 R z ac=>?_;simp;refine yX (A':=aU) (vj xs) R ac (by simp) z e o (fun c w' y=>by simpa using y) ?_;intro j g af w5 ab E aa u e;have hj:=((qq _).ok ab).1;simp [r0];refine wC (A:=pS.ansL 9 1) (A':=aU) (m:=listed L n (wn L (kind L n))) (nv:=nv) (w:=w) (fun _ a=>qdE _ a) (vj xs) (fun o=>qeZ (qvh ih (yS n) B) (qcT (yS n)) (qml (yS n)) qe0 n E (fun b h=>by cases h) (by omega) o) u e o (fun c w' y=>by simpa using y) ?_;intro _ j6 g6 v6 nv6 w6 hk6 S hT6 C ad e;simp [r0];refine Qc S C hb [93] fun v7 w7 hE7 O F Y=>?_;simp;refine yX (A':=aU) (k:=ret) (vj xs) O Y (by simp) F (by rw [kO];exact e) o (fun c w' y=>by simpa using y) ?_;intro j8 g8 nv8 w8 ae Z hT8 I e;simp;exact Ja Z I e
  simp [r0];refine yW (s:=[63]) (w:=w) (nv:=nv) (xs:=xs) (vj xs) v q e (fun w3 J v U q e=>?_) (fun w3 J v U q e=>?_)
  ·simp [r0];refine wC (A:=aU) (A':=aU) (nv:=nv) (w:=w) (k:=ret) (fun _ _=>rfl) (vj xs) (fun _=>qii v) q (by rw [kO];exact e) o (fun c w' y=>by simpa using y) ?_;intro _ j5 g5 v5 af w5 _ E aa u hv5 e;simp;exact Ja E u e
  simp [r0];refine wC (A:=aS) (A':=aU) (nv:=nv) (w:=w) (fun _ _=>rfl) (vj xs) (fun _=>x4 v) q e o (fun c w' y=>by simpa using y) ?_;intro s j4 g4 v4 ag w4 hna R hT4 z ac e;have hj:=(jm.ok hna).1;simp [r0];refine yW (s:=[91]) (w:=w) (nv:=nv) (xs:=xs) (vj xs) R z e (fun w5 J E aa u e=>?_) (fun w5 J E aa u e=>?_)
  ·simp [r0];refine wC (A:=aU) (A':=aU) (nv:=nv) (w:=w) (fun _ _=>rfl) (vj xs) (fun o=>ih base B w5 tv ag (j4+1) g4 xs E (by omega) o) u e o (fun c w' y=>by simpa using y) ?_;intro _ j6 g6 v6 nv6 w6 hk6 S hT6 C ad e;simp [r0];refine Qc S C hb [93] fun v7 w7 hE7 O F Y=>?_;simp;refine yX (A':=aU) (k:=ret) (vj xs) O Y (by simp) F (by rw [kO];exact e) o (fun c w' y=>by simpa using y) ?_;intro j8 g8 nv8 w8 ae Z hT8 I e;simp;exact Ja Z I e
  ·simp;exact Ja E u e
@[simp] theorem qME:qk Tryz.prog 73=true:=by kernel_rfl
@[simp] theorem qMA:qk Tryz.prog 89=true:=by kernel_rfl
@[simp] theorem qMz:qk Tryz.prog 90=true:=by kernel_rfl
theorem qw8:jU Tryz.prog 114=some #[.pointer none,.slice none 0 0]:=by kernel_rfl
def Bd.ext {B b:Nat} {o:Bs} {w w':AA} (h:Bd B b o w) (a:qc w w'):Bd B b o w':=by
 rcases h with h|h
 all_goals
  have c:=h.lt;obtain ⟨t,v,q,e,n⟩:=h;have u:w'.ownsRow B 5 1 v (o.map jE).length (o.map jE):=by
   have:=e.kept (w':=w') (row:=none) ⟨a.os,a.tape,a.output,a.size,fun k y _=>a.block k y⟩ (by cases v.ownBlock<;>simp);simpa using this
 ·exact .inl ⟨t,v,(a.block b c).trans q,u,n⟩
 ·exact .inr ⟨t,v,(a.block b c).trans q,u,n⟩
def jJ (L:List Tok):Prop:=∀t∈L,t.text.length<=20
def qDf {L:List Tok} (h:jJ L):(z6 L).length<=20*L.length:=by
 induction L with
 |nil=>simp [z6]
 |cons t L a=>
  have n:=h t (by simp);have c:=a fun x b=>h x (by simp [b]);have e:z6 (t::L)=t.text++z6 L:=by simp [z6]
  rw [e,ky,List.length_cons];omega
def qDe (L:List Tok) (t:Tok):z6 (L++[t])=z6 L++t.text:=by simp [z6]
def qow {w:AA} {v:AB} {a:List Tok} (J:SlK w v a) (F:jJ a) (hn:a.length<=20000):Calls Tryz.prog 73 #[v] w fun e w'=>e=.returned (.string (qb (z6 a)))/\qc w w':=by
 refine qDy fun ρ r0=>?_;simp [qp4,r0,J.is,J.len];refine qQ qw8 fun b W hb hE I _=>?_;have u:Bd b b [] W:=.inl ⟨kh _,.slice none 0 0,I.heap,World.ownsRow_nil _ _ _ _,by simp [Value.ownBlock]⟩;have hbW:=I.lt;simp [r0,J.is,J.len];refine zH 8 a.length (fun k y w'=>y 3=.pointer (some ⟨b,0,none⟩)/\y 6=v/\y 7=.int .i64 (a.length:Int)/\Bd b b (z6 (a.take k)) w'/\Below b W w') (by simp) ⟨by simp,by simp,by simp,by simpa [z6] using u,Below.refl _ _⟩ ?_;rintro k y w' hk r8 ⟨r3,r6,r7,R,c⟩;have E:∀{w'},Below b W w'->qc w w':=fun h=>Below.trans hE (h.mono hb);have Z:=E c;have C:=J.ext Z;by_cases q:k<a.length
 ·obtain ⟨c0,c1,c2⟩:=C.cell k q;have hle:(z6 (a.take k)).length<=20*k:=by
   have:=qDf (L:=a.take k) (fun t ht=>F t (Jy ht));rw [uF] at this;omega
  have hsl:=F a[k] (uo q);simp [qiI,qp2,r8,r7,r6,r3,q,C.is,C.len,c0,c1,c2];refine qQ z53 fun X W2 hX U Y _=>?_;simp;refine jg (B:=X) (by simp) Y (by simp [Value.cells]) (by simp [Value.cells]) (by simpa [Value.cells] using QG) fun W3 O H=>?_;simp [Value.cells] at H;have z:qc w' W3:=O.ext U hX;simp [(xN H).2.1,r3];refine (L01.qJU a[k].text (Bd.ext R z) (by omega) (by have:=c.size;have:=z.size;omega)).mono ?_;rintro _ W4 ⟨rfl,S,o⟩;simp [qp3,r8,r3,r6,r7,q7 (n:=(k:Int)+1) (by omega)];refine ⟨?_,c.trans ((z.mono (by have:=c.size;omega)).trans o)⟩;have:a.take (k+1)=a.take k++[a[k]]:=by rw [uO q]
  rw [this,qDe];exact S
 ·have V:k=a.length:=by omega
  subst V;simp [qiI,qp1,r8,r7,r3];rw [Jg] at R;refine (L01.b_string R (by have:=c.size;omega)).mono ?_;rintro _ W4 ⟨rfl,o⟩;simp;exact E (c.trans o)
def qyZ {w:AA} {v:AB} {b:List Tok} (h:SlK w v b) {l r:Nat} (o:l<=r) (y:r<=b.length):SlK w (q8 v 3 l r (qI v)) (wt b l r):=by
 have u:=qdL h.is;have t:=h.len;have a:(wt b l r).length=r - l:=by unfold wt;rw [uU,uF];omega
 refine ⟨qbq h.is 3 l r (qI v) o (by omega) (kh _),by rw [qht 3 l r _ h.is,a],by rw [a];have:=h.bd;omega,fun j e=>?_⟩;rw [a] at e;have n:(wt b l r)[j]'(by rw [a];exact e)=b[l+j]'(by omega):=by
  unfold wt;rw [List.getElem_drop,List.getElem_take]
 obtain ⟨c0,c1,c2⟩:=h.cell (l+j) (by omega);have c:∀q,qN (q8 v 3 l r (qI v)) q=qN v (l*3+q):=fun q=>qhu 3 l r (qI v) q h.is (by omega) (by omega);rw [c,c,c,n];refine ⟨?_, ?_, ?_⟩
 ·rw [<-c0];congr 2;omega
 ·rw [<-c1];congr 2;omega
 ·rw [<-c2];congr 2;omega
def qy8 {L:List Tok} (h:jJ L) (i j:Nat):jJ (wt L i j):=fun t a=>h t (Jy (Va a))
@[simp] theorem qNx:qk Tryz.prog 202=true:=by kernel_rfl
@[simp] theorem qM6:qk Tryz.prog 276=true:=by kernel_rfl
@[simp] theorem qMM:qk Tryz.prog 327=true:=by kernel_rfl
theorem QQ {L:List Tok} (O:jJ L) (n:Nat):Mt aS L 202 me (vN L n):=by
 intro base B w tv nv i f xs o U b;have I:=o.bW;have V:=o.tl;generalize u:vN L n i f=r at b;have z:bnd (kind L n) (fun _=>fun j g=> .ok (z6 (wt L i j)) j g) i f=r:=u;refine qGb fun ρ r0=>?_;simp [qtd,r0,o.blk.cell];refine wC (A:=aU) (A':=aS) (nv:=nv) (w:=w) (fun _ _=>rfl) (vj xs) (fun b=>qij n base B w tv nv i f xs o U b) (Tn.refl _ _ _ _) z b (fun c w' J=>by simpa using J) ?_;intro _ j g v nv2 w2 R a H h W u;have y:=((yS n).ok R).1;have q:=a.slk;have t:=a.il;have C:=qdL q.is;have S:=q.len;simp;simp [r0,a.blk.cell];rw [j0 ⟨q.is,by omega,by omega⟩];simp;refine ⟨.string (qb (z6 (wt L i j))),fun w' E=>?_,fun F e=>?_⟩
 ·refine (qow (qyZ (q.ext E) y t) (qy8 O i j) (by unfold wt;rw [uU,uF];omega)).mono ?_;rintro _ F ⟨rfl,e⟩;exact ⟨rfl,E.trans' e⟩
 ·simp [qtc];exact qcs (a.ext e) (h.extR e I) u
def qas {W:AA} {X:Nat} {l:List Bs} (a:Blk W X (l.map qi).toArray 9) (c:l.length<=1000):qW W (.slice (some ⟨X,0,none⟩) l.length l.length) l:=by
 refine ⟨by simp [qA],by simp [qm],by omega,fun j b=>?_⟩;simp only [qN,ur];rw [a.cell];simp [b]
@[simp] theorem qMD:qk Tryz.prog 75=true:=by kernel_rfl
def qox (s:Bs) (w:AA):Calls Tryz.prog 75 #[.string (qb s)] w fun e w'=>e=.returned (.bool (kY.contains s))/\qc w w':=by
 refine qDw fun ρ r0=>?_;simp [qp0,r0];refine jC kj (by decide) (by decide) (by simp [Value.cells]) fun X W c b a _=>?_;simp [Value.cells] at a;simp [r0];refine (L01.qhB (l:=kY) s (qas (l:=kY) (by simpa [kY,qi,qb] using a) (by decide))).mono ?_;rintro _ _ ⟨rfl,rfl⟩;simp;exact b
def qpc (x y:Bs):qb x++qb y=qb (x++y):=by
 apply JG;show ((qb x).append (qb y)).data=_;rw [ByteArray.append_eq,ByteArray.data_append];simp [qb]
section
variable {base B:Nat} {w w':AA} {tv nv nv':AB} {L:List Tok} {i f:Nat} {xs:List NV}
theorem ql8 (a:jJ L) (i:Nat):(tk L i).text.length<=20:=by
 by_cases h:i<L.length
 ·rw [qes h];exact a _ (uo h)
 ·rw [qbQ (by omega)];simp
theorem qo9 (a:jJ L) {i f j g:Nat} {s:Bs} (h:name L i f=.ok s j g):s.length<=20:=by
 unfold name at h;split at h
 ·cases h;exact ql8 a i
 ·cases h
end
theorem qBn {L:List Tok} (hL:jJ L):Mt aS L 327 me (op L):=by
 intro base B w tv nv i f xs h hn F;have htl:=h.tl;have hil:=h.il;have z:=h.bW;generalize o:op L i f=r at F;refine qEc fun ρ r0=>?_;simp [qq3,r0];refine (wZ h 0 (by decide)).mono ?_;rintro _ w1 ⟨rfl,hE⟩;simp;refine qQ z53 fun X W hX hE1 hb _=>?_;simp;refine jg (B:=X) (by simp) hb (by simp [Value.cells,vF]) (by simp [Value.cells,vF]) (by simpa [Value.cells] using QG) fun W2 hO2 I=>?_;simp [Value.cells,vF] at I;obtain ⟨c0,c1,c2⟩:=xN I;have q:qc w W2:=hO2.ext (hE.trans' hE1) (by have:=hE.size;omega);have hS:=h.ext q;have hXB:X≠B:=by have:=h.blk.lt;have:=hE.size;omega
 have n:∀J,PSt base B J tv nv L i f xs->Tn base B nv nv w J->¬((tk L i).kind=2/\kY.contains (tk L i).text=true)->∀C:qa,C 0=.pointer (some ⟨B,0,none⟩)->
   qiZ.wp ⟨Tryz.prog,31,qq2,[]⟩ (qz [.tmp 2] (PR aS base B tv nv L xs w r)) (qM [.tmp 2] (PR aS base B tv nv L xs w r)) C J:=by
  intro J a hT3 t C r0;have E:bnd (name L) (fun s=>qt L [95] (bnd (name L) fun u=>ret (s++([95]++u))) (ret s)) i f=r:=by
   rw [<-o,<-kO (op L)];exact (qCo t).symm
  simp [qiZ,r0];refine wC (A:=aS) (A':=aS) (nv:=nv) (w:=w) (fun _ _=>rfl) (vj xs) (fun _=>x4 a) hT3 E F (fun c w' hp=>by simpa using hp) ?_;intro s j g v nv4 w4 hna H R O hv o;change v=_ at hv;subst hv;have hsl:=qo9 hL hna;simp [r0];refine yW (s:=[95]) (w:=w) (nv:=nv) (xs:=xs) (vj xs) H O o (fun w5 t y hT5 e o=>?_) (fun w5 t y hT5 e o=>?_)
  ·simp [r0];refine wC (A:=aS) (A':=aS) (nv:=nv) (w:=w) (fun _ _=>rfl) (vj xs) (fun _=>x4 y) e o F (fun c w' hp=>by simpa using hp) ?_;intro u j6 g6 v6 nv6 w6 V hS6 hT6 S Z o;change v6=_ at Z;subst Z;have hul:=qo9 hL V;have e1:(⟨#[95]⟩:ByteArray)=qb [95]:=rfl;simp only [qlv,qxg,gd,wh,Ex.ev,qxt,e1];simp [qpc,e1];rw [j0 (by unfold maxLen;omega)];simp [qpc,qaq];rw [j0 (by unfold maxLen;omega)];simp [qi0];exact qcs hS6 S (by simpa using o)
  ·simp [qi0];exact qcs y e o
 by_cases h2:(tk L i).kind=2
 ·simp [c0,c1,h2];refine (qox (tk L i).text W2).mono ?_;rintro _ J ⟨rfl,b⟩;have a:=hS.ext b;have c1':=b.cell c1;by_cases t:kY.contains (tk L i).text=true
  ·have hlt:=QV h2 (by decide);have e1:IntKind.i64.wrap ((i:Int)+1)=((i+1:Nat):Int):=by rw [q7 (by omega)];push_cast;rfl
   have E:r=.ok (tk L i).text (i+1) f:=by rw [<-o];exact qCn h2 t
   rw [t];simp [r0,a.blk.cell,e1];refine qD (B:=B) (i:=1) (by simp) a.blk (by simp) (by simp [Value.cells]) (by simp) vp fun W4 U aa=>?_;simp at aa;have hb5:Blk W4 B #[tv,.int .i64 ((i+1:Nat):Int),.int .i64 (f:Int),nv] 85:=by simpa using aa
   obtain ⟨H,R⟩:=a.move U hb5 hlt h.fl;have Y:W4.cell? ⟨X,1,none⟩=some (.string (qb (tk L i).text)):=(xN (U.blk (I.ext b) hXB)).2.1;simp [Y];exact qcs H ((Tn.ext (q.trans' b) z).trans R) E.symm
  ·have hc':kY.contains (tk L i).text=false:=by simpa using t
   rw [hc'];simp;exact n J a (Tn.ext (q.trans' b) z) (fun h=>t h.2) _ (by simp [r0])
 ·have h2':¬((tk L i).kind:Int)=2:=by omega
  simp [c0,h2'];exact n W2 hS (Tn.ext q z) (fun h=>h2 h.1) _ (by simp [r0])
theorem qos {L:List Tok} (J:jJ L) (n:Nat):Mt aS L 276 me (ve L n):=by
 intro base B w tv nv i f xs E R a;have H:=E.bW;generalize e:ve L n i f=r at a;refine qEU fun ρ r0=>?_;simp [qrN,r0];refine wC (A:=aS) (A':=aS) (nv:=nv) (w:=w) (fun _ _=>rfl) (vj xs) (fun a=>QQ J n base B w tv nv i f xs E R a) (Tn.refl _ _ _ _) e a (fun c w' q=>by simpa using q) ?_;intro s j g v nv2 w2 _ y F o C e;change v=_ at C;subst C;simp [r0];refine Qc y o H [36] fun v3 V S u b t=>?_;simp;refine yX (A':=aS) (vj xs) u t (by simp) b e a (fun c w' q=>by simpa using q) ?_;intro Y g4 O W U z I h e;simp;exact qcs z h e
def Own.down {b a e sz:Nat} {w:AA} {v:AB} {ys:List AB} (h:Own b e sz w v ys) (o:a<=b):Own a e sz w v ys:=by
 rcases h with h|⟨g,off,n,cap,cur,rfl,q,c⟩
 ·exact .inl h
 ·exact .inr ⟨g,off,n,cap,cur,rfl,by omega,c⟩
def pT:Pu T:=⟨fun b t=>t.flat b,fun b t=> .int .i64 ((b:Int)+t.size - 1),T.size,fun b t=>T.flat_len t b⟩
def qB3 (b:Nat) (t:T):(pT.ev b t).cells.size=1/\∀u∈(pT.ev b t).cells.toList,u.oneCell'=true:=⟨rfl,by simp [pT,Value.cells,Value.oneCell']⟩
def qo2:∀(l:List T) (b:Nat),pT.nodesL b l=flats b l
 |[],_=>rfl
 |t::l,b=>by simp only [Pu.nodesL,flats,qo2 l];rfl
def qvx:∀(l:List T) (b:Nat),pT.evL b l=(qg b l).map encI
 |[],_=>rfl
 |t::l,b=>by
  simp only [Pu.evL,qg,qvx l,List.map_cons];rfl
structure NVr (B X:Nat) (nv:AB) (W:AA) (x:NV):Prop where
 blk:Blk W X (qe x).toArray 44
 neB:X≠B
 neR:nv.ownBlock≠some X
structure Cu (base B:Nat) (w:AA) (tv nv:AB) (L:List Tok) (xs:List NV) (w1:AA) (nv1:AB) (i f:Nat) (ys:List NV):Prop where
 st:PSt base B w1 tv nv1 L i f (xs++ys)
 tn:Tn base B nv nv1 w w1
 fr:∀y∈ys,xW w y.kv
 b0:base<=w.heap.size
section
variable {base B X:Nat} {w w1 w2:AA} {tv nv nv1 nv2:AB} {L:List Tok} {i f j g:Nat} {xs ys zs:List NV} {x:NV}
theorem NVr.turn (h:NVr B X nv1 w1 x) (a:Tn base B nv1 nv2 w1 w2):NVr B X nv2 w2 x:=⟨a.blk h.blk h.neB h.neR,h.neB,a.ne h.blk.lt h.neR⟩
theorem NVr.ext (h:NVr B X nv1 w1 x) (a:qc w1 w2):NVr B X nv1 w2 x:=⟨h.blk.ext a,h.neB,h.neR⟩
theorem Cu.start (h:PSt base B w tv nv L i f xs):Cu base B w tv nv L xs w nv i f []:=⟨by simpa using h,Tn.refl _ _ _ _,by simp,h.bW⟩
theorem Cu.ext (h:Cu base B w tv nv L xs w1 nv1 i f ys) (a:qc w1 w2):Cu base B w tv nv L xs w2 nv1 i f ys:=⟨h.st.ext a,h.tn.extR a h.b0,h.fr,h.b0⟩
theorem Cu.more (h:Cu base B w tv nv L xs w1 nv1 i f ys) (c:PSt base B w2 tv nv2 L j g (xs++(ys++zs))) (e:Tn base B nv1 nv2 w1 w2) (b:∀z∈zs,xW w1 z.kv):Cu base B w tv nv L xs w2 nv2 j g (ys++zs):=
 ⟨c,h.tn.trans e,fun y a=>by
  rcases uv.1 a with a|a
  ·exact h.fr y a
  ·exact (b y a).mono h.tn.size,h.b0⟩
theorem Cu.size (h:Cu base B w tv nv L xs w1 nv1 i f ys):w.heap.size<=w1.heap.size:=h.tn.size
theorem Cu.keep (h:Cu base B w tv nv L xs w1 nv1 i f ys) (q:Tn base B nv1 nv2 w1 w2) {b e sz:Nat} {v:AB} {a:List AB} (c:Own b e sz w1 v a) (o:e≠44) (n:e≠85):Own b e sz w2 v a:=h.st.keep q c o n
theorem Cu.newN (h:Cu base B w tv nv L xs w1 nv1 i f ys) (b:w1.heap.size<=X) (c:qc w1 w2) (a:Blk w2 X (qe x).toArray 44):NVr B X nv1 w2 x:=
 ⟨a,fun e=>by have:=h.st.blk.lt;omega,fun e=>by have:=(h.st.own.blk X e).2;omega⟩
theorem Cu.put (h:Cu base B w tv nv L xs w1 nv1 i f ys) (q:NVr B X nv1 w1 x) (y:w.heap.size<=X) (c:Only X w1 w2):Cu base B w tv nv L xs w2 nv1 i f ys:=by
 have keep:∀{b e sz:Nat} {v:AB} {t:List AB},e≠44->Own b e sz w1 v t->Own b e sz w2 v t:=fun F u=>Own.same u fun k n=>by
  obtain ⟨cur,C⟩:=Own.row u n;refine c.block k fun e=>?_;subst e;have:=q.blk.heap;rw [C] at this;cases this;exact F rfl
 have a:=h.st;refine ⟨⟨c.blk a.blk q.neB.symm,keep (by decide) a.tok,Own.same a.own fun k n=>c.block k fun e=>q.neR (e▸n),fun x z=>keep (by decide) (a.kid x z),a.bB,by rw [c.size];exact a.bW,a.tl,a.il,a.fl⟩, ?_,h.fr,h.b0⟩;have o:=h.tn;have I:=o.size;refine ⟨o.below.trans (kq c (Nat.le_trans h.b0 y)),fun k n H E=>?_,o.row,o.gr⟩;rw [c.block k (by omega)];exact o.block k n H E
end
section
variable {α β:Type} {A:Ans α} {A':Ans β} {L:List Tok} {m:M α} {k:α->M β} {r:Rs β} {base B X:Nat} {w w1:AA} {tv nv nv1:AB} {i f:Nat} {xs ys:List NV} {K:qa->AA->Prop} {Q:Ks} {ρ:qa} {d:Option Nat}
theorem qar {F:FuncId} {args:Array AB} (H:m i f≠ .oof->Calls Tryz.prog F args w1 (PR A base B tv nv1 L (xs++ys) w1 (m i f))) (o:Cu base B w tv nv L xs w1 nv1 i f ys) (t:bnd m k i f=r) (z:r≠ .oof)
  (hpn:∀c w',PR A' base B tv nv L xs w r (.panicked c) w'->Q.pn ρ c w')
  (h:∀a j g v nv2 zs w2,m i f=.ok a j g->Cu base B w tv nv L xs w2 nv2 j g (ys++zs)->zs.map (·.nd)=A.nodes (xs++ys).length a->Tn base B nv1 nv2 w1 w2->A.val w1 w2 (xs++ys).length a v->k a j g=r->K (qp ρ d v) w2):
  Calls Tryz.prog F args w1 (vL Q d K ρ):=
 QI (xs:=xs) (ys:=ys) (r:=r) (A':=A') H o.tn t z hpn fun a j g v nv2 zs w2 e C n q b y u E=>
  h a j g v nv2 zs w2 e (o.more C b q) n b u E
theorem wT (z:∀b a,A.nodes b a=[]) {F:FuncId} {args:Array AB} (H:m i f≠ .oof->Calls Tryz.prog F args w1 (PR A base B tv nv1 L (xs++ys) w1 (m i f))) (C:Cu base B w tv nv L xs w1 nv1 i f ys) (t:bnd m k i f=r) (y:r≠ .oof)
  (hpn:∀c w',PR A' base B tv nv L xs w r (.panicked c) w'->Q.pn ρ c w')
  (h:∀a j g v nv2 w2,m i f=.ok a j g->Cu base B w tv nv L xs w2 nv2 j g ys->Tn base B nv1 nv2 w1 w2->A.val w1 w2 (xs++ys).length a v->k a j g=r->K (qp ρ d v) w2):
  Calls Tryz.prog F args w1 (vL Q d K ρ):=
 qar (A':=A') H C t y hpn fun a j g v nv2 zs w2 q e n o u E=>by
  rw [z] at n;obtain rfl:zs=[]:=by simpa using n
  simp only [ua] at e;exact h a j g v nv2 w2 q e o u E
theorem vq {F:FuncId} (n:Mt A L F me m) (e:Cu base B w tv nv L xs w1 nv1 i f ys) (q:(xs++ys).length<=2*i+2) (t:bnd m k i f=r) (o:r≠ .oof)
  (hpn:∀c w',PR A' base B tv nv L xs w r (.panicked c) w'->Q.pn ρ c w')
  (h:∀a j g v nv2 zs w2,m i f=.ok a j g->Cu base B w tv nv L xs w2 nv2 j g (ys++zs)->zs.map (·.nd)=A.nodes (xs++ys).length a->Tn base B nv1 nv2 w1 w2->A.val w1 w2 (xs++ys).length a v->k a j g=r->K (qp ρ d v) w2):
  Calls Tryz.prog F #[.pointer (some ⟨B,0,none⟩)] w1 (vL Q d K ρ):=
 qar (A':=A') (fun b=>n base B w1 tv nv1 i f (xs++ys) e.st q b) e t o hpn h
theorem vz (t:∀b a,A.nodes b a=[]) {F:FuncId} (y:Mt A L F me m) (n:Cu base B w tv nv L xs w1 nv1 i f ys) (u:(xs++ys).length<=2*i+2) (o:bnd m k i f=r) (q:r≠ .oof)
  (hpn:∀c w',PR A' base B tv nv L xs w r (.panicked c) w'->Q.pn ρ c w')
  (h:∀a j g v nv2 w2,m i f=.ok a j g->Cu base B w tv nv L xs w2 nv2 j g ys->Tn base B nv1 nv2 w1 w2->A.val w1 w2 (xs++ys).length a v->k a j g=r->K (qp ρ d v) w2):
  Calls Tryz.prog F #[.pointer (some ⟨B,0,none⟩)] w1 (vL Q d K ρ):=
 wT (A':=A') t (fun e=>y base B w1 tv nv1 i f (xs++ys) n.st u e) n o q hpn h
theorem jV {s:Bs} {x y:M β} (b:Cu base B w tv nv L xs w1 nv1 i f ys) (c:qt L s x y i f=r)
  (q:∀w2,qo L i [s]=true->Cu base B w tv nv L xs w2 nv1 (i+1) f ys->Tn base B nv1 nv1 w1 w2->x (i+1) f=r->K (qp ρ d (.bool true)) w2)
  (o:∀w2,qo L i [s]=false->Cu base B w tv nv L xs w2 nv1 i f ys->Tn base B nv1 nv1 w1 w2->y i f=r->K (qp ρ d (.bool false)) w2):
  Calls Tryz.prog 117 #[.pointer (some ⟨B,0,none⟩),.string (qb s)] w1 (vL Q d K ρ):=
 yW (xs:=xs) ⟨ys,rfl⟩ b.st b.tn c (fun w2 h e n a c=>q w2 h ⟨e,a,b.fr,b.b0⟩ n c) (fun w2 h e n a c=>o w2 h ⟨e,a,b.fr,b.b0⟩ n c)
theorem jq {ty:TypeId} (a:Cu base B w tv nv L xs w1 nv1 i f ys) (s:Bs) (h:∀v w2,qc w1 w2->Cu base B w tv nv L xs w2 nv1 i f ys->Own 0 9 1 w2 v ([s].map qi)->K (qp ρ d v) w2):
  qB Tryz.prog Q d (.buildSlice 51 1 #[(0,.const (.string ⟨s.toArray⟩))]) ty K ρ w1:=
 Qc a.st a.tn a.b0 s fun v w2 e c n b=>h v w2 e ⟨c,n,a.fr,a.b0⟩ b
theorem jz {ss:List Bs} {k:Unit->M β} {v:AB} (a:Cu base B w tv nv L xs w1 nv1 i f ys) (q:Own 0 9 1 w1 v (ss.map qi)) (b:ss.length<4611686018427387904) (o:bnd (needs L ss) k i f=r) (t:r≠ .oof)
  (hpn:∀c w',PR A' base B tv nv L xs w r (.panicked c) w'->Q.pn ρ c w')
  (h:∀j g nv2 w2,needs L ss i f=.ok () j g->Cu base B w tv nv L xs w2 nv2 j g ys->Tn base B nv1 nv2 w1 w2->k () j g=r->K (qp ρ d (.tuple #[])) w2):
  Calls Tryz.prog 153 #[.pointer (some ⟨B,0,none⟩),v] w1 (vL Q d K ρ):=
 yX (A':=A') ⟨ys,rfl⟩ a.st q b a.tn o t hpn fun j g nv2 w2 n u z e y=>h j g nv2 w2 n ⟨u,e,a.fr,a.b0⟩ z y
theorem vd (b:Cu base B w tv nv L xs w1 nv1 i f ys) (x:NV) (c:Own w.heap.size 3 1 w1 x.kv (x.nd.kids.map encI)) (n:(xs++ys).length<=1000000)
  (h:∀nv2 w2,Cu base B w tv nv L xs w2 nv2 i f (ys++[x])->Tn base B nv1 nv2 w1 w2->K (qp ρ d (.int .i64 ((xs++ys).length:Int))) w2):
  Calls Tryz.prog 140 #[.pointer (some ⟨B,0,none⟩),.agg (qe x).toArray] w1 (vL Q d K ρ):=by
 refine (qBV b.st x (Own.down c (uf _)) n).mono ?_;rintro _ w2 ⟨rfl,nv2,o,e⟩;rw [qcC];refine h nv2 w2 ⟨by simpa using o,b.tn.trans e,fun y a=>?_,b.b0⟩ e;rcases uv.1 a with a|a
 ·exact b.fr y a
 ·obtain rfl:y=x:=by simpa using a
  exact Own.fresh c
theorem kP {t:TypeId} {ty:TypeId} {p v:Operand} {c:Nat} {x x':NV} (E:Cu base B w tv nv L xs w1 nv1 i f ys) (a:NVr B X nv1 w1 x) (q:w.heap.size<=X) (u:qd ρ p=.pointer (some ⟨X,c,none⟩)) (o:c<(qe x).toArray.size)
  (y:(qd ρ v).cells=#[qd ρ v]) (C:(qd ρ v).oneCell=true) (z:jh Tryz.prog t 1=true) (b:(qe x).toArray.set c (qd ρ v) o=(qe x').toArray)
  (h:∀W,Only X w1 W->Cu base B w tv nv L xs W nv1 i f ys->NVr B X nv1 W x'->K (qp ρ d undef) W):qB Tryz.prog Q d (.store t p v) ty K ρ w1:=by
 refine qD u a.blk o y C z fun W n e=>?_;rw [b] at e;exact h W n (E.put a q n) ⟨e,a.neB,a.neR⟩
theorem kQ {b e sz:Nat} {w2:AA} {v:AB} {a:List AB} {x:NV} (o:NVr B X nv1 w1 x) (n:Only X w1 w2) (c:Own b e sz w1 v a) (h:e≠44):Own b e sz w2 v a:=Own.same c fun k t=>by
 obtain ⟨cur,q⟩:=Own.row c t;refine n.block k fun e=>?_;subst e;have:=o.blk.heap;rw [q] at this;cases this;exact h rfl
end
section
variable {L:List Tok} {base B:Nat} {w w':AA} {tv nv nv':AB} {i f:Nat} {xs ys:List NV}
theorem qaO {r:Rs T} {t:T} {v:AB} (b:Cu base B w tv nv L xs w' nv' i f ys) (a:ys.map (·.nd)=t.flat xs.length) (c:v=.int .i64 ((xs.length:Int)+t.size - 1)) (e:ret t i f=r):PR aT base B tv nv L xs w r (.returned v) w':=by
 rw [<-e];exact ⟨_,nv',ys,rfl,b.st,a,b.fr,b.tn,c⟩
theorem Q9 {x:NV} {d:D} {ks:List T} {b:Nat} (h:ys.map (·.nd)=flats b ks) (a:x.nd=⟨d,qg b ks⟩):(ys++[x]).map (·.nd)=(T.mk d ks).flat b:=by
 rw [uy,h];simp [T.flat,a]
theorem qdh {d:D} {ks:List T} (h:ys.map (·.nd)=flats xs.length ks):Value.int .i64 ((xs.length:Int)+(ys.length:Int))=.int .i64 ((xs.length:Int)+(T.mk d ks).size - 1):=by
 have e:ys.length=sizes ks:=by rw [<-flats_len ks xs.length,<-h,uq]
 rw [e,jv];congr 1;omega
theorem xg {r:Rs T} {x:NV} {d:D} {ks:List T} (e:Cu base B w tv nv L xs w' nv' i f (ys++[x])) (a:ys.map (·.nd)=flats xs.length ks) (c:x.nd=⟨d,qg xs.length ks⟩) (b:ret (T.mk d ks) i f=r):
  PR aT base B tv nv L xs w r (.returned (.int .i64 ((xs.length:Int)+(ys.length:Int)))) w':=
 qaO e (Q9 a c) (qdh a) b
end
@[simp] theorem qMK:qk Tryz.prog 353=true:=by kernel_rfl
def qBP {α:Type} {p:Pu α} {bx:Option Nat} {base B:Nat} {w:AA} {tv nv fv:AB} {L:List Tok} {i f:Nat} {xs:List NV} {m:M α} (hf:FnM p.ans bx B L fv m) (hu:Up m) (hz:Sz p.μ 0 m)
  (hc:∀b a,(p.ev b a).cells.size=1/\∀u∈(p.ev b a).cells.toList,u.oneCell'=true) (n:Nat) (h:PSt base B w tv nv L i f xs) (U:Bx B bx w) (hn:xs.length<=2*i+2) (o:vh L n m i f≠ .oof):
  Calls Tryz.prog 353 #[.pointer (some ⟨B,0,none⟩),fv] w (PR (p.ansL 3 1) base B tv nv L xs w (vh L n m i f)):=by
 generalize hr:vh L n m i f=r at o;have aa:bnd (needs L [[40]]) (fun _=>qt L [41] (ret []) (bnd (listed L n m) fun l=>bnd (needs L [[41]]) fun _=>ret l)) i f=r:=hr;have hC:=Cu.start h;refine qD6 fun ρ r0 r1=>?_;simp [qqV,r0,r1];refine jq hC [40] fun v1 w1 R J Y=>?_;simp;refine jz (A':=p.ansL 3 1) J Y (by simp) aa o (fun c w' H=>by simpa using H) ?_;intro j g nv2 w2 af I S W;have hj:=(jP _ _ _ _ _ af);have C:=(U.ext R).keep J.st S;simp [r0];refine jV I W (fun w3 ac e y t=>?_) (fun w3 ac e y t=>?_)
 ·simp;rw [<-t];exact ⟨.slice none 0 0,nv2,[],rfl,e.st,rfl,by simp,e.tn,Own.nil _ _ _ _⟩
 ·simp [qqU,r0,r1];refine qar (A:=p.ansL 3 1) (A':=p.ansL 3 1) (fun ho=>qBr hf hu hz hc n e.st (C.keep I.st y) (by simp;omega) ho) e t o (fun c w' H=>by simpa using H) ?_;intro l j4 g4 v4 nv4 zs w4 hl E q hT4 F ae;simp only [List.nil_append,ua] at E q F;simp [r0];refine jq E [41] fun v5 w5 Z z ab=>?_;simp;refine jz (A':=p.ansL 3 1) z ab (by simp) ae o (fun c w' H=>by simpa using H) ?_;intro j6 g6 V w6 hne6 v O ad;simp;rw [<-ad];refine ⟨v4,V,zs,rfl,v.st,q,v.fr,v.tn, ?_⟩;exact z.keep O ((Own.down F e.size).ext Z) (by decide) (by decide)
@[simp] theorem qNs:qk Tryz.prog 208=true:=by kernel_rfl
def qBQ {α:Type} {p:Pu α} {bx:Option Nat} {base B:Nat} {w:AA} {tv nv fv:AB} {L:List Tok} {i f:Nat} {xs:List NV} {m:M α} (hf:FnM p.ans bx B L fv m) (hu:Up m) (hz:Sz p.μ 0 m)
  (hc:∀b a,(p.ev b a).cells.size=1/\∀u∈(p.ev b a).cells.toList,u.oneCell'=true) (n:Nat) (h:PSt base B w tv nv L i f xs) (U:Bx B bx w) (hn:xs.length<=2*i+2) (o:vh L n m i f≠ .oof):
  Calls Tryz.prog 208 #[.pointer (some ⟨B,0,none⟩),fv] w (PR (p.ansL 9 1) base B tv nv L xs w (vh L n m i f)):=by
 generalize hr:vh L n m i f=r at o;have aa:bnd (needs L [[40]]) (fun _=>qt L [41] (ret []) (bnd (listed L n m) fun l=>bnd (needs L [[41]]) fun _=>ret l)) i f=r:=hr;have hC:=Cu.start h;refine qF0 fun ρ r0 r1=>?_;simp [qs2,r0,r1];refine jq hC [40] fun v1 w1 R J Y=>?_;simp;refine jz (A':=p.ansL 9 1) J Y (by simp) aa o (fun c w' H=>by simpa using H) ?_;intro j g nv2 w2 af I S W;have hj:=(jP _ _ _ _ _ af);have C:=(U.ext R).keep J.st S;simp [r0];refine jV I W (fun w3 ac e y t=>?_) (fun w3 ac e y t=>?_)
 ·simp;rw [<-t];exact ⟨.slice none 0 0,nv2,[],rfl,e.st,rfl,by simp,e.tn,Own.nil _ _ _ _⟩
 ·simp [qs1,r0,r1];refine qar (A:=p.ansL 9 1) (A':=p.ansL 9 1) (fun ho=>qeZ hf hu hz hc n e.st (C.keep I.st y) (by simp;omega) ho) e t o (fun c w' H=>by simpa using H) ?_;intro l j4 g4 v4 nv4 zs w4 hl E q hT4 F ae;simp only [List.nil_append,ua] at E q F;simp [r0];refine jq E [41] fun v5 w5 Z z ab=>?_;simp;refine jz (A':=p.ansL 9 1) z ab (by simp) ae o (fun c w' H=>by simpa using H) ?_;intro j6 g6 V w6 hne6 v O ad;simp;rw [<-ad];refine ⟨v4,V,zs,rfl,v.st,q,v.fr,v.tn, ?_⟩;exact z.keep O ((Own.down F e.size).ext Z) (by decide) (by decide)
@[simp] theorem qNw:qk Tryz.prog 203=true:=by kernel_rfl
def qBR {α:Type} {p:Pu α} {bx:Option Nat} {base B:Nat} {w:AA} {tv nv fv:AB} {L:List Tok} {i f:Nat} {xs:List NV} {m:M α} (hf:FnM p.ans bx B L fv m) (hu:Up m) (hz:Sz p.μ 0 m)
  (hc:∀b a,(p.ev b a).cells.size=2/\∀u∈(p.ev b a).cells.toList,u.oneCell'=true) (n:Nat) (h:PSt base B w tv nv L i f xs) (U:Bx B bx w) (hn:xs.length<=2*i+2) (o:vh L n m i f≠ .oof):
  Calls Tryz.prog 203 #[.pointer (some ⟨B,0,none⟩),fv] w (PR (p.ansL 222 2) base B tv nv L xs w (vh L n m i f)):=by
 generalize hr:vh L n m i f=r at o;have aa:bnd (needs L [[40]]) (fun _=>qt L [41] (ret []) (bnd (listed L n m) fun l=>bnd (needs L [[41]]) fun _=>ret l)) i f=r:=hr;have hC:=Cu.start h;refine qF9 fun ρ r0 r1=>?_;simp [qtb,r0,r1];refine jq hC [40] fun v1 w1 R J Y=>?_;simp;refine jz (A':=p.ansL 222 2) J Y (by simp) aa o (fun c w' H=>by simpa using H) ?_;intro j g nv2 w2 af I S W;have hj:=(jP _ _ _ _ _ af);have C:=(U.ext R).keep J.st S;simp [r0];refine jV I W (fun w3 ac e y t=>?_) (fun w3 ac e y t=>?_)
 ·simp;rw [<-t];exact ⟨.slice none 0 0,nv2,[],rfl,e.st,rfl,by simp,e.tn,Own.nil _ _ _ _⟩
 ·simp [qta,r0,r1];refine qar (A:=p.ansL 222 2) (A':=p.ansL 222 2) (fun ho=>qBs hf hu hz hc n e.st (C.keep I.st y) (by simp;omega) ho) e t o (fun c w' H=>by simpa using H) ?_;intro l j4 g4 v4 nv4 zs w4 hl E q hT4 F ae;simp only [List.nil_append,ua] at E q F;simp [r0];refine jq E [41] fun v5 w5 Z z ab=>?_;simp;refine jz (A':=p.ansL 222 2) z ab (by simp) ae o (fun c w' H=>by simpa using H) ?_;intro j6 g6 V w6 hne6 v O ad;simp;rw [<-ad];refine ⟨v4,V,zs,rfl,v.st,q,v.fr,v.tn, ?_⟩;exact z.keep O ((Own.down F e.size).ext Z) (by decide) (by decide)
def NVr.row {B X:Nat} {nv:AB} {W:AA} {x:NV} (h:NVr B X nv W x):Eng.q4 W ⟨X,0,none⟩ 0 6=some (qe x):=by
 have:=xc h.blk;simpa [qe] using this
@[simp] theorem qNR:qk Tryz.prog 140=true:=by kernel_rfl
@[simp] theorem qMG:qk Tryz.prog 62=true:=by kernel_rfl
@[simp] theorem qMN:qk Tryz.prog 326=true:=by kernel_rfl
@[simp] theorem qM8:qk Tryz.prog 274=true:=by kernel_rfl
@[simp] theorem qM5:qk Tryz.prog 277=true:=by kernel_rfl
@[simp] theorem qMR:qk Tryz.prog 315=true:=by kernel_rfl
theorem kf:jU Tryz.prog 44=some #[.int .u8 0,.string ⟨#[]⟩,.string ⟨#[]⟩,.string ⟨#[]⟩,.int .i64 0,.slice none 0 0]:=by kernel_rfl
theorem xm:jh Tryz.prog 40 1=true:=by kernel_rfl
theorem kL:jh Tryz.prog 9 1=true:=by kernel_rfl
def qHM {L:List Tok} {e:M T} (b:Mt aT L 62 me e) (B:Nat):FnM pT.ans none B L (.func (.func 62) #[.pointer (some ⟨B,0,none⟩)] #[]) e:=
 ⟨62,_,_,rfl,by kernel_rfl,fun base w tv nv i f xs h _ c a=>b base B w tv nv i f xs h c a⟩
def qoL {L:List Tok} {e:M T} (F:Mt aT L 62 me e) (E:Up e) (I:Sz T.size 0 e) (n:Nat):Mt aTs L 326 me (vh L n e):=by
 intro base B w tv nv i f xs u H a;have O:=u.bW;generalize t:vh L n e i f=r at a;refine qEd fun ρ r0=>?_;simp [qq4,r0];refine qar (A:=pT.ansL 3 1) (A':=aTs) (k:=ret) (fun C=>qBP (qHM F B) E I qB3 n (by simpa using u) (fun b h=>by cases h) (by simpa using H) C) (Cu.start u) (by rw [kO];exact t) a (fun c w' z=>by simpa using z) ?_;intro l j g v nv2 zs w2 J q o R y t;simp only [List.nil_append,ua] at q o y;simp;rw [<-t];refine ⟨v,nv2,zs,rfl,q.st, ?_,q.fr,q.tn, ?_⟩
 ·rw [o];exact qo2 l _
 ·have:Own w.heap.size 3 1 w2 v (pT.evL xs.length l):=y;rw [qvx] at this;exact this
def qf (k:Nat) (nm vr ty:Bs) (n:Int) (kv:AB) (kids:List Int):NV:=⟨⟨⟨k,nm,vr,ty,n⟩,kids⟩,kv⟩
theorem qov {L:List Tok} (hL:jJ L) {e:M T} (he:Mt aT L 62 me e) (hu:Up e) (hz:Sz T.size 0 e) (n:Nat):Mt aT L 274 me (Qb L n e):=by
 intro base B w tv nv i f xs hS hn u;generalize hr:Qb L n e i f=r at u;have hil:=hS.il;have htl:=hS.tl;refine qEY fun ρ r0=>?_;simp [qrQ,r0];refine vz (A:=aS) (A':=aT) (fun _ _=>rfl) (F:=120) (fun _ _ _ _ _ _ _ _ h _ _=>x4 h) (Cu.start hS) (by simpa using hn) hr u (fun c w' J=>by simpa using J) ?_;intro s j g v nv1 w1 hna S hT1 hv hr1;change v=_ at hv;subst hv;have hj:=kF _ _ _ _ _ hna;simp;have bu:Tryz.prog.built 44 [(0,.int .u8 5),(1,.string (qb s))]=some (qe (qf 5 s [] [] 0 (.slice none 0 0) [])).toArray:=by kernel_rfl
 rw [bu];dsimp only [qT];refine vR kf (by simp) (by simp [Value.cells,qe]) (by simp [Value.cells,qe,qf]) (by kernel_rfl) fun X w2 hX ac aa _=>?_;simp [Value.cells] at aa;have Y:=S.newN hX ac aa;have hC2:=S.ext ac;have Z:w.heap.size<=X:=Nat.le_trans S.size hX;simp [r0];have rest:∀(ty:Bs) O nv3 j3 g3 y,Cu base B w tv nv L xs O nv3 j3 g3 []->NVr B X nv3 O (qf 5 s [] ty 0 (.slice none 0 0) [])->i<=j3->bnd (vh L n e) (fun ks=>ret (T.mk {kind:=5,name:=s,typ:=ty} ks)) j3 g3=r->
   y 0=.pointer (some ⟨B,0,none⟩)->y 3=.pointer (some ⟨X,0,none⟩)->qjh.wp ⟨Tryz.prog,21,qrP,[]⟩ (qz [.tmp 2] (PR aT base B tv nv L xs w r)) (qM [.tmp 2] (PR aT base B tv nv L xs w r)) y O:=by
  intro ty O nv3 j3 g3 y b U hij t r0 r3;have hjl:=b.st.il;simp [qjh,r0,r3];refine vq (A:=aTs) (A':=aT) (qoL he hu hz n) b (by simp;omega) t u (fun c w' J=>by simpa using J) ?_;intro ks j4 g4 v4 nv4 zs w4 hks q o E a R;simp only [List.nil_append,ua] at q o a;change Own _ _ _ _ _ _ at a;change zs.map (·.nd)=flats xs.length ks at o;have W:=U.turn E;have hz4:=qc2 hz n _ _ _ _ _ hks;have hjl4:=q.st.il;have hzl:zs.length=sizes ks:=by rw [<-flats_len ks xs.length,<-o,uq]
  simp [r3];refine kP (c:=5) (x':=qf 5 s [] ty 0 v4 (qg xs.length ks)) q W Z (by simp) (by simp [qe]) (by simpa using qn a.isl) (by simpa using jf a.isl) xm (by simp [qe,qf]) fun w5 ab H z=>?_;simp [r0,r3,z.row];refine vd H (qf 5 s [] ty 0 v4 (qg xs.length ks)) (kQ W ab (Own.down a b.size) (by decide)) (by simp;omega) fun nv6 w6 I hT6=>?_;simp;exact xg I o rfl R
 refine jV hC2 hr1 (fun O hc3 b C t=>?_) (fun O hc3 b C t=>?_)
 ·have U:=Y.turn C;simp [r0];refine vz (A:=aS) (A':=aT) (fun _ _=>rfl) (QQ hL n) b (by simp;omega) t u (fun c w' J=>by simpa using J) ?_;intro ty j4 g4 v4 nv4 w4 hty q E a R;change v4=_ at a;subst a;have hj4:=((vi n).ok hty).1;simp;refine kP (c:=3) (x':=qf 5 s [] ty 0 (.slice none 0 0) []) q (U.turn E) Z (by simp) (by simp [qe]) (by simp [Value.cells]) (by simp) kL (by simp [qe,qf]) fun w5 ab H z=>?_;simp [r0];refine jq H [125] fun v6 w6 hE6 I hv6=>?_;simp;refine jz (A':=aT) I hv6 (by simp) R u (fun c w' J=>by simpa using J) ?_;intro j7 g7 nv7 w7 V hC7 hT7 hr7;have hj7:=jP _ _ _ _ _ V;exact rest ty w7 nv7 j7 g7 _ hC7 ((z.ext hE6).turn hT7) (by omega) hr7 (by simp [r0]) (by simp)
 ·exact rest [] O nv1 j g _ b (Y.turn C) (by omega) t (by simp [r0]) (by simp)
theorem qot {L:List Tok} (hL:jJ L) {e:M T} (he:Mt aT L 62 me e) (hu:Up e) (hz:Sz T.size 0 e) (n:Nat) (o:Bs):Mt aT L 277 (fun v=> #[v,.string (qb o)]) (zX L n e o):=by
 intro base B w tv nv i f xs Y hn t;generalize hr:zX L n e o i f=r at t;have hil:=Y.il;have htl:=Y.tl;refine qES fun ρ r0 r1=>?_;simp [qrM,r0,r1];refine vz (A:=aS) (A':=aT) (fun _ _=>rfl) (F:=327) (qBn hL) (Cu.start Y) (by simpa using hn) hr t (fun c w' W=>by simpa using W) ?_;intro s j g v nv1 w1 S h hT1 hv H;change v=_ at hv;subst hv;have hj:=qkO _ _ _ _ _ S;have ab:=h.st.il;simp;have bu:Tryz.prog.built 44 [(0,.int .u8 5),(2,.string (qb o)),(1,.string (qb s))]=some (qe (qf 5 s o [] 0 (.slice none 0 0) [])).toArray:=by kernel_rfl
 rw [bu];dsimp only [qT];refine vR kf (by simp) (by simp [Value.cells,qe]) (by simp [Value.cells,qe,qf]) (by kernel_rfl) fun X w2 hX C z _=>?_;simp [Value.cells] at z;have R:=h.newN hX C z;have y:=h.ext C;have V:w.heap.size<=X:=Nat.le_trans h.size hX;simp [r0];refine vq (A:=aTs) (A':=aT) (qoL he hu hz n) y (by simp;omega) H t (fun c w' W=>by simpa using W) ?_;intro ks j4 g4 v4 nv4 zs w4 O q a I b aa;simp only [List.nil_append,ua] at q a b;change Own _ _ _ _ _ _ at b;change zs.map (·.nd)=flats xs.length ks at a;have u:=R.turn I;have hz4:=qc2 hz n _ _ _ _ _ O;have hjl4:=q.st.il;have hzl:zs.length=sizes ks:=by rw [<-flats_len ks xs.length,<-a,uq]
 simp;refine kP (c:=5) (x':=qf 5 s o [] 0 v4 (qg xs.length ks)) q u V (by simp) (by simp [qe]) (by simpa using qn b.isl) (by simpa using jf b.isl) xm (by simp [qe,qf]) fun w5 Z J E=>?_;simp [r0,E.row];refine vd J (qf 5 s o [] 0 v4 (qg xs.length ks)) (kQ u Z (Own.down b y.size) (by decide)) (by simp;omega) fun nv6 w6 U hT6=>?_;simp;exact xg U a rfl aa
theorem qor {L:List Tok} (J:jJ L) {e:M T} (Y:Mt aT L 62 me e) (W:Up e) (hz:Sz T.size 0 e) (n:Nat) {base B:Nat} {w w1:AA} {tv nv nv1:AB} {i f:Nat} {xs ys:List NV} {β:Type} {A':Ans β} {k:T->M β} {r:Rs β} {K:qa->AA->Prop} {Q:Ks} {ρ:qa} {d:Option Nat} (hC:Cu base B w tv nv L xs w1 nv1 i f ys) (Z:(xs++ys).length<=2*i+2)
  (R:bnd (ve L n) (fun s=>bnd (zX L n e s) k) i f=r) (I:r≠ .oof)
  (hpn:∀ρ c w',PR A' base B tv nv L xs w r (.panicked c) w'->Q.pn ρ c w')
  (h1:∀s w2 nv2 j g,Cu base B w tv nv L xs w2 nv2 j g ys->Tn base B nv1 nv2 w1 w2->(∀{y:Option Nat} {K2:qa->AA->Prop} {a:qa},(∀t j g v nv2 zs w2,Cu base B w tv nv L xs w2 nv2 j g (ys++zs)->zs.map (·.nd)=t.flat (xs++ys).length->v=.int .i64 (((xs++ys).length:Int)+t.size - 1)->k t j g=r->K2 (qp a y v) w2)->Calls Tryz.prog 277 #[.pointer (some ⟨B,0,none⟩),.string (qb s)] w2 (vL Q y K2 a))->K (qp ρ d (.string (qb s))) w2):
  Calls Tryz.prog 276 #[.pointer (some ⟨B,0,none⟩)] w1 (vL Q d K ρ):=by
 refine vz (A:=aS) (A':=A') (fun _ _=>rfl) (qos J n) hC Z R I (hpn ρ) ?_;intro s j g v nv2 w2 E b q H z;change v=_ at H;subst H;have hj:=((qaj n).ok E).1;refine h1 s w2 nv2 j g b q fun {y K2 a} U=>?_;refine qar (A:=aT) (A':=A') (fun C=>qot J Y W hz n s base B w2 tv nv2 j g (xs++ys) b.st (by omega) C) b z I (hpn a) ?_;intro t V g3 v3 nv3 zs O ht o h S u F;exact U t V g3 v3 nv3 zs O o h u F
def qBM {L:List Tok} (Z:jJ L) {e:M T} (he:Mt aT L 62 me e) (hu:Up e) (hz:Sz T.size 0 e) (n:Nat):Mt aT L 315 me (yg L n e):=by
 intro base B w tv nv i f xs V hn u;generalize z:yg L n e i f=r at u;refine qEn fun ρ r0=>?_;simp [qrk,r0];refine (wZ V 1 (by decide)).mono ?_;rintro _ w1 ⟨rfl,y⟩;simp [vF,r0];refine (wZ (V.ext y) 0 (by decide)).mono ?_;rintro _ w2 ⟨rfl,S⟩;have F:=(Cu.start V).ext (y.trans' S);have e1:(⟨#[40]⟩:ByteArray)=qb [40]:=rfl;have e2:(⟨#[123]⟩:ByteArray)=qb [123]:=rfl;have hk:(((tk L i).kind:Int)=1)↔(tk L i).kind=1:=by omega
 simp [vF,e1,e2,vv,hk,r0];unfold yg at z;by_cases v:(tk L i).kind=1/\((tk L (i+1)).text=[40]\/(tk L (i+1)).text=[123])
 ·rw [j0 v] at z;have hb:(if (tk L i).kind=1 then (if (tk L (i+1)).text=[40] then true else decide ((tk L (i+1)).text=[123])) else false)=true:=by simpa using v
  simp [v.1,v.2,r0];refine vq (A:=aT) (A':=aT) (k:=ret) (qov Z he hu hz n) F (by simpa using hn) (by rw [kO];exact z) u (fun c w' O=>by simpa using O) ?_;intro t j3 g3 v3 nv3 zs w3 ht o b J E W;simp only [List.nil_append,ua] at o b E;simp;exact qaO o b E W
 ·rw [q3 v] at z;have go:∀q:qa,q 0=.pointer (some ⟨B,0,none⟩)->qjd.wp ⟨Tryz.prog,25,qrj,[]⟩ (qz [.tmp 2] (PR aT base B tv nv L xs w r)) (qM [.tmp 2] (PR aT base B tv nv L xs w r)) q w2:=by
   intro q r0;simp [qjd,r0];refine qor (A':=aT) (k:=ret) Z he hu hz n F (by simpa using hn) (by simpa only [kO] using z) u (fun ρ c w' O=>by simpa using O) fun s w3 nv3 j g o J I=>?_;simp [r0];refine I fun t j4 g4 v4 nv4 zs w4 C a H R=>?_;simp only [List.nil_append,ua] at C a H;simp;exact qaO C a H R
  by_cases U:(tk L i).kind=1
  ·have Y:¬((tk L (i+1)).text=[40]\/(tk L (i+1)).text=[123]):=fun h=>v ⟨U,h⟩;have h3:(tk L (i+1)).text≠[40]:=fun h=>Y (.inl h);have h4:(tk L (i+1)).text≠[123]:=fun h=>Y (.inr h);simp [U,h3,h4,r0];exact go _ (by simp [r0])
  ·simp [U,r0];exact go _ (by simp [r0])
end Go.L02
