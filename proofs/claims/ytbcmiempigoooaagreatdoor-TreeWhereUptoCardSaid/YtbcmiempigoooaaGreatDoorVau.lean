/- Lemmas for a claim about layer 2 (tree). No conditions but those they state. -/
import Derived.Test.YtbcmiempigoooaaGreatDoorVat
import Derived.Lib.Split
set_option linter.all false
namespace Go.L02
open Go.Eng Go.L01
def qgV {p:UInt8->Bool} (a:p 10=false) (two:Bs):∀s:Bs,(s++10::two).takeWhile p=s.takeWhile p
 |[]=>by simp [List.takeWhile_cons,a]
 |c::s=>by
  rw [List.cons_append,List.takeWhile_cons,List.takeWhile_cons,qgV a two s]
def wA {p:UInt8->Bool}:∀s:Bs,(s.takeWhile p).length<=s.length
 |[]=>kh _
 |c::s=>by
  rw [List.takeWhile_cons];split
  ·simpa using wA s
  ·simp
def qHZ {c:UInt8} {r two:Bs} (h:(first (c::r)).2.2≠0):(first (c::r++10::two)).2.2≠0:=by
 have g:(c::r++10::two).getD 0 0=(c::r).getD 0 0:=rfl;have n:qX (c::r++10::two)=qX (c::r):=by unfold qX;rw [qgV (by decide)]
 have i:jO (c::r++10::two)=jO (c::r):=by unfold jO;rw [qgV (by decide)]
 unfold first at h⊢
 rw [g,n,i,JR (show qX (c::r)<=(c::r).length from wA _),JR (show jO (c::r)<=(c::r).length from wA _)];split
 ·rename_i b;rw [j0 b] at h;exact h
 ·rename_i b;rw [q3 b] at h;split
  ·rename_i a;rw [j0 a] at h;exact h
  ·rename_i a;rw [q3 a] at h;have m:jA ((c::r++10::two).take 1)=jA ((c::r).take 1):=rfl;have k:jA ((c::r++10::two).take 2)=false:=by
    cases r with
    |nil=>simp [jA,ji]
    |cons d x=>
     split at h
     ·exact absurd rfl h
     ·rename_i l;have:¬jA ((c::d::x).take 2)=true:=fun e=>l ⟨by simp,e⟩;simpa using this
   rw [k,m,q3 (by simp)];split at h
   ·exact absurd rfl h
   ·split at h
    ·exact absurd rfl h
    ·rename_i j;rw [q3 j];decide
def qJT (two one:Bs) (l:Int):∀e k,qF one l=.bad e k->∃n m,qF (one++10::two) l=.bad n m:=by
 refine qb0 (P:=fun one l=>∀e k,qF one l=.bad e k->∃n m,qF (one++10::two) l=.bad n m) ?_ ?_ ?_ ?_ ?_ ?_ one l
 ·intro l e k h;rw [QP] at h;cases h
 ·intro r l g e k h;rw [wV] at h;rw [List.cons_append,wV];exact g e k h
 ·intro c r l v g e k h;rw [yw r l v] at h;rw [List.cons_append,yw _ l v];exact g e k h
 ·intro a r l y b g e k h;rw [qay l y b] at h;rw [un,qay l y (by rcases b with rfl|⟨x,rfl⟩<;>simp)];cases i:qF r l with
  |ok o cs'=>rw [i] at h;cases h
  |bad p k1=>obtain ⟨q,k2,j⟩:=g p k1 i;rw [j];exact ⟨q,k2,rfl⟩
 ·intro c r l C j z A B e k h;rw [List.cons_append,qb2 l C j z A (by rw [<-List.cons_append];exact qHZ B)];exact ⟨_,_,rfl⟩
 ·intro k s r l b u g e m h;rw [yZ (wq b).1 u (wY b)] at h;have t:first (s++(r++10::two))=(k,s.length,0):=by
   refine qvo (wq b).1 u ?_;cases r with
   |nil=>exact .inr ⟨10,two,rfl,.inl (by decide)⟩
   |cons c x=>exact .inr ⟨c,x++10::two,rfl,.inr ⟨x,rfl⟩⟩
  rw [un,yZ (wq b).1 t (wY b)];cases i:qF r l with
  |ok o cs'=>rw [i] at h;cases h
  |bad p k1=>obtain ⟨q,k2,j⟩:=g p k1 i;rw [j];exact ⟨q,k2,rfl⟩
def qCT (s:Bs) (l:Int):∀t∈(qF s l).toks,t.line<=l+qO s:=by
 refine qb0 (P:=fun s l=>∀t∈(qF s l).toks,t.line<=l+qO s) ?_ ?_ ?_ ?_ ?_ ?_ s l
 ·intro l t b;rw [QP] at b;cases b
 ·intro r l g t b;rw [wV] at b;have:=g t b;have:qO (10::r)=qO r+1:=by simp [qO]
  omega
 ·intro c r l n g t b;rw [yw r l n] at b;have:=g t b;have:qO (c::r)=qO r:=by rcases n with rfl|rfl<;>simp [qO]
  omega
 ·intro a r l u i g t b;rw [qay l u i] at b;have j:qO r<=qO (37::a++r):=by rw [qcc];omega
  cases h:qF r l with
  |bad e x=>rw [h] at b;cases b
  |ok m cs'=>
   rw [h] at b g;have:=g t (by simpa [Res.add,Res.toks] using b);omega
 ·intro c r l y j p q v t b;rw [qb2 l y j p q v] at b;cases b
 ·intro k s r l i o g t b;rw [yZ (wq i).1 o (wY i)] at b;have j:qO r<=qO (s++r):=by rw [qcc];omega
  cases h:qF r l with
  |bad e x=>rw [h] at b;cases b
  |ok m cs'=>
   rw [h] at b g;simp only [Res.add,Res.toks,List.singleton_append,ug] at b;rcases b with rfl|b
   ·show l<=_;omega
   ·have:=g t (by simpa [Res.toks] using b);omega
def qHY (s:Bs):(first s).2.2≠20:=by
 unfold first
 repeat' split
 all_goals simp
def qH7 (s:Bs) (l:Int):∀e k,qF s l=.bad e k->e≠20:=by
 refine qb0 (P:=fun s l=>∀e k,qF s l=.bad e k->e≠20) ?_ ?_ ?_ ?_ ?_ ?_ s l
 ·intro l e k h;rw [QP] at h;cases h
 ·intro r l g e k h;rw [wV] at h;exact g e k h
 ·intro c r l o g e k h;rw [yw r l o] at h;exact g e k h
 ·intro a r l q i g e k h;rw [qay l q i] at h;cases b:qF r l with
  |ok j cs'=>rw [b] at h;cases h
  |bad u k1=>rw [b] at h;cases h;exact g _ _ b
 ·intro c r l x t n p v e k h;rw [qb2 l x t n p v] at h;cases h;exact qHY _
 ·intro k s r l i m g e y h;rw [yZ (wq i).1 m (wY i)] at h;cases b:qF r l with
  |ok j cs'=>rw [b] at h;cases h
  |bad u k1=>rw [b] at h;cases h;exact g _ _ b
def qzh {s:Bs} {e l:Int} (h:qC s=.bad e l):e≠20:=by
 unfold qC at h;split at h
 ·cases h;decide
 ·exact qH7 _ _ _ _ h
def qu8:∀s:Bs,(Lib.index s [10]= -1/\qO s=0)\/∃a r,s=a++10::r/\(∀c∈a,c≠10)/\Lib.index s [10]=(a.length:Int)
 |[]=> .inl ⟨rfl,rfl⟩
 |c::s=>by
  by_cases b:c=10
  ·subst b;exact .inr ⟨[],s,rfl,by simp,by simp [Lib.index,List.isPrefixOf]⟩
  ·have i:([10]:Bs).isPrefixOf (c::s)=false:=by simp [List.isPrefixOf,ub b]
   rcases qu8 s with ⟨g,e⟩|⟨a,r,g,e,j⟩
   ·exact .inl ⟨by rw [Lib.index,i,g];rfl,by simpa [qO,b] using e⟩
   ·refine .inr ⟨c::a,r,by rw [g];rfl,fun d h=>?_, ?_⟩
    ·rcases ug.1 h with rfl|h
     ·exact b
     ·exact e d h
    ·rw [Lib.index,i,j];have:¬((a.length:Int)== -1)=true:=by simp
     simp [this]
def qgI (xs:List Bs) (s:Bs):Prop:=xs.flatten=s/\xs.length=qO s+1/\∀m,m<qO s->∃one,(xs.take (m+1)).flatten=one++[10]/\qO one=m
def qpi:∀(k:Nat) (s:Bs),qO s=k->qgI (Lib.splitK [10] 1 k s) s
 |0,s,h=>by
  refine ⟨by simp [Lib.splitK],by simp [Lib.splitK,h],fun m p=>by omega⟩
 |k+1,s,h=>by
  rcases qu8 s with ⟨_,g⟩|⟨a,r,rfl,b,n⟩
  ·omega
  ·have c:qO r=k:=by
    rw [qcc,qdI b] at h;have:qO (10::r)=qO r+1:=by simp [qO]
    omega
   obtain ⟨o,g,i⟩:=qpi k r c;have l:¬((a.length:Int)== -1)=true:=by simp
   have e:Lib.splitK [10] 1 (k+1) (a++10::r)=(a++[10])::Lib.splitK [10] 1 k r:=by
    rw [Lib.splitK,n,q3 l];simp only [Int.toNat_natCast];congr 1
    ·rw [show a++10::r=(a++[10])++r by simp,JR (by simp),uz (by simp)]
    ·rw [show a++10::r=(a++[10])++r by simp,List.drop_left' (by simp)]
   refine ⟨by rw [e,List.flatten_cons,o];simp,by rw [e,List.length_cons,g,h,c],fun m p=>?_⟩;rw [e,List.take_succ_cons,List.flatten_cons];cases m with
   |zero=>exact ⟨a,by simp,qdI b⟩
   |succ m=>
    obtain ⟨one,j,q⟩:=i m (by omega);refine ⟨a++10::one,by rw [j];simp, ?_⟩;rw [qcc,qdI b];have:qO (10::one)=qO one+1:=by simp [qO]
    omega
def qgI.two {xs:List Bs} {s:Bs} (h:qgI xs s) {m:Nat} (c:m<qO s):∃one two,(xs.take (m+1)).flatten=one++[10]/\qO one=m/\s=one++10::two:=by
 obtain ⟨one,a,b⟩:=h.2.2 m c;refine ⟨one,(xs.drop (m+1)).flatten,a,b, ?_⟩;rw [<-h.1]
 conv=>lhs;rw [<-u5 (m+1) xs]
 rw [Ju,a];simp
def qg6 {s:Bs} {l:Int} {a:List Tok} {cs:List Bs} (h:qF s l=.ok a cs):(∀t∈a,l<=t.line)/\∀t∈a,t.line<=l+qO s:=by
 have c:=(qmL s l).1;have b:=qCT s l;rw [h] at c b;exact ⟨fun t e=>(c.right t e).2,b⟩
def qm8 {s:Bs} {a:List Tok} {cs:List Bs} (h:qC s=.ok a cs):qF s 1=.ok a cs:=by
 unfold qC at h;split at h
 ·cases h
 ·exact h
def qma {L:List Tok} {i:Nat} (h:i<L.length):tk L i∈L:=by
 unfold tk;rw [uH,uj h];exact uo h
def qCU {s:Bs} {L:List Tok} {cs:List Bs} (h:qC s=.ok L cs) (F:Nat):1<=vO L F/\vO L F<=qO s+1:=by
 obtain ⟨c,b⟩:=qg6 (qm8 h);unfold vO;split
 ·omega
 ·have a:=qma (L:=L) (i:=min F (L.length - 1)) (by omega);exact ⟨c _ a,by have:=b _ a;omega⟩
def qxn {one two:Bs} {L:List Tok} {cs:List Bs} (h:qC (one++10::two)=.ok L cs) {F:Nat} (x:jL L (L.length+3) (L.length+3) 0 0=.no F) (z:vO L F=qO one+2):
  ∃a cs',qC (one++[10])=.ok a cs'/\∀g,jL a (a.length+3) (a.length+3) 0 0=.no g->vO a g=vO a a.length:=by
 have q:=qm8 h;have j:(one++10::two).length<=20000:=by
  unfold qC at h;split at h
  ·cases h
  ·omega
 cases m:qF one 1 with
 |bad e k=>
  obtain ⟨B,E,p⟩:=qJT two one 1 e k m;rw [p] at q;cases q
 |ok a b=>
  have c:=qm6 two one 1 a b m;have s:=qm6 [] one 1 a b m;rw [QP] at s;rw [q] at c;have l:∃xK,L=a++xK/\∀t∈xK,(1:Int)+qO one+1<=t.line:=by
   cases o:qF two (1+qO one+1) with
   |bad e k=>rw [o] at c;cases c
   |ok xK y=>
    rw [o] at c;simp only [Res.add,Res.ok.injEq] at c;exact ⟨xK,c.1,(qg6 o).1⟩
  obtain ⟨xK,rfl,_⟩:=l;refine ⟨a,b,by unfold qC;rw [q3 (by simp only [ky,List.length_cons,List.length_nil] at j⊢;omega),s];simp [Res.add],fun g v=>?_⟩;have u:a.length<=F:=by
   refine Nat.le_of_not_lt fun i=>?_;have p:vO (a++xK) F=(tk a F).line:=by
    unfold vO;rw [q3 (by rw [ky];omega),show min F ((a++xK).length - 1)=F by rw [ky];omega,<-wS (Vb a xK) i]
   have C:(tk a F).line<=1+(qO one:Int):=(qg6 m).2 _ (qma i);rw [p] at z;omega
  have A:=qAC (Vb a xK) (n:=a.length+3) (N:=(a++xK).length+3) (by simp) v x u;unfold vO;split
  ·rfl
  ·rw [show min g (a.length - 1)=a.length - 1 by omega,show min a.length (a.length - 1)=a.length - 1 by omega]
end Go.L02
