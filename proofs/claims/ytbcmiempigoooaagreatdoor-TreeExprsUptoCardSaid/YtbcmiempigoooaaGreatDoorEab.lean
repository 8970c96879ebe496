/- Lemmas for a claim about layer 2 (tree). No conditions but those they state. -/
import Derived.Test.YtbcmiempigoooaaGreatDoorEaa
import Derived.Laws.BytesString
set_option linter.all false
namespace Go.Eng
open Go.RowKit
def xT {v:Value} (h:qu v=true):(∃b o n c,v=.slice (some ⟨b,o,none⟩) n c/\n<=c)\/v=.slice none 0 0\/∃b o s,v=.slice (some ⟨b,o,some s⟩) 0 0:=by
  unfold qu at h;split at h
  · rename_i b o n c;exact .inl ⟨b,o,n,c,rfl,by simpa using h⟩
  · rename_i b o s;exact .inr (.inr ⟨b,o,s,rfl⟩)
  · exact .inr (.inl rfl)
  · cases h
def qit {P:Program} (w:World) (a:Addr):∀(n i:Nat) (l:List Value) (b:Array Value),jG w a i n=some l->
    (loadCellsFrom a i n b).run P w=.ok (b++l.toArray) w
  |0,i,l,b,h=>by
    simp only [jG,ub] at h;subst h;simp [loadCellsFrom]
  |n+1,i,l,b,h=>by
    simp only [jG,uc,ub] at h;obtain ⟨v,g,j,c,rfl⟩:=h;have e:=qit (P:=P) w a n (i+1) j (b.push v) c;simp only [loadCellsFrom,load,Sem.run_bind];rw [show (Sem.load Mode.plain (a.add i) Sem.pure).run P w=.ok v w by simp [Sem.run,g]];simp only [Result.andThen_ok];rw [e];simp
def qiv {P:Program} {t:TypeId} {i:TypeInfo} (h:P.info? t=some i) (w:World):(typeInfo t).run P w=.ok i w:=by
  simp [typeInfo,h]
def qa9 {P:Program} {t:TypeId} {i:TypeInfo} (h:P.info? t=some i) (w:World):(sizeOf t).run P w=.ok i.size w:=by
  simp [sizeOf,qiv h]
def qe3 {P:Program} {t:TypeId} {b:Bool} (h:kY P t=some b) (w:World):(isAgg t).run P w=.ok b w:=by
  unfold kY at h;cases a:P.underlying t with
  |none=>simp [a] at h
  |some d=>
    simp only [a] at h;simp only [isAgg,Sem.run_bind,run_underlying a,Result.andThen_ok];cases d<;>simp_all
def qiw {P:Program} (w:World) (op:BinOp) (t:TypeId) (x y:Operand) (k c:IntKind) (a b:Int):
    (eqGuard op t x y (.int k a) (.int c b)).run P w=.ok () w:=by
  unfold eqGuard;cases op<;>simp
def qn7 {P:Program} (w:World) (op:BinOp) (t:TypeId) (x y:Operand) (a b:ByteArray):
    (eqGuard op t x y (.string a) (.string b)).run P w=.ok () w:=by
  unfold eqGuard;cases op<;>simp
def qn8 {P:Program} (w:World) (op:BinOp) (t:TypeId) (x y:Operand) (a b:Bool):
    (eqGuard op t x y (.bool a) (.bool b)).run P w=.ok () w:=by
  unfold eqGuard;cases op<;>simp
def qJt (x y:ByteArray):x.data=y.data↔x=y:=by
  constructor
  · intro h;cases x;cases y;congr
  · rintro rfl;rfl
def qJu (x y:ByteArray):(x.data==y.data)=decide (x=y):=by
  rw [uJ];simp [qJt]
def qn3 {P:Program} (w:World) (b:Bool) (len cap:Nat) (kl a:IntKind) (l h:Int) (e:0<=l) (c:l<=h) (g:h<=cap):
    (Instr.sliceBounds b len cap (some (.int kl l)) (some (.int a h)) none).run P w=.ok (l.toNat,h.toNat,cap) w:=by
  have:(h.toNat:Int)=h:=Jt (by omega);simp [Instr.sliceBounds,run_sliceBound, *,(by omega:(0:Int)<=h)]
def qn0 {P:Program} (w:World) (b:Bool) (len cap:Nat) (kl:IntKind) (l:Int) (c:0<=l) (a:l<=len):
    (Instr.sliceBounds b len cap (some (.int kl l)) none none).run P w=.ok (l.toNat,len,cap) w:=by
  simp [Instr.sliceBounds,run_sliceBound, *]
def qn2 {P:Program} (w:World) (b:Bool) (len cap:Nat):
    (Instr.sliceBounds b len cap none none none).run P w=.ok (0,len,cap) w:=by
  simp [Instr.sliceBounds]
def qn1 {P:Program} (w:World) (b:Bool) (len cap:Nat) (a:IntKind) (h:Int) (c:0<=h) (e:h<=cap):
    (Instr.sliceBounds b len cap none (some (.int a h)) none).run P w=.ok (0,h.toNat,cap) w:=by
  simp [Instr.sliceBounds,run_sliceBound, *]
def qz6 {P:Program} (w:World) (b:Bool) (len cap:Nat) (kl a c:IntKind) (l h m:Int) (k:0<=l) (j:l<=h) (e:h<=m) (g:m<=cap):
    (Instr.sliceBounds b len cap (some (.int kl l)) (some (.int a h)) (some (.int c m))).run P w=.ok (l.toNat,h.toNat,m.toNat) w:=by
  have o:(h.toNat:Int)=h:=Jt (by omega);have i:(m.toNat:Int)=m:=Jt (by omega);simp [Instr.sliceBounds,run_sliceBound, *,(by omega:(0:Int)<=h),(by omega:(0:Int)<=m)]
def qz5 {P:Program} (w:World) (b:Bool) (len cap:Nat) (c a:IntKind) (h m:Int) (g:0<=h) (j:h<=m) (e:m<=cap):
    (Instr.sliceBounds b len cap none (some (.int c h)) (some (.int a m))).run P w=.ok (0,h.toNat,m.toNat) w:=by
  have i:(m.toNat:Int)=m:=Jt (by omega);simp [Instr.sliceBounds,run_sliceBound, *,(by omega:(0:Int)<=m)]
def qis {P:Program} (w:World) {t e:TypeId} {i:TypeInfo} (k:P.underlying t=some (.slice e)) (x:P.info? e=some i) {v:Value} (p:qu v=true)
    {g a mx:Option Value} {l h m:Nat} (j:(Instr.sliceBounds true (ql v) (qy v) g a mx).run P w=.ok (l,h,m) w):
    (Instr.sliceAt t v g a mx).run P w=.ok (qZ v i.size l h m) w:=by
  have u:(Instr.sliceAt t v g a mx).run P w=(Instr.slice t v g a mx).run P w:=by simp [Instr.sliceAt,run_underlying k]
  rw [u];rcases xT p with ⟨b,o,n,c,rfl,_⟩|rfl|⟨b,o,s,rfl⟩<;>
    (simp only [ql,qy] at j;simp [Instr.slice,run_underlying k,j,qa9 x,qZ])
def qnZ {P:Program} (w:World) {t:TypeId} (e:P.underlying t=some .string) (s:ByteArray)
    {b a:Option Value} {l h m:Nat} (c:(Instr.sliceBounds false s.size s.size b a none).run P w=.ok (l,h,m) w):
    (Instr.sliceAt t (.string s) b a none).run P w=.ok (.string (s.extract l h)) w:=by
  simp [Instr.sliceAt,Instr.slice,run_underlying e,c]
section
variable {P:Program} {w:World} {f:Operand->Value} {v:Value} {dst:Option Tmp} {type:TypeId} {pos:String} {after:Array Edge} {guard:Option (Nat×Bool)}
theorem qdu {k:K1} {x:Value} (h:jd w k x=some v) (b:(∃n,k=.loadN n)\/k=.load1\/(∃o,k=.fadr o)):∃a,x=.pointer (some a):=by
  rcases b with ⟨n,rfl⟩|rfl|⟨o,rfl⟩<;>(cases x<;>first|(cases h;done)|skip)<;>rename_i a<;>cases a<;>first|(cases h;done)|exact ⟨_,rfl⟩
theorem qn5 {t:TypeId} {a:Operand} (i:kY P t=some false) (b:jd w .load1 (f a)=some v):
    (execOp f ⟨dst,.load t a,type,pos,after,guard⟩).run P w=.ok (.value v) w:=by
  obtain ⟨g,e⟩:=qdu b (.inr (.inl rfl));rw [e] at b;have c:w.cell? g=some v:=b;have h:(load g).run P w=.ok v w:=by simp [load,Sem.run,c]
  have j:=qe3 (P:=P) i w;simp only [execOp,e,Instr.loadAt,Instr.sureAddr,loadVar,Sem.run_bind,Sem.run_pure,Result.andThen_ok,j,uf,km,h]
theorem qe2 {t:TypeId} {i:TypeInfo} {a:Operand} (k:kY P t=some true) (g:P.info? t=some i) (b:jd w (.loadN i.size) (f a)=some v):
    (execOp f ⟨dst,.load t a,type,pos,after,guard⟩).run P w=.ok (.value v) w:=by
  obtain ⟨e,c⟩:=qdu b (.inl ⟨_,rfl⟩);rw [c] at b;obtain ⟨l,h,rfl⟩:=ua.1 (show (jG w e 0 i.size).map _=some v from b);have j:=qit (P:=P) w e i.size 0 l #[] h;have m:=qe3 (P:=P) k w;simp only [execOp,c,Instr.loadAt,Instr.sureAddr,loadVar,loadCells,Sem.run_bind,Sem.run_pure,Result.andThen_ok,m,kk,qa9 g,j];simp
theorem qAa {op:BinOp} {t h:TypeId} {x y:Operand} (c:op=.shl\/op=.shr) (a:vl w (.shf op) (f x) (f y)=some v):
    (execOp f ⟨dst,.binOp op t x y h,type,pos,after,guard⟩).run P w=.ok (.value v) w:=by
  cases e:f x<;>simp only [e] at a<;>first|(cases a;done)|skip
  cases g:f y<;>simp only [g] at a<;>first|(cases a;done)|skip
  simp only [vl,qeY] at a;split at a
  · cases a
  · rename_i b;rcases c with rfl|rfl<;>(simp only [ub] at a;subst a;simp [execOp,e,g,qiw,binOp,Op.shift,b])
theorem qAj {op : BinOp} {k : IntKind} {t h : TypeId} {x y : Operand} (b : ¬ (op =.shl \/ op =.shr)) (a : vl w (.ibin op k) (f x) (f y) = some v) :
    (execOp f ⟨dst,.binOp op t x y h,type,pos,after,guard⟩).run P w=.ok (.value v) w:=by
  cases e:f x<;>simp only [e] at a<;>first|(cases a;done)|skip
  cases c:f y<;>simp only [c] at a<;>first|(cases a;done)|skip
  simp only [vl] at a;split at a
  · rename_i g;subst g;cases op<;>simp only [qcu] at a<;>
      first
        |(cases a;simp [execOp,e,c,qiw,binOp,Op.intArith,Op.intBits,Op.intCmp];done)
        |(exfalso;simp at b;done)
        | (split at a
           · cases a
           · rename_i i;cases a;simp [execOp,e,c,qiw,binOp,Op.intDiv,i])
  · cases a
theorem qAb {op:BinOp} {t g:TypeId} {x y:Operand} (a:vl w (.sbin op) (f x) (f y)=some v):
    (execOp f ⟨dst,.binOp op t x y g,type,pos,after,guard⟩).run P w=.ok (.value v) w:=by
  cases b:f x<;>simp only [b] at a<;>first|(cases a;done)|skip
  cases c:f y<;>simp only [c] at a<;>first|(cases a;done)|skip
  rename_i h i;simp only [vl] at a;cases op <;> simp only [qY] at a <;>
    first
      |(cases a;simp [execOp,b,c,qn7,binOp,Op.stringOp,ByteArray.toList_eq,qJu];done)
      | (split at a
         · rename_i j;cases a;have e:¬((h.size+i.size:Nat):Int)>IntKind.i64.max:=by
             simp only [maxLen] at j;simp [IntKind.max,IntKind.bits,IntKind.signed];omega
           simp only [execOp,b,c,binOp,Op.stringOp,Sem.run_bind,qn7,Result.andThen_ok];rw [if_neg e];simp
         · cases a)
      |(cases a;done)
theorem qAs {op:BinOp} {t g:TypeId} {x y:Operand} (e:P.underlying t=some .bool) (a:vl w (.bbin op) (f x) (f y)=some v):
    (execOp f ⟨dst,.binOp op t x y g,type,pos,after,guard⟩).run P w=.ok (.value v) w:=by
  cases op<;>first|(cases a;done)|skip
  all_goals
    cases b:f x<;>simp only [b] at a<;>first|(cases a;done)|skip
    cases c:f y<;>simp only [c] at a<;>first|(cases a;done)|skip
  · cases a;simp [execOp,b,c,qn8,run_eql_bool w t _ _ e]
  · cases a;simp [execOp,b,c,qn8,run_neq_bool w t _ _ e]
theorem qiq {op:UnOp} {k:K1} {t:TypeId} {x:Operand} (c:(op=.not/\k=.not)\/(op=.neg/\k=.neg)\/(op=.xor/\k=.bnot)) (a:jd w k (f x)=some v):
    (execOp f ⟨dst,.unOp op t x,type,pos,after,guard⟩).run P w=.ok (.value v) w:=by
  rcases c with ⟨rfl,rfl⟩|⟨rfl,rfl⟩|⟨rfl,rfl⟩<;>
    (cases b:f x<;>simp only [b] at a<;>first|(cases a;done)|skip)<;>
    (cases a;simp [execOp,b,Op.unary,Op.intArith,Op.intBits])
theorem qAp {k:IntKind} {s d:TypeId} {ds:TypeDesc} {x:Operand} (c:P.underlying s=some ds) (e:P.underlying d=some (.int k)) (a:jd w (.conv k) (f x)=some v):
    (execOp f ⟨dst,.convert s d x,type,pos,after,guard⟩).run P w=.ok (.value v) w:=by
  cases b:f x<;>simp only [b] at a<;>first|(cases a;done)|skip
  cases a;simp [execOp,b,convert,run_underlying c,run_underlying e,Conv.intToInt]
theorem qz2 {s d:TypeId} {x:Operand} (c:P.underlying s=some .string) (e:P.underlying d=some .string) (a:jd w .strid (f x)=some v):
    (execOp f ⟨dst,.convert s d x,type,pos,after,guard⟩).run P w=.ok (.value v) w:=by
  cases b:f x<;>simp only [b] at a<;>first|(cases a;done)|skip
  cases a;simp [execOp,b,convert,run_underlying c,run_underlying e]
theorem qw6:∀(l:List Value) (a:List Int),wc l=some a->l=a.map (Value.int .u8)
  |[],a,h=>by simp only [wc,ub] at h;subst h;rfl
  | x :: l, a, h => by
    unfold wc at h;split at h
    · rename_i e;cases e
    · rename_i n c e;cases e;obtain ⟨m,b,rfl⟩:=ua.1 h;rw [qw6 l m b];rfl
    · cases h
theorem qAt {s d e:TypeId} {x:Operand} (m:P.underlying s=some (.slice e)) (k:P.underlying d=some .string) (p:P.underlying e=some (.int .u8)) (A:jd w .b2s (f x)=some v):
    (execOp f ⟨dst,.convert s d x,type,pos,after,guard⟩).run P w=.ok (.value v) w:=by
  have i:(if qu (f x)=true then (jG w (qQ (f x) 0) 0 (ql (f x))).bind fun l=>(wc l).map fun j=>Value.string (Jf j) else none)=some v:=A;split at i
  · rename_i u;obtain ⟨l,g,z⟩:=uc.1 i;obtain ⟨j,a,rfl⟩:=ua.1 z;rcases xT u with ⟨b,o,n,c,h,_⟩|h|⟨b,o,sp,h⟩
    rotate_left 2
    · rw [h] at g;simp only [ql,jG,ub] at g;subst g;simp only [wc,ub] at a;subst a;have t:=run_bytesToString (P:=P) w ⟨b,o,some sp⟩ 0 0 [] (by simp [loadCells,loadCellsFrom]);simp only [execOp,h,Sem.run_bind,run_convert_bytes_string w s d e _ 0 0 m p k,t,Result.andThen_ok];rfl
    · rw [h] at g;simp only [qQ,ql,Nat.add_zero] at g;have y:=qit (P:=P) w _ _ 0 l #[] g;rw [qw6 l j a] at y;have t:=run_bytesToString (P:=P) w ⟨b,o,none⟩ n c j (by simpa [loadCells] using y);simp only [execOp,h,Sem.run_bind,run_convert_bytes_string w s d e _ n c m p k,t,Result.andThen_ok];rfl
    · rw [h] at g;simp only [ql,jG,ub] at g;subst g;simp only [wc,ub] at a;subst a;simp only [execOp,h,Sem.run_bind,run_convert_bytes_string w s d e _ 0 0 m p k];simp [Conv.bytesToString,Jf]
  · cases i
theorem qz9 {t e : TypeId} {i : TypeInfo} {x : Operand} {c : Option Operand} (o : P.underlying t = some (.slice e)) (u : P.info? e = some i) (s : ∀ v, f (.const v) = v)
    (a:vl w (.slLo i.size) (f x) (f (c.getD xJ))=some v):
    (execOp f ⟨dst,.slice t x c none none,type,pos,after,guard⟩).run P w=.ok (.value v) w:=by
  cases b:f (c.getD xJ)<;>simp only [b] at a<;>first|(cases a;done)|skip
  rename_i k l;simp only [vl] at a;split at a
  · rename_i p;obtain ⟨y,g,j⟩:=p;cases a;have m:(Instr.sliceBounds true (ql (f x)) (qy (f x)) (c.map f) none none).run P w=.ok (l.toNat,ql (f x),qy (f x)) w:=by
      cases c with
      |none=>
        have:l=0:=by have:=s (.int .i64 0);simp only [Option.getD_none,xJ,this,Value.int.injEq] at b;exact b.2.symm
        subst this;exact qn2 w _ _ _
      |some h=>
        simp only [Option.getD_some] at b;simp only [Option.map_some,b];exact qn0 w _ _ _ _ _ g j
    have:=qis w o u y m;simp [execOp,this]
  · cases a
theorem qz8 {t e : TypeId} {i : TypeInfo} {x g : Operand} {b : Option Operand} (y : P.underlying t = some (.slice e)) (B : P.info? e = some i) (A : ∀ v, f (.const v) = v)
    (a:yS w (.slLoHi i.size) (f x) (f (b.getD xJ)) (f g)=some v):
    (execOp f ⟨dst,.slice t x b (some g) none,type,pos,after,guard⟩).run P w=.ok (.value v) w:=by
  cases c:f (b.getD xJ)<;>simp only [c] at a<;>first|(cases a;done)|skip
  cases m:f g<;>simp only [m] at a<;>first|(cases a;done)|skip
  rename_i k l k2 h;simp only [yS] at a;split at a
  · rename_i z;obtain ⟨C,p,j,o⟩:=z;cases a;have u:(Instr.sliceBounds true (ql (f x)) (qy (f x)) (b.map f) (some (.int k2 h)) none).run P w=.ok (l.toNat,h.toNat,qy (f x)) w:=by
      cases b with
      |none=>
        have:l=0:=by have:=A (.int .i64 0);simp only [Option.getD_none,xJ,this,Value.int.injEq] at c;exact c.2.symm
        subst this;exact qn1 w _ _ _ _ _ j o
      |some s=>
        simp only [Option.getD_some] at c;simp only [Option.map_some,c];exact qn3 w _ _ _ _ _ _ _ p j o
    have:=qis w y B C u;simp [execOp,m,this]
  · cases a
theorem qz7 {t e : TypeId} {i : TypeInfo} {x g j : Operand} {b : Option Operand} (C : P.underlying t = some (.slice e)) (H : P.info? e = some i) (F : ∀ v, f (.const v) = v)
    (a:pv4 w (.slMax i.size) (f x) (f (b.getD xJ)) (f g) (f j)=some v):
    (execOp f ⟨dst,.slice t x b (some g) (some j),type,pos,after,guard⟩).run P w=.ok (.value v) w:=by
  cases c:f (b.getD xJ)<;>simp only [c] at a<;>first|(cases a;done)|skip
  cases s:f g<;>simp only [s] at a<;>first|(cases a;done)|skip
  cases p:f j<;>simp only [p] at a<;>first|(cases a;done)|skip
  rename_i k l k2 h k3 m;simp only [pv4] at a;split at a
  · rename_i E;obtain ⟨I,z,o,u,y⟩:=E;cases a;have B:(Instr.sliceBounds true (ql (f x)) (qy (f x)) (b.map f) (some (.int k2 h)) (some (.int k3 m))).run P w=.ok (l.toNat,h.toNat,m.toNat) w:=by
      cases b with
      |none=>
        have:l=0:=by have:=F (.int .i64 0);simp only [Option.getD_none,xJ,this,Value.int.injEq] at c;exact c.2.symm
        subst this;exact qz5 w _ _ _ _ _ _ _ o u y
      |some A=>
        simp only [Option.getD_some] at c;simp only [Option.map_some,c];exact qz6 w _ _ _ _ _ _ _ _ _ z o u y
    have:=qis w C H I B;simp [execOp,s,p,this]
  · cases a
theorem qz4 {t : TypeId} {x : Operand} {c : Option Operand} (m : P.underlying t = some .string) (p : ∀ v, f (.const v) = v)
    (a:vl w .stLo (f x) (f (c.getD xJ))=some v):
    (execOp f ⟨dst,.slice t x c none none,type,pos,after,guard⟩).run P w=.ok (.value v) w:=by
  cases e:f x<;>simp only [e] at a<;>first|(cases a;done)|skip
  cases b:f (c.getD xJ)<;>simp only [b] at a<;>first|(cases a;done)|skip
  rename_i s k l;simp only [vl] at a;split at a
  · rename_i o;obtain ⟨g,i⟩:=o;cases a;have j:(Instr.sliceBounds false s.size s.size (c.map f) none none).run P w=.ok (l.toNat,s.size,s.size) w:=by
      cases c with
      |none=>
        have:l=0:=by have:=p (.int .i64 0);simp only [Option.getD_none,xJ,this,Value.int.injEq] at b;exact b.2.symm
        subst this;exact qn2 w _ _ _
      |some h=>
        simp only [Option.getD_some] at b;simp only [Option.map_some,b];exact qn0 w _ _ _ _ _ g i
    have:=qnZ w m s j;simp [execOp,e,this]
  · cases a
theorem qz3 {t : TypeId} {x e : Operand} {c : Option Operand} (y : P.underlying t = some .string) (A : ∀ v, f (.const v) = v)
    (a:yS w .stLoHi (f x) (f (c.getD xJ)) (f e)=some v):
    (execOp f ⟨dst,.slice t x c (some e) none,type,pos,after,guard⟩).run P w=.ok (.value v) w:=by
  cases j:f x<;>simp only [j] at a<;>first|(cases a;done)|skip
  cases b:f (c.getD xJ)<;>simp only [b] at a<;>first|(cases a;done)|skip
  cases i:f e<;>simp only [i] at a<;>first|(cases a;done)|skip
  rename_i s k l k2 h;simp only [yS] at a;split at a
  · rename_i z;obtain ⟨o,g,m⟩:=z;cases a;have u:(Instr.sliceBounds false s.size s.size (c.map f) (some (.int k2 h)) none).run P w=.ok (l.toNat,h.toNat,s.size) w:=by
      cases c with
      |none=>
        have:l=0:=by have:=A (.int .i64 0);simp only [Option.getD_none,xJ,this,Value.int.injEq] at b;exact b.2.symm
        subst this;exact qn1 w _ _ _ _ _ g m
      |some p=>
        simp only [Option.getD_some] at b;simp only [Option.map_some,b];exact qn3 w _ _ _ _ _ _ _ o g m
    have:=qnZ w y s u;simp [execOp,j,i,this]
  · cases a
theorem qAm {s:TypeId} {fs:Array Field} {b:Field} {i:TypeInfo} {x:Operand} {n:Nat} (j:P.underlying s=some (.struct fs)) (h:fs[n]? =some b) (e:P.info? b.type=some i)
    (g:i.size≠0) (a:jd w (.fadr b.offset) (f x)=some v):
    (execOp f ⟨dst,.fieldAddr s x n,type,pos,after,guard⟩).run P w=.ok (.value v) w:=by
  obtain ⟨k,c⟩:=qdu a (.inr (.inr ⟨_,rfl⟩));rw [c] at a;cases a;simp [execOp,c,Instr.fieldAt,Instr.sureAddr,run_underlying j,h,fieldPlace,qa9 e,g]
theorem qiu {t:TypeId} {cs:Array Value} {off:Nat} (b:kY P t=some false) (a:cs[off]? =some v):(part t cs off).run P w=.ok v w:=by
  have c:=qe3 (P:=P) b w;simp [part,c,a]
theorem qAc {t:TypeId} {i:TypeInfo} {cs:Array Value} {off:Nat} (b:kY P t=some true) (a:P.info? t=some i):(part t cs off).run P w=.ok (.agg (cs.extract off (off+i.size))) w:=by
  have c:=qe3 (P:=P) b w;simp [part,c,qa9 a]
theorem qAl {s:TypeId} {fs:Array Field} {b:Field} {x:Operand} {n:Nat} (h:P.underlying s=some (.struct fs)) (g:fs[n]? =some b) (e:kY P b.type=some false)
    (a:jd w (.fld b.offset) (f x)=some v):
    (execOp f ⟨dst,.field s x n,type,pos,after,guard⟩).run P w=.ok (.value v) w:=by
  cases c:f x<;>simp only [c] at a<;>first|(cases a;done)|skip
  have:=qiu (P:=P) (w:=w) e (show _=some v from a);simp [execOp,c,Instr.field,run_underlying h,g,asAgg,this]
theorem qAk {s:TypeId} {fs:Array Field} {a:Field} {i:TypeInfo} {x:Operand} {n:Nat} (j:P.underlying s=some (.struct fs)) (h:fs[n]? =some a) (g:kY P a.type=some true)
    (e:P.info? a.type=some i) (b:jd w (.fldN a.offset i.size) (f x)=some v):
    (execOp f ⟨dst,.field s x n,type,pos,after,guard⟩).run P w=.ok (.value v) w:=by
  cases c:f x<;>simp only [c] at b<;>first|(cases b;done)|skip
  rename_i cs;cases b;have:=qAc (P:=P) (w:=w) (cs:=cs) (off:=a.offset) g e;simp [execOp,c,Instr.field,run_underlying j,h,asAgg,this]
theorem qAi {t e:TypeId} {i:TypeInfo} {x y:Operand} (l:P.underlying t=some (.slice e)) (p:P.info? e=some i) (g:vl w (.ixa i.size) (f x) (f y)=some v):
    (execOp f ⟨dst,.indexAddr t x y,type,pos,after,guard⟩).run P w=.ok (.value v) w:=by
  cases j:f y<;>simp only [j] at g<;>first|(cases g;done)|skip
  simp only [vl] at g;split at g
  · rename_i m;obtain ⟨s,k,a⟩:=m;cases g;rcases xT s with ⟨b,o,n,c,h,_⟩|h|⟨b,o,sp,h⟩
    rotate_left 2
    · rw [h] at a;simp only [ql] at a;omega
    · rw [h] at a;simp only [ql] at a;simp only [execOp,h,j,Instr.indexAt,Sem.run_bind,run_underlying l,Result.andThen_ok,asIntOf,Sem.run_pure,k,a,and_self,kk,qa9 p];simp only [qQ,Addr.add];split
      · rename_i u;simp [u]
      · rfl
    · rw [h] at a;simp only [ql] at a;omega
  · cases g
theorem qAh {t:TypeId} {x y:Operand} (h:P.underlying t=some .string) (a:vl w .ixs (f x) (f y)=some v):
    (execOp f ⟨dst,.index t x y,type,pos,after,guard⟩).run P w=.ok (.value v) w:=by
  cases c:f x<;>simp only [c] at a<;>first|(cases a;done)|skip
  cases e:f y<;>simp only [e] at a<;>first|(cases a;done)|skip
  simp only [vl] at a;split at a
  · rename_i g;obtain ⟨b,i,rfl⟩:=ua.1 a;simp [execOp,c,e,Instr.index,run_underlying h,asIntOf,g,i]
  · cases a
theorem qAn {x:Operand} {n:Nat} (a:jd w (.ext n) (f x)=some v):
    (execOp f ⟨dst,.extract x n,type,pos,after,guard⟩).run P w=.ok (.value v) w:=by
  cases c:f x<;>simp only [c] at a<;>first|(cases a;done)|skip
  rename_i vs;have b:vs[n]? =some v:=a;simp [execOp,c,Instr.extract,b]
theorem qAe {t:TypeId} {d:TypeDesc} {x:Operand} (c:P.underlying t=some d) (e:∀a,d≠ .interface a) (b:jd w (.mkif t) (f x)=some v):
    (execOp f ⟨dst,.makeInterface t x,type,pos,after,guard⟩).run P w=.ok (.value v) w:=by
  cases b;simp only [execOp,Instr.makeInterface,Sem.run_bind,run_underlying c,Result.andThen_ok];cases d<;>first|rfl|exact absurd rfl (e _)
theorem qAd {x:Operand} (a:jd w .nilc (f x)=some v):
    (execOp f ⟨dst,.nilCheck x,type,pos,after,guard⟩).run P w=.ok (.value v) w:=by
  cases b:f x with
  |pointer p=>
    rw [b] at a;cases p with
    |none=>cases a
    |some c=>cases a;simp [execOp,b]
  |iface t u=>rw [b] at a;cases a;simp [execOp,b]
  |_=>rw [b] at a;cases a
theorem qn4 {x:Operand} {op:Op} (a:op=.move x\/op=.assign x) (b:jd w .same (f x)=some v):
    (execOp f ⟨dst,op,type,pos,after,guard⟩).run P w=.ok (.value v) w:=by
  cases b;rcases a with rfl|rfl<;>simp [execOp]
theorem qAg {x:Operand} {t e:TypeId} (i:P.underlying t=some (.slice e)) (h:jd w .lenS (f x)=some v):
    (execOp f ⟨dst,.call {callee:=.builtin .len,args:=#[x],argTypes:=#[t]},type,pos,after,guard⟩).run P w=.ok (.value v) w:=by
  have a:(if qu (f x)=true then some (Value.int .i64 (ql (f x))) else none)=some v:=h;split at a
  · rename_i j;cases a;rcases xT j with ⟨b,o,n,c,g,_⟩|g|⟨b,o,s,g⟩<;>
      simp [execOp,g,resolve,invoke,builtin,Builtin.len_,run_underlying i,goInt,ql]
  · cases a
theorem qAq {x:Operand} {t e:TypeId} (i:P.underlying t=some (.slice e)) (h:jd w .capS (f x)=some v):
    (execOp f ⟨dst,.call {callee:=.builtin .cap,args:=#[x],argTypes:=#[t]},type,pos,after,guard⟩).run P w=.ok (.value v) w:=by
  have a:(if qu (f x)=true then some (Value.int .i64 (qy (f x))) else none)=some v:=h;split at a
  · rename_i j;cases a;rcases xT j with ⟨b,o,n,c,g,_⟩|g|⟨b,o,s,g⟩<;>
      simp [execOp,g,resolve,invoke,builtin,Builtin.cap_,run_underlying i,goInt,qy]
  · cases a
theorem qAf {x:Operand} {t:TypeId} (c:P.underlying t=some .string) (a:jd w .lenT (f x)=some v):
    (execOp f ⟨dst,.call {callee:=.builtin .len,args:=#[x],argTypes:=#[t]},type,pos,after,guard⟩).run P w=.ok (.value v) w:=by
  cases b:f x<;>simp only [b] at a<;>first|(cases a;done)|skip
  cases a;simp [execOp,b,resolve,invoke,builtin,Builtin.len_,run_underlying c,goInt]
end
def qyC {P : Program} {o : Oper} {p : PO} (h : qeE P o.op = some p) {f : Operand -> Value} (b : ∀ v, f (.const v) = v) {w : World} {v : Value} (a : p.val w f = some v) :
    (execOp f o).run P w=.ok (.value v) w:=by
  obtain ⟨dst,op,type,pos,after,guard⟩:=o;unfold qeE at h;dsimp only at h;split at h
  · cases h;exact qn4 (.inl rfl) a
  · cases h;exact qn4 (.inr rfl) a
  · split at h
    · cases h;exact qe2 ‹_› ‹_› a
    · cases h;exact qn5 ‹_› a
    · cases h
  · split at h
    · split at h
      · cases h;exact qAa ‹_› a
      · cases h;exact qAj ‹_› a
    · cases h;exact qAb a
    · cases h;exact qAs ‹_› a
    · cases h
  · cases h;exact qiq (.inl ⟨rfl,rfl⟩) a
  · cases h;exact qiq (.inr (.inl ⟨rfl,rfl⟩)) a
  · cases h;exact qiq (.inr (.inr ⟨rfl,rfl⟩)) a
  · split at h
    · cases h;exact qAp ‹_› ‹_› a
    · cases h;exact qz2 ‹_› ‹_› a
    · split at h
      · cases h;exact qAt ‹_› ‹_› ‹_› a
      · cases h
    · cases h
  · split at h
    · split at h
      · cases h;exact qz9 ‹_› ‹_› b a
      · cases h;exact qz8 ‹_› ‹_› b a
      · cases h;exact qz7 ‹_› ‹_› b a
      · cases h
    · split at h
      · cases h;exact qz4 ‹_› b a
      · cases h;exact qz3 ‹_› b a
      · cases h
    · cases h
  · split at h
    · split at h
      · split at h
        · split at h
          · cases h
          · cases h;exact qAm ‹_› ‹_› ‹_› ‹_› a
        · cases h
      · cases h
    · cases h
  · split at h
    · split at h
      · split at h
        · cases h;exact qAk ‹_› ‹_› ‹_› ‹_› a
        · cases h;exact qAl ‹_› ‹_› ‹_› a
        · cases h
      · cases h
    · cases h
  · split at h
    · split at h
      · cases h;exact qAi ‹_› ‹_› a
      · cases h
    · cases h
  · split at h
    · cases h;exact qAh ‹_› a
    · cases h
  · cases h;exact qAn a
  · split at h
    · cases h
    · rename_i d g i;cases h;exact qAe i (fun j e=>by subst e;exact g j rfl) a
    · cases h
  · cases h;exact qAd a
  · rename_i c;obtain ⟨callee,⟨args⟩,⟨argTypes⟩⟩:=c;simp only at h;unfold qmR at h;split at h
    · split at h
      · cases h;exact qAf ‹_› a
      · cases h;exact qAg ‹_› a
      · cases h
    · split at h
      · cases h;exact qAq ‹_› a
      · cases h
    · cases h
  · cases h
end Go.Eng
namespace Go.Eng
open Go.RowKit
inductive Ex where
  |var (i:Nat)
  |const (v:Value)
  |op1 (k:K1) (x:Ex)
  |op2 (k:K2) (x y:Ex)
  |op3 (k:K3) (x y z:Ex)
  |op4 (k:K4) (x y z u:Ex)
  |ite (c x y:Ex)
def qbi (c:Value) (x y:Option Value):Option Value:=
  match c with
  | .bool true=>x
  | .bool false=>y
  |_=>none
def Ex.ev (ρ:qa) (w:World):Ex->Option Value
  | .var i=>some (ρ i)
  | .const v=>some v
  | .op1 k x=>(x.ev ρ w).bind (jd w k)
  | .op2 k x y=>(x.ev ρ w).bind fun a=>(y.ev ρ w).bind fun b=>vl w k a b
  | .op3 k x y z=>(x.ev ρ w).bind fun a=>(y.ev ρ w).bind fun b=>(z.ev ρ w).bind fun c=>yS w k a b c
  | .op4 k x y z u=>(x.ev ρ w).bind fun a=>(y.ev ρ w).bind fun b=>(z.ev ρ w).bind fun c=>(u.ev ρ w).bind fun d=>pv4 w k a b c d
  | .ite c x y=>(c.ev ρ w).bind fun a=>qbi a (x.ev ρ w) (y.ev ρ w)
def qbC:Operand->Value
  | .const v=>v
  | .global g=> .pointer (some ⟨g,0,none⟩)
  | .func f=> .func (.func f) #[] #[]
  | .tmp _=>undef
def kW:Operand->Ex
  | .tmp t=> .var t
  |x=> .const (qbC x)
def vP (ops:Array Oper) (i:Nat):Option Nat:=(ops[i]?).bind (·.dst)
def xl (V:List Nat):Operand->Bool
  | .tmp t=> !V.contains t
  |_=>false
def PO.opds:PO->List Operand
  | .k1 _ x=>[x]
  | .k2 _ x y=>[x,y]
  | .k3 _ x y z=>[x,y,z]
  | .k4 _ x y z u=>[x,y,z,u]
def PO.mk:PO->List Ex->Option Ex
  | .k1 .same _,[a]=>some a
  | .k1 k _,[a]=>some (.op1 k a)
  | .k2 k _ _,[a,b]=>some (.op2 k a b)
  | .k3 k _ _ _,[a,b,c]=>some (.op3 k a b c)
  | .k4 k _ _ _ _,[a,b,c,d]=>some (.op4 k a b c d)
  |_,_=>none
def xF (g:Option (Nat×Bool)) (j:Nat):Bool:=match g with|none=>true|some (i,_)=>decide (i<j)
def qdy (V:List Nat):Op->Option (Operand×Operand×Value×Bool)
  | .pick c (.const va) b=>if xl V b then some (c,b,va,false) else none
  | .pick c a (.const vb)=>if xl V a then some (c,a,vb,true) else none
  |_=>none
section
variable (P:Program) (ops:Array Oper) (V:List Nat)
def pxo (rec : Nat -> Option (Ex × Nat)) (g : Option (Nat × Bool)) (x : Operand) (pos : Nat) : Option (Ex × Nat) :=
  if xl V x then
    match x,pos with
    | .tmp t,p+1=>if vP ops p=some t/\(ops[p]?).map (·.guard)=some g then rec p else none
    |_,_=>none
  else some (kW x,pos)
def qap (rec:Nat->Option (Ex×Nat)) (g:Option (Nat×Bool)):List Operand->Nat->Option (List Ex×Nat)
  |[],pos=>some ([],pos)
  |x::xs,pos=>(qap rec g xs pos).bind fun (es,j)=>(pxo ops V rec g x j).bind fun (e,j')=>some (e::es,j')
def qdt (rec : Nat -> Option (Ex × Nat)) (o : Oper) (k : Nat) : Option (Ex × Nat) :=
  match qdy V o.op with
  | some (c, y, cv, want) =>
    match k,c,y with
    | p + 1,.tmp tc,.tmp ty =>
      match (ops[p]?).bind (·.guard) with
      |some (i,want')=>
        if want'=want/\vP ops p=some ty/\vP ops i=some tc/\(o.guard=none\/xl V c=true) then
          (rec p).bind fun (ey,jy)=>(pxo ops V rec o.guard c jy).bind fun (ec,jc)=>some (if want then .ite ec ey (.const cv) else .ite ec (.const cv) ey,jc)
        else none
      |none=>none
    |_,_,_=>none
  |none=>
    match o.op with
    | .pick c a b=>if xl V a||xl V b then none else (pxo ops V rec o.guard c k).bind fun (ec,jc)=>some (.ite ec (kW a) (kW b),jc)
    |op=>(qeE P op).bind fun p=>(qap ops V rec o.guard p.opds k).bind fun (es,j)=>(p.mk es).map fun e=>(e,j)
def px:Nat->Nat->Option (Ex×Nat)
  |0,_=>none
  |fuel+1,k=>(ops[k]?).bind fun o=>(qdt P ops V (px fuel) o k).bind fun (e,j)=>if xF o.guard j then some (e,j) else none
end
def PV (P:Program) (w:World) (o:Oper) (a:Act) (v:Value):Prop:=∀w',qc w w'->(execOp a.eval o).run P w'=.ok (.value v) w'
def PS (P : Program) (w : World) (ops : Array Oper) : List Nat -> Act -> (Act -> Prop) -> Prop
  |[],a,K=>K a
  |i::is,a,K=>match ops[i]? with
    |none=>PS P w ops is a K
    |some o=>if Region.wanted o (yielded ops a.tmps) then∃v,PV P w o a v/\PS P w ops is (a.put o.dst v) K else PS P w ops is (a.put o.dst undef) K
def yp {P : Program} {w : World} {ops : Array Oper} : ∀ (l m : List Nat) (a : Act) (K : Act -> Prop), PS P w ops l a (fun j => PS P w ops m j K) -> PS P w ops (l ++ m) a K
  |[],_,_,_,h=>h
  | i :: l, m, a, K, h => by
    simp only [List.cons_append,PS] at h⊢;split
    · rename_i e;simp only [e] at h;exact yp l m a K h
    · rename_i o e;simp only [e] at h;split
      · rename_i b;simp only [b,kk] at h;obtain ⟨v,g,c⟩:=h;exact ⟨v,g,yp l m _ K c⟩
      · rename_i b;simp only [b] at h;exact yp l m _ K (by simpa using h)
def gS:Nat:=1000000000
def qaK:Deferred->Value
  |⟨.collected r,_⟩=> .int .i64 r
  |⟨.fn f caps,args⟩=> .func f args caps
  |_=> .bool false
def qcA (l:List Deferred):Value:=.tuple (l.map qaK).toArray
def y7 (d:Deferred):Value->Value
  | .tuple vs=> .tuple (qaK d::vs.toList).toArray
  |v=>v
def qJB (d:Deferred) (l:List Deferred):y7 d (qcA l)=qcA (d::l):=by simp [y7,qcA]
def wU (V:List Nat) (a:Act):qa:=fun i=>if i=gS then qcA a.defers else if i∈V then a.tmps.getD i undef else undef
structure Agree (n:Nat) (V:List Nat) (ρ:qa) (a:Act):Prop where
  size:a.tmps.size=n
  env:ρ=wU V a
  lt:∀i∈V,i<n
  big:n<=gS
def Agree.ne {n:Nat} {V:List Nat} {ρ:qa} {a:Act} (h:Agree n V ρ a) {i:Nat} (b:i∈V):i≠gS:=by
  have c:=h.lt i b;have e:=h.big;omega
def Agree.at {n:Nat} {V:List Nat} {ρ:qa} {a:Act} (h:Agree n V ρ a) {i:Nat} (b:i∈V):ρ i=a.tmps.getD i undef:=by
  rw [h.env];simp only [wU];rw [if_neg (h.ne b),if_pos b]
def Agree.ds {n:Nat} {V:List Nat} {ρ:qa} {a:Act} (h:Agree n V ρ a):ρ gS=qcA a.defers:=by
  rw [h.env];simp [wU]
structure Fr (ops:Array Oper) (j k:Nat) (a a':Act):Prop where
  size:a'.tmps.size=a.tmps.size
  defers:a'.defers=a.defers
  keep:∀t,(∀i,j<=i->i<k->vP ops i≠some t)->a'.tmps[t]? =a.tmps[t]?
theorem Fr.refl (ops:Array Oper) (j k:Nat) (a:Act):Fr ops j k a a:=⟨rfl,rfl,fun _ _=>rfl⟩
def Fr.trans {ops:Array Oper} {i j k:Nat} {a b c:Act} (h:Fr ops i j a b) (g:Fr ops j k b c) (p:i<=j) (o:j<=k):Fr ops i k a c:=
  ⟨g.size.trans h.size,g.defers.trans h.defers,fun t l=>(g.keep t fun x m e=>l x (by omega) e).trans (h.keep t fun x m e=>l x m (by omega))⟩
def Fr.put {ops:Array Oper} {k:Nat} {o:Oper} (i:ops[k]? =some o) (a:Act) (v:Value):Fr ops k (k+1) a (a.put o.dst v):=by
  have g:vP ops k=o.dst:=by simp [vP,i]
  cases h:o.dst with
  |none=>exact Fr.refl _ _ _ _
  |some d=>
    refine ⟨by simp [Act.put],rfl,fun t c=>?_⟩;have b:d≠t:=fun e=>c k (j1 _) (by omega) (by rw [g,h,e]);simp [Act.put,b]
structure Region1 (n:Nat) (ops:Array Oper):Prop where
  once:∀i i' t,vP ops i=some t->vP ops i'=some t->i=i'
  lt:∀i t,vP ops i=some t->t<n
def qcP (ops:Array Oper) (V:List Nat) (j k:Nat):Prop:=∀i,j<=i->i<k->∀t,vP ops i=some t->t∉V
def Agree.fr {n:Nat} {V:List Nat} {ρ:qa} {a l:Act} {ops:Array Oper} {j k:Nat} (h:Agree n V ρ a) (c:Fr ops j k a l) (b:qcP ops V j k):Agree n V ρ l:=by
  refine ⟨c.size.trans h.size, ?_,h.lt,h.big⟩;rw [h.env];funext i;simp only [wU,c.defers];split
  · rfl
  · split
    · rename_i m;have:=c.keep i fun x o g e=>b x o g i e m;simp only [Array.getD_eq_getD_getElem?,this]
    · rfl
def vF (ops:Array Oper) (g:Option (Nat×Bool)) (a:Act):Bool:=match g with|none=>true|some (i,want)=>yielded ops a.tmps i==some want
theorem qac (ops:Array Oper) (o:Oper) (a:Act):Region.wanted o (yielded ops a.tmps)=vF ops o.guard a:=rfl
def qx2 {n:Nat} {ops:Array Oper} (h:Region1 n ops) {j k i:Nat} {a c:Act} (l:Fr ops j k a c) (o:i<j):yielded ops c.tmps i=yielded ops a.tmps i:=by
  simp only [yielded];cases b:vP ops i with
  |none=>simp only [vP] at b;simp [b]
  |some t=>
    have m:=l.keep t fun x p g e=>by have:=h.once _ _ _ b e;omega
    simp only [vP] at b;simp [b,m]
theorem QA {n:Nat} {ops:Array Oper} (l:Region1 n ops) {j k:Nat} {a c:Act} {g:Option (Nat×Bool)} (h:Fr ops j k a c) (b:xF g j=true):vF ops g c=vF ops g a:=by
  cases g with
  |none=>rfl
  |some p=>
    obtain ⟨i,e⟩:=p;simp only [xF,kr] at b;simp only [vF,qx2 l h b]
def qmf (ops:Array Oper) (V:List Nat) (x:Operand) (pos:Nat):Prop:=∀t,x=.tmp t->t∈V\/∃i,i<pos/\vP ops i=some t
theorem qli {n:Nat} {ops:Array Oper} {V:List Nat} (o:Region1 n ops) {x:Operand} {pos j k:Nat} {a l:Act} (p:qmf ops V x pos) (s:Fr ops j k a l) (z:pos<=j) (b:qcP ops V j k):
    l.eval x=a.eval x:=by
  cases x with
  |tmp t=>
    have:l.tmps[t]? =a.tmps[t]? :=s.keep t fun i u c e=>by
      rcases p t rfl with h|⟨A,m,y⟩
      · exact b i u c t e h
      · have:=o.once _ _ _ e y;omega
    simp only [Act.eval,Array.getD_eq_getD_getElem?,this]
  |const v=>rfl
  |global g=>rfl
  |func f=>rfl
section
variable (P:Program) (ops:Array Oper) (V:List Nat) (n:Nat)
structure SemX (k:Nat) (e:Ex) (j:Nat):Prop where
  le:j<=k
  free:qcP ops V j k
  lt:∀o,ops[k]? =some o->xF o.guard j=true
  yes:∀o,ops[k]? =some o->∀(ρ:qa) (w:World) (a:Act) (v:Value),Agree n V ρ a->vF ops o.guard a=true->e.ev ρ w=some v->∀K:Act->Prop,
    (∀a',Fr ops j (k+1) a a'->(∀d,o.dst=some d->a'.tmps[d]? =some v)->K a')->PS P w ops (List.range' j (k+1 - j)) a K
  no:∀o,ops[k]? =some o->∀(w:World) (a:Act),a.tmps.size=n->vF ops o.guard a=false->∀K:Act->Prop,
    (∀a',Fr ops j (k+1) a a'->(∀d,o.dst=some d->a'.tmps[d]? =some undef)->K a')->PS P w ops (List.range' j (k+1 - j)) a K
structure SemL (g:Option (Nat×Bool)) (xs:List Operand) (pos:Nat) (es:List Ex) (j:Nat):Prop where
  le:j<=pos
  free:qcP ops V j pos
  safe:∀x∈xs,qmf ops V x pos
  yes:xF g j=true->∀(ρ:qa) (w:World) (a:Act) (vs:List Value),Agree n V ρ a->vF ops g a=true->es.map (·.ev ρ w)=vs.map some->∀K:Act->Prop,
    (∀a',Fr ops j pos a a'->xs.map a'.eval=vs->K a')->PS P w ops (List.range' j (pos - j)) a K
  no:xF g j=true->∀(w:World) (a:Act),a.tmps.size=n->vF ops g a=false->∀K:Act->Prop,
    (∀a',Fr ops j pos a a'->(∀x∈xs,xl V x=true->a'.eval x=undef)->K a')->PS P w ops (List.range' j (pos - j)) a K
end
def qpL {x:Option Value} {vs:List Value} (h:[x]=vs.map some):∃v,vs=[v]/\x=some v:=by
  cases vs with
  |nil=>cases h
  |cons v vs=>cases vs with
    |nil=>exact ⟨v,rfl,by simpa using h⟩
    |cons u a=>simp at h
def qfH {n:Nat} {V:List Nat} {ρ:qa} {a:Act} {w:World} {x:Operand} {v:Value} (h:Agree n V ρ a) (e:xl V x=false) (b:(kW x).ev ρ w=some v):a.eval x=v:=by
  cases x with
  |tmp t=>
    simp only [kW,Ex.ev,ub] at b;have c:t∈V:=by simpa [xl] using e
    rw [<-b,h.at c];simp [Act.eval]
  |const u=>simpa [kW,Ex.ev,qbC,Act.eval] using b
  |global g=>simpa [kW,Ex.ev,qbC,Act.eval] using b
  |func f=>simpa [kW,Ex.ev,qbC,Act.eval] using b
def qDV {ops:Array Oper} {V:List Nat} {x:Operand} (a:xl V x=false) (pos:Nat):qmf ops V x pos:=fun t e=>by
  subst e;exact .inl (by simpa [xl] using a)
section
variable {P:Program} {ops:Array Oper} {V:List Nat} {n:Nat} {rec:Nat->Option (Ex×Nat)}
theorem qiO (_hr : Region1 n ops) (H : ∀ k e j, rec k = some (e, j) -> SemX P ops V n k e j) {g : Option (Nat × Bool)} {x : Operand} {pos : Nat} {e : Ex} {j : Nat}
    (h:pxo ops V rec g x pos=some (e,j)):SemL P ops V n g [x] pos [e] j:=by
  unfold pxo at h;split at h
  · rename_i s;split at h
    · rename_i t p;split at h
      · rename_i hc;obtain ⟨R,Y⟩:=hc;have O:=H _ _ _ h;obtain ⟨o,E,J⟩:∃o,ops[p]? =some o/\o.guard=g:=by
          cases E:ops[p]? with
          |none=>simp [E] at Y
          |some o=>simp only [E,Option.map_some,ub] at Y;exact ⟨o,rfl,Y⟩
        have F:o.dst=some t:=by simpa [vP,E] using R
        have aa:t∉V:=by simpa [xl] using s
        refine ⟨by have:=O.le;omega,fun i hi U u I=>?_,fun y z u I=>?_,fun _ ρ w a vs Q l A K B=>?_,fun _ w a L l K B=>?_⟩
        · by_cases X:i=p
          · subst X;rw [R] at I;cases I;exact aa
          · exact O.free i hi (by omega) u I
        · have b:y=.tmp t:=by simpa using z
          subst b;cases I;exact .inr ⟨p,by omega,R⟩
        · obtain ⟨v,rfl,m⟩:=qpL A;refine O.yes o E ρ w a v Q (by rw [J];exact l) m K fun Z C S=>B Z C ?_;have:=S t F;simp [Act.eval,Array.getD_eq_getD_getElem?,this]
        · refine O.no o E w a L (by rw [J];exact l) K fun Z C S=>B Z C fun y z _=>?_;have b:y=.tmp t:=by simpa using z
          subst b;simp [Act.eval,Array.getD_eq_getD_getElem?,S t F]
      · cases h
    · cases h
  · rename_i s;have c:xl V x=false:=by simpa using s
    simp only [ub,uQ] at h;obtain ⟨rfl,rfl⟩:=h;refine ⟨j1 _,fun i hi U=>by omega,fun y z=>?_,fun _ ρ w a vs Q l A K B=>?_,fun _ w a L l K B=>?_⟩
    · have b:y=x:=by simpa using z
      subst b;exact qDV c _
    · obtain ⟨v,rfl,m⟩:=qpL A;simp only [J2,List.range',PS];exact B a (Fr.refl _ _ _ _) (by simp [qfH Q c m])
    · simp only [J2,List.range',PS];refine B a (Fr.refl _ _ _ _) fun y z W=>?_;have b:y=x:=by simpa using z
      subst b;simp [c] at W
theorem qbe {i j k:Nat} (a:i<=j) (b:j<=k):List.range' i (k - i)=List.range' i (j - i)++List.range' j (k - j):=by
  have h:= @List.range'_append_1 i (j - i) (k - j);rw [show i+(j - i)=j by omega,show (j - i)+(k - j)=k - i by omega] at h;exact h.symm
theorem qoG (I : Region1 n ops) (B : ∀ k e j, rec k = some (e, j) -> SemX P ops V n k e j) {g : Option (Nat × Bool)} : ∀ {xs : List Operand} {pos : Nat} {es : List Ex} {j : Nat},
    qap ops V rec g xs pos=some (es,j)->SemL P ops V n g xs pos es j
  |[],pos,es,j,h=>by
    simp only [qap,ub,uQ] at h;obtain ⟨rfl,rfl⟩:=h;refine ⟨j1 _,fun i X J=>by omega,fun y s=>(by cases s),fun _ ρ w a vs W b m K F=>?_,fun _ w a E b K F=>?_⟩
    · simp only [J2,List.range',PS]
      match vs,m with
      |[],_=>exact F a (Fr.refl _ _ _ _) rfl
    · simp only [J2,List.range',PS];exact F a (Fr.refl _ _ _ _) fun y s=>by cases s
  | x :: xs, pos, es, j, h => by
    simp only [qap,uc,J3,ub,uQ] at h;obtain ⟨es',Y,h1,e,j2,h2,rfl,rfl⟩:=h;have H:=qoG I B h1;have A:=qiO I B h2;have l1:=H.le;have U:=A.le;refine ⟨by omega,fun i X J=>?_,fun y s=>?_,fun c ρ w a vs W b m K F=>?_,fun c w a E b K F=>?_⟩
    · by_cases Z:i<Y
      · exact A.free i X Z
      · exact H.free i (by omega) J
    · rcases wh.1 s with rfl|s
      · intro t ht;rcases A.safe _ (uH.2 rfl) t ht with hh|⟨i,X,hd⟩
        · exact .inl hh
        · exact .inr ⟨i,by omega,hd⟩
      · exact H.safe y s
    · match vs,m with
      | v :: vs, m =>
        simp only [List.map_cons,uM] at m;obtain ⟨Q,O⟩:=m;have u:xF g Y=true:=by
          cases g with
          |none=>rfl
          |some p=>simp only [xF,kr] at c⊢;omega
        rw [qbe U l1];refine yp _ _ _ _ (A.yes c ρ w a [v] W b (by simpa using Q) _ fun R l z=>?_);refine H.yes u ρ w R vs (W.fr l A.free) (by rw [QA I l c];exact b) O _ fun S o C=>?_;refine F S (l.trans o U l1) ?_;have h0:S.eval x=R.eval x:=qli I (A.safe x (uH.2 rfl)) o (j1 _) H.free;simp only [List.map_cons,uM,List.map_nil,Jq] at z;simp only [List.map_cons,h0,z,C]
    · have u:xF g Y=true:=by
       cases g with
       |none=>rfl
       |some p=>simp only [xF,kr] at c⊢;omega
      rw [qbe U l1];refine yp _ _ _ _ (A.no c w a E b _ fun R l z=>?_);refine H.no u w R (l.size.trans E) (by rw [QA I l c];exact b) _ fun S o C=>?_;refine F S (l.trans o U l1) fun y s L=>?_;rcases wh.1 s with rfl|s
      · rw [qli I (A.safe y (uH.2 rfl)) o (j1 _) H.free];exact z y (uH.2 rfl) L
      · exact C y s L
theorem qmh {w:World} {a:Act} {k:Nat} {o:Oper} (e:ops[k]? =some o) (b:vF ops o.guard a=true) {v:Value} (c:PV P w o a v) {K:Act->Prop} (h:K (a.put o.dst v)):PS P w ops [k] a K:=by
  simp only [PS,e,qac,b,kk];exact ⟨v,c,h⟩
theorem qmg {w:World} {a:Act} {k:Nat} {o:Oper} (c:ops[k]? =some o) (b:vF ops o.guard a=false) {K:Act->Prop} (h:K (a.put o.dst undef)):PS P w ops [k] a K:=by
  simp only [PS,c,qac,b];exact h
theorem qbg {a:Act} {o:Oper} {v:Value} (b:∀d,o.dst=some d->d<a.tmps.size):∀d,o.dst=some d->(a.put o.dst v).tmps[d]? =some v:=by
  intro d c;simp [Act.put,c,b d c]
theorem qaO (c:Region1 n ops) {k:Nat} {o:Oper} (e:ops[k]? =some o) {a:Act} (b:a.tmps.size=n):∀d,o.dst=some d->d<a.tmps.size:=by
  intro d g;rw [b];exact c.lt k d (by simp [vP,e,g])
theorem qDA {p:PO} {es:List Ex} {e:Ex} (h:p.mk es=some e) {ρ:qa} {w:World} {v:Value} (i:e.ev ρ w=some v):
    ∃vs,es.map (·.ev ρ w)=vs.map some/\∀f:Operand->Value,p.opds.map f=vs->p.val w f=some v:=by
  unfold PO.mk at h;split at h
  · cases h;exact ⟨[v],by simp [i],fun f g=>by simp only [PO.opds,List.map_cons,List.map_nil,uM,Jq] at g;simp [PO.val,jd,g]⟩
  · cases h;simp only [Ex.ev,uc] at i;obtain ⟨a,j,i⟩:=i;exact ⟨[a],by simp [j],fun f g=>by simp only [PO.opds,List.map_cons,List.map_nil,uM,Jq] at g;simp [PO.val,g,i]⟩
  · cases h;simp only [Ex.ev,uc] at i;obtain ⟨a,j,b,k,i⟩:=i;exact ⟨[a,b],by simp [j,k],fun f g=>by simp only [PO.opds,List.map_cons,List.map_nil,uM,Jq] at g;simp [PO.val,g.1,g.2,i]⟩
  · cases h;simp only [Ex.ev,uc] at i;obtain ⟨a,j,b,k,c,l,i⟩:=i;exact ⟨[a,b,c],by simp [j,k,l],fun f g=>by simp only [PO.opds,List.map_cons,List.map_nil,uM,Jq] at g;simp [PO.val,g.1,g.2.1,g.2.2,i]⟩
  · cases h;simp only [Ex.ev,uc] at i;obtain ⟨a,j,b,k,c,l,d,m,i⟩:=i;exact ⟨[a,b,c,d],by simp [j,k,l,m],fun f g=>by simp only [PO.opds,List.map_cons,List.map_nil,uM,Jq] at g;simp [PO.val,g.1,g.2.1,g.2.2.1,g.2.2.2,i]⟩
  · cases h
theorem qao {j k:Nat} (h:j<=k):List.range' j (k+1 - j)=List.range' j (k - j)++[k]:=by
  have:=qbe (i:=j) (j:=k) (k:=k+1) h (by omega);simpa using this
theorem qBV {op:Op} {c y:Operand} {e:Value} {a:Bool} (h:qdy V op=some (c,y,e,a)):
    xl V y=true/\((a=false/\op=.pick c (.const e) y)\/(a=true/\op=.pick c y (.const e))):=by
  unfold qdy at h;split at h
  · split at h
    · rename_i b;cases h;exact ⟨b,.inl ⟨rfl,rfl⟩⟩
    · cases h
  · split at h
    · rename_i b;cases h;exact ⟨b,.inr ⟨rfl,rfl⟩⟩
    · cases h
  · cases h
theorem qBJ (O : Region1 n ops) (ac : ∀ k e j, rec k = some (e, j) -> SemX P ops V n k e j) {k : Nat} {o : Oper} (U : ops[k]? = some o) {e : Ex} {j : Nat}
    (h:qdt P ops V rec o k=some (e,j)) (l:xF o.guard j=true):SemX P ops V n k e j:=by
  have Q:∀z,ops[k]? =some z->z=o:=fun z S=>Jp (S.symm.trans U);unfold qdt at h;split at h
  ·
    rename_i c y cv want hsh;obtain ⟨hfy,I⟩:=qBV hsh;split at h
    · rename_i p tc ty;split at h
      · rename_i i A hgp;split at h
        · rename_i hc;obtain ⟨rfl,hdp,hdi,hcf⟩:=hc;simp only [uc,J3,ub,uQ] at h;obtain ⟨ey,jy,hy,ec,jc,hcx,rfl,rfl⟩:=h;have sy:=ac _ _ _ hy;have sc:=qiO O ac hcx;obtain ⟨Z,Y,hgo'⟩:∃z,ops[p]? =some z/\z.guard=some (i,A):=by
            cases hp:ops[p]? with
            |none=>simp [hp] at hgp
            |some z=>simp only [hp,Option.bind_some] at hgp;exact ⟨z,rfl,hgp⟩
          have hdop:Z.dst=some ty:=by simpa [vP,Y] using hdp
          have lty:=sy.lt Z Y;rw [hgo'] at lty;simp only [xF,kr] at lty;have ly:=sy.le;have lc:=sc.le;have htyV:ty∉V:=by simpa [xl] using hfy
          have free_y:qcP ops V jy (p+1):=fun x hx hx' t ht=>by
            by_cases hxp:x=p
            · subst hxp;rw [hdp] at ht;cases ht;exact htyV
            · exact sy.free x hx (by omega) t ht
          have hltp:xF o.guard (p+1)=true:=by
            cases hg:o.guard with
            |none=>rfl
            |some q=>rw [hg] at l;simp only [xF,kr] at l⊢;omega
          have hyield:∀(C:Act) (b:Bool),C.tmps.size=n->C.eval (.tmp tc)=.bool b->yielded ops C.tmps i=some b:=by
            intro C b L hb;have hdi':((ops[i]?).bind (·.dst))=some tc:=hdi;have htc:tc<C.tmps.size:=by rw [L];exact O.lt _ _ hdi
            simp only [Act.eval,Array.getD_eq_getD_getElem?] at hb;simp only [yielded,hdi',Option.bind_some];cases hg:C.tmps[tc]? with
            |none=>simp [uT htc] at hg
            |some u=>simp only [hg,Option.getD_some] at hb;subst hb;rfl
          refine ⟨by omega,fun x hx hx' t ht=>?_,fun z S=>by rw [Q z S];exact l,fun z S ρ w a v ha s B K hK=>?_,fun z S w a L s K hK=>?_⟩
          · by_cases hxj:x<jy
            · exact sc.free x hx hxj t ht
            · exact free_y x (by omega) hx' t ht
          · obtain rfl:=Q z S;obtain ⟨R,hcb⟩:∃R,ec.ev ρ w=some (.bool R)/\(if R=A then ey.ev ρ w=some v else v=cv):=by
              cases A<;>simp only [uf,km,kk,Ex.ev,uc,qbi] at B<;>obtain ⟨u,hu,B⟩:=B<;>
                (split at B
                 · exact ⟨true,hu,by simpa [eq_comm] using B⟩
                 · exact ⟨false,hu,by simpa [eq_comm] using B⟩
                 · cases B)
            obtain ⟨hcb,m⟩:=hcb;rw [qao (by omega),qbe (j:=jy) lc (by omega)];refine yp _ _ _ _ (yp _ _ _ _ (sc.yes l ρ w a [.bool R] ha s (by simp [hcb]) _ fun C g E=>?_));simp only [List.map_cons,List.map_nil,uM,Jq] at E;have J:C.tmps.size=n:=g.size.trans ha.size;have ab:=ha.fr g sc.free;have hyl:=hyield C R J E;have hgy:vF ops Z.guard C=(R==A):=by rw [hgo'];simp only [vF,hyl];cases R<;>cases A<;>rfl
            have X:vF ops z.guard C=true:=by rw [QA O g l];exact s
            have fin:∀W,Fr ops jy (p+1) C W->(if R=A then W.tmps[ty]? =some v else W.tmps[ty]? =some undef)->PS P w ops [p+1] W K:=by
              intro W F aa;have hcv:W.eval (.tmp tc)=.bool R:=(qli O (sc.safe _ (uH.2 rfl)) F (j1 _) free_y).trans E;have hlty:xF z.guard jy=true:=by
                cases hg:z.guard with
                |none=>rfl
                |some q=>rw [hg] at l;simp only [xF,kr] at l⊢;omega
              have H:vF ops z.guard W=true:=by rw [QA O F hlty];exact X
              refine qmh U H (v:=v) (fun w' _=>?_) (hK _ ((g.trans F lc (by omega)).trans (Fr.put U W v) (by omega) (by omega)) (qbg (qaO O U (F.size.trans J))));have hyv:R=A->W.eval (.tmp ty)=v:=fun e=>by
                simp only [e,kk] at aa;simp [Act.eval,Array.getD_eq_getD_getElem?,aa]
              rcases I with ⟨rfl,I⟩|⟨rfl,I⟩
              · cases R
                · simp [execOp,I,hcv,asBool,hyv rfl]
                · simp only [Bool.true_eq_false,km] at m;subst m;have hcst:W.eval (.const v)=v:=rfl;simp [execOp,I,hcv,asBool,hcst]
              · cases R
                · simp only [uf,km] at m;subst m;have hcst:W.eval (.const v)=v:=rfl;simp [execOp,I,hcv,asBool,hcst]
                · simp [execOp,I,hcv,asBool,hyv rfl]
            by_cases hcw:R=A
            · simp only [hcw,kk] at m;refine sy.yes Z Y ρ w C v ab (by rw [hgy,hcw];simp) m _ fun W F aa=>fin W F ?_;rw [if_pos hcw];exact aa ty hdop
            · refine sy.no Z Y w C J (by rw [hgy];simpa using hcw) _ fun W F aa=>fin W F ?_;rw [if_neg hcw];exact aa ty hdop
          · obtain rfl:=Q z S;have hcf':xl V (.tmp tc)=true:=by
              rcases hcf with hcf|hcf
              · rw [hcf] at s;cases s
              · exact hcf
            rw [qao (by omega),qbe (j:=jy) lc (by omega)];refine yp _ _ _ _ (yp _ _ _ _ (sc.no l w a L s _ fun C g E=>?_));have J:C.tmps.size=n:=g.size.trans L;have hcu:C.eval (.tmp tc)=undef:=E _ (uH.2 rfl) hcf';have hgy:vF ops Z.guard C=false:=by
              rw [hgo'];have hdi':((ops[i]?).bind (·.dst))=some tc:=hdi;have htc:tc<C.tmps.size:=by rw [J];exact O.lt _ _ hdi
              simp only [vF,yielded,hdi',Option.bind_some];simp only [Act.eval,Array.getD_eq_getD_getElem?] at hcu;cases hg:C.tmps[tc]? with
              |none=>simp [uT htc] at hg
              |some u=>simp only [hg,Option.getD_some] at hcu;subst hcu;rfl
            refine sy.no Z Y w C J hgy _ fun W F aa=>?_;have hlty:xF z.guard jy=true:=by
              cases hg:z.guard with
              |none=>rfl
              |some q=>rw [hg] at l;simp only [xF,kr] at l⊢;omega
            have H:vF ops z.guard W=false:=by rw [QA O F hlty,QA O g l];exact s
            exact qmg U H (hK _ ((g.trans F lc (by omega)).trans (Fr.put U W _) (by omega) (by omega)) (qbg (qaO O U (F.size.trans J))))
        · cases h
      · cases h
    · cases h
  · split at h
    ·
      rename_i c x y I;split at h
      · cases h
      · rename_i hxy;simp only [uk,not_or,Bool.not_eq_true] at hxy;simp only [uc,J3,ub,uQ] at h;obtain ⟨ec,jc,hcx,rfl,rfl⟩:=h;have sc:=qiO O ac hcx;have lc:=sc.le;refine ⟨sc.le,sc.free,fun z S=>by rw [Q z S];exact l,fun z S ρ w a v ha s B K hK=>?_,fun z S w a L s K hK=>?_⟩
        · obtain rfl:=Q z S;simp only [Ex.ev,uc,qbi] at B;obtain ⟨u,hu,B⟩:=B;obtain ⟨R,rfl,m⟩:∃R,u=.bool R/\(if R then (kW x).ev ρ w=some v else (kW y).ev ρ w=some v):=by
            split at B
            · exact ⟨true,rfl,B⟩
            · exact ⟨false,rfl,by simpa using B⟩
            · cases B
          rw [qao lc];refine yp _ _ _ _ (sc.yes l ρ w a [.bool R] ha s (by simp [hu]) _ fun C g E=>?_);simp only [List.map_cons,List.map_nil,uM,Jq] at E;have ab:=ha.fr g sc.free;have X:vF ops z.guard C=true:=by rw [QA O g l];exact s
          refine qmh U X (v:=v) (fun w' _=>?_) (hK _ (g.trans (Fr.put U C v) lc (by omega)) (qbg (qaO O U ab.size)));cases R
          · simp only [uf,km] at m;simp [execOp,I,E,asBool,qfH ab hxy.2 m]
          · simp only [kk] at m;simp [execOp,I,E,asBool,qfH ab hxy.1 m]
        · obtain rfl:=Q z S;rw [qao lc];refine yp _ _ _ _ (sc.no l w a L s _ fun C g E=>?_);have H:vF ops z.guard C=false:=by rw [QA O g l];exact s
          exact qmg U H (hK _ (g.trans (Fr.put U C _) lc (by omega)) (qbg (qaO O U (g.size.trans L))))
    · rename_i I;simp only [uc,J3,ua,uQ] at h;obtain ⟨p,hp,es,j',hes,e',hmk,rfl,rfl⟩:=h;have sc:=qoG O ac hes;have lc:=sc.le;refine ⟨sc.le,sc.free,fun z S=>by rw [Q z S];exact l,fun z S ρ w a v ha s B K hK=>?_,fun z S w a L s K hK=>?_⟩
      · obtain rfl:=Q z S;obtain ⟨vs,hvs,m⟩:=qDA hmk B;rw [qao lc];refine yp _ _ _ _ (sc.yes l ρ w a vs ha s hvs _ fun C g E=>?_);have ab:=ha.fr g sc.free;have X:vF ops z.guard C=true:=by rw [QA O g l];exact s
        refine qmh U X (v:=v) (fun w' hw'=>?_) (hK _ (g.trans (Fr.put U C v) lc (by omega)) (qbg (qaO O U ab.size)));exact qyC hp (fun _=>rfl) (PO.val_ext hw' (m C.eval E))
      · obtain rfl:=Q z S;rw [qao lc];refine yp _ _ _ _ (sc.no l w a L s _ fun C g E=>?_);have H:vF ops z.guard C=false:=by rw [QA O g l];exact s
        exact qmg U H (hK _ (g.trans (Fr.put U C _) lc (by omega)) (qbg (qaO O U (g.size.trans L))))
end
def qfh {P:Program} {ops:Array Oper} {V:List Nat} {n:Nat} (g:Region1 n ops):∀(a k:Nat) (e:Ex) (j:Nat),px P ops V a k=some (e,j)->SemX P ops V n k e j
  |0,_,_,_,h=>by cases h
  |a+1,k,e,j,h=>by
    simp only [px,uc,J3] at h;obtain ⟨o,l,p,m,i,b⟩:=h;split at b
    · rename_i c;cases b;exact qBJ g (qfh g a) l i c
    · cases b
end Go.Eng
