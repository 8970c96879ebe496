/- Lemmas for a claim about layer 2 (tree). No conditions but those they state. -/
import Derived.Test.YtbcmiempigoooaaGreatDoorVaa
import Derived.Laws.BytesString
set_option linter.all false
namespace Go.Eng
open Go.RowKit
def xF {v:AB} (h:qA v=true):(∃b o n c,v=.slice (some ⟨b,o,none⟩) n c/\n<=c)\/v=.slice none 0 0\/∃b o s,v=.slice (some ⟨b,o,some s⟩) 0 0:=by
  unfold qA at h;split at h
  · rename_i b o n c;exact .inl ⟨b,o,n,c,rfl,by simpa using h⟩
  · rename_i b o s;exact .inr (.inr ⟨b,o,s,rfl⟩)
  · exact .inr (.inl rfl)
  · cases h
def qhG {P:Program} (w:AA) (a:Addr):∀(n i:Nat) (l:List AB) (b:Array AB),q4 w a i n=some l->
    (loadCellsFrom a i n b).run P w=.ok (b++l.toArray) w
  |0,i,l,b,h=>by
    simp only [q4,ui] at h;subst h;simp [loadCellsFrom]
  |n+1,i,l,b,h=>by
    simp only [q4,uh,ui] at h;obtain ⟨v,g,l',c,rfl⟩:=h;have e:=qhG (P:=P) w a n (i+1) l' (b.push v) c;simp only [loadCellsFrom,load,Sem.run_bind];rw [show (Sem.load Mode.plain (a.add i) Sem.pure).run P w=.ok v w by simp [Sem.run,g]];simp only [Result.andThen_ok];rw [e];simp
def qhI {P:Program} {t:TypeId} {i:TypeInfo} (h:P.info? t=some i) (w:AA):(typeInfo t).run P w=.ok i w:=by
  simp [typeInfo,h]
def qbc {P:Program} {t:TypeId} {i:TypeInfo} (h:P.info? t=some i) (w:AA):(sizeOf t).run P w=.ok i.size w:=by
  simp [sizeOf,qhI h]
def qeH {P:Program} {t:TypeId} {b:Bool} (h:kB P t=some b) (w:AA):(isAgg t).run P w=.ok b w:=by
  unfold kB at h;cases a:P.underlying t with
  |none=>simp [a] at h
  |some d=>
    simp only [a] at h;simp only [isAgg,Sem.run_bind,run_underlying a,Result.andThen_ok];cases d<;>simp_all
def qhJ {P:Program} (w:AA) (op:BinOp) (t:TypeId) (x y:Operand) (k c:IntKind) (a b:Int):
    (eqGuard op t x y (.int k a) (.int c b)).run P w=.ok () w:=by
  unfold eqGuard;cases op<;>simp
def qnj {P:Program} (w:AA) (op:BinOp) (t:TypeId) (x y:Operand) (a b:ByteArray):
    (eqGuard op t x y (.string a) (.string b)).run P w=.ok () w:=by
  unfold eqGuard;cases op<;>simp
def qnk {P:Program} (w:AA) (op:BinOp) (t:TypeId) (x y:Operand) (a b:Bool):
    (eqGuard op t x y (.bool a) (.bool b)).run P w=.ok () w:=by
  unfold eqGuard;cases op<;>simp
def qIx (x y:ByteArray):x.data=y.data↔x=y:=by
  constructor
  · intro h;cases x;cases y;congr
  · rintro rfl;rfl
def qIy (x y:ByteArray):(x.data==y.data)=decide (x=y):=by
  rw [uR];simp [qIx]
def qnf {P:Program} (w:AA) (b:Bool) (len cap:Nat) (kl a:IntKind) (l h:Int) (c:0<=l) (g:l<=h) (e:h<=cap):
    (Instr.sliceBounds b len cap (some (.int kl l)) (some (.int a h)) none).run P w=.ok (l.toNat,h.toNat,cap) w:=by
  have:(h.toNat:Int)=h:=u7 (by omega);simp [Instr.sliceBounds,run_sliceBound, *,(by omega:(0:Int)<=h)]
def qnc {P:Program} (w:AA) (b:Bool) (len cap:Nat) (kl:IntKind) (l:Int) (a:0<=l) (c:l<=len):
    (Instr.sliceBounds b len cap (some (.int kl l)) none none).run P w=.ok (l.toNat,len,cap) w:=by
  simp [Instr.sliceBounds,run_sliceBound, *]
def qne {P:Program} (w:AA) (b:Bool) (len cap:Nat):
    (Instr.sliceBounds b len cap none none none).run P w=.ok (0,len,cap) w:=by
  simp [Instr.sliceBounds]
def qnd {P:Program} (w:AA) (b:Bool) (len cap:Nat) (a:IntKind) (h:Int) (e:0<=h) (c:h<=cap):
    (Instr.sliceBounds b len cap none (some (.int a h)) none).run P w=.ok (0,h.toNat,cap) w:=by
  simp [Instr.sliceBounds,run_sliceBound, *]
def qzw {P:Program} (w:AA) (b:Bool) (len cap:Nat) (kl a c:IntKind) (l h m:Int) (e:0<=l) (o:l<=h) (i:h<=m) (g:m<=cap):
    (Instr.sliceBounds b len cap (some (.int kl l)) (some (.int a h)) (some (.int c m))).run P w=.ok (l.toNat,h.toNat,m.toNat) w:=by
  have j:(h.toNat:Int)=h:=u7 (by omega);have k:(m.toNat:Int)=m:=u7 (by omega);simp [Instr.sliceBounds,run_sliceBound, *,(by omega:(0:Int)<=h),(by omega:(0:Int)<=m)]
def qzv {P:Program} (w:AA) (b:Bool) (len cap:Nat) (a c:IntKind) (h m:Int) (j:0<=h) (i:h<=m) (g:m<=cap):
    (Instr.sliceBounds b len cap none (some (.int a h)) (some (.int c m))).run P w=.ok (0,h.toNat,m.toNat) w:=by
  have e:(m.toNat:Int)=m:=u7 (by omega);simp [Instr.sliceBounds,run_sliceBound, *,(by omega:(0:Int)<=m)]
def qhF {P:Program} (w:AA) {t e:TypeId} {i:TypeInfo} (j:P.underlying t=some (.slice e)) (u:P.info? e=some i) {v:AB} (p:qA v=true)
    {g a mx:Option AB} {l h m:Nat} (k:(Instr.sliceBounds true (qm v) (qI v) g a mx).run P w=.ok (l,h,m) w):
    (Instr.sliceAt t v g a mx).run P w=.ok (q8 v i.size l h m) w:=by
  have q:(Instr.sliceAt t v g a mx).run P w=(Instr.slice t v g a mx).run P w:=by simp [Instr.sliceAt,run_underlying j]
  rw [q];rcases xF p with ⟨b,o,n,c,rfl,_⟩|rfl|⟨b,o,s,rfl⟩<;>
    (simp only [qm,qI] at k;simp [Instr.slice,run_underlying j,k,qbc u,q8])
def qnb {P:Program} (w:AA) {t:TypeId} (e:P.underlying t=some .string) (s:ByteArray)
    {b a:Option AB} {l h m:Nat} (c:(Instr.sliceBounds false s.size s.size b a none).run P w=.ok (l,h,m) w):
    (Instr.sliceAt t (.string s) b a none).run P w=.ok (.string (s.extract l h)) w:=by
  simp [Instr.sliceAt,Instr.slice,run_underlying e,c]
section
variable {P:Program} {w:AA} {f:Operand->AB} {v:AB} {dst:Option Tmp} {type:TypeId} {pos:String} {after:Array Edge} {guard:Option (Nat×Bool)}
theorem qdq {k:K1} {x:AB} (h:q9 w k x=some v) (b:(∃n,k=.loadN n)\/k=.load1\/(∃o,k=.fadr o)):∃a,x=.pointer (some a):=by
  rcases b with ⟨n,rfl⟩|rfl|⟨o,rfl⟩<;>(cases x<;>first|(cases h;done)|skip)<;>rename_i a<;>cases a<;>first|(cases h;done)|exact ⟨_,rfl⟩
theorem qnh {t:TypeId} {a:Operand} (h:kB P t=some false) (b:q9 w .load1 (f a)=some v):
    (execOp f ⟨dst,.load t a,type,pos,after,guard⟩).run P w=.ok (.value v) w:=by
  obtain ⟨e,g⟩:=qdq b (.inr (.inl rfl));rw [g] at b;have c:w.cell? e=some v:=b;have j:(load e).run P w=.ok v w:=by simp [load,Sem.run,c]
  have i:=qeH (P:=P) h w;simp only [execOp,g,Instr.loadAt,Instr.sureAddr,loadVar,Sem.run_bind,Sem.run_pure,Result.andThen_ok,i,uk,ud,j]
theorem qeG {t:TypeId} {i:TypeInfo} {a:Operand} (g:kB P t=some true) (j:P.info? t=some i) (b:q9 w (.loadN i.size) (f a)=some v):
    (execOp f ⟨dst,.load t a,type,pos,after,guard⟩).run P w=.ok (.value v) w:=by
  obtain ⟨c,e⟩:=qdq b (.inl ⟨_,rfl⟩);rw [e] at b;obtain ⟨l,m,rfl⟩:=uc.1 (show (q4 w c 0 i.size).map _=some v from b);have k:=qhG (P:=P) w c i.size 0 l #[] m;have h:=qeH (P:=P) g w;simp only [execOp,e,Instr.loadAt,Instr.sureAddr,loadVar,loadCells,Sem.run_bind,Sem.run_pure,Result.andThen_ok,h,wh,qbc j,k];simp
theorem qzA {op:BinOp} {t h:TypeId} {x y:Operand} (c:op=.shl\/op=.shr) (a:vf w (.shf op) (f x) (f y)=some v):
    (execOp f ⟨dst,.binOp op t x y h,type,pos,after,guard⟩).run P w=.ok (.value v) w:=by
  cases g:f x<;>simp only [g] at a<;>first|(cases a;done)|skip
  cases e:f y<;>simp only [e] at a<;>first|(cases a;done)|skip
  simp only [vf,qeC] at a;split at a
  · cases a
  · rename_i b;rcases c with rfl|rfl<;>(simp only [ui] at a;subst a;simp [execOp,g,e,qhJ,binOp,Op.shift,b])
theorem qzJ {op : BinOp} {k : IntKind} {t g : TypeId} {x y : Operand} (c : ¬ (op =.shl \/ op =.shr)) (a : vf w (.ibin op k) (f x) (f y) = some v) :
    (execOp f ⟨dst,.binOp op t x y g,type,pos,after,guard⟩).run P w=.ok (.value v) w:=by
  cases e:f x<;>simp only [e] at a<;>first|(cases a;done)|skip
  cases b:f y<;>simp only [b] at a<;>first|(cases a;done)|skip
  simp only [vf] at a;split at a
  · rename_i h;subst h;cases op<;>simp only [qcn] at a<;>
      first
        |(cases a;simp [execOp,e,b,qhJ,binOp,Op.intArith,Op.intBits,Op.intCmp];done)
        |(exfalso;simp at c;done)
        | (split at a
           · cases a
           · rename_i i;cases a;simp [execOp,e,b,qhJ,binOp,Op.intDiv,i])
  · cases a
theorem qzB {op:BinOp} {t i:TypeId} {x y:Operand} (a:vf w (.sbin op) (f x) (f y)=some v):
    (execOp f ⟨dst,.binOp op t x y i,type,pos,after,guard⟩).run P w=.ok (.value v) w:=by
  cases e:f x<;>simp only [e] at a<;>first|(cases a;done)|skip
  cases c:f y<;>simp only [c] at a<;>first|(cases a;done)|skip
  rename_i g h;simp only [vf] at a;cases op <;> simp only [qaq] at a <;>
    first
      |(cases a;simp [execOp,e,c,qnj,binOp,Op.stringOp,ByteArray.toList_eq,qIy];done)
      | (split at a
         · rename_i j;cases a;have b:¬((g.size+h.size:Nat):Int)>IntKind.i64.max:=by
             simp only [maxLen] at j;simp [IntKind.max,IntKind.bits,IntKind.signed];omega
           simp only [execOp,e,c,binOp,Op.stringOp,Sem.run_bind,qnj,Result.andThen_ok];rw [q3 b];simp
         · cases a)
      |(cases a;done)
theorem qzS {op:BinOp} {t g:TypeId} {x y:Operand} (e:P.underlying t=some .bool) (a:vf w (.bbin op) (f x) (f y)=some v):
    (execOp f ⟨dst,.binOp op t x y g,type,pos,after,guard⟩).run P w=.ok (.value v) w:=by
  cases op<;>first|(cases a;done)|skip
  all_goals
    cases c:f x<;>simp only [c] at a<;>first|(cases a;done)|skip
    cases b:f y<;>simp only [b] at a<;>first|(cases a;done)|skip
  · cases a;simp [execOp,c,b,qnk,run_eql_bool w t _ _ e]
  · cases a;simp [execOp,c,b,qnk,run_neq_bool w t _ _ e]
theorem qhD {op:UnOp} {k:K1} {t:TypeId} {x:Operand} (c:(op=.not/\k=.not)\/(op=.neg/\k=.neg)\/(op=.xor/\k=.bnot)) (a:q9 w k (f x)=some v):
    (execOp f ⟨dst,.unOp op t x,type,pos,after,guard⟩).run P w=.ok (.value v) w:=by
  rcases c with ⟨rfl,rfl⟩|⟨rfl,rfl⟩|⟨rfl,rfl⟩<;>
    (cases b:f x<;>simp only [b] at a<;>first|(cases a;done)|skip)<;>
    (cases a;simp [execOp,b,Op.unary,Op.intArith,Op.intBits])
theorem qzP {k:IntKind} {s d:TypeId} {ds:TypeDesc} {x:Operand} (c:P.underlying s=some ds) (e:P.underlying d=some (.int k)) (a:q9 w (.conv k) (f x)=some v):
    (execOp f ⟨dst,.convert s d x,type,pos,after,guard⟩).run P w=.ok (.value v) w:=by
  cases b:f x<;>simp only [b] at a<;>first|(cases a;done)|skip
  cases a;simp [execOp,b,convert,run_underlying c,run_underlying e,Conv.intToInt]
theorem qzs {s d:TypeId} {x:Operand} (c:P.underlying s=some .string) (e:P.underlying d=some .string) (a:q9 w .strid (f x)=some v):
    (execOp f ⟨dst,.convert s d x,type,pos,after,guard⟩).run P w=.ok (.value v) w:=by
  cases b:f x<;>simp only [b] at a<;>first|(cases a;done)|skip
  cases a;simp [execOp,b,convert,run_underlying c,run_underlying e]
theorem qwc:∀(l:List AB) (a:List Int),wH l=some a->l=a.map (Value.int .u8)
  |[],a,h=>by simp only [wH,ui] at h;subst h;rfl
  | x :: l, a, h => by
    unfold wH at h;split at h
    · rename_i e;cases e
    · rename_i n l' e;cases e;obtain ⟨m,b,rfl⟩:=uc.1 h;rw [qwc l m b];rfl
    · cases h
theorem qzT {s d e:TypeId} {x:Operand} (q:P.underlying s=some (.slice e)) (k:P.underlying d=some .string) (t:P.underlying e=some (.int .u8)) (y:q9 w .b2s (f x)=some v):
    (execOp f ⟨dst,.convert s d x,type,pos,after,guard⟩).run P w=.ok (.value v) w:=by
  have i:(if qA (f x)=true then (q4 w (qN (f x) 0) 0 (qm (f x))).bind fun l=>(wH l).map fun j=>Value.string (qcD j) else none)=some v:=y;split at i
  · rename_i p;obtain ⟨l,g,z⟩:=uh.1 i;obtain ⟨j,a,rfl⟩:=uc.1 z;rcases xF p with ⟨b,o,n,c,h,_⟩|h|⟨b,o,sp,h⟩
    rotate_left 2
    · rw [h] at g;simp only [qm,q4,ui] at g;subst g;simp only [wH,ui] at a;subst a;have m:=run_bytesToString (P:=P) w ⟨b,o,some sp⟩ 0 0 [] (by simp [loadCells,loadCellsFrom]);simp only [execOp,h,Sem.run_bind,run_convert_bytes_string w s d e _ 0 0 q t k,m,Result.andThen_ok];rfl
    · rw [h] at g;simp only [qN,qm,Nat.add_zero] at g;have u:=qhG (P:=P) w _ _ 0 l #[] g;rw [qwc l j a] at u;have m:=run_bytesToString (P:=P) w ⟨b,o,none⟩ n c j (by simpa [loadCells] using u);simp only [execOp,h,Sem.run_bind,run_convert_bytes_string w s d e _ n c q t k,m,Result.andThen_ok];rfl
    · rw [h] at g;simp only [qm,q4,ui] at g;subst g;simp only [wH,ui] at a;subst a;simp only [execOp,h,Sem.run_bind,run_convert_bytes_string w s d e _ 0 0 q t k];simp [Conv.bytesToString,qcD]
  · cases i
theorem qzz {t e : TypeId} {i : TypeInfo} {x : Operand} {b : Option Operand} (g : P.underlying t = some (.slice e)) (s : P.info? e = some i) (h : ∀ v, f (.const v) = v)
    (a:vf w (.slLo i.size) (f x) (f (b.getD xj))=some v):
    (execOp f ⟨dst,.slice t x b none none,type,pos,after,guard⟩).run P w=.ok (.value v) w:=by
  cases c:f (b.getD xj)<;>simp only [c] at a<;>first|(cases a;done)|skip
  rename_i k l;simp only [vf] at a;split at a
  · rename_i p;obtain ⟨u,q,m⟩:=p;cases a;have j:(Instr.sliceBounds true (qm (f x)) (qI (f x)) (b.map f) none none).run P w=.ok (l.toNat,qm (f x),qI (f x)) w:=by
      cases b with
      |none=>
        have:l=0:=by have:=h (.int .i64 0);simp only [Option.getD_none,xj,this,Value.int.injEq] at c;exact c.2.symm
        subst this;exact qne w _ _ _
      |some o=>
        simp only [Option.getD_some] at c;simp only [Option.map_some,c];exact qnc w _ _ _ _ _ q m
    have:=qhF w g s u j;simp [execOp,this]
  · cases a
theorem qzy {t e : TypeId} {i : TypeInfo} {x g : Operand} {b : Option Operand} (p : P.underlying t = some (.slice e)) (A : P.info? e = some i) (q : ∀ v, f (.const v) = v)
    (a:yz w (.slLoHi i.size) (f x) (f (b.getD xj)) (f g)=some v):
    (execOp f ⟨dst,.slice t x b (some g) none,type,pos,after,guard⟩).run P w=.ok (.value v) w:=by
  cases c:f (b.getD xj)<;>simp only [c] at a<;>first|(cases a;done)|skip
  cases o:f g<;>simp only [o] at a<;>first|(cases a;done)|skip
  rename_i k l k2 h;simp only [yz] at a;split at a
  · rename_i y;obtain ⟨B,z,j,m⟩:=y;cases a;have s:(Instr.sliceBounds true (qm (f x)) (qI (f x)) (b.map f) (some (.int k2 h)) none).run P w=.ok (l.toNat,h.toNat,qI (f x)) w:=by
      cases b with
      |none=>
        have:l=0:=by have:=q (.int .i64 0);simp only [Option.getD_none,xj,this,Value.int.injEq] at c;exact c.2.symm
        subst this;exact qnd w _ _ _ _ _ j m
      |some u=>
        simp only [Option.getD_some] at c;simp only [Option.map_some,c];exact qnf w _ _ _ _ _ _ _ z j m
    have:=qhF w p A B s;simp [execOp,o,this]
  · cases a
theorem qzx {t e : TypeId} {i : TypeInfo} {x j g : Operand} {b : Option Operand} (y : P.underlying t = some (.slice e)) (F : P.info? e = some i) (z : ∀ v, f (.const v) = v)
    (a:pv4 w (.slMax i.size) (f x) (f (b.getD xj)) (f j) (f g)=some v):
    (execOp f ⟨dst,.slice t x b (some j) (some g),type,pos,after,guard⟩).run P w=.ok (.value v) w:=by
  cases c:f (b.getD xj)<;>simp only [c] at a<;>first|(cases a;done)|skip
  cases s:f j<;>simp only [s] at a<;>first|(cases a;done)|skip
  cases q:f g<;>simp only [q] at a<;>first|(cases a;done)|skip
  rename_i k l k2 h k3 m;simp only [pv4] at a;split at a
  · rename_i C;obtain ⟨H,E,o,p,u⟩:=C;cases a;have A:(Instr.sliceBounds true (qm (f x)) (qI (f x)) (b.map f) (some (.int k2 h)) (some (.int k3 m))).run P w=.ok (l.toNat,h.toNat,m.toNat) w:=by
      cases b with
      |none=>
        have:l=0:=by have:=z (.int .i64 0);simp only [Option.getD_none,xj,this,Value.int.injEq] at c;exact c.2.symm
        subst this;exact qzv w _ _ _ _ _ _ _ o p u
      |some B=>
        simp only [Option.getD_some] at c;simp only [Option.map_some,c];exact qzw w _ _ _ _ _ _ _ _ _ E o p u
    have:=qhF w y F H A;simp [execOp,s,q,this]
  · cases a
theorem qzu {t : TypeId} {x : Operand} {b : Option Operand} (g : P.underlying t = some .string) (h : ∀ v, f (.const v) = v)
    (a:vf w .stLo (f x) (f (b.getD xj))=some v):
    (execOp f ⟨dst,.slice t x b none none,type,pos,after,guard⟩).run P w=.ok (.value v) w:=by
  cases e:f x<;>simp only [e] at a<;>first|(cases a;done)|skip
  cases c:f (b.getD xj)<;>simp only [c] at a<;>first|(cases a;done)|skip
  rename_i s k l;simp only [vf] at a;split at a
  · rename_i o;obtain ⟨p,j⟩:=o;cases a;have i:(Instr.sliceBounds false s.size s.size (b.map f) none none).run P w=.ok (l.toNat,s.size,s.size) w:=by
      cases b with
      |none=>
        have:l=0:=by have:=h (.int .i64 0);simp only [Option.getD_none,xj,this,Value.int.injEq] at c;exact c.2.symm
        subst this;exact qne w _ _ _
      |some m=>
        simp only [Option.getD_some] at c;simp only [Option.map_some,c];exact qnc w _ _ _ _ _ p j
    have:=qnb w g s i;simp [execOp,e,this]
  · cases a
theorem qzt {t : TypeId} {x e : Operand} {b : Option Operand} (o : P.underlying t = some .string) (p : ∀ v, f (.const v) = v)
    (a:yz w .stLoHi (f x) (f (b.getD xj)) (f e)=some v):
    (execOp f ⟨dst,.slice t x b (some e) none,type,pos,after,guard⟩).run P w=.ok (.value v) w:=by
  cases g:f x<;>simp only [g] at a<;>first|(cases a;done)|skip
  cases c:f (b.getD xj)<;>simp only [c] at a<;>first|(cases a;done)|skip
  cases m:f e<;>simp only [m] at a<;>first|(cases a;done)|skip
  rename_i s k l k2 h;simp only [yz] at a;split at a
  · rename_i y;obtain ⟨z,i,j⟩:=y;cases a;have q:(Instr.sliceBounds false s.size s.size (b.map f) (some (.int k2 h)) none).run P w=.ok (l.toNat,h.toNat,s.size) w:=by
      cases b with
      |none=>
        have:l=0:=by have:=p (.int .i64 0);simp only [Option.getD_none,xj,this,Value.int.injEq] at c;exact c.2.symm
        subst this;exact qnd w _ _ _ _ _ i j
      |some u=>
        simp only [Option.getD_some] at c;simp only [Option.map_some,c];exact qnf w _ _ _ _ _ _ _ z i j
    have:=qnb w o s q;simp [execOp,g,m,this]
  · cases a
theorem qzM {s:TypeId} {fs:Array Field} {b:Field} {i:TypeInfo} {x:Operand} {n:Nat} (j:P.underlying s=some (.struct fs)) (g:fs[n]? =some b) (h:P.info? b.type=some i)
    (e:i.size≠0) (a:q9 w (.fadr b.offset) (f x)=some v):
    (execOp f ⟨dst,.fieldAddr s x n,type,pos,after,guard⟩).run P w=.ok (.value v) w:=by
  obtain ⟨k,c⟩:=qdq a (.inr (.inr ⟨_,rfl⟩));rw [c] at a;cases a;simp [execOp,c,Instr.fieldAt,Instr.sureAddr,run_underlying j,g,fieldPlace,qbc h,e]
theorem qhH {t:TypeId} {cs:Array AB} {off:Nat} (a:kB P t=some false) (c:cs[off]? =some v):(part t cs off).run P w=.ok v w:=by
  have b:=qeH (P:=P) a w;simp [part,b,c]
theorem qzC {t:TypeId} {i:TypeInfo} {cs:Array AB} {off:Nat} (a:kB P t=some true) (c:P.info? t=some i):(part t cs off).run P w=.ok (.agg (cs.extract off (off+i.size))) w:=by
  have b:=qeH (P:=P) a w;simp [part,b,qbc c]
theorem qzL {s:TypeId} {fs:Array Field} {b:Field} {x:Operand} {n:Nat} (h:P.underlying s=some (.struct fs)) (g:fs[n]? =some b) (e:kB P b.type=some false)
    (a:q9 w (.fld b.offset) (f x)=some v):
    (execOp f ⟨dst,.field s x n,type,pos,after,guard⟩).run P w=.ok (.value v) w:=by
  cases c:f x<;>simp only [c] at a<;>first|(cases a;done)|skip
  have:=qhH (P:=P) (w:=w) e (show _=some v from a);simp [execOp,c,Instr.field,run_underlying h,g,asAgg,this]
theorem qzK {s:TypeId} {fs:Array Field} {a:Field} {i:TypeInfo} {x:Operand} {n:Nat} (j:P.underlying s=some (.struct fs)) (g:fs[n]? =some a) (e:kB P a.type=some true)
    (h:P.info? a.type=some i) (b:q9 w (.fldN a.offset i.size) (f x)=some v):
    (execOp f ⟨dst,.field s x n,type,pos,after,guard⟩).run P w=.ok (.value v) w:=by
  cases c:f x<;>simp only [c] at b<;>first|(cases b;done)|skip
  rename_i cs;cases b;have:=qzC (P:=P) (w:=w) (cs:=cs) (off:=a.offset) e h;simp [execOp,c,Instr.field,run_underlying j,g,asAgg,this]
theorem qzI {t e:TypeId} {i:TypeInfo} {x y:Operand} (k:P.underlying t=some (.slice e)) (p:P.info? e=some i) (h:vf w (.ixa i.size) (f x) (f y)=some v):
    (execOp f ⟨dst,.indexAddr t x y,type,pos,after,guard⟩).run P w=.ok (.value v) w:=by
  cases j:f y<;>simp only [j] at h<;>first|(cases h;done)|skip
  simp only [vf] at h;split at h
  · rename_i l;obtain ⟨s,m,a⟩:=l;cases h;rcases xF s with ⟨b,o,n,c,g,_⟩|g|⟨b,o,sp,g⟩
    rotate_left 2
    · rw [g] at a;simp only [qm] at a;omega
    · rw [g] at a;simp only [qm] at a;simp only [execOp,g,j,Instr.indexAt,Sem.run_bind,run_underlying k,Result.andThen_ok,asIntOf,Sem.run_pure,m,a,and_self,wh,qbc p];simp only [qN,Addr.add];split
      · rename_i q;simp [q]
      · rfl
    · rw [g] at a;simp only [qm] at a;omega
  · cases h
theorem qzH {t:TypeId} {x y:Operand} (i:P.underlying t=some .string) (a:vf w .ixs (f x) (f y)=some v):
    (execOp f ⟨dst,.index t x y,type,pos,after,guard⟩).run P w=.ok (.value v) w:=by
  cases e:f x<;>simp only [e] at a<;>first|(cases a;done)|skip
  cases c:f y<;>simp only [c] at a<;>first|(cases a;done)|skip
  simp only [vf] at a;split at a
  · rename_i h;obtain ⟨b,g,rfl⟩:=uc.1 a;simp [execOp,e,c,Instr.index,run_underlying i,asIntOf,h,g]
  · cases a
theorem qzN {x:Operand} {n:Nat} (a:q9 w (.ext n) (f x)=some v):
    (execOp f ⟨dst,.extract x n,type,pos,after,guard⟩).run P w=.ok (.value v) w:=by
  cases c:f x<;>simp only [c] at a<;>first|(cases a;done)|skip
  rename_i vs;have b:vs[n]? =some v:=a;simp [execOp,c,Instr.extract,b]
theorem qzE {t:TypeId} {d:TypeDesc} {x:Operand} (c:P.underlying t=some d) (e:∀b,d≠ .interface b) (a:q9 w (.mkif t) (f x)=some v):
    (execOp f ⟨dst,.makeInterface t x,type,pos,after,guard⟩).run P w=.ok (.value v) w:=by
  cases a;simp only [execOp,Instr.makeInterface,Sem.run_bind,run_underlying c,Result.andThen_ok];cases d<;>first|rfl|exact absurd rfl (e _)
theorem qzD {x:Operand} (a:q9 w .nilc (f x)=some v):
    (execOp f ⟨dst,.nilCheck x,type,pos,after,guard⟩).run P w=.ok (.value v) w:=by
  cases b:f x with
  |pointer p=>
    rw [b] at a;cases p with
    |none=>cases a
    |some c=>cases a;simp [execOp,b]
  |iface t u=>rw [b] at a;cases a;simp [execOp,b]
  |_=>rw [b] at a;cases a
theorem qng {x:Operand} {op:Op} (a:op=.move x\/op=.assign x) (b:q9 w .same (f x)=some v):
    (execOp f ⟨dst,op,type,pos,after,guard⟩).run P w=.ok (.value v) w:=by
  cases b;rcases a with rfl|rfl<;>simp [execOp]
theorem qzG {x:Operand} {t e:TypeId} (i:P.underlying t=some (.slice e)) (h:q9 w .lenS (f x)=some v):
    (execOp f ⟨dst,.call {callee:=.builtin .len,args:=#[x],argTypes:=#[t]},type,pos,after,guard⟩).run P w=.ok (.value v) w:=by
  have a:(if qA (f x)=true then some (Value.int .i64 (qm (f x))) else none)=some v:=h;split at a
  · rename_i j;cases a;rcases xF j with ⟨b,o,n,c,g,_⟩|g|⟨b,o,s,g⟩<;>
      simp [execOp,g,resolve,invoke,builtin,Builtin.len_,run_underlying i,goInt,qm]
  · cases a
theorem qzQ {x:Operand} {t e:TypeId} (i:P.underlying t=some (.slice e)) (h:q9 w .capS (f x)=some v):
    (execOp f ⟨dst,.call {callee:=.builtin .cap,args:=#[x],argTypes:=#[t]},type,pos,after,guard⟩).run P w=.ok (.value v) w:=by
  have a:(if qA (f x)=true then some (Value.int .i64 (qI (f x))) else none)=some v:=h;split at a
  · rename_i j;cases a;rcases xF j with ⟨b,o,n,c,g,_⟩|g|⟨b,o,s,g⟩<;>
      simp [execOp,g,resolve,invoke,builtin,Builtin.cap_,run_underlying i,goInt,qI]
  · cases a
theorem qzF {x:Operand} {t:TypeId} (c:P.underlying t=some .string) (a:q9 w .lenT (f x)=some v):
    (execOp f ⟨dst,.call {callee:=.builtin .len,args:=#[x],argTypes:=#[t]},type,pos,after,guard⟩).run P w=.ok (.value v) w:=by
  cases b:f x<;>simp only [b] at a<;>first|(cases a;done)|skip
  cases a;simp [execOp,b,resolve,invoke,builtin,Builtin.len_,run_underlying c,goInt]
end
def qxL {P : Program} {o : Oper} {p : PO} (h : qep P o.op = some p) {f : Operand -> AB} (b : ∀ v, f (.const v) = v) {w : AA} {v : AB} (a : p.val w f = some v) :
    (execOp f o).run P w=.ok (.value v) w:=by
  obtain ⟨dst,op,type,pos,after,guard⟩:=o;unfold qep at h;dsimp only at h;split at h
  · cases h;exact qng (.inl rfl) a
  · cases h;exact qng (.inr rfl) a
  · split at h
    · cases h;exact qeG ‹_› ‹_› a
    · cases h;exact qnh ‹_› a
    · cases h
  · split at h
    · split at h
      · cases h;exact qzA ‹_› a
      · cases h;exact qzJ ‹_› a
    · cases h;exact qzB a
    · cases h;exact qzS ‹_› a
    · cases h
  · cases h;exact qhD (.inl ⟨rfl,rfl⟩) a
  · cases h;exact qhD (.inr (.inl ⟨rfl,rfl⟩)) a
  · cases h;exact qhD (.inr (.inr ⟨rfl,rfl⟩)) a
  · split at h
    · cases h;exact qzP ‹_› ‹_› a
    · cases h;exact qzs ‹_› ‹_› a
    · split at h
      · cases h;exact qzT ‹_› ‹_› ‹_› a
      · cases h
    · cases h
  · split at h
    · split at h
      · cases h;exact qzz ‹_› ‹_› b a
      · cases h;exact qzy ‹_› ‹_› b a
      · cases h;exact qzx ‹_› ‹_› b a
      · cases h
    · split at h
      · cases h;exact qzu ‹_› b a
      · cases h;exact qzt ‹_› b a
      · cases h
    · cases h
  · split at h
    · split at h
      · split at h
        · split at h
          · cases h
          · cases h;exact qzM ‹_› ‹_› ‹_› ‹_› a
        · cases h
      · cases h
    · cases h
  · split at h
    · split at h
      · split at h
        · cases h;exact qzK ‹_› ‹_› ‹_› ‹_› a
        · cases h;exact qzL ‹_› ‹_› ‹_› a
        · cases h
      · cases h
    · cases h
  · split at h
    · split at h
      · cases h;exact qzI ‹_› ‹_› a
      · cases h
    · cases h
  · split at h
    · cases h;exact qzH ‹_› a
    · cases h
  · cases h;exact qzN a
  · split at h
    · cases h
    · rename_i d g i;cases h;exact qzE i (fun j e=>by subst e;exact g j rfl) a
    · cases h
  · cases h;exact qzD a
  · rename_i c;obtain ⟨callee,⟨args⟩,⟨argTypes⟩⟩:=c;simp only at h;unfold qlM at h;split at h
    · split at h
      · cases h;exact qzF ‹_› a
      · cases h;exact qzG ‹_› a
      · cases h
    · split at h
      · cases h;exact qzQ ‹_› a
      · cases h
    · cases h
  · cases h
end Go.Eng
namespace Go.Eng
open Go.RowKit
inductive Ex where
  |var (i:Nat)
  |const (v:AB)
  |op1 (k:K1) (x:Ex)
  |op2 (k:K2) (x y:Ex)
  |op3 (k:K3) (x y z:Ex)
  |op4 (k:K4) (x y z u:Ex)
  |ite (c x y:Ex)
def qb7 (c:AB) (x y:Option AB):Option AB:=
  match c with
  | .bool true=>x
  | .bool false=>y
  |_=>none
def Ex.ev (ρ:qa) (w:AA):Ex->Option AB
  | .var i=>some (ρ i)
  | .const v=>some v
  | .op1 k x=>(x.ev ρ w).bind (q9 w k)
  | .op2 k x y=>(x.ev ρ w).bind fun a=>(y.ev ρ w).bind fun b=>vf w k a b
  | .op3 k x y z=>(x.ev ρ w).bind fun a=>(y.ev ρ w).bind fun b=>(z.ev ρ w).bind fun c=>yz w k a b c
  | .op4 k x y z u=>(x.ev ρ w).bind fun a=>(y.ev ρ w).bind fun b=>(z.ev ρ w).bind fun c=>(u.ev ρ w).bind fun d=>pv4 w k a b c d
  | .ite c x y=>(c.ev ρ w).bind fun a=>qb7 a (x.ev ρ w) (y.ev ρ w)
def qbz:Operand->AB
  | .const v=>v
  | .global g=> .pointer (some ⟨g,0,none⟩)
  | .func f=> .func (.func f) #[] #[]
  | .tmp _=>undef
def kz:Operand->Ex
  | .tmp t=> .var t
  |x=> .const (qbz x)
def vK (ops:Array Oper) (i:Nat):Option Nat:=(ops[i]?).bind (·.dst)
def zP (V:List Nat):Operand->Bool
  | .tmp t=> !V.contains t
  |_=>false
def PO.opds:PO->List Operand
  | .k1 _ x=>[x]
  | .k2 _ x y=>[x,y]
  | .k3 _ x y z=>[x,y,z]
  | .k4 _ x y z u=>[x,y,z,u]
def PO.mk:PO->List Ex->Option Ex
  | .k1 .same _,[a]=>some a
  | .k1 k _,[a]=>some (.op1 k a)
  | .k2 k _ _,[a,b]=>some (.op2 k a b)
  | .k3 k _ _ _,[a,b,c]=>some (.op3 k a b c)
  | .k4 k _ _ _ _,[a,b,c,d]=>some (.op4 k a b c d)
  |_,_=>none
def xf (g:Option (Nat×Bool)) (j:Nat):Bool:=match g with|none=>true|some (i,_)=>decide (i<j)
def qdv (V:List Nat):Op->Option (Operand×Operand×AB×Bool)
  | .pick c (.const va) b=>if zP V b then some (c,b,va,false) else none
  | .pick c a (.const vb)=>if zP V a then some (c,a,vb,true) else none
  |_=>none
section
variable (P:Program) (ops:Array Oper) (V:List Nat)
def pxo (rec : Nat -> Option (Ex × Nat)) (g : Option (Nat × Bool)) (x : Operand) (pos : Nat) : Option (Ex × Nat) :=
  if zP V x then
    match x,pos with
    | .tmp t,p+1=>if vK ops p=some t/\(ops[p]?).map (·.guard)=some g then rec p else none
    |_,_=>none
  else some (kz x,pos)
def qaB (rec:Nat->Option (Ex×Nat)) (g:Option (Nat×Bool)):List Operand->Nat->Option (List Ex×Nat)
  |[],pos=>some ([],pos)
  |x::xs,pos=>(qaB rec g xs pos).bind fun (es,j)=>(pxo ops V rec g x j).bind fun (e,j')=>some (e::es,j')
def qdp (rec : Nat -> Option (Ex × Nat)) (o : Oper) (k : Nat) : Option (Ex × Nat) :=
  match qdv V o.op with
  | some (c, y, cv, want) =>
    match k,c,y with
    | p + 1,.tmp tc,.tmp ty =>
      match (ops[p]?).bind (·.guard) with
      |some (i,want')=>
        if want'=want/\vK ops p=some ty/\vK ops i=some tc/\(o.guard=none\/zP V c=true) then
          (rec p).bind fun (ey,jy)=>(pxo ops V rec o.guard c jy).bind fun (ec,jc)=>some (if want then .ite ec ey (.const cv) else .ite ec (.const cv) ey,jc)
        else none
      |none=>none
    |_,_,_=>none
  |none=>
    match o.op with
    | .pick c a b=>if zP V a||zP V b then none else (pxo ops V rec o.guard c k).bind fun (ec,jc)=>some (.ite ec (kz a) (kz b),jc)
    |op=>(qep P op).bind fun p=>(qaB ops V rec o.guard p.opds k).bind fun (es,j)=>(p.mk es).map fun e=>(e,j)
def px:Nat->Nat->Option (Ex×Nat)
  |0,_=>none
  |fuel+1,k=>(ops[k]?).bind fun o=>(qdp P ops V (px fuel) o k).bind fun (e,j)=>if xf o.guard j then some (e,j) else none
end
def PV (P:Program) (w:AA) (o:Oper) (a:Act) (v:AB):Prop:=∀w',qc w w'->(execOp a.eval o).run P w'=.ok (.value v) w'
def PS (P : Program) (w : AA) (ops : Array Oper) : List Nat -> Act -> (Act -> Prop) -> Prop
  |[],a,K=>K a
  |i::is,a,K=>match ops[i]? with
    |none=>PS P w ops is a K
    |some o=>if Region.wanted o (yielded ops a.tmps) then∃v,PV P w o a v/\PS P w ops is (a.put o.dst v) K else PS P w ops is (a.put o.dst undef) K
def wM {P : Program} {w : AA} {ops : Array Oper} : ∀ (l m : List Nat) (a : Act) (K : Act -> Prop), PS P w ops l a (fun c => PS P w ops m c K) -> PS P w ops (l ++ m) a K
  |[],_,_,_,h=>h
  | i :: l, m, a, K, h => by
    simp only [List.cons_append,PS] at h⊢;split
    · rename_i e;simp only [e] at h;exact wM l m a K h
    · rename_i o e;simp only [e] at h;split
      · rename_i b;simp only [b,wh] at h;obtain ⟨v,g,j⟩:=h;exact ⟨v,g,wM l m _ K j⟩
      · rename_i b;simp only [b] at h;exact wM l m _ K (by simpa using h)
def gS:Nat:=1000000000
def qaR:Deferred->AB
  |⟨.collected r,_⟩=> .int .i64 r
  |⟨.fn f caps,args⟩=> .func f args caps
  |_=> .bool false
def qcv (l:List Deferred):AB:=.tuple (l.map qaR).toArray
def yM (d:Deferred):AB->AB
  | .tuple vs=> .tuple (qaR d::vs.toList).toArray
  |v=>v
def qID (d:Deferred) (l:List Deferred):yM d (qcv l)=qcv (d::l):=by simp [yM,qcv]
def wr (V:List Nat) (a:Act):qa:=fun i=>if i=gS then qcv a.defers else if i∈V then a.tmps.getD i undef else undef
structure Agree (n:Nat) (V:List Nat) (ρ:qa) (a:Act):Prop where
  size:a.tmps.size=n
  env:ρ=wr V a
  lt:∀i∈V,i<n
  big:n<=gS
def Agree.ne {n:Nat} {V:List Nat} {ρ:qa} {a:Act} (h:Agree n V ρ a) {i:Nat} (b:i∈V):i≠gS:=by
  have e:=h.lt i b;have c:=h.big;omega
def Agree.at {n:Nat} {V:List Nat} {ρ:qa} {a:Act} (h:Agree n V ρ a) {i:Nat} (b:i∈V):ρ i=a.tmps.getD i undef:=by
  rw [h.env];simp only [wr];rw [q3 (h.ne b),j0 b]
def Agree.ds {n:Nat} {V:List Nat} {ρ:qa} {a:Act} (h:Agree n V ρ a):ρ gS=qcv a.defers:=by
  rw [h.env];simp [wr]
structure Fr (ops:Array Oper) (j k:Nat) (a a':Act):Prop where
  size:a'.tmps.size=a.tmps.size
  defers:a'.defers=a.defers
  keep:∀t,(∀i,j<=i->i<k->vK ops i≠some t)->a'.tmps[t]? =a.tmps[t]?
theorem Fr.refl (ops:Array Oper) (j k:Nat) (a:Act):Fr ops j k a a:=⟨rfl,rfl,fun _ _=>rfl⟩
def Fr.trans {ops:Array Oper} {i j k:Nat} {a b c:Act} (h:Fr ops i j a b) (g:Fr ops j k b c) (o:i<=j) (p:j<=k):Fr ops i k a c:=
  ⟨g.size.trans h.size,g.defers.trans h.defers,fun t l=>(g.keep t fun x m e=>l x (by omega) e).trans (h.keep t fun x m e=>l x m (by omega))⟩
def Fr.put {ops:Array Oper} {k:Nat} {o:Oper} (c:ops[k]? =some o) (a:Act) (v:AB):Fr ops k (k+1) a (a.put o.dst v):=by
  have i:vK ops k=o.dst:=by simp [vK,c]
  cases h:o.dst with
  |none=>exact Fr.refl _ _ _ _
  |some d=>
    refine ⟨by simp [Act.put],rfl,fun t g=>?_⟩;have b:d≠t:=fun e=>g k (kh _) (by omega) (by rw [i,h,e]);simp [Act.put,b]
structure Region1 (n:Nat) (ops:Array Oper):Prop where
  once:∀i i' t,vK ops i=some t->vK ops i'=some t->i=i'
  lt:∀i t,vK ops i=some t->t<n
def qcL (ops:Array Oper) (V:List Nat) (j k:Nat):Prop:=∀i,j<=i->i<k->∀t,vK ops i=some t->t∉V
def Agree.fr {n:Nat} {V:List Nat} {ρ:qa} {a l:Act} {ops:Array Oper} {j k:Nat} (h:Agree n V ρ a) (c:Fr ops j k a l) (b:qcL ops V j k):Agree n V ρ l:=by
  refine ⟨c.size.trans h.size, ?_,h.lt,h.big⟩;rw [h.env];funext i;simp only [wr,c.defers];split
  · rfl
  · split
    · rename_i m;have:=c.keep i fun x o g e=>b x o g i e m;simp only [Array.getD_eq_getD_getElem?,this]
    · rfl
def vx (ops:Array Oper) (g:Option (Nat×Bool)) (a:Act):Bool:=match g with|none=>true|some (i,want)=>yielded ops a.tmps i==some want
theorem qag (ops:Array Oper) (o:Oper) (a:Act):Region.wanted o (yielded ops a.tmps)=vx ops o.guard a:=rfl
def qw9 {n:Nat} {ops:Array Oper} (l:Region1 n ops) {j k i:Nat} {a c:Act} (h:Fr ops j k a c) (p:i<j):yielded ops c.tmps i=yielded ops a.tmps i:=by
  simp only [yielded];cases b:vK ops i with
  |none=>simp only [vK] at b;simp [b]
  |some t=>
    have m:=h.keep t fun x o g e=>by have:=l.once _ _ _ b e;omega
    simp only [vK] at b;simp [b,m]
theorem Qk {n:Nat} {ops:Array Oper} (l:Region1 n ops) {j k:Nat} {a b:Act} {g:Option (Nat×Bool)} (h:Fr ops j k a b) (c:xf g j=true):vx ops g b=vx ops g a:=by
  cases g with
  |none=>rfl
  |some p=>
    obtain ⟨i,e⟩:=p;simp only [xf,ue] at c;simp only [vx,qw9 l h c]
def qlh (ops:Array Oper) (V:List Nat) (x:Operand) (pos:Nat):Prop:=∀t,x=.tmp t->t∈V\/∃i,i<pos/\vK ops i=some t
theorem qkk {n:Nat} {ops:Array Oper} {V:List Nat} (o:Region1 n ops) {x:Operand} {pos j k:Nat} {a l:Act} (s:qlh ops V x pos) (m:Fr ops j k a l) (y:pos<=j) (b:qcL ops V j k):
    l.eval x=a.eval x:=by
  cases x with
  |tmp t=>
    have:l.tmps[t]? =a.tmps[t]? :=m.keep t fun i u c e=>by
      rcases s t rfl with h|⟨z,q,p⟩
      · exact b i u c t e h
      · have:=o.once _ _ _ e p;omega
    simp only [Act.eval,Array.getD_eq_getD_getElem?,this]
  |const v=>rfl
  |global g=>rfl
  |func f=>rfl
section
variable (P:Program) (ops:Array Oper) (V:List Nat) (n:Nat)
structure SemX (k:Nat) (e:Ex) (j:Nat):Prop where
  le:j<=k
  free:qcL ops V j k
  lt:∀o,ops[k]? =some o->xf o.guard j=true
  yes:∀o,ops[k]? =some o->∀(ρ:qa) (w:AA) (a:Act) (v:AB),Agree n V ρ a->vx ops o.guard a=true->e.ev ρ w=some v->∀K:Act->Prop,
    (∀a',Fr ops j (k+1) a a'->(∀d,o.dst=some d->a'.tmps[d]? =some v)->K a')->PS P w ops (List.range' j (k+1 - j)) a K
  no:∀o,ops[k]? =some o->∀(w:AA) (a:Act),a.tmps.size=n->vx ops o.guard a=false->∀K:Act->Prop,
    (∀a',Fr ops j (k+1) a a'->(∀d,o.dst=some d->a'.tmps[d]? =some undef)->K a')->PS P w ops (List.range' j (k+1 - j)) a K
structure SemL (g:Option (Nat×Bool)) (xs:List Operand) (pos:Nat) (es:List Ex) (j:Nat):Prop where
  le:j<=pos
  free:qcL ops V j pos
  safe:∀x∈xs,qlh ops V x pos
  yes:xf g j=true->∀(ρ:qa) (w:AA) (a:Act) (vs:List AB),Agree n V ρ a->vx ops g a=true->es.map (·.ev ρ w)=vs.map some->∀K:Act->Prop,
    (∀a',Fr ops j pos a a'->xs.map a'.eval=vs->K a')->PS P w ops (List.range' j (pos - j)) a K
  no:xf g j=true->∀(w:AA) (a:Act),a.tmps.size=n->vx ops g a=false->∀K:Act->Prop,
    (∀a',Fr ops j pos a a'->(∀x∈xs,zP V x=true->a'.eval x=undef)->K a')->PS P w ops (List.range' j (pos - j)) a K
end
def qpg {x:Option AB} {vs:List AB} (h:[x]=vs.map some):∃v,vs=[v]/\x=some v:=by
  cases vs with
  |nil=>cases h
  |cons v vs=>cases vs with
    |nil=>exact ⟨v,rfl,by simpa using h⟩
    |cons u a=>simp at h
def qfj {n:Nat} {V:List Nat} {ρ:qa} {a:Act} {w:AA} {x:Operand} {v:AB} (h:Agree n V ρ a) (e:zP V x=false) (b:(kz x).ev ρ w=some v):a.eval x=v:=by
  cases x with
  |tmp t=>
    simp only [kz,Ex.ev,ui] at b;have c:t∈V:=by simpa [zP] using e
    rw [<-b,h.at c];simp [Act.eval]
  |const u=>simpa [kz,Ex.ev,qbz,Act.eval] using b
  |global g=>simpa [kz,Ex.ev,qbz,Act.eval] using b
  |func f=>simpa [kz,Ex.ev,qbz,Act.eval] using b
def qCY {ops:Array Oper} {V:List Nat} {x:Operand} (a:zP V x=false) (pos:Nat):qlh ops V x pos:=fun t e=>by
  subst e;exact .inl (by simpa [zP] using a)
section
variable {P:Program} {ops:Array Oper} {V:List Nat} {n:Nat} {rec:Nat->Option (Ex×Nat)}
theorem qh0 (_hr : Region1 n ops) (E : ∀ k e j, rec k = some (e, j) -> SemX P ops V n k e j) {g : Option (Nat × Bool)} {x : Operand} {pos : Nat} {e : Ex} {j : Nat}
    (h:pxo ops V rec g x pos=some (e,j)):SemL P ops V n g [x] pos [e] j:=by
  unfold pxo at h;split at h
  · rename_i z;split at h
    · rename_i t p;split at h
      · rename_i hc;obtain ⟨R,O⟩:=hc;have L:=E _ _ _ h;obtain ⟨o,C,F⟩:∃o,ops[p]? =some o/\o.guard=g:=by
          cases C:ops[p]? with
          |none=>simp [C] at O
          |some o=>simp only [C,Option.map_some,ui] at O;exact ⟨o,rfl,O⟩
        have J:o.dst=some t:=by simpa [vK,C] using R
        have Y:t∉V:=by simpa [zP] using z
        refine ⟨by have:=L.le;omega,fun i hi Q u I=>?_,fun y s u I=>?_,fun _ ρ w a vs W m q K B=>?_,fun _ w a H m K B=>?_⟩
        · by_cases Z:i=p
          · subst Z;rw [R] at I;cases I;exact Y
          · exact L.free i hi (by omega) u I
        · have b:y=.tmp t:=by simpa using s
          subst b;cases I;exact .inr ⟨p,by omega,R⟩
        · obtain ⟨v,rfl,l⟩:=qpg q;refine L.yes o C ρ w a v W (by rw [F];exact m) l K fun X A S=>B X A ?_;have:=S t J;simp [Act.eval,Array.getD_eq_getD_getElem?,this]
        · refine L.no o C w a H (by rw [F];exact m) K fun X A S=>B X A fun y s _=>?_;have b:y=.tmp t:=by simpa using s
          subst b;simp [Act.eval,Array.getD_eq_getD_getElem?,S t J]
      · cases h
    · cases h
  · rename_i z;have c:zP V x=false:=by simpa using z
    simp only [ui,uD] at h;obtain ⟨rfl,rfl⟩:=h;refine ⟨kh _,fun i hi Q=>by omega,fun y s=>?_,fun _ ρ w a vs W m q K B=>?_,fun _ w a H m K B=>?_⟩
    · have b:y=x:=by simpa using s
      subst b;exact qCY c _
    · obtain ⟨v,rfl,l⟩:=qpg q;simp only [JU,List.range',PS];exact B a (Fr.refl _ _ _ _) (by simp [qfj W c l])
    · simp only [JU,List.range',PS];refine B a (Fr.refl _ _ _ _) fun y s U=>?_;have b:y=x:=by simpa using s
      subst b;simp [c] at U
theorem qbf {i j k:Nat} (b:i<=j) (a:j<=k):List.range' i (k - i)=List.range' i (j - i)++List.range' j (k - j):=by
  have h:= @List.range'_append_1 i (j - i) (k - j);rw [show i+(j - i)=j by omega,show (j - i)+(k - j)=k - i by omega] at h;exact h.symm
theorem qnE (H : Region1 n ops) (z : ∀ k e j, rec k = some (e, j) -> SemX P ops V n k e j) {g : Option (Nat × Bool)} : ∀ {xs : List Operand} {pos : Nat} {es : List Ex} {j : Nat},
    qaB ops V rec g xs pos=some (es,j)->SemL P ops V n g xs pos es j
  |[],pos,es,j,h=>by
    simp only [qaB,ui,uD] at h;obtain ⟨rfl,rfl⟩:=h;refine ⟨kh _,fun i Y I=>by omega,fun y q=>(by cases q),fun _ ρ w a vs X c m K E=>?_,fun _ w a C c K E=>?_⟩
    · simp only [JU,List.range',PS]
      match vs,m with
      |[],_=>exact E a (Fr.refl _ _ _ _) rfl
    · simp only [JU,List.range',PS];exact E a (Fr.refl _ _ _ _) fun y q=>by cases q
  | x :: xs, pos, es, j, h => by
    simp only [qaB,uh,JB,ui,uD] at h;obtain ⟨es',U,h1,e,j2,h2,rfl,rfl⟩:=h;have F:=qnE H z h1;have A:=qh0 H z h2;have l1:=F.le;have S:=A.le;refine ⟨by omega,fun i Y I=>?_,fun y q=>?_,fun b ρ w a vs X c m K E=>?_,fun b w a C c K E=>?_⟩
    · by_cases W:i<U
      · exact A.free i Y W
      · exact F.free i (by omega) I
    · rcases ug.1 q with rfl|q
      · intro t ht;rcases A.safe _ (uu.2 rfl) t ht with hh|⟨i,Y,hd⟩
        · exact .inl hh
        · exact .inr ⟨i,by omega,hd⟩
      · exact F.safe y q
    · match vs,m with
      | v :: vs, m =>
        simp only [List.map_cons,uE] at m;obtain ⟨O,J⟩:=m;have o:xf g U=true:=by
          cases g with
          |none=>rfl
          |some p=>simp only [xf,ue] at b⊢;omega
        rw [qbf S l1];refine wM _ _ _ _ (A.yes b ρ w a [v] X c (by simpa using O) _ fun Q l u=>?_);refine F.yes o ρ w Q vs (X.fr l A.free) (by rw [Qk H l b];exact c) J _ fun R s B=>?_;refine E R (l.trans s S l1) ?_;have Z:R.eval x=Q.eval x:=qkk H (A.safe x (uu.2 rfl)) s (kh _) F.free;simp only [List.map_cons,uE,List.map_nil,u6] at u;simp only [List.map_cons,Z,u,B]
    · have o:xf g U=true:=by
       cases g with
       |none=>rfl
       |some p=>simp only [xf,ue] at b⊢;omega
      rw [qbf S l1];refine wM _ _ _ _ (A.no b w a C c _ fun Q l u=>?_);refine F.no o w Q (l.size.trans C) (by rw [Qk H l b];exact c) _ fun R s B=>?_;refine E R (l.trans s S l1) fun y q L=>?_;rcases ug.1 q with rfl|q
      · rw [qkk H (A.safe y (uu.2 rfl)) s (kh _) F.free];exact u y (uu.2 rfl) L
      · exact B y q L
theorem qlk {w:AA} {a:Act} {k:Nat} {o:Oper} (c:ops[k]? =some o) (b:vx ops o.guard a=true) {v:AB} (e:PV P w o a v) {K:Act->Prop} (h:K (a.put o.dst v)):PS P w ops [k] a K:=by
  simp only [PS,c,qag,b,wh];exact ⟨v,e,h⟩
theorem qlj {w:AA} {a:Act} {k:Nat} {o:Oper} (c:ops[k]? =some o) (b:vx ops o.guard a=false) {K:Act->Prop} (h:K (a.put o.dst undef)):PS P w ops [k] a K:=by
  simp only [PS,c,qag,b];exact h
theorem qbg {a:Act} {o:Oper} {v:AB} (b:∀d,o.dst=some d->d<a.tmps.size):∀d,o.dst=some d->(a.put o.dst v).tmps[d]? =some v:=by
  intro d c;simp [Act.put,c,b d c]
theorem qaU (e:Region1 n ops) {k:Nat} {o:Oper} (c:ops[k]? =some o) {a:Act} (b:a.tmps.size=n):∀d,o.dst=some d->d<a.tmps.size:=by
  intro d g;rw [b];exact e.lt k d (by simp [vK,c,g])
theorem qCG {p:PO} {es:List Ex} {e:Ex} (h:p.mk es=some e) {ρ:qa} {w:AA} {v:AB} (i:e.ev ρ w=some v):
    ∃vs,es.map (·.ev ρ w)=vs.map some/\∀f:Operand->AB,p.opds.map f=vs->p.val w f=some v:=by
  unfold PO.mk at h;split at h
  · cases h;exact ⟨[v],by simp [i],fun f g=>by simp only [PO.opds,List.map_cons,List.map_nil,uE,u6] at g;simp [PO.val,q9,g]⟩
  · cases h;simp only [Ex.ev,uh] at i;obtain ⟨a,j,i⟩:=i;exact ⟨[a],by simp [j],fun f g=>by simp only [PO.opds,List.map_cons,List.map_nil,uE,u6] at g;simp [PO.val,g,i]⟩
  · cases h;simp only [Ex.ev,uh] at i;obtain ⟨a,j,b,k,i⟩:=i;exact ⟨[a,b],by simp [j,k],fun f g=>by simp only [PO.opds,List.map_cons,List.map_nil,uE,u6] at g;simp [PO.val,g.1,g.2,i]⟩
  · cases h;simp only [Ex.ev,uh] at i;obtain ⟨a,j,b,k,c,l,i⟩:=i;exact ⟨[a,b,c],by simp [j,k,l],fun f g=>by simp only [PO.opds,List.map_cons,List.map_nil,uE,u6] at g;simp [PO.val,g.1,g.2.1,g.2.2,i]⟩
  · cases h;simp only [Ex.ev,uh] at i;obtain ⟨a,j,b,k,c,l,d,m,i⟩:=i;exact ⟨[a,b,c,d],by simp [j,k,l,m],fun f g=>by simp only [PO.opds,List.map_cons,List.map_nil,uE,u6] at g;simp [PO.val,g.1,g.2.1,g.2.2.1,g.2.2.2,i]⟩
  · cases h
theorem qaA {j k:Nat} (h:j<=k):List.range' j (k+1 - j)=List.range' j (k - j)++[k]:=by
  have:=qbf (i:=j) (j:=k) (k:=k+1) h (by omega);simpa using this
theorem qAY {op:Op} {c y:Operand} {b:AB} {a:Bool} (h:qdv V op=some (c,y,b,a)):
    zP V y=true/\((a=false/\op=.pick c (.const b) y)\/(a=true/\op=.pick c y (.const b))):=by
  unfold qdv at h;split at h
  · split at h
    · rename_i e;cases h;exact ⟨e,.inl ⟨rfl,rfl⟩⟩
    · cases h
  · split at h
    · rename_i e;cases h;exact ⟨e,.inr ⟨rfl,rfl⟩⟩
    · cases h
  · cases h
theorem qAv (O : Region1 n ops) (hrec : ∀ k e j, rec k = some (e, j) -> SemX P ops V n k e j) {k : Nat} {o : Oper} (R : ops[k]? = some o) {e : Ex} {j : Nat}
    (h:qdp P ops V rec o k=some (e,j)) (l:xf o.guard j=true):SemX P ops V n k e j:=by
  have Q:∀z,ops[k]? =some z->z=o:=fun z S=>Jp (S.symm.trans R);unfold qdp at h;split at h
  ·
    rename_i c y cv want hsh;obtain ⟨hfy,H⟩:=qAY hsh;split at h
    · rename_i p tc ty;split at h
      · rename_i i B hgp;split at h
        · rename_i hc;obtain ⟨rfl,hdp,hdi,hcf⟩:=hc;simp only [uh,JB,ui,uD] at h;obtain ⟨ey,jy,hy,ec,jc,hcx,rfl,rfl⟩:=h;have sy:=hrec _ _ _ hy;have sc:=qh0 O hrec hcx;obtain ⟨Z,Y,hgo'⟩:∃z,ops[p]? =some z/\z.guard=some (i,B):=by
            cases hp:ops[p]? with
            |none=>simp [hp] at hgp
            |some z=>simp only [hp,Option.bind_some] at hgp;exact ⟨z,rfl,hgp⟩
          have hdop:Z.dst=some ty:=by simpa [vK,Y] using hdp
          have lty:=sy.lt Z Y;rw [hgo'] at lty;simp only [xf,ue] at lty;have ly:=sy.le;have lc:=sc.le;have htyV:ty∉V:=by simpa [zP] using hfy
          have free_y:qcL ops V jy (p+1):=fun x hx hx' t ht=>by
            by_cases hxp:x=p
            · subst hxp;rw [hdp] at ht;cases ht;exact htyV
            · exact sy.free x hx (by omega) t ht
          have hltp:xf o.guard (p+1)=true:=by
            cases hg:o.guard with
            |none=>rfl
            |some q=>rw [hg] at l;simp only [xf,ue] at l⊢;omega
          have hyield:∀(C:Act) (b:Bool),C.tmps.size=n->C.eval (.tmp tc)=.bool b->yielded ops C.tmps i=some b:=by
            intro C b L hb;have hdi':((ops[i]?).bind (·.dst))=some tc:=hdi;have htc:tc<C.tmps.size:=by rw [L];exact O.lt _ _ hdi
            simp only [Act.eval,Array.getD_eq_getD_getElem?] at hb;simp only [yielded,hdi',Option.bind_some];cases hg:C.tmps[tc]? with
            |none=>simp [uG htc] at hg
            |some u=>simp only [hg,Option.getD_some] at hb;subst hb;rfl
          refine ⟨by omega,fun x hx hx' t ht=>?_,fun z S=>by rw [Q z S];exact l,fun z S ρ w a v ha s A K hK=>?_,fun z S w a L s K hK=>?_⟩
          · by_cases hxj:x<jy
            · exact sc.free x hx hxj t ht
            · exact free_y x (by omega) hx' t ht
          · obtain rfl:=Q z S;obtain ⟨U,hcb⟩:∃U,ec.ev ρ w=some (.bool U)/\(if U=B then ey.ev ρ w=some v else v=cv):=by
              cases B<;>simp only [uk,ud,wh,Ex.ev,uh,qb7] at A<;>obtain ⟨u,hu,A⟩:=A<;>
                (split at A
                 · exact ⟨true,hu,by simpa [eq_comm] using A⟩
                 · exact ⟨false,hu,by simpa [eq_comm] using A⟩
                 · cases A)
            obtain ⟨hcb,m⟩:=hcb;rw [qaA (by omega),qbf (j:=jy) lc (by omega)];refine wM _ _ _ _ (wM _ _ _ _ (sc.yes l ρ w a [.bool U] ha s (by simp [hcb]) _ fun C g E=>?_));simp only [List.map_cons,List.map_nil,uE,u6] at E;have J:C.tmps.size=n:=g.size.trans ha.size;have ab:=ha.fr g sc.free;have hyl:=hyield C U J E;have hgy:vx ops Z.guard C=(U==B):=by rw [hgo'];simp only [vx,hyl];cases U<;>cases B<;>rfl
            have X:vx ops z.guard C=true:=by rw [Qk O g l];exact s
            have fin:∀W,Fr ops jy (p+1) C W->(if U=B then W.tmps[ty]? =some v else W.tmps[ty]? =some undef)->PS P w ops [p+1] W K:=by
              intro W F aa;have hcv:W.eval (.tmp tc)=.bool U:=(qkk O (sc.safe _ (uu.2 rfl)) F (kh _) free_y).trans E;have hlty:xf z.guard jy=true:=by
                cases hg:z.guard with
                |none=>rfl
                |some q=>rw [hg] at l;simp only [xf,ue] at l⊢;omega
              have I:vx ops z.guard W=true:=by rw [Qk O F hlty];exact X
              refine qlk R I (v:=v) (fun w' _=>?_) (hK _ ((g.trans F lc (by omega)).trans (Fr.put R W v) (by omega) (by omega)) (qbg (qaU O R (F.size.trans J))));have hyv:U=B->W.eval (.tmp ty)=v:=fun e=>by
                simp only [e,wh] at aa;simp [Act.eval,Array.getD_eq_getD_getElem?,aa]
              rcases H with ⟨rfl,H⟩|⟨rfl,H⟩
              · cases U
                · simp [execOp,H,hcv,asBool,hyv rfl]
                · simp only [Bool.true_eq_false,ud] at m;subst m;have hcst:W.eval (.const v)=v:=rfl;simp [execOp,H,hcv,asBool,hcst]
              · cases U
                · simp only [uk,ud] at m;subst m;have hcst:W.eval (.const v)=v:=rfl;simp [execOp,H,hcv,asBool,hcst]
                · simp [execOp,H,hcv,asBool,hyv rfl]
            by_cases hcw:U=B
            · simp only [hcw,wh] at m;refine sy.yes Z Y ρ w C v ab (by rw [hgy,hcw];simp) m _ fun W F aa=>fin W F ?_;rw [j0 hcw];exact aa ty hdop
            · refine sy.no Z Y w C J (by rw [hgy];simpa using hcw) _ fun W F aa=>fin W F ?_;rw [q3 hcw];exact aa ty hdop
          · obtain rfl:=Q z S;have hcf':zP V (.tmp tc)=true:=by
              rcases hcf with hcf|hcf
              · rw [hcf] at s;cases s
              · exact hcf
            rw [qaA (by omega),qbf (j:=jy) lc (by omega)];refine wM _ _ _ _ (wM _ _ _ _ (sc.no l w a L s _ fun C g E=>?_));have J:C.tmps.size=n:=g.size.trans L;have hcu:C.eval (.tmp tc)=undef:=E _ (uu.2 rfl) hcf';have hgy:vx ops Z.guard C=false:=by
              rw [hgo'];have hdi':((ops[i]?).bind (·.dst))=some tc:=hdi;have htc:tc<C.tmps.size:=by rw [J];exact O.lt _ _ hdi
              simp only [vx,yielded,hdi',Option.bind_some];simp only [Act.eval,Array.getD_eq_getD_getElem?] at hcu;cases hg:C.tmps[tc]? with
              |none=>simp [uG htc] at hg
              |some u=>simp only [hg,Option.getD_some] at hcu;subst hcu;rfl
            refine sy.no Z Y w C J hgy _ fun W F aa=>?_;have hlty:xf z.guard jy=true:=by
              cases hg:z.guard with
              |none=>rfl
              |some q=>rw [hg] at l;simp only [xf,ue] at l⊢;omega
            have I:vx ops z.guard W=false:=by rw [Qk O F hlty,Qk O g l];exact s
            exact qlj R I (hK _ ((g.trans F lc (by omega)).trans (Fr.put R W _) (by omega) (by omega)) (qbg (qaU O R (F.size.trans J))))
        · cases h
      · cases h
    · cases h
  · split at h
    ·
      rename_i c x y H;split at h
      · cases h
      · rename_i hxy;simp only [uS,not_or,Bool.not_eq_true] at hxy;simp only [uh,JB,ui,uD] at h;obtain ⟨ec,jc,hcx,rfl,rfl⟩:=h;have sc:=qh0 O hrec hcx;have lc:=sc.le;refine ⟨sc.le,sc.free,fun z S=>by rw [Q z S];exact l,fun z S ρ w a v ha s A K hK=>?_,fun z S w a L s K hK=>?_⟩
        · obtain rfl:=Q z S;simp only [Ex.ev,uh,qb7] at A;obtain ⟨u,hu,A⟩:=A;obtain ⟨U,rfl,m⟩:∃U,u=.bool U/\(if U then (kz x).ev ρ w=some v else (kz y).ev ρ w=some v):=by
            split at A
            · exact ⟨true,rfl,A⟩
            · exact ⟨false,rfl,by simpa using A⟩
            · cases A
          rw [qaA lc];refine wM _ _ _ _ (sc.yes l ρ w a [.bool U] ha s (by simp [hu]) _ fun C g E=>?_);simp only [List.map_cons,List.map_nil,uE,u6] at E;have ab:=ha.fr g sc.free;have X:vx ops z.guard C=true:=by rw [Qk O g l];exact s
          refine qlk R X (v:=v) (fun w' _=>?_) (hK _ (g.trans (Fr.put R C v) lc (by omega)) (qbg (qaU O R ab.size)));cases U
          · simp only [uk,ud] at m;simp [execOp,H,E,asBool,qfj ab hxy.2 m]
          · simp only [wh] at m;simp [execOp,H,E,asBool,qfj ab hxy.1 m]
        · obtain rfl:=Q z S;rw [qaA lc];refine wM _ _ _ _ (sc.no l w a L s _ fun C g E=>?_);have I:vx ops z.guard C=false:=by rw [Qk O g l];exact s
          exact qlj R I (hK _ (g.trans (Fr.put R C _) lc (by omega)) (qbg (qaU O R (g.size.trans L))))
    · rename_i H;simp only [uh,JB,uc,uD] at h;obtain ⟨p,hp,es,j',hes,e',hmk,rfl,rfl⟩:=h;have sc:=qnE O hrec hes;have lc:=sc.le;refine ⟨sc.le,sc.free,fun z S=>by rw [Q z S];exact l,fun z S ρ w a v ha s A K hK=>?_,fun z S w a L s K hK=>?_⟩
      · obtain rfl:=Q z S;obtain ⟨vs,hvs,m⟩:=qCG hmk A;rw [qaA lc];refine wM _ _ _ _ (sc.yes l ρ w a vs ha s hvs _ fun C g E=>?_);have ab:=ha.fr g sc.free;have X:vx ops z.guard C=true:=by rw [Qk O g l];exact s
        refine qlk R X (v:=v) (fun w' hw'=>?_) (hK _ (g.trans (Fr.put R C v) lc (by omega)) (qbg (qaU O R ab.size)));exact qxL hp (fun _=>rfl) (PO.val_ext hw' (m C.eval E))
      · obtain rfl:=Q z S;rw [qaA lc];refine wM _ _ _ _ (sc.no l w a L s _ fun C g E=>?_);have I:vx ops z.guard C=false:=by rw [Qk O g l];exact s
        exact qlj R I (hK _ (g.trans (Fr.put R C _) lc (by omega)) (qbg (qaU O R (g.size.trans L))))
end
def qeR {P:Program} {ops:Array Oper} {V:List Nat} {n:Nat} (g:Region1 n ops):∀(a k:Nat) (e:Ex) (j:Nat),px P ops V a k=some (e,j)->SemX P ops V n k e j
  |0,_,_,_,h=>by cases h
  |a+1,k,e,j,h=>by
    simp only [px,uh,JB] at h;obtain ⟨o,i,m,p,l,c⟩:=h;split at c
    · rename_i b;cases c;exact qAv g (qeR g a) i l b
    · cases c
end Go.Eng
