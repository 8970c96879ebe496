/- Lemmas for a claim about layer 2 (tree). No conditions but those they state. -/
import Derived.Test.YtbcmiempigoooaaGreatDoorBaa
import Derived.Laws.BytesString
set_option linter.all false
namespace Go.Eng
open Go.RowKit
theorem xy {v:Value} (h:qt v=true):(∃b o n c,v= .slice (some ⟨b,o,none⟩) n c∧n≤c)∨v= .slice none 0 0∨∃b o s,v= .slice (some ⟨b,o,some s⟩) 0 0:=by
  unfold qt at h;split at h
  · rename_i b o n c;exact .inl ⟨b,o,n,c,rfl,by simpa using h⟩
  · rename_i b o s;exact .inr (.inr ⟨b,o,s,rfl⟩)
  · exact .inr (.inl rfl)
  · cases h
theorem qfB {P:Program} (w:World) (a:Addr):∀(n i:Nat) (l:List Value) (b:Array Value),jq w a i n=some l→
    (loadCellsFrom a i n b).run P w= .ok (b++l.toArray) w
  |0,i,l,b,h=>by
    simp only [jq,Option.some.injEq] at h;subst h;simp [loadCellsFrom]
  |n+1,i,l,b,h=>by
    simp only [jq,Option.bind_eq_some_iff,Option.some.injEq] at h;obtain ⟨v,j,e,c,rfl⟩:=h;have g:=qfB (P:=P) w a n (i+1) e (b.push v) c;simp only [loadCellsFrom,load,Sem.run_bind];rw [show (Sem.load Mode.plain (a.add i) Sem.pure).run P w= .ok v w by simp [Sem.run,j]];simp only [Result.andThen_ok];rw [g];simp
theorem qfD {P:Program} {t:TypeId} {i:TypeInfo} (h:P.info? t=some i) (w:World):(typeInfo t).run P w= .ok i w:=by
  simp [typeInfo,h]
theorem Qk {P:Program} {t:TypeId} {i:TypeInfo} (h:P.info? t=some i) (w:World):(sizeOf t).run P w= .ok i.size w:=by
  simp [sizeOf,qfD h]
theorem qcX {P:Program} {t:TypeId} {b:Bool} (h:xP P t=some b) (w:World):(isAgg t).run P w= .ok b w:=by
  unfold xP at h;cases a:P.underlying t with
  |none=>simp [a] at h
  |some d=>
    simp only [a] at h;simp only [isAgg,Sem.run_bind,run_underlying a,Result.andThen_ok];cases d<;>simp_all
theorem qfE {P:Program} (w:World) (op:BinOp) (t:TypeId) (x y:Operand) (k c:IntKind) (a b:Int):
    (eqGuard op t x y (.int k a) (.int c b)).run P w= .ok () w:=by
  unfold eqGuard;cases op<;>simp
theorem qkh {P:Program} (w:World) (op:BinOp) (t:TypeId) (x y:Operand) (a b:ByteArray):
    (eqGuard op t x y (.string a) (.string b)).run P w= .ok () w:=by
  unfold eqGuard;cases op<;>simp
theorem qki {P:Program} (w:World) (op:BinOp) (t:TypeId) (x y:Operand) (a b:Bool):
    (eqGuard op t x y (.bool a) (.bool b)).run P w= .ok () w:=by
  unfold eqGuard;cases op<;>simp
theorem qAm (x y:ByteArray):x.data=y.data↔x=y:=by
  constructor
  · intro h;cases x;cases y;congr
  · rintro rfl;rfl
theorem qAn (x y:ByteArray):(x.data==y.data)=decide (x=y):=by
  rw [Bool.eq_iff_iff];simp [qAm]
theorem qkd {P:Program} (w:World) (b:Bool) (len cap:Nat) (kl a:IntKind) (l h:Int) (e:0≤l) (c:l≤h) (g:h≤cap):
    (Instr.sliceBounds b len cap (some (.int kl l)) (some (.int a h)) none).run P w= .ok (l.toNat,h.toNat,cap) w:=by
  have:(h.toNat:Int)=h:=Int.toNat_of_nonneg (by omega);simp [Instr.sliceBounds,run_sliceBound, *,(by omega:(0:Int)≤h)]
theorem qka {P:Program} (w:World) (b:Bool) (len cap:Nat) (kl:IntKind) (l:Int) (c:0≤l) (a:l≤len):
    (Instr.sliceBounds b len cap (some (.int kl l)) none none).run P w= .ok (l.toNat,len,cap) w:=by
  simp [Instr.sliceBounds,run_sliceBound, *]
theorem qkc {P:Program} (w:World) (b:Bool) (len cap:Nat):
    (Instr.sliceBounds b len cap none none none).run P w= .ok (0,len,cap) w:=by
  simp [Instr.sliceBounds]
theorem qkb {P:Program} (w:World) (b:Bool) (len cap:Nat) (a:IntKind) (h:Int) (c:0≤h) (e:h≤cap):
    (Instr.sliceBounds b len cap none (some (.int a h)) none).run P w= .ok (0,h.toNat,cap) w:=by
  simp [Instr.sliceBounds,run_sliceBound, *]
theorem qto {P:Program} (w:World) (b:Bool) (len cap:Nat) (kl a c:IntKind) (l h m:Int) (i:0≤l) (o:l≤h) (j:h≤m) (e:m≤cap):
    (Instr.sliceBounds b len cap (some (.int kl l)) (some (.int a h)) (some (.int c m))).run P w= .ok (l.toNat,h.toNat,m.toNat) w:=by
  have g:(h.toNat:Int)=h:=Int.toNat_of_nonneg (by omega);have k:(m.toNat:Int)=m:=Int.toNat_of_nonneg (by omega);simp [Instr.sliceBounds,run_sliceBound, *,(by omega:(0:Int)≤h),(by omega:(0:Int)≤m)]
theorem qtn {P:Program} (w:World) (b:Bool) (len cap:Nat) (c a:IntKind) (h m:Int) (g:0≤h) (j:h≤m) (e:m≤cap):
    (Instr.sliceBounds b len cap none (some (.int c h)) (some (.int a m))).run P w= .ok (0,h.toNat,m.toNat) w:=by
  have i:(m.toNat:Int)=m:=Int.toNat_of_nonneg (by omega);simp [Instr.sliceBounds,run_sliceBound, *,(by omega:(0:Int)≤m)]
theorem qfA {P:Program} (w:World) {t e:TypeId} {i:TypeInfo} (j:P.underlying t=some (.slice e)) (u:P.info? e=some i) {v:Value} (x:qt v=true)
    {g a mx:Option Value} {l h m:Nat} (k:(Instr.sliceBounds true (qh v) (qx v) g a mx).run P w= .ok (l,h,m) w):
    (Instr.sliceAt t v g a mx).run P w= .ok (qL v i.size l h m) w:=by
  have q:(Instr.sliceAt t v g a mx).run P w=(Instr.slice t v g a mx).run P w:=by simp [Instr.sliceAt,run_underlying j]
  rw [q];rcases xy x with ⟨b,o,n,c,rfl,_⟩|rfl|⟨b,o,s,rfl⟩<;>
    (simp only [qh,qx] at k;simp [Instr.slice,run_underlying j,k,Qk u,qL])
theorem qj9 {P:Program} (w:World) {t:TypeId} (c:P.underlying t=some .string) (s:ByteArray)
    {b a:Option Value} {l h m:Nat} (e:(Instr.sliceBounds false s.size s.size b a none).run P w= .ok (l,h,m) w):
    (Instr.sliceAt t (.string s) b a none).run P w= .ok (.string (s.extract l h)) w:=by
  simp [Instr.sliceAt,Instr.slice,run_underlying c,e]
section
variable {P:Program} {w:World} {f:Operand→Value} {v:Value} {dst:Option Tmp} {type:TypeId} {pos:String} {after:Array Edge} {guard:Option (Nat×Bool)}
theorem qbE {k:K1} {x:Value} (h:qJ w k x=some v) (b:(∃n,k= .loadN n)∨k= .load1∨(∃o,k= .fadr o)):∃a,x= .pointer (some a):=by
  rcases b with ⟨n,rfl⟩|rfl|⟨o,rfl⟩<;>(cases x<;>first|(cases h;done)|skip)<;>rename_i a<;>cases a<;>first|(cases h;done)|exact ⟨_,rfl⟩
theorem qkf {t:TypeId} {a:Operand} (h:xP P t=some false) (c:qJ w .load1 (f a)=some v):
    (execOp f ⟨dst, .load t a,type,pos,after,guard⟩).run P w= .ok (.value v) w:=by
  obtain ⟨g,e⟩:=qbE c (.inr (.inl rfl));rw [e] at c;have b:w.cell? g=some v:=c;have j:(load g).run P w= .ok v w:=by simp [load,Sem.run,b]
  have i:=qcX (P:=P) h w;simp only [execOp,e,Instr.loadAt,Instr.sureAddr,loadVar,Sem.run_bind,Sem.run_pure,Result.andThen_ok,i,Bool.false_eq_true,if_false,j]
theorem qcW {t:TypeId} {i:TypeInfo} {a:Operand} (g:xP P t=some true) (j:P.info? t=some i) (b:qJ w (.loadN i.size) (f a)=some v):
    (execOp f ⟨dst, .load t a,type,pos,after,guard⟩).run P w= .ok (.value v) w:=by
  obtain ⟨c,e⟩:=qbE b (.inl ⟨_,rfl⟩);rw [e] at b;obtain ⟨l,k,rfl⟩:=Option.map_eq_some_iff.1 (show (jq w c 0 i.size).map _=some v from b);have m:=qfB (P:=P) w c i.size 0 l #[] k;have h:=qcX (P:=P) g w;simp only [execOp,e,Instr.loadAt,Instr.sureAddr,loadVar,loadCells,Sem.run_bind,Sem.run_pure,Result.andThen_ok,h,if_true,Qk j,m];simp
theorem qts {op:BinOp} {t h:TypeId} {x y:Operand} (c:op= .shl∨op= .shr) (a:jA w (.shf op) (f x) (f y)=some v):
    (execOp f ⟨dst, .binOp op t x y h,type,pos,after,guard⟩).run P w= .ok (.value v) w:=by
  cases g:f x<;>simp only [g] at a<;>first|(cases a;done)|skip
  cases e:f y<;>simp only [e] at a<;>first|(cases a;done)|skip
  simp only [jA,qcR] at a;split at a
  · cases a
  · rename_i b;rcases c with rfl|rfl<;>(simp only [Option.some.injEq] at a;subst a;simp [execOp,g,e,qfE,binOp,Op.shift,b])
theorem qtB {op : BinOp} {k : IntKind} {t g : TypeId} {x y : Operand} (e : ¬ (op = .shl ∨ op = .shr)) (a : jA w (.ibin op k) (f x) (f y) = some v) :
    (execOp f ⟨dst, .binOp op t x y g,type,pos,after,guard⟩).run P w= .ok (.value v) w:=by
  cases c:f x<;>simp only [c] at a<;>first|(cases a;done)|skip
  cases b:f y<;>simp only [b] at a<;>first|(cases a;done)|skip
  simp only [jA] at a;split at a
  · rename_i i;subst i;cases op<;>simp only [qaJ] at a<;>
      first
        |(cases a;simp [execOp,c,b,qfE,binOp,Op.intArith,Op.intBits,Op.intCmp];done)
        |(exfalso;simp at e;done)
        | (split at a
           · cases a
           · rename_i h;cases a;simp [execOp,c,b,qfE,binOp,Op.intDiv,h])
  · cases a
theorem qtt {op:BinOp} {t h:TypeId} {x y:Operand} (a:jA w (.sbin op) (f x) (f y)=some v):
    (execOp f ⟨dst, .binOp op t x y h,type,pos,after,guard⟩).run P w= .ok (.value v) w:=by
  cases e:f x<;>simp only [e] at a<;>first|(cases a;done)|skip
  cases c:f y<;>simp only [c] at a<;>first|(cases a;done)|skip
  rename_i j g;simp only [jA] at a;cases op <;> simp only [kj] at a <;>
    first
      |(cases a;simp [execOp,e,c,qkh,binOp,Op.stringOp,ByteArray.toList_eq,qAn];done)
      | (split at a
         · rename_i i;cases a;have b:¬((j.size+g.size:Nat):Int)>IntKind.i64.max:=by
             simp only [maxLen] at i;simp [IntKind.max,IntKind.bits,IntKind.signed];omega
           simp only [execOp,e,c,binOp,Op.stringOp,Sem.run_bind,qkh,Result.andThen_ok];rw [if_neg b];simp
         · cases a)
      |(cases a;done)
theorem qtK {op:BinOp} {t g:TypeId} {x y:Operand} (e:P.underlying t=some .bool) (a:jA w (.bbin op) (f x) (f y)=some v):
    (execOp f ⟨dst, .binOp op t x y g,type,pos,after,guard⟩).run P w= .ok (.value v) w:=by
  cases op<;>first|(cases a;done)|skip
  all_goals
    cases c:f x<;>simp only [c] at a<;>first|(cases a;done)|skip
    cases b:f y<;>simp only [b] at a<;>first|(cases a;done)|skip
  · cases a;simp [execOp,c,b,qki,run_eql_bool w t _ _ e]
  · cases a;simp [execOp,c,b,qki,run_neq_bool w t _ _ e]
theorem qfy {op:UnOp} {k:K1} {t:TypeId} {x:Operand} (c:(op= .not∧k= .not)∨(op= .neg∧k= .neg)∨(op= .xor∧k= .bnot)) (a:qJ w k (f x)=some v):
    (execOp f ⟨dst, .unOp op t x,type,pos,after,guard⟩).run P w= .ok (.value v) w:=by
  rcases c with ⟨rfl,rfl⟩|⟨rfl,rfl⟩|⟨rfl,rfl⟩<;>
    (cases b:f x<;>simp only [b] at a<;>first|(cases a;done)|skip)<;>
    (cases a;simp [execOp,b,Op.unary,Op.intArith,Op.intBits])
theorem qtH {k:IntKind} {s d:TypeId} {ds:TypeDesc} {x:Operand} (e:P.underlying s=some ds) (c:P.underlying d=some (.int k)) (a:qJ w (.conv k) (f x)=some v):
    (execOp f ⟨dst, .convert s d x,type,pos,after,guard⟩).run P w= .ok (.value v) w:=by
  cases b:f x<;>simp only [b] at a<;>first|(cases a;done)|skip
  cases a;simp [execOp,b,convert,run_underlying e,run_underlying c,Conv.intToInt]
theorem qtk {s d:TypeId} {x:Operand} (e:P.underlying s=some .string) (c:P.underlying d=some .string) (a:qJ w .strid (f x)=some v):
    (execOp f ⟨dst, .convert s d x,type,pos,after,guard⟩).run P w= .ok (.value v) w:=by
  cases b:f x<;>simp only [b] at a<;>first|(cases a;done)|skip
  cases a;simp [execOp,b,convert,run_underlying e,run_underlying c]
theorem qqu:∀(l:List Value) (a:List Int),kJ l=some a→l=a.map (Value.int .u8)
  |[],a,h=>by simp only [kJ,Option.some.injEq] at h;subst h;rfl
  | x :: l, a, h => by
    unfold kJ at h;split at h
    · rename_i e;cases e
    · rename_i n c e;cases e;obtain ⟨m,b,rfl⟩:=Option.map_eq_some_iff.1 h;rw [qqu l m b];rfl
    · cases h
theorem qtL {s d e:TypeId} {x:Operand} (k:P.underlying s=some (.slice e)) (q:P.underlying d=some .string) (t:P.underlying e=some (.int .u8)) (A:qJ w .b2s (f x)=some v):
    (execOp f ⟨dst, .convert s d x,type,pos,after,guard⟩).run P w= .ok (.value v) w:=by
  have i:(if qt (f x)=true then (jq w (qM (f x) 0) 0 (qh (f x))).bind fun l=>(kJ l).map fun j=>Value.string (qaY j) else none)=some v:=A;split at i
  · rename_i u;obtain ⟨l,g,z⟩:=Option.bind_eq_some_iff.1 i;obtain ⟨j,a,rfl⟩:=Option.map_eq_some_iff.1 z;rcases xy u with ⟨b,o,n,c,h,_⟩|h|⟨b,o,sp,h⟩
    rotate_left 2
    · rw [h] at g;simp only [qh,jq,Option.some.injEq] at g;subst g;simp only [kJ,Option.some.injEq] at a;subst a;have m:=run_bytesToString (P:=P) w ⟨b,o,some sp⟩ 0 0 [] (by simp [loadCells,loadCellsFrom]);simp only [execOp,h,Sem.run_bind,run_convert_bytes_string w s d e _ 0 0 k t q,m,Result.andThen_ok];rfl
    · rw [h] at g;simp only [qM,qh,Nat.add_zero] at g;have y:=qfB (P:=P) w _ _ 0 l #[] g;rw [qqu l j a] at y;have m:=run_bytesToString (P:=P) w ⟨b,o,none⟩ n c j (by simpa [loadCells] using y);simp only [execOp,h,Sem.run_bind,run_convert_bytes_string w s d e _ n c k t q,m,Result.andThen_ok];rfl
    · rw [h] at g;simp only [qh,jq,Option.some.injEq] at g;subst g;simp only [kJ,Option.some.injEq] at a;subst a;simp only [execOp,h,Sem.run_bind,run_convert_bytes_string w s d e _ 0 0 k t q];simp [Conv.bytesToString,qaY]
  · cases i
theorem qtr {t e : TypeId} {i : TypeInfo} {x : Operand} {b : Option Operand} (h : P.underlying t = some (.slice e)) (u : P.info? e = some i) (s : ∀ v, f (.const v) = v)
    (a:jA w (.slLo i.size) (f x) (f (b.getD zj))=some v):
    (execOp f ⟨dst, .slice t x b none none,type,pos,after,guard⟩).run P w= .ok (.value v) w:=by
  cases c:f (b.getD zj)<;>simp only [c] at a<;>first|(cases a;done)|skip
  rename_i k l;simp only [jA] at a;split at a
  · rename_i o;obtain ⟨y,m,g⟩:=o;cases a;have q:(Instr.sliceBounds true (qh (f x)) (qx (f x)) (b.map f) none none).run P w= .ok (l.toNat,qh (f x),qx (f x)) w:=by
      cases b with
      |none=>
        have:l=0:=by have:=s (.int .i64 0);simp only [Option.getD_none,zj,this,Value.int.injEq] at c;exact c.2.symm
        subst this;exact qkc w _ _ _
      |some j=>
        simp only [Option.getD_some] at c;simp only [Option.map_some,c];exact qka w _ _ _ _ _ m g
    have:=qfA w h u y q;simp [execOp,this]
  · cases a
theorem qtq {t e : TypeId} {i : TypeInfo} {x g : Operand} {b : Option Operand} (q : P.underlying t = some (.slice e)) (B : P.info? e = some i) (A : ∀ v, f (.const v) = v)
    (a:wq w (.slLoHi i.size) (f x) (f (b.getD zj)) (f g)=some v):
    (execOp f ⟨dst, .slice t x b (some g) none,type,pos,after,guard⟩).run P w= .ok (.value v) w:=by
  cases c:f (b.getD zj)<;>simp only [c] at a<;>first|(cases a;done)|skip
  cases o:f g<;>simp only [o] at a<;>first|(cases a;done)|skip
  rename_i k l k2 h;simp only [wq] at a;split at a
  · rename_i y;obtain ⟨C,u,j,m⟩:=y;cases a;have z:(Instr.sliceBounds true (qh (f x)) (qx (f x)) (b.map f) (some (.int k2 h)) none).run P w= .ok (l.toNat,h.toNat,qx (f x)) w:=by
      cases b with
      |none=>
        have:l=0:=by have:=A (.int .i64 0);simp only [Option.getD_none,zj,this,Value.int.injEq] at c;exact c.2.symm
        subst this;exact qkb w _ _ _ _ _ j m
      |some s=>
        simp only [Option.getD_some] at c;simp only [Option.map_some,c];exact qkd w _ _ _ _ _ _ _ u j m
    have:=qfA w q B C z;simp [execOp,o,this]
  · cases a
theorem qtp {t e : TypeId} {i : TypeInfo} {x g j : Operand} {b : Option Operand} (z : P.underlying t = some (.slice e)) (H : P.info? e = some i) (F : ∀ v, f (.const v) = v)
    (a:pv4 w (.slMax i.size) (f x) (f (b.getD zj)) (f g) (f j)=some v):
    (execOp f ⟨dst, .slice t x b (some g) (some j),type,pos,after,guard⟩).run P w= .ok (.value v) w:=by
  cases c:f (b.getD zj)<;>simp only [c] at a<;>first|(cases a;done)|skip
  cases u:f g<;>simp only [u] at a<;>first|(cases a;done)|skip
  cases s:f j<;>simp only [s] at a<;>first|(cases a;done)|skip
  rename_i k l k2 h k3 m;simp only [pv4] at a;split at a
  · rename_i C;obtain ⟨I,B,o,q,y⟩:=C;cases a;have E:(Instr.sliceBounds true (qh (f x)) (qx (f x)) (b.map f) (some (.int k2 h)) (some (.int k3 m))).run P w= .ok (l.toNat,h.toNat,m.toNat) w:=by
      cases b with
      |none=>
        have:l=0:=by have:=F (.int .i64 0);simp only [Option.getD_none,zj,this,Value.int.injEq] at c;exact c.2.symm
        subst this;exact qtn w _ _ _ _ _ _ _ o q y
      |some A=>
        simp only [Option.getD_some] at c;simp only [Option.map_some,c];exact qto w _ _ _ _ _ _ _ _ _ B o q y
    have:=qfA w z H I E;simp [execOp,u,s,this]
  · cases a
theorem qtm {t : TypeId} {x : Operand} {b : Option Operand} (h : P.underlying t = some .string) (q : ∀ v, f (.const v) = v)
    (a:jA w .stLo (f x) (f (b.getD zj))=some v):
    (execOp f ⟨dst, .slice t x b none none,type,pos,after,guard⟩).run P w= .ok (.value v) w:=by
  cases e:f x<;>simp only [e] at a<;>first|(cases a;done)|skip
  cases c:f (b.getD zj)<;>simp only [c] at a<;>first|(cases a;done)|skip
  rename_i s k l;simp only [jA] at a;split at a
  · rename_i m;obtain ⟨j,g⟩:=m;cases a;have o:(Instr.sliceBounds false s.size s.size (b.map f) none none).run P w= .ok (l.toNat,s.size,s.size) w:=by
      cases b with
      |none=>
        have:l=0:=by have:=q (.int .i64 0);simp only [Option.getD_none,zj,this,Value.int.injEq] at c;exact c.2.symm
        subst this;exact qkc w _ _ _
      |some i=>
        simp only [Option.getD_some] at c;simp only [Option.map_some,c];exact qka w _ _ _ _ _ j g
    have:=qj9 w h s o;simp [execOp,e,this]
  · cases a
theorem qtl {t : TypeId} {x e : Operand} {b : Option Operand} (o : P.underlying t = some .string) (A : ∀ v, f (.const v) = v)
    (a:wq w .stLoHi (f x) (f (b.getD zj)) (f e)=some v):
    (execOp f ⟨dst, .slice t x b (some e) none,type,pos,after,guard⟩).run P w= .ok (.value v) w:=by
  cases j:f x<;>simp only [j] at a<;>first|(cases a;done)|skip
  cases c:f (b.getD zj)<;>simp only [c] at a<;>first|(cases a;done)|skip
  cases m:f e<;>simp only [m] at a<;>first|(cases a;done)|skip
  rename_i s k l k2 h;simp only [wq] at a;split at a
  · rename_i y;obtain ⟨u,g,i⟩:=y;cases a;have z:(Instr.sliceBounds false s.size s.size (b.map f) (some (.int k2 h)) none).run P w= .ok (l.toNat,h.toNat,s.size) w:=by
      cases b with
      |none=>
        have:l=0:=by have:=A (.int .i64 0);simp only [Option.getD_none,zj,this,Value.int.injEq] at c;exact c.2.symm
        subst this;exact qkb w _ _ _ _ _ g i
      |some q=>
        simp only [Option.getD_some] at c;simp only [Option.map_some,c];exact qkd w _ _ _ _ _ _ _ u g i
    have:=qj9 w o s z;simp [execOp,j,m,this]
  · cases a
theorem qtE {s:TypeId} {fs:Array Field} {a:Field} {i:TypeInfo} {x:Operand} {n:Nat} (g:P.underlying s=some (.struct fs)) (e:fs[n]? =some a) (j:P.info? a.type=some i)
    (h:i.size≠0) (b:qJ w (.fadr a.offset) (f x)=some v):
    (execOp f ⟨dst, .fieldAddr s x n,type,pos,after,guard⟩).run P w= .ok (.value v) w:=by
  obtain ⟨k,c⟩:=qbE b (.inr (.inr ⟨_,rfl⟩));rw [c] at b;cases b;simp [execOp,c,Instr.fieldAt,Instr.sureAddr,run_underlying g,e,fieldPlace,Qk j,h]
theorem qfC {t:TypeId} {cs:Array Value} {off:Nat} (a:xP P t=some false) (c:cs[off]? =some v):(part t cs off).run P w= .ok v w:=by
  have b:=qcX (P:=P) a w;simp [part,b,c]
theorem qtu {t:TypeId} {i:TypeInfo} {cs:Array Value} {off:Nat} (a:xP P t=some true) (b:P.info? t=some i):(part t cs off).run P w= .ok (.agg (cs.extract off (off+i.size))) w:=by
  have c:=qcX (P:=P) a w;simp [part,c,Qk b]
theorem qtD {s:TypeId} {fs:Array Field} {a:Field} {x:Operand} {n:Nat} (h:P.underlying s=some (.struct fs)) (e:fs[n]? =some a) (g:xP P a.type=some false)
    (b:qJ w (.fld a.offset) (f x)=some v):
    (execOp f ⟨dst, .field s x n,type,pos,after,guard⟩).run P w= .ok (.value v) w:=by
  cases c:f x<;>simp only [c] at b<;>first|(cases b;done)|skip
  have:=qfC (P:=P) (w:=w) g (show _=some v from b);simp [execOp,c,Instr.field,run_underlying h,e,asAgg,this]
theorem qtC {s:TypeId} {fs:Array Field} {a:Field} {i:TypeInfo} {x:Operand} {n:Nat} (h:P.underlying s=some (.struct fs)) (e:fs[n]? =some a) (g:xP P a.type=some true)
    (j:P.info? a.type=some i) (b:qJ w (.fldN a.offset i.size) (f x)=some v):
    (execOp f ⟨dst, .field s x n,type,pos,after,guard⟩).run P w= .ok (.value v) w:=by
  cases c:f x<;>simp only [c] at b<;>first|(cases b;done)|skip
  rename_i cs;cases b;have:=qtu (P:=P) (w:=w) (cs:=cs) (off:=a.offset) g j;simp [execOp,c,Instr.field,run_underlying h,e,asAgg,this]
theorem qtA {t e:TypeId} {i:TypeInfo} {x y:Operand} (k:P.underlying t=some (.slice e)) (s:P.info? e=some i) (h:jA w (.ixa i.size) (f x) (f y)=some v):
    (execOp f ⟨dst, .indexAddr t x y,type,pos,after,guard⟩).run P w= .ok (.value v) w:=by
  cases j:f y<;>simp only [j] at h<;>first|(cases h;done)|skip
  simp only [jA] at h;split at h
  · rename_i m;obtain ⟨u,l,a⟩:=m;cases h;rcases xy u with ⟨b,o,n,c,g,_⟩|g|⟨b,o,sp,g⟩
    rotate_left 2
    · rw [g] at a;simp only [qh] at a;omega
    · rw [g] at a;simp only [qh] at a;simp only [execOp,g,j,Instr.indexAt,Sem.run_bind,run_underlying k,Result.andThen_ok,asIntOf,Sem.run_pure,l,a,and_self,if_true,Qk s];simp only [qM,Addr.add];split
      · rename_i q;simp [q]
      · rfl
    · rw [g] at a;simp only [qh] at a;omega
  · cases h
theorem qtz {t:TypeId} {x y:Operand} (g:P.underlying t=some .string) (a:jA w .ixs (f x) (f y)=some v):
    (execOp f ⟨dst, .index t x y,type,pos,after,guard⟩).run P w= .ok (.value v) w:=by
  cases c:f x<;>simp only [c] at a<;>first|(cases a;done)|skip
  cases e:f y<;>simp only [e] at a<;>first|(cases a;done)|skip
  simp only [jA] at a;split at a
  · rename_i i;obtain ⟨b,h,rfl⟩:=Option.map_eq_some_iff.1 a;simp [execOp,c,e,Instr.index,run_underlying g,asIntOf,i,h]
  · cases a
theorem qtF {x:Operand} {n:Nat} (b:qJ w (.ext n) (f x)=some v):
    (execOp f ⟨dst, .extract x n,type,pos,after,guard⟩).run P w= .ok (.value v) w:=by
  cases c:f x<;>simp only [c] at b<;>first|(cases b;done)|skip
  rename_i vs;have a:vs[n]? =some v:=b;simp [execOp,c,Instr.extract,a]
theorem qtw {t:TypeId} {d:TypeDesc} {x:Operand} (b:P.underlying t=some d) (a:∀c,d≠ .interface c) (e:qJ w (.mkif t) (f x)=some v):
    (execOp f ⟨dst, .makeInterface t x,type,pos,after,guard⟩).run P w= .ok (.value v) w:=by
  cases e;simp only [execOp,Instr.makeInterface,Sem.run_bind,run_underlying b,Result.andThen_ok];cases d<;>first|rfl|exact absurd rfl (a _)
theorem qtv {x:Operand} (a:qJ w .nilc (f x)=some v):
    (execOp f ⟨dst, .nilCheck x,type,pos,after,guard⟩).run P w= .ok (.value v) w:=by
  cases b:f x with
  |pointer p=>
    rw [b] at a;cases p with
    |none=>cases a
    |some c=>cases a;simp [execOp,b]
  |iface t u=>rw [b] at a;cases a;simp [execOp,b]
  |_=>rw [b] at a;cases a
theorem qke {x:Operand} {op:Op} (a:op= .move x∨op= .assign x) (b:qJ w .same (f x)=some v):
    (execOp f ⟨dst,op,type,pos,after,guard⟩).run P w= .ok (.value v) w:=by
  cases b;rcases a with rfl|rfl<;>simp [execOp]
theorem qty {x:Operand} {t e:TypeId} (i:P.underlying t=some (.slice e)) (j:qJ w .lenS (f x)=some v):
    (execOp f ⟨dst, .call {callee:= .builtin .len,args:= #[x],argTypes:= #[t]},type,pos,after,guard⟩).run P w= .ok (.value v) w:=by
  have a:(if qt (f x)=true then some (Value.int .i64 (qh (f x))) else none)=some v:=j;split at a
  · rename_i h;cases a;rcases xy h with ⟨b,o,n,c,g,_⟩|g|⟨b,o,s,g⟩<;>
      simp [execOp,g,resolve,invoke,builtin,Builtin.len_,run_underlying i,goInt,qh]
  · cases a
theorem qtI {x:Operand} {t e:TypeId} (i:P.underlying t=some (.slice e)) (j:qJ w .capS (f x)=some v):
    (execOp f ⟨dst, .call {callee:= .builtin .cap,args:= #[x],argTypes:= #[t]},type,pos,after,guard⟩).run P w= .ok (.value v) w:=by
  have a:(if qt (f x)=true then some (Value.int .i64 (qx (f x))) else none)=some v:=j;split at a
  · rename_i h;cases a;rcases xy h with ⟨b,o,n,c,g,_⟩|g|⟨b,o,s,g⟩<;>
      simp [execOp,g,resolve,invoke,builtin,Builtin.cap_,run_underlying i,goInt,qx]
  · cases a
theorem qtx {x:Operand} {t:TypeId} (c:P.underlying t=some .string) (a:qJ w .lenT (f x)=some v):
    (execOp f ⟨dst, .call {callee:= .builtin .len,args:= #[x],argTypes:= #[t]},type,pos,after,guard⟩).run P w= .ok (.value v) w:=by
  cases b:f x<;>simp only [b] at a<;>first|(cases a;done)|skip
  cases a;simp [execOp,b,resolve,invoke,builtin,Builtin.len_,run_underlying c,goInt]
end
theorem qrO {P : Program} {o : Oper} {p : PO} (h : qcB P o.op = some p) {f : Operand → Value} (b : ∀ v, f (.const v) = v) {w : World} {v : Value} (a : p.val w f = some v) :
    (execOp f o).run P w= .ok (.value v) w:=by
  obtain ⟨dst,op,type,pos,after,guard⟩:=o;unfold qcB at h;dsimp only at h;split at h
  · cases h;exact qke (.inl rfl) a
  · cases h;exact qke (.inr rfl) a
  · split at h
    · cases h;exact qcW ‹_› ‹_› a
    · cases h;exact qkf ‹_› a
    · cases h
  · split at h
    · split at h
      · cases h;exact qts ‹_› a
      · cases h;exact qtB ‹_› a
    · cases h;exact qtt a
    · cases h;exact qtK ‹_› a
    · cases h
  · cases h;exact qfy (.inl ⟨rfl,rfl⟩) a
  · cases h;exact qfy (.inr (.inl ⟨rfl,rfl⟩)) a
  · cases h;exact qfy (.inr (.inr ⟨rfl,rfl⟩)) a
  · split at h
    · cases h;exact qtH ‹_› ‹_› a
    · cases h;exact qtk ‹_› ‹_› a
    · split at h
      · cases h;exact qtL ‹_› ‹_› ‹_› a
      · cases h
    · cases h
  · split at h
    · split at h
      · cases h;exact qtr ‹_› ‹_› b a
      · cases h;exact qtq ‹_› ‹_› b a
      · cases h;exact qtp ‹_› ‹_› b a
      · cases h
    · split at h
      · cases h;exact qtm ‹_› b a
      · cases h;exact qtl ‹_› b a
      · cases h
    · cases h
  · split at h
    · split at h
      · split at h
        · split at h
          · cases h
          · cases h;exact qtE ‹_› ‹_› ‹_› ‹_› a
        · cases h
      · cases h
    · cases h
  · split at h
    · split at h
      · split at h
        · cases h;exact qtC ‹_› ‹_› ‹_› ‹_› a
        · cases h;exact qtD ‹_› ‹_› ‹_› a
        · cases h
      · cases h
    · cases h
  · split at h
    · split at h
      · cases h;exact qtA ‹_› ‹_› a
      · cases h
    · cases h
  · split at h
    · cases h;exact qtz ‹_› a
    · cases h
  · cases h;exact qtF a
  · split at h
    · cases h
    · rename_i d g j;cases h;exact qtw j (fun i e=>by subst e;exact g i rfl) a
    · cases h
  · cases h;exact qtv a
  · rename_i c;obtain ⟨callee,⟨args⟩,⟨argTypes⟩⟩:=c;simp only at h;unfold qi5 at h;split at h
    · split at h
      · cases h;exact qtx ‹_› a
      · cases h;exact qty ‹_› a
      · cases h
    · split at h
      · cases h;exact qtI ‹_› a
      · cases h
    · cases h
  · cases h
end Go.Eng
namespace Go.Eng
open Go.RowKit
inductive Ex where
  |var (i:Nat)
  |const (v:Value)
  |op1 (k:K1) (x:Ex)
  |op2 (k:K2) (x y:Ex)
  |op3 (k:K3) (x y z:Ex)
  |op4 (k:K4) (x y z u:Ex)
  |ite (c x y:Ex)
def qap (c:Value) (x y:Option Value):Option Value:=
  match c with
  | .bool true=>x
  | .bool false=>y
  |_=>none
def Ex.ev (ρ:qa) (w:World):Ex→Option Value
  | .var i=>some (ρ i)
  | .const v=>some v
  | .op1 k x=>(x.ev ρ w).bind (qJ w k)
  | .op2 k x y=>(x.ev ρ w).bind fun a=>(y.ev ρ w).bind fun b=>jA w k a b
  | .op3 k x y z=>(x.ev ρ w).bind fun a=>(y.ev ρ w).bind fun b=>(z.ev ρ w).bind fun c=>wq w k a b c
  | .op4 k x y z u=>(x.ev ρ w).bind fun a=>(y.ev ρ w).bind fun b=>(z.ev ρ w).bind fun c=>(u.ev ρ w).bind fun d=>pv4 w k a b c d
  | .ite c x y=>(c.ev ρ w).bind fun a=>qap a (x.ev ρ w) (y.ev ρ w)
def QL:Operand→Value
  | .const v=>v
  | .global g=> .pointer (some ⟨g,0,none⟩)
  | .func f=> .func (.func f) #[] #[]
  | .tmp _=>undef
def xL:Operand→Ex
  | .tmp t=> .var t
  |x=> .const (QL x)
def jZ (ops:Array Oper) (i:Nat):Option Nat:=(ops[i]?).bind (·.dst)
def vF (V:List Nat):Operand→Bool
  | .tmp t=> !V.contains t
  |_=>false
def PO.opds:PO→List Operand
  | .k1 _ x=>[x]
  | .k2 _ x y=>[x,y]
  | .k3 _ x y z=>[x,y,z]
  | .k4 _ x y z u=>[x,y,z,u]
def PO.mk:PO→List Ex→Option Ex
  | .k1 .same _,[a]=>some a
  | .k1 k _,[a]=>some (.op1 k a)
  | .k2 k _ _,[a,b]=>some (.op2 k a b)
  | .k3 k _ _ _,[a,b,c]=>some (.op3 k a b c)
  | .k4 k _ _ _ _,[a,b,c,d]=>some (.op4 k a b c d)
  |_,_=>none
def vV (g:Option (Nat×Bool)) (j:Nat):Bool:=match g with|none=>true|some (i,_)=>decide (i<j)
def qbH (V:List Nat):Op→Option (Operand×Operand×Value×Bool)
  | .pick c (.const va) b=>if vF V b then some (c,b,va,false) else none
  | .pick c a (.const vb)=>if vF V a then some (c,a,vb,true) else none
  |_=>none
section
variable (P:Program) (ops:Array Oper) (V:List Nat)
def Qq (rec : Nat → Option (Ex × Nat)) (g : Option (Nat × Bool)) (x : Operand) (pos : Nat) : Option (Ex × Nat) :=
  if vF V x then
    match x,pos with
    | .tmp t,p+1=>if jZ ops p=some t∧(ops[p]?).map (·.guard)=some g then rec p else none
    |_,_=>none
  else some (xL x,pos)
def yK (rec:Nat→Option (Ex×Nat)) (g:Option (Nat×Bool)):List Operand→Nat→Option (List Ex×Nat)
  |[],pos=>some ([],pos)
  |x::xs,pos=>(yK rec g xs pos).bind fun (es,j)=>(Qq ops V rec g x j).bind fun (e,j')=>some (e::es,j')
def qbD (rec : Nat → Option (Ex × Nat)) (o : Oper) (k : Nat) : Option (Ex × Nat) :=
  match qbH V o.op with
  | some (c, y, cv, want) =>
    match k,c,y with
    | p + 1, .tmp tc, .tmp ty =>
      match (ops[p]?).bind (·.guard) with
      |some (i,want')=>
        if want'=want∧jZ ops p=some ty∧jZ ops i=some tc∧(o.guard=none∨vF V c=true) then
          (rec p).bind fun (ey,jy)=>(Qq ops V rec o.guard c jy).bind fun (ec,jc)=>some (if want then .ite ec ey (.const cv) else .ite ec (.const cv) ey,jc)
        else none
      |none=>none
    |_,_,_=>none
  |none=>
    match o.op with
    | .pick c a b=>if vF V a||vF V b then none else (Qq ops V rec o.guard c k).bind fun (ec,jc)=>some (.ite ec (xL a) (xL b),jc)
    |op=>(qcB P op).bind fun p=>(yK ops V rec o.guard p.opds k).bind fun (es,j)=>(p.mk es).map fun e=>(e,j)
def px:Nat→Nat→Option (Ex×Nat)
  |0,_=>none
  |fuel+1,k=>(ops[k]?).bind fun o=>(qbD P ops V (px fuel) o k).bind fun (e,j)=>if vV o.guard j then some (e,j) else none
end
def PV (P:Program) (w:World) (o:Oper) (a:Act) (v:Value):Prop:=∀w',qc w w'→(execOp a.eval o).run P w'= .ok (.value v) w'
def PS (P : Program) (w : World) (ops : Array Oper) : List Nat → Act → (Act → Prop) → Prop
  |[],a,K=>K a
  |i::is,a,K=>match ops[i]? with
    |none=>PS P w ops is a K
    |some o=>if Region.wanted o (yielded ops a.tmps) then∃v,PV P w o a v∧PS P w ops is (a.put o.dst v) K else PS P w ops is (a.put o.dst undef) K
theorem kN {P : Program} {w : World} {ops : Array Oper} : ∀ (l m : List Nat) (a : Act) (K : Act → Prop), PS P w ops l a (fun c => PS P w ops m c K) → PS P w ops (l ++ m) a K
  |[],_,_,_,h=>h
  | i :: l, m, a, K, h => by
    simp only [List.cons_append,PS] at h⊢;split
    · rename_i e;simp only [e] at h;exact kN l m a K h
    · rename_i o e;simp only [e] at h;split
      · rename_i b;simp only [b,if_true] at h;obtain ⟨v,g,j⟩:=h;exact ⟨v,g,kN l m _ K j⟩
      · rename_i b;simp only [b] at h;exact kN l m _ K (by simpa using h)
def gS:Nat:=1000000000
def yY:Deferred→Value
  |⟨.collected r,_⟩=> .int .i64 r
  |⟨.fn f caps,args⟩=> .func f args caps
  |_=> .bool false
def qaP (l:List Deferred):Value:= .tuple (l.map yY).toArray
def wx (d:Deferred):Value→Value
  | .tuple vs=> .tuple (yY d::vs.toList).toArray
  |v=>v
theorem qAw (d:Deferred) (l:List Deferred):wx d (qaP l)=qaP (d::l):=by simp [wx,qaP]
def kp (V:List Nat) (a:Act):qa:=fun i=>if i=gS then qaP a.defers else if i∈V then a.tmps.getD i undef else undef
structure Agree (n:Nat) (V:List Nat) (ρ:qa) (a:Act):Prop where
  size:a.tmps.size=n
  env:ρ=kp V a
  lt:∀i∈V,i<n
  big:n≤gS
theorem Agree.ne {n:Nat} {V:List Nat} {ρ:qa} {a:Act} (h:Agree n V ρ a) {i:Nat} (b:i∈V):i≠gS:=by
  have e:=h.lt i b;have c:=h.big;omega
theorem Agree.at {n:Nat} {V:List Nat} {ρ:qa} {a:Act} (h:Agree n V ρ a) {i:Nat} (b:i∈V):ρ i=a.tmps.getD i undef:=by
  rw [h.env];simp only [kp];rw [if_neg (h.ne b),if_pos b]
theorem Agree.ds {n:Nat} {V:List Nat} {ρ:qa} {a:Act} (h:Agree n V ρ a):ρ gS=qaP a.defers:=by
  rw [h.env];simp [kp]
structure Fr (ops:Array Oper) (j k:Nat) (a a':Act):Prop where
  size:a'.tmps.size=a.tmps.size
  defers:a'.defers=a.defers
  keep:∀t,(∀i,j≤i→i<k→jZ ops i≠some t)→a'.tmps[t]? =a.tmps[t]?
theorem Fr.refl (ops:Array Oper) (j k:Nat) (a:Act):Fr ops j k a a:=⟨rfl,rfl,fun _ _=>rfl⟩
theorem Fr.trans {ops:Array Oper} {i j k:Nat} {a b c:Act} (h:Fr ops i j a b) (g:Fr ops j k b c) (q:i≤j) (o:j≤k):Fr ops i k a c:=
  ⟨g.size.trans h.size,g.defers.trans h.defers,fun t l=>(g.keep t fun x m e=>l x (by omega) e).trans (h.keep t fun x m e=>l x m (by omega))⟩
theorem Fr.put {ops:Array Oper} {k:Nat} {o:Oper} (g:ops[k]? =some o) (a:Act) (v:Value):Fr ops k (k+1) a (a.put o.dst v):=by
  have c:jZ ops k=o.dst:=by simp [jZ,g]
  cases h:o.dst with
  |none=>exact Fr.refl _ _ _ _
  |some d=>
    refine ⟨by simp [Act.put],rfl,fun t i=> ?_⟩;have b:d≠t:=fun e=>i k (Nat.le_refl _) (by omega) (by rw [c,h,e]);simp [Act.put,b]
structure Region1 (n:Nat) (ops:Array Oper):Prop where
  once:∀i i' t,jZ ops i=some t→jZ ops i'=some t→i=i'
  lt:∀i t,jZ ops i=some t→t<n
def qa4 (ops:Array Oper) (V:List Nat) (j k:Nat):Prop:=∀i,j≤i→i<k→∀t,jZ ops i=some t→t∉V
theorem Agree.fr {n:Nat} {V:List Nat} {ρ:qa} {a l:Act} {ops:Array Oper} {j k:Nat} (h:Agree n V ρ a) (g:Fr ops j k a l) (b:qa4 ops V j k):Agree n V ρ l:=by
  refine ⟨g.size.trans h.size, ?_,h.lt,h.big⟩;rw [h.env];funext i;simp only [kp,g.defers];split
  · rfl
  · split
    · rename_i m;have:=g.keep i fun x o c e=>b x o c i e m;simp only [Array.getD_eq_getD_getElem?,this]
    · rfl
def jP (ops:Array Oper) (g:Option (Nat×Bool)) (a:Act):Bool:=match g with|none=>true|some (i,want)=>yielded ops a.tmps i==some want
theorem yA (ops:Array Oper) (o:Oper) (a:Act):Region.wanted o (yielded ops a.tmps)=jP ops o.guard a:=rfl
theorem qre {n:Nat} {ops:Array Oper} (g:Region1 n ops) {j k i:Nat} {a c:Act} (m:Fr ops j k a c) (q:i<j):yielded ops c.tmps i=yielded ops a.tmps i:=by
  simp only [yielded];cases b:jZ ops i with
  |none=>simp only [jZ] at b;simp [b]
  |some t=>
    have l:=m.keep t fun x o h e=>by have:=g.once _ _ _ b e;omega
    simp only [jZ] at b;simp [b,l]
theorem wS {n:Nat} {ops:Array Oper} (h:Region1 n ops) {j k:Nat} {a e:Act} {g:Option (Nat×Bool)} (l:Fr ops j k a e) (c:vV g j=true):jP ops g e=jP ops g a:=by
  cases g with
  |none=>rfl
  |some p=>
    obtain ⟨i,b⟩:=p;simp only [vV,decide_eq_true_eq] at c;simp only [jP,qre h l c]
def qiA (ops:Array Oper) (V:List Nat) (x:Operand) (pos:Nat):Prop:=∀t,x= .tmp t→t∈V∨∃i,i<pos∧jZ ops i=some t
theorem qhu {n:Nat} {ops:Array Oper} {V:List Nat} (m:Region1 n ops) {x:Operand} {pos j k:Nat} {a l:Act} (o:qiA ops V x pos) (s:Fr ops j k a l) (z:pos≤j) (b:qa4 ops V j k):
    l.eval x=a.eval x:=by
  cases x with
  |tmp t=>
    have:l.tmps[t]? =a.tmps[t]? :=s.keep t fun i y c e=>by
      rcases o t rfl with h|⟨A,q,u⟩
      · exact b i y c t e h
      · have:=m.once _ _ _ e u;omega
    simp only [Act.eval,Array.getD_eq_getD_getElem?,this]
  |const v=>rfl
  |global g=>rfl
  |func f=>rfl
section
variable (P:Program) (ops:Array Oper) (V:List Nat) (n:Nat)
structure SemX (k:Nat) (e:Ex) (j:Nat):Prop where
  le:j≤k
  free:qa4 ops V j k
  lt:∀o,ops[k]? =some o→vV o.guard j=true
  yes:∀o,ops[k]? =some o→∀(ρ:qa) (w:World) (a:Act) (v:Value),Agree n V ρ a→jP ops o.guard a=true→e.ev ρ w=some v→∀K:Act→Prop,
    (∀a',Fr ops j (k+1) a a'→(∀d,o.dst=some d→a'.tmps[d]? =some v)→K a')→PS P w ops (List.range' j (k+1 - j)) a K
  no:∀o,ops[k]? =some o→∀(w:World) (a:Act),a.tmps.size=n→jP ops o.guard a=false→∀K:Act→Prop,
    (∀a',Fr ops j (k+1) a a'→(∀d,o.dst=some d→a'.tmps[d]? =some undef)→K a')→PS P w ops (List.range' j (k+1 - j)) a K
structure SemL (g:Option (Nat×Bool)) (xs:List Operand) (pos:Nat) (es:List Ex) (j:Nat):Prop where
  le:j≤pos
  free:qa4 ops V j pos
  safe:∀x∈xs,qiA ops V x pos
  yes:vV g j=true→∀(ρ:qa) (w:World) (a:Act) (vs:List Value),Agree n V ρ a→jP ops g a=true→es.map (·.ev ρ w)=vs.map some→∀K:Act→Prop,
    (∀a',Fr ops j pos a a'→xs.map a'.eval=vs→K a')→PS P w ops (List.range' j (pos - j)) a K
  no:vV g j=true→∀(w:World) (a:Act),a.tmps.size=n→jP ops g a=false→∀K:Act→Prop,
    (∀a',Fr ops j pos a a'→(∀x∈xs,vF V x=true→a'.eval x=undef)→K a')→PS P w ops (List.range' j (pos - j)) a K
end
theorem qlB {x:Option Value} {vs:List Value} (h:[x]=vs.map some):∃v,vs=[v]∧x=some v:=by
  cases vs with
  |nil=>cases h
  |cons v vs=>cases vs with
    |nil=>exact ⟨v,rfl,by simpa using h⟩
    |cons u a=>simp at h
theorem qdv {n:Nat} {V:List Nat} {ρ:qa} {a:Act} {w:World} {x:Operand} {v:Value} (h:Agree n V ρ a) (e:vF V x=false) (b:(xL x).ev ρ w=some v):a.eval x=v:=by
  cases x with
  |tmp t=>
    simp only [xL,Ex.ev,Option.some.injEq] at b;have c:t∈V:=by simpa [vF] using e
    rw [←b,h.at c];simp [Act.eval]
  |const u=>simpa [xL,Ex.ev,QL,Act.eval] using b
  |global g=>simpa [xL,Ex.ev,QL,Act.eval] using b
  |func f=>simpa [xL,Ex.ev,QL,Act.eval] using b
theorem qwc {ops:Array Oper} {V:List Nat} {x:Operand} (a:vF V x=false) (pos:Nat):qiA ops V x pos:=fun t e=>by
  subst e;exact .inl (by simpa [vF] using a)
section
variable {P:Program} {ops:Array Oper} {V:List Nat} {n:Nat} {rec:Nat→Option (Ex×Nat)}
theorem qfR (_hr : Region1 n ops) (J : ∀ k e j, rec k = some (e, j) → SemX P ops V n k e j) {g : Option (Nat × Bool)} {x : Operand} {pos : Nat} {e : Ex} {j : Nat}
    (h:Qq ops V rec g x pos=some (e,j)):SemL P ops V n g [x] pos [e] j:=by
  unfold Qq at h;split at h
  · rename_i A;split at h
    · rename_i t p;split at h
      · rename_i hc;obtain ⟨S,Q⟩:=hc;have L:=J _ _ _ h;obtain ⟨o,C,E⟩:∃o,ops[p]? =some o∧o.guard=g:=by
          cases C:ops[p]? with
          |none=>simp [C] at Q
          |some o=>simp only [C,Option.map_some,Option.some.injEq] at Q;exact ⟨o,rfl,Q⟩
        have F:o.dst=some t:=by simpa [jZ,C] using S
        have W:t∉V:=by simpa [vF] using A
        refine ⟨by have:=L.le;omega,fun i hi R u I=> ?_,fun y B u I=> ?_,fun _ ρ w a vs U l z K s=> ?_,fun _ w a H l K s=> ?_⟩
        · by_cases X:i=p
          · subst X;rw [S] at I;cases I;exact W
          · exact L.free i hi (by omega) u I
        · have b:y= .tmp t:=by simpa using B
          subst b;cases I;exact .inr ⟨p,by omega,S⟩
        · obtain ⟨v,rfl,m⟩:=qlB z;refine L.yes o C ρ w a v U (by rw [E];exact l) m K fun Y q Z=>s Y q ?_;have:=Z t F;simp [Act.eval,Array.getD_eq_getD_getElem?,this]
        · refine L.no o C w a H (by rw [E];exact l) K fun Y q Z=>s Y q fun y B _=> ?_;have b:y= .tmp t:=by simpa using B
          subst b;simp [Act.eval,Array.getD_eq_getD_getElem?,Z t F]
      · cases h
    · cases h
  · rename_i A;have c:vF V x=false:=by simpa using A
    simp only [Option.some.injEq,Prod.mk.injEq] at h;obtain ⟨rfl,rfl⟩:=h;refine ⟨Nat.le_refl _,fun i hi R=>by omega,fun y B=> ?_,fun _ ρ w a vs U l z K s=> ?_,fun _ w a H l K s=> ?_⟩
    · have b:y=x:=by simpa using B
      subst b;exact qwc c _
    · obtain ⟨v,rfl,m⟩:=qlB z;simp only [Nat.sub_self,List.range',PS];exact s a (Fr.refl _ _ _ _) (by simp [qdv U c m])
    · simp only [Nat.sub_self,List.range',PS];refine s a (Fr.refl _ _ _ _) fun y B O=> ?_;have b:y=x:=by simpa using B
      subst b;simp [c] at O
theorem Qp {i j k:Nat} (b:i≤j) (a:j≤k):List.range' i (k - i)=List.range' i (j - i)++List.range' j (k - j):=by
  have h:= @List.range'_append_1 i (j - i) (k - j);rw [show i+(j - i)=j by omega,show (j - i)+(k - j)=k - i by omega] at h;exact h.symm
theorem qkB (H : Region1 n ops) (A : ∀ k e j, rec k = some (e, j) → SemX P ops V n k e j) {g : Option (Nat × Bool)} : ∀ {xs : List Operand} {pos : Nat} {es : List Ex} {j : Nat},
    yK ops V rec g xs pos=some (es,j)→SemL P ops V n g xs pos es j
  |[],pos,es,j,h=>by
    simp only [yK,Option.some.injEq,Prod.mk.injEq] at h;obtain ⟨rfl,rfl⟩:=h;refine ⟨Nat.le_refl _,fun i Y J=>by omega,fun y s=>(by cases s),fun _ ρ w a vs X c m K C=> ?_,fun _ w a B c K C=> ?_⟩
    · simp only [Nat.sub_self,List.range',PS]
      match vs,m with
      |[],_=>exact C a (Fr.refl _ _ _ _) rfl
    · simp only [Nat.sub_self,List.range',PS];exact C a (Fr.refl _ _ _ _) fun y s=>by cases s
  | x :: xs, pos, es, j, h => by
    simp only [yK,Option.bind_eq_some_iff,Prod.exists,Option.some.injEq,Prod.mk.injEq] at h;obtain ⟨aa,W,h1,e,j2,h2,rfl,rfl⟩:=h;have E:=qkB H A h1;have z:=qfR H A h2;have l1:=E.le;have Q:=z.le;refine ⟨by omega,fun i Y J=> ?_,fun y s=> ?_,fun b ρ w a vs X c m K C=> ?_,fun b w a B c K C=> ?_⟩
    · by_cases U:i<W
      · exact z.free i Y U
      · exact E.free i (by omega) J
    · rcases List.mem_cons.1 s with rfl|s
      · intro t Z;rcases z.safe _ (List.mem_singleton.2 rfl) t Z with hh|⟨i,Y,hd⟩
        · exact .inl hh
        · exact .inr ⟨i,by omega,hd⟩
      · exact E.safe y s
    · match vs,m with
      | v :: vs, m =>
        simp only [List.map_cons,List.cons.injEq] at m;obtain ⟨O,L⟩:=m;have o:vV g W=true:=by
          cases g with
          |none=>rfl
          |some p=>simp only [vV,decide_eq_true_eq] at b⊢;omega
        rw [Qp Q l1];refine kN _ _ _ _ (z.yes b ρ w a [v] X c (by simpa using O) _ fun R l u=> ?_);refine E.yes o ρ w R vs (X.fr l z.free) (by rw [wS H l b];exact c) L _ fun S q F=> ?_;refine C S (l.trans q Q l1) ?_;have h0:S.eval x=R.eval x:=qhu H (z.safe x (List.mem_singleton.2 rfl)) q (Nat.le_refl _) E.free;simp only [List.map_cons,List.cons.injEq,List.map_nil,and_true] at u;simp only [List.map_cons,h0,u,F]
    · have o:vV g W=true:=by
       cases g with
       |none=>rfl
       |some p=>simp only [vV,decide_eq_true_eq] at b⊢;omega
      rw [Qp Q l1];refine kN _ _ _ _ (z.no b w a B c _ fun R l u=> ?_);refine E.no o w R (l.size.trans B) (by rw [wS H l b];exact c) _ fun S q F=> ?_;refine C S (l.trans q Q l1) fun y s I=> ?_;rcases List.mem_cons.1 s with rfl|s
      · rw [qhu H (z.safe y (List.mem_singleton.2 rfl)) q (Nat.le_refl _) E.free];exact u y (List.mem_singleton.2 rfl) I
      · exact F y s I
theorem qiC {w:World} {a:Act} {k:Nat} {o:Oper} (c:ops[k]? =some o) (b:jP ops o.guard a=true) {v:Value} (e:PV P w o a v) {K:Act→Prop} (h:K (a.put o.dst v)):PS P w ops [k] a K:=by
  simp only [PS,c,yA,b,if_true];exact ⟨v,e,h⟩
theorem qiB {w:World} {a:Act} {k:Nat} {o:Oper} (c:ops[k]? =some o) (b:jP ops o.guard a=false) {K:Act→Prop} (h:K (a.put o.dst undef)):PS P w ops [k] a K:=by
  simp only [PS,c,yA,b];exact h
theorem Qr {a:Act} {o:Oper} {v:Value} (b:∀d,o.dst=some d→d<a.tmps.size):∀d,o.dst=some d→(a.put o.dst v).tmps[d]? =some v:=by
  intro d c;simp [Act.put,c,b d c]
theorem y5 (c:Region1 n ops) {k:Nat} {o:Oper} (g:ops[k]? =some o) {a:Act} (b:a.tmps.size=n):∀d,o.dst=some d→d<a.tmps.size:=by
  intro d e;rw [b];exact c.lt k d (by simp [jZ,g,e])
theorem qvM {p:PO} {es:List Ex} {e:Ex} (h:p.mk es=some e) {ρ:qa} {w:World} {v:Value} (i:e.ev ρ w=some v):
    ∃vs,es.map (·.ev ρ w)=vs.map some∧∀f:Operand→Value,p.opds.map f=vs→p.val w f=some v:=by
  unfold PO.mk at h;split at h
  · cases h;exact ⟨[v],by simp [i],fun f g=>by simp only [PO.opds,List.map_cons,List.map_nil,List.cons.injEq,and_true] at g;simp [PO.val,qJ,g]⟩
  · cases h;simp only [Ex.ev,Option.bind_eq_some_iff] at i;obtain ⟨a,j,i⟩:=i;exact ⟨[a],by simp [j],fun f g=>by simp only [PO.opds,List.map_cons,List.map_nil,List.cons.injEq,and_true] at g;simp [PO.val,g,i]⟩
  · cases h;simp only [Ex.ev,Option.bind_eq_some_iff] at i;obtain ⟨a,j,b,k,i⟩:=i;exact ⟨[a,b],by simp [j,k],fun f g=>by simp only [PO.opds,List.map_cons,List.map_nil,List.cons.injEq,and_true] at g;simp [PO.val,g.1,g.2,i]⟩
  · cases h;simp only [Ex.ev,Option.bind_eq_some_iff] at i;obtain ⟨a,j,b,k,c,l,i⟩:=i;exact ⟨[a,b,c],by simp [j,k,l],fun f g=>by simp only [PO.opds,List.map_cons,List.map_nil,List.cons.injEq,and_true] at g;simp [PO.val,g.1,g.2.1,g.2.2,i]⟩
  · cases h;simp only [Ex.ev,Option.bind_eq_some_iff] at i;obtain ⟨a,j,b,k,c,l,d,m,i⟩:=i;exact ⟨[a,b,c,d],by simp [j,k,l,m],fun f g=>by simp only [PO.opds,List.map_cons,List.map_nil,List.cons.injEq,and_true] at g;simp [PO.val,g.1,g.2.1,g.2.2.1,g.2.2.2,i]⟩
  · cases h
theorem yI {j k:Nat} (h:j≤k):List.range' j (k+1 - j)=List.range' j (k - j)++[k]:=by
  have:=Qp (i:=j) (j:=k) (k:=k+1) h (by omega);simpa using this
theorem qup {op:Op} {c y:Operand} {b:Value} {a:Bool} (h:qbH V op=some (c,y,b,a)):
    vF V y=true∧((a=false∧op= .pick c (.const b) y)∨(a=true∧op= .pick c y (.const b))):=by
  unfold qbH at h;split at h
  · split at h
    · rename_i e;cases h;exact ⟨e, .inl ⟨rfl,rfl⟩⟩
    · cases h
  · split at h
    · rename_i e;cases h;exact ⟨e, .inr ⟨rfl,rfl⟩⟩
    · cases h
  · cases h
theorem qub (O : Region1 n ops) (ac : ∀ k e j, rec k = some (e, j) → SemX P ops V n k e j) {k : Nat} {o : Oper} (S : ops[k]? = some o) {e : Ex} {j : Nat}
    (h:qbD P ops V rec o k=some (e,j)) (l:vV o.guard j=true):SemX P ops V n k e j:=by
  have R:∀z,ops[k]? =some z→z=o:=fun z Q=>Option.some.inj (Q.symm.trans S);unfold qbD at h;split at h
  ·
    rename_i c y cv want hsh;obtain ⟨hfy,I⟩:=qup hsh;split at h
    · rename_i p tc ty;split at h
      · rename_i i B hgp;split at h
        · rename_i hc;obtain ⟨rfl,hdp,hdi,hcf⟩:=hc;simp only [Option.bind_eq_some_iff,Prod.exists,Option.some.injEq,Prod.mk.injEq] at h;obtain ⟨ey,jy,hy,ec,jc,hcx,rfl,rfl⟩:=h;have sy:=ac _ _ _ hy;have sc:=qfR O ac hcx;obtain ⟨aa,X,hgo'⟩:∃z,ops[p]? =some z∧z.guard=some (i,B):=by
            cases hp:ops[p]? with
            |none=>simp [hp] at hgp
            |some z=>simp only [hp,Option.bind_some] at hgp;exact ⟨z,rfl,hgp⟩
          have hdop:aa.dst=some ty:=by simpa [jZ,X] using hdp
          have lty:=sy.lt aa X;rw [hgo'] at lty;simp only [vV,decide_eq_true_eq] at lty;have ly:=sy.le;have lc:=sc.le;have htyV:ty∉V:=by simpa [vF] using hfy
          have ad:qa4 ops V jy (p+1):=fun x hx hx' t ht=>by
            by_cases hxp:x=p
            · subst hxp;rw [hdp] at ht;cases ht;exact htyV
            · exact sy.free x hx (by omega) t ht
          have hltp:vV o.guard (p+1)=true:=by
            cases hg:o.guard with
            |none=>rfl
            |some q=>rw [hg] at l;simp only [vV,decide_eq_true_eq] at l⊢;omega
          have hyield:∀(C:Act) (b:Bool),C.tmps.size=n→C.eval (.tmp tc)= .bool b→yielded ops C.tmps i=some b:=by
            intro C b L hb;have hdi':((ops[i]?).bind (·.dst))=some tc:=hdi;have htc:tc<C.tmps.size:=by rw [L];exact O.lt _ _ hdi
            simp only [Act.eval,Array.getD_eq_getD_getElem?] at hb;simp only [yielded,hdi',Option.bind_some];cases hg:C.tmps[tc]? with
            |none=>simp [Array.getElem?_eq_getElem htc] at hg
            |some u=>simp only [hg,Option.getD_some] at hb;subst hb;rfl
          refine ⟨by omega,fun x hx hx' t ht=> ?_,fun z Q=>by rw [R z Q];exact l,fun z Q ρ w a v ha s A K hK=> ?_,fun z Q w a L s K hK=> ?_⟩
          · by_cases hxj:x<jy
            · exact sc.free x hx hxj t ht
            · exact ad x (by omega) hx' t ht
          · obtain rfl:=R z Q;obtain ⟨U,hcb⟩:∃U,ec.ev ρ w=some (.bool U)∧(if U=B then ey.ev ρ w=some v else v=cv):=by
              cases B<;>simp only [Bool.false_eq_true,if_false,if_true,Ex.ev,Option.bind_eq_some_iff,qap] at A<;>obtain ⟨u,hu,A⟩:=A<;>
                (split at A
                 · exact ⟨true,hu,by simpa [eq_comm] using A⟩
                 · exact ⟨false,hu,by simpa [eq_comm] using A⟩
                 · cases A)
            obtain ⟨hcb,m⟩:=hcb;rw [yI (by omega),Qp (j:=jy) lc (by omega)];refine kN _ _ _ _ (kN _ _ _ _ (sc.yes l ρ w a [.bool U] ha s (by simp [hcb]) _ fun C g E=> ?_));simp only [List.map_cons,List.map_nil,List.cons.injEq,and_true] at E;have J:C.tmps.size=n:=g.size.trans ha.size;have Z:=ha.fr g sc.free;have hyl:=hyield C U J E;have hgy:jP ops aa.guard C=(U==B):=by rw [hgo'];simp only [jP,hyl];cases U<;>cases B<;>rfl
            have Y:jP ops z.guard C=true:=by rw [wS O g l];exact s
            have fin:∀W,Fr ops jy (p+1) C W→(if U=B then W.tmps[ty]? =some v else W.tmps[ty]? =some undef)→PS P w ops [p+1] W K:=by
              intro W F ab;have hcv:W.eval (.tmp tc)= .bool U:=(qhu O (sc.safe _ (List.mem_singleton.2 rfl)) F (Nat.le_refl _) ad).trans E;have hlty:vV z.guard jy=true:=by
                cases hg:z.guard with
                |none=>rfl
                |some q=>rw [hg] at l;simp only [vV,decide_eq_true_eq] at l⊢;omega
              have H:jP ops z.guard W=true:=by rw [wS O F hlty];exact Y
              refine qiC S H (v:=v) (fun w' _=> ?_) (hK _ ((g.trans F lc (by omega)).trans (Fr.put S W v) (by omega) (by omega)) (Qr (y5 O S (F.size.trans J))));have hyv:U=B→W.eval (.tmp ty)=v:=fun e=>by
                simp only [e,if_true] at ab;simp [Act.eval,Array.getD_eq_getD_getElem?,ab]
              rcases I with ⟨rfl,I⟩|⟨rfl,I⟩
              · cases U
                · simp [execOp,I,hcv,asBool,hyv rfl]
                · simp only [Bool.true_eq_false,if_false] at m;subst m;have hcst:W.eval (.const v)=v:=rfl;simp [execOp,I,hcv,asBool,hcst]
              · cases U
                · simp only [Bool.false_eq_true,if_false] at m;subst m;have hcst:W.eval (.const v)=v:=rfl;simp [execOp,I,hcv,asBool,hcst]
                · simp [execOp,I,hcv,asBool,hyv rfl]
            by_cases hcw:U=B
            · simp only [hcw,if_true] at m;refine sy.yes aa X ρ w C v Z (by rw [hgy,hcw];simp) m _ fun W F ab=>fin W F ?_;rw [if_pos hcw];exact ab ty hdop
            · refine sy.no aa X w C J (by rw [hgy];simpa using hcw) _ fun W F ab=>fin W F ?_;rw [if_neg hcw];exact ab ty hdop
          · obtain rfl:=R z Q;have hcf':vF V (.tmp tc)=true:=by
              rcases hcf with hcf|hcf
              · rw [hcf] at s;cases s
              · exact hcf
            rw [yI (by omega),Qp (j:=jy) lc (by omega)];refine kN _ _ _ _ (kN _ _ _ _ (sc.no l w a L s _ fun C g E=> ?_));have J:C.tmps.size=n:=g.size.trans L;have hcu:C.eval (.tmp tc)=undef:=E _ (List.mem_singleton.2 rfl) hcf';have hgy:jP ops aa.guard C=false:=by
              rw [hgo'];have hdi':((ops[i]?).bind (·.dst))=some tc:=hdi;have htc:tc<C.tmps.size:=by rw [J];exact O.lt _ _ hdi
              simp only [jP,yielded,hdi',Option.bind_some];simp only [Act.eval,Array.getD_eq_getD_getElem?] at hcu;cases hg:C.tmps[tc]? with
              |none=>simp [Array.getElem?_eq_getElem htc] at hg
              |some u=>simp only [hg,Option.getD_some] at hcu;subst hcu;rfl
            refine sy.no aa X w C J hgy _ fun W F ab=> ?_;have hlty:vV z.guard jy=true:=by
              cases hg:z.guard with
              |none=>rfl
              |some q=>rw [hg] at l;simp only [vV,decide_eq_true_eq] at l⊢;omega
            have H:jP ops z.guard W=false:=by rw [wS O F hlty,wS O g l];exact s
            exact qiB S H (hK _ ((g.trans F lc (by omega)).trans (Fr.put S W _) (by omega) (by omega)) (Qr (y5 O S (F.size.trans J))))
        · cases h
      · cases h
    · cases h
  · split at h
    ·
      rename_i c x y I;split at h
      · cases h
      · rename_i hxy;simp only [Bool.or_eq_true,not_or,Bool.not_eq_true] at hxy;simp only [Option.bind_eq_some_iff,Prod.exists,Option.some.injEq,Prod.mk.injEq] at h;obtain ⟨ec,jc,hcx,rfl,rfl⟩:=h;have sc:=qfR O ac hcx;have lc:=sc.le;refine ⟨sc.le,sc.free,fun z Q=>by rw [R z Q];exact l,fun z Q ρ w a v ha s A K hK=> ?_,fun z Q w a L s K hK=> ?_⟩
        · obtain rfl:=R z Q;simp only [Ex.ev,Option.bind_eq_some_iff,qap] at A;obtain ⟨u,hu,A⟩:=A;obtain ⟨U,rfl,m⟩:∃U,u= .bool U∧(if U then (xL x).ev ρ w=some v else (xL y).ev ρ w=some v):=by
            split at A
            · exact ⟨true,rfl,A⟩
            · exact ⟨false,rfl,by simpa using A⟩
            · cases A
          rw [yI lc];refine kN _ _ _ _ (sc.yes l ρ w a [.bool U] ha s (by simp [hu]) _ fun C g E=> ?_);simp only [List.map_cons,List.map_nil,List.cons.injEq,and_true] at E;have Z:=ha.fr g sc.free;have Y:jP ops z.guard C=true:=by rw [wS O g l];exact s
          refine qiC S Y (v:=v) (fun w' _=> ?_) (hK _ (g.trans (Fr.put S C v) lc (by omega)) (Qr (y5 O S Z.size)));cases U
          · simp only [Bool.false_eq_true,if_false] at m;simp [execOp,I,E,asBool,qdv Z hxy.2 m]
          · simp only [if_true] at m;simp [execOp,I,E,asBool,qdv Z hxy.1 m]
        · obtain rfl:=R z Q;rw [yI lc];refine kN _ _ _ _ (sc.no l w a L s _ fun C g E=> ?_);have H:jP ops z.guard C=false:=by rw [wS O g l];exact s
          exact qiB S H (hK _ (g.trans (Fr.put S C _) lc (by omega)) (Qr (y5 O S (g.size.trans L))))
    · rename_i I;simp only [Option.bind_eq_some_iff,Prod.exists,Option.map_eq_some_iff,Prod.mk.injEq] at h;obtain ⟨p,hp,es,j',hes,e',hmk,rfl,rfl⟩:=h;have sc:=qkB O ac hes;have lc:=sc.le;refine ⟨sc.le,sc.free,fun z Q=>by rw [R z Q];exact l,fun z Q ρ w a v ha s A K hK=> ?_,fun z Q w a L s K hK=> ?_⟩
      · obtain rfl:=R z Q;obtain ⟨vs,hvs,m⟩:=qvM hmk A;rw [yI lc];refine kN _ _ _ _ (sc.yes l ρ w a vs ha s hvs _ fun C g E=> ?_);have Z:=ha.fr g sc.free;have Y:jP ops z.guard C=true:=by rw [wS O g l];exact s
        refine qiC S Y (v:=v) (fun w' hw'=> ?_) (hK _ (g.trans (Fr.put S C v) lc (by omega)) (Qr (y5 O S Z.size)));exact qrO hp (fun _=>rfl) (PO.val_ext hw' (m C.eval E))
      · obtain rfl:=R z Q;rw [yI lc];refine kN _ _ _ _ (sc.no l w a L s _ fun C g E=> ?_);have H:jP ops z.guard C=false:=by rw [wS O g l];exact s
        exact qiB S H (hK _ (g.trans (Fr.put S C _) lc (by omega)) (Qr (y5 O S (g.size.trans L))))
end
theorem qc6 {P:Program} {ops:Array Oper} {V:List Nat} {n:Nat} (g:Region1 n ops):∀(a k:Nat) (e:Ex) (j:Nat),px P ops V a k=some (e,j)→SemX P ops V n k e j
  |0,_,_,_,h=>by cases h
  |a+1,k,e,j,h=>by
    simp only [px,Option.bind_eq_some_iff,Prod.exists] at h;obtain ⟨o,l,m,q,i,c⟩:=h;split at c
    · rename_i b;cases c;exact qub g (qc6 g a) l i b
    · cases c
end Go.Eng
