/- Lemmas for a claim about layer 2 (tree). No conditions but those they state. -/
import Derived.Test.YtbcmiempigoooaaGreatDoorNaa
import Derived.Laws.BytesString
set_option linter.all false
namespace Go.Eng
open Go.RowKit
theorem zJ {v:Value} (h:qo v=true):(∃b o n c,v= .slice (some ⟨b,o,none⟩) n c∧n≤c)∨v= .slice none 0 0∨∃b o s,v= .slice (some ⟨b,o,some s⟩) 0 0:=by
  unfold qo at h;split at h
  · rename_i b o n c;exact .inl ⟨b,o,n,c,rfl,by simpa using h⟩
  · rename_i b o s;exact .inr (.inr ⟨b,o,s,rfl⟩)
  · exact .inr (.inl rfl)
  · cases h
theorem qf1 {P:Program} (w:World) (a:Addr):∀(n i:Nat) (l:List Value) (b:Array Value),jq w a i n=some l→
    (loadCellsFrom a i n b).run P w= .ok (b++l.toArray) w
  |0,i,l,b,h=>by
    simp only [jq,Option.some.injEq] at h;subst h;simp [loadCellsFrom]
  |n+1,i,l,b,h=>by
    simp only [jq,Option.bind_eq_some_iff,Option.some.injEq] at h;obtain ⟨v,j,g,c,rfl⟩:=h;have e:=qf1 (P:=P) w a n (i+1) g (b.push v) c;simp only [loadCellsFrom,load,Sem.run_bind];rw [show (Sem.load Mode.plain (a.add i) Sem.pure).run P w= .ok v w by simp [Sem.run,j]];simp only [Result.andThen_ok];rw [e];simp
theorem qf4 {P:Program} {t:TypeId} {i:TypeInfo} (h:P.info? t=some i) (w:World):(typeInfo t).run P w= .ok i w:=by
  simp [typeInfo,h]
theorem QE {P:Program} {t:TypeId} {i:TypeInfo} (h:P.info? t=some i) (w:World):(sizeOf t).run P w= .ok i.size w:=by
  simp [sizeOf,qf4 h]
theorem qc4 {P:Program} {t:TypeId} {b:Bool} (h:xz P t=some b) (w:World):(isAgg t).run P w= .ok b w:=by
  unfold xz at h;cases a:P.underlying t with
  |none=>simp [a] at h
  |some d=>
    simp only [a] at h;simp only [isAgg,Sem.run_bind,run_underlying a,Result.andThen_ok];cases d<;>simp_all
theorem qf5 {P:Program} (w:World) (op:BinOp) (t:TypeId) (x y:Operand) (k c:IntKind) (a b:Int):
    (eqGuard op t x y (.int k a) (.int c b)).run P w= .ok () w:=by
  unfold eqGuard;cases op<;>simp
theorem qk5 {P:Program} (w:World) (op:BinOp) (t:TypeId) (x y:Operand) (a b:ByteArray):
    (eqGuard op t x y (.string a) (.string b)).run P w= .ok () w:=by
  unfold eqGuard;cases op<;>simp
theorem qk6 {P:Program} (w:World) (op:BinOp) (t:TypeId) (x y:Operand) (a b:Bool):
    (eqGuard op t x y (.bool a) (.bool b)).run P w= .ok () w:=by
  unfold eqGuard;cases op<;>simp
theorem qFs (x y:ByteArray):x.data=y.data↔x=y:=by
  constructor
  · intro h;cases x;cases y;congr
  · rintro rfl;rfl
theorem qFt (x y:ByteArray):(x.data==y.data)=decide (x=y):=by
  rw [Bool.eq_iff_iff];simp [qFs]
theorem qk1 {P:Program} (w:World) (b:Bool) (len cap:Nat) (kl a:IntKind) (l h:Int) (c:0≤l) (e:l≤h) (g:h≤cap):
    (Instr.sliceBounds b len cap (some (.int kl l)) (some (.int a h)) none).run P w= .ok (l.toNat,h.toNat,cap) w:=by
  have:(h.toNat:Int)=h:=Int.toNat_of_nonneg (by omega);simp [Instr.sliceBounds,run_sliceBound, *,(by omega:(0:Int)≤h)]
theorem qkY {P:Program} (w:World) (b:Bool) (len cap:Nat) (kl:IntKind) (l:Int) (a:0≤l) (c:l≤len):
    (Instr.sliceBounds b len cap (some (.int kl l)) none none).run P w= .ok (l.toNat,len,cap) w:=by
  simp [Instr.sliceBounds,run_sliceBound, *]
theorem qk0 {P:Program} (w:World) (b:Bool) (len cap:Nat):
    (Instr.sliceBounds b len cap none none none).run P w= .ok (0,len,cap) w:=by
  simp [Instr.sliceBounds]
theorem qkZ {P:Program} (w:World) (b:Bool) (len cap:Nat) (a:IntKind) (h:Int) (c:0≤h) (e:h≤cap):
    (Instr.sliceBounds b len cap none (some (.int a h)) none).run P w= .ok (0,h.toNat,cap) w:=by
  simp [Instr.sliceBounds,run_sliceBound, *]
theorem qwr {P:Program} (w:World) (b:Bool) (len cap:Nat) (kl c a:IntKind) (l h m:Int) (k:0≤l) (g:l≤h) (o:h≤m) (e:m≤cap):
    (Instr.sliceBounds b len cap (some (.int kl l)) (some (.int c h)) (some (.int a m))).run P w= .ok (l.toNat,h.toNat,m.toNat) w:=by
  have j:(h.toNat:Int)=h:=Int.toNat_of_nonneg (by omega);have i:(m.toNat:Int)=m:=Int.toNat_of_nonneg (by omega);simp [Instr.sliceBounds,run_sliceBound, *,(by omega:(0:Int)≤h),(by omega:(0:Int)≤m)]
theorem qwq {P:Program} (w:World) (b:Bool) (len cap:Nat) (c a:IntKind) (h m:Int) (i:0≤h) (j:h≤m) (e:m≤cap):
    (Instr.sliceBounds b len cap none (some (.int c h)) (some (.int a m))).run P w= .ok (0,h.toNat,m.toNat) w:=by
  have g:(m.toNat:Int)=m:=Int.toNat_of_nonneg (by omega);simp [Instr.sliceBounds,run_sliceBound, *,(by omega:(0:Int)≤m)]
theorem qf0 {P:Program} (w:World) {t e:TypeId} {i:TypeInfo} (g:P.underlying t=some (.slice e)) (p:P.info? e=some i) {v:Value} (u:qo v=true)
    {lo a mx:Option Value} {l h m:Nat} (j:(Instr.sliceBounds true (qk v) (qv v) lo a mx).run P w= .ok (l,h,m) w):
    (Instr.sliceAt t v lo a mx).run P w= .ok (qY v i.size l h m) w:=by
  have k:(Instr.sliceAt t v lo a mx).run P w=(Instr.slice t v lo a mx).run P w:=by simp [Instr.sliceAt,run_underlying g]
  rw [k];rcases zJ u with ⟨b,o,n,c,rfl,_⟩|rfl|⟨b,o,s,rfl⟩<;>
    (simp only [qk,qv] at j;simp [Instr.slice,run_underlying g,j,QE p,qY])
theorem qkX {P:Program} (w:World) {t:TypeId} (c:P.underlying t=some .string) (s:ByteArray)
    {lo a:Option Value} {l h m:Nat} (b:(Instr.sliceBounds false s.size s.size lo a none).run P w= .ok (l,h,m) w):
    (Instr.sliceAt t (.string s) lo a none).run P w= .ok (.string (s.extract l h)) w:=by
  simp [Instr.sliceAt,Instr.slice,run_underlying c,b]
section
variable {P:Program} {w:World} {f:Operand→Value} {v:Value} {dst:Option Tmp} {type:TypeId} {pos:String} {after:Array Edge} {guard:Option (Nat×Bool)}
theorem qbG {k:K1} {x:Value} (h:qU w k x=some v) (b:(∃n,k= .loadN n)∨k= .load1∨(∃o,k= .fadr o)):∃a,x= .pointer (some a):=by
  rcases b with ⟨n,rfl⟩|rfl|⟨o,rfl⟩<;>(cases x<;>first|(cases h;done)|skip)<;>rename_i a<;>cases a<;>first|(cases h;done)|exact ⟨_,rfl⟩
theorem qk3 {t:TypeId} {a:Operand} (j:xz P t=some false) (c:qU w .load1 (f a)=some v):
    (execOp f ⟨dst, .load t a,type,pos,after,guard⟩).run P w= .ok (.value v) w:=by
  obtain ⟨e,g⟩:=qbG c (.inr (.inl rfl));rw [g] at c;have b:w.cell? e=some v:=c;have h:(load e).run P w= .ok v w:=by simp [load,Sem.run,b]
  have i:=qc4 (P:=P) j w;simp only [execOp,g,Instr.loadAt,Instr.sureAddr,loadVar,Sem.run_bind,Sem.run_pure,Result.andThen_ok,i,Bool.false_eq_true,if_false,h]
theorem qf3 {t:TypeId} {i:TypeInfo} {a:Operand} (m:xz P t=some true) (g:P.info? t=some i) (b:qU w (.loadN i.size) (f a)=some v):
    (execOp f ⟨dst, .load t a,type,pos,after,guard⟩).run P w= .ok (.value v) w:=by
  obtain ⟨c,e⟩:=qbG b (.inl ⟨_,rfl⟩);rw [e] at b;obtain ⟨l,j,rfl⟩:=Option.map_eq_some_iff.1 (show (jq w c 0 i.size).map _=some v from b);have h:=qf1 (P:=P) w c i.size 0 l #[] j;have k:=qc4 (P:=P) m w;simp only [execOp,e,Instr.loadAt,Instr.sureAddr,loadVar,loadCells,Sem.run_bind,Sem.run_pure,Result.andThen_ok,k,if_true,QE g,h];simp
theorem qwv {op:BinOp} {t h:TypeId} {x y:Operand} (c:op= .shl∨op= .shr) (a:jL w (.shf op) (f x) (f y)=some v):
    (execOp f ⟨dst, .binOp op t x y h,type,pos,after,guard⟩).run P w= .ok (.value v) w:=by
  cases g:f x<;>simp only [g] at a<;>first|(cases a;done)|skip
  cases e:f y<;>simp only [e] at a<;>first|(cases a;done)|skip
  simp only [jL,qcZ] at a;split at a
  · cases a
  · rename_i b;rcases c with rfl|rfl<;>(simp only [Option.some.injEq] at a;subst a;simp [execOp,g,e,qf5,binOp,Op.shift,b])
theorem qwE {op : BinOp} {k : IntKind} {t h : TypeId} {x y : Operand} (e : ¬ (op = .shl ∨ op = .shr)) (a : jL w (.ibin op k) (f x) (f y) = some v) :
    (execOp f ⟨dst, .binOp op t x y h,type,pos,after,guard⟩).run P w= .ok (.value v) w:=by
  cases c:f x<;>simp only [c] at a<;>first|(cases a;done)|skip
  cases b:f y<;>simp only [b] at a<;>first|(cases a;done)|skip
  simp only [jL] at a;split at a
  · rename_i g;subst g;cases op<;>simp only [qaI] at a<;>
      first
        |(cases a;simp [execOp,c,b,qf5,binOp,Op.intArith,Op.intBits,Op.intCmp];done)
        |(exfalso;simp at e;done)
        | (split at a
           · cases a
           · rename_i i;cases a;simp [execOp,c,b,qf5,binOp,Op.intDiv,i])
  · cases a
theorem qww {op:BinOp} {t h:TypeId} {x y:Operand} (a:jL w (.sbin op) (f x) (f y)=some v):
    (execOp f ⟨dst, .binOp op t x y h,type,pos,after,guard⟩).run P w= .ok (.value v) w:=by
  cases e:f x<;>simp only [e] at a<;>first|(cases a;done)|skip
  cases c:f y<;>simp only [c] at a<;>first|(cases a;done)|skip
  rename_i j g;simp only [jL] at a;cases op <;> simp only [kw] at a <;>
    first
      |(cases a;simp [execOp,e,c,qk5,binOp,Op.stringOp,ByteArray.toList_eq,qFt];done)
      | (split at a
         · rename_i i;cases a;have b:¬((j.size+g.size:Nat):Int)>IntKind.i64.max:=by
             simp only [maxLen] at i;simp [IntKind.max,IntKind.bits,IntKind.signed];omega
           simp only [execOp,e,c,binOp,Op.stringOp,Sem.run_bind,qk5,Result.andThen_ok];rw [if_neg b];simp
         · cases a)
      |(cases a;done)
theorem qwN {op:BinOp} {t g:TypeId} {x y:Operand} (e:P.underlying t=some .bool) (a:jL w (.bbin op) (f x) (f y)=some v):
    (execOp f ⟨dst, .binOp op t x y g,type,pos,after,guard⟩).run P w= .ok (.value v) w:=by
  cases op<;>first|(cases a;done)|skip
  all_goals
    cases c:f x<;>simp only [c] at a<;>first|(cases a;done)|skip
    cases b:f y<;>simp only [b] at a<;>first|(cases a;done)|skip
  · cases a;simp [execOp,c,b,qk6,run_eql_bool w t _ _ e]
  · cases a;simp [execOp,c,b,qk6,run_neq_bool w t _ _ e]
theorem qfY {op:UnOp} {k:K1} {t:TypeId} {x:Operand} (c:(op= .not∧k= .not)∨(op= .neg∧k= .neg)∨(op= .xor∧k= .bnot)) (a:qU w k (f x)=some v):
    (execOp f ⟨dst, .unOp op t x,type,pos,after,guard⟩).run P w= .ok (.value v) w:=by
  rcases c with ⟨rfl,rfl⟩|⟨rfl,rfl⟩|⟨rfl,rfl⟩<;>
    (cases b:f x<;>simp only [b] at a<;>first|(cases a;done)|skip)<;>
    (cases a;simp [execOp,b,Op.unary,Op.intArith,Op.intBits])
theorem qwK {k:IntKind} {s d:TypeId} {ds:TypeDesc} {x:Operand} (c:P.underlying s=some ds) (e:P.underlying d=some (.int k)) (a:qU w (.conv k) (f x)=some v):
    (execOp f ⟨dst, .convert s d x,type,pos,after,guard⟩).run P w= .ok (.value v) w:=by
  cases b:f x<;>simp only [b] at a<;>first|(cases a;done)|skip
  cases a;simp [execOp,b,convert,run_underlying c,run_underlying e,Conv.intToInt]
theorem qwn {s d:TypeId} {x:Operand} (c:P.underlying s=some .string) (e:P.underlying d=some .string) (a:qU w .strid (f x)=some v):
    (execOp f ⟨dst, .convert s d x,type,pos,after,guard⟩).run P w= .ok (.value v) w:=by
  cases b:f x<;>simp only [b] at a<;>first|(cases a;done)|skip
  cases a;simp [execOp,b,convert,run_underlying c,run_underlying e]
theorem qtR:∀(l:List Value) (a:List Int),kH l=some a→l=a.map (Value.int .u8)
  |[],a,h=>by simp only [kH,Option.some.injEq] at h;subst h;rfl
  | x :: l, a, h => by
    unfold kH at h;split at h
    · rename_i e;cases e
    · rename_i n c e;cases e;obtain ⟨m,b,rfl⟩:=Option.map_eq_some_iff.1 h;rw [qtR l m b];rfl
    · cases h
theorem qwO {s d e:TypeId} {x:Operand} (m:P.underlying s=some (.slice e)) (u:P.underlying d=some .string) (p:P.underlying e=some (.int .u8)) (z:qU w .b2s (f x)=some v):
    (execOp f ⟨dst, .convert s d x,type,pos,after,guard⟩).run P w= .ok (.value v) w:=by
  have i:(if qo (f x)=true then (jq w (qD (f x) 0) 0 (qk (f x))).bind fun l=>(kH l).map fun j=>Value.string (qaU j) else none)=some v:=z;split at i
  · rename_i t;obtain ⟨l,g,A⟩:=Option.bind_eq_some_iff.1 i;obtain ⟨j,a,rfl⟩:=Option.map_eq_some_iff.1 A;rcases zJ t with ⟨b,o,n,c,h,_⟩|h|⟨b,o,sp,h⟩
    rotate_left 2
    · rw [h] at g;simp only [qk,jq,Option.some.injEq] at g;subst g;simp only [kH,Option.some.injEq] at a;subst a;have k:=run_bytesToString (P:=P) w ⟨b,o,some sp⟩ 0 0 [] (by simp [loadCells,loadCellsFrom]);simp only [execOp,h,Sem.run_bind,run_convert_bytes_string w s d e _ 0 0 m p u,k,Result.andThen_ok];rfl
    · rw [h] at g;simp only [qD,qk,Nat.add_zero] at g;have y:=qf1 (P:=P) w _ _ 0 l #[] g;rw [qtR l j a] at y;have k:=run_bytesToString (P:=P) w ⟨b,o,none⟩ n c j (by simpa [loadCells] using y);simp only [execOp,h,Sem.run_bind,run_convert_bytes_string w s d e _ n c m p u,k,Result.andThen_ok];rfl
    · rw [h] at g;simp only [qk,jq,Option.some.injEq] at g;subst g;simp only [kH,Option.some.injEq] at a;subst a;simp only [execOp,h,Sem.run_bind,run_convert_bytes_string w s d e _ 0 0 m p u];simp [Conv.bytesToString,qaU]
  · cases i
theorem qwu {t e : TypeId} {i : TypeInfo} {x : Operand} {lo : Option Operand} (h : P.underlying t = some (.slice e)) (m : P.info? e = some i) (s : ∀ v, f (.const v) = v)
    (a:jL w (.slLo i.size) (f x) (f (lo.getD vZ))=some v):
    (execOp f ⟨dst, .slice t x lo none none,type,pos,after,guard⟩).run P w= .ok (.value v) w:=by
  cases b:f (lo.getD vZ)<;>simp only [b] at a<;>first|(cases a;done)|skip
  rename_i k l;simp only [jL] at a;split at a
  · rename_i o;obtain ⟨g,u,c⟩:=o;cases a;have p:(Instr.sliceBounds true (qk (f x)) (qv (f x)) (lo.map f) none none).run P w= .ok (l.toNat,qk (f x),qv (f x)) w:=by
      cases lo with
      |none=>
        have:l=0:=by have:=s (.int .i64 0);simp only [Option.getD_none,vZ,this,Value.int.injEq] at b;exact b.2.symm
        subst this;exact qk0 w _ _ _
      |some j=>
        simp only [Option.getD_some] at b;simp only [Option.map_some,b];exact qkY w _ _ _ _ _ u c
    have:=qf0 w h m g p;simp [execOp,this]
  · cases a
theorem qwt {t e : TypeId} {i : TypeInfo} {x c : Operand} {lo : Option Operand} (p : P.underlying t = some (.slice e)) (u : P.info? e = some i) (A : ∀ v, f (.const v) = v)
    (a:we w (.slLoHi i.size) (f x) (f (lo.getD vZ)) (f c)=some v):
    (execOp f ⟨dst, .slice t x lo (some c) none,type,pos,after,guard⟩).run P w= .ok (.value v) w:=by
  cases b:f (lo.getD vZ)<;>simp only [b] at a<;>first|(cases a;done)|skip
  cases m:f c<;>simp only [m] at a<;>first|(cases a;done)|skip
  rename_i k l k2 h;simp only [we] at a;split at a
  · rename_i y;obtain ⟨o,B,g,j⟩:=y;cases a;have z:(Instr.sliceBounds true (qk (f x)) (qv (f x)) (lo.map f) (some (.int k2 h)) none).run P w= .ok (l.toNat,h.toNat,qv (f x)) w:=by
      cases lo with
      |none=>
        have:l=0:=by have:=A (.int .i64 0);simp only [Option.getD_none,vZ,this,Value.int.injEq] at b;exact b.2.symm
        subst this;exact qkZ w _ _ _ _ _ g j
      |some s=>
        simp only [Option.getD_some] at b;simp only [Option.map_some,b];exact qk1 w _ _ _ _ _ _ _ B g j
    have:=qf0 w p u o z;simp [execOp,m,this]
  · cases a
theorem qws {t e : TypeId} {i : TypeInfo} {x g c : Operand} {lo : Option Operand} (z : P.underlying t = some (.slice e)) (B : P.info? e = some i) (F : ∀ v, f (.const v) = v)
    (a:pv4 w (.slMax i.size) (f x) (f (lo.getD vZ)) (f g) (f c)=some v):
    (execOp f ⟨dst, .slice t x lo (some g) (some c),type,pos,after,guard⟩).run P w= .ok (.value v) w:=by
  cases b:f (lo.getD vZ)<;>simp only [b] at a<;>first|(cases a;done)|skip
  cases u:f g<;>simp only [u] at a<;>first|(cases a;done)|skip
  cases s:f c<;>simp only [s] at a<;>first|(cases a;done)|skip
  rename_i k l k2 h k3 m;simp only [pv4] at a;split at a
  · rename_i C;obtain ⟨y,H,j,o,p⟩:=C;cases a;have E:(Instr.sliceBounds true (qk (f x)) (qv (f x)) (lo.map f) (some (.int k2 h)) (some (.int k3 m))).run P w= .ok (l.toNat,h.toNat,m.toNat) w:=by
      cases lo with
      |none=>
        have:l=0:=by have:=F (.int .i64 0);simp only [Option.getD_none,vZ,this,Value.int.injEq] at b;exact b.2.symm
        subst this;exact qwq w _ _ _ _ _ _ _ j o p
      |some A=>
        simp only [Option.getD_some] at b;simp only [Option.map_some,b];exact qwr w _ _ _ _ _ _ _ _ _ H j o p
    have:=qf0 w z B y E;simp [execOp,u,s,this]
  · cases a
theorem qwp {t : TypeId} {x : Operand} {lo : Option Operand} (g : P.underlying t = some .string) (m : ∀ v, f (.const v) = v)
    (a:jL w .stLo (f x) (f (lo.getD vZ))=some v):
    (execOp f ⟨dst, .slice t x lo none none,type,pos,after,guard⟩).run P w= .ok (.value v) w:=by
  cases c:f x<;>simp only [c] at a<;>first|(cases a;done)|skip
  cases b:f (lo.getD vZ)<;>simp only [b] at a<;>first|(cases a;done)|skip
  rename_i s k l;simp only [jL] at a;split at a
  · rename_i j;obtain ⟨o,e⟩:=j;cases a;have i:(Instr.sliceBounds false s.size s.size (lo.map f) none none).run P w= .ok (l.toNat,s.size,s.size) w:=by
      cases lo with
      |none=>
        have:l=0:=by have:=m (.int .i64 0);simp only [Option.getD_none,vZ,this,Value.int.injEq] at b;exact b.2.symm
        subst this;exact qk0 w _ _ _
      |some h=>
        simp only [Option.getD_some] at b;simp only [Option.map_some,b];exact qkY w _ _ _ _ _ o e
    have:=qkX w g s i;simp [execOp,c,this]
  · cases a
theorem qwo {t : TypeId} {x c : Operand} {lo : Option Operand} (m : P.underlying t = some .string) (y : ∀ v, f (.const v) = v)
    (a:we w .stLoHi (f x) (f (lo.getD vZ)) (f c)=some v):
    (execOp f ⟨dst, .slice t x lo (some c) none,type,pos,after,guard⟩).run P w= .ok (.value v) w:=by
  cases j:f x<;>simp only [j] at a<;>first|(cases a;done)|skip
  cases b:f (lo.getD vZ)<;>simp only [b] at a<;>first|(cases a;done)|skip
  cases i:f c<;>simp only [i] at a<;>first|(cases a;done)|skip
  rename_i s k l k2 h;simp only [we] at a;split at a
  · rename_i u;obtain ⟨z,e,g⟩:=u;cases a;have p:(Instr.sliceBounds false s.size s.size (lo.map f) (some (.int k2 h)) none).run P w= .ok (l.toNat,h.toNat,s.size) w:=by
      cases lo with
      |none=>
        have:l=0:=by have:=y (.int .i64 0);simp only [Option.getD_none,vZ,this,Value.int.injEq] at b;exact b.2.symm
        subst this;exact qkZ w _ _ _ _ _ e g
      |some o=>
        simp only [Option.getD_some] at b;simp only [Option.map_some,b];exact qk1 w _ _ _ _ _ _ _ z e g
    have:=qkX w m s p;simp [execOp,j,i,this]
  · cases a
theorem qwH {s:TypeId} {fs:Array Field} {a:Field} {i:TypeInfo} {x:Operand} {n:Nat} (h:P.underlying s=some (.struct fs)) (j:fs[n]? =some a) (e:P.info? a.type=some i)
    (g:i.size≠0) (b:qU w (.fadr a.offset) (f x)=some v):
    (execOp f ⟨dst, .fieldAddr s x n,type,pos,after,guard⟩).run P w= .ok (.value v) w:=by
  obtain ⟨k,c⟩:=qbG b (.inr (.inr ⟨_,rfl⟩));rw [c] at b;cases b;simp [execOp,c,Instr.fieldAt,Instr.sureAddr,run_underlying h,j,fieldPlace,QE e,g]
theorem qf2 {t:TypeId} {cs:Array Value} {off:Nat} (c:xz P t=some false) (a:cs[off]? =some v):(part t cs off).run P w= .ok v w:=by
  have b:=qc4 (P:=P) c w;simp [part,b,a]
theorem qwx {t:TypeId} {i:TypeInfo} {cs:Array Value} {off:Nat} (c:xz P t=some true) (a:P.info? t=some i):(part t cs off).run P w= .ok (.agg (cs.extract off (off+i.size))) w:=by
  have b:=qc4 (P:=P) c w;simp [part,b,QE a]
theorem qwG {s:TypeId} {fs:Array Field} {a:Field} {x:Operand} {n:Nat} (e:P.underlying s=some (.struct fs)) (g:fs[n]? =some a) (h:xz P a.type=some false)
    (b:qU w (.fld a.offset) (f x)=some v):
    (execOp f ⟨dst, .field s x n,type,pos,after,guard⟩).run P w= .ok (.value v) w:=by
  cases c:f x<;>simp only [c] at b<;>first|(cases b;done)|skip
  have:=qf2 (P:=P) (w:=w) h (show _=some v from b);simp [execOp,c,Instr.field,run_underlying e,g,asAgg,this]
theorem qwF {s:TypeId} {fs:Array Field} {a:Field} {i:TypeInfo} {x:Operand} {n:Nat} (g:P.underlying s=some (.struct fs)) (h:fs[n]? =some a) (j:xz P a.type=some true)
    (e:P.info? a.type=some i) (b:qU w (.fldN a.offset i.size) (f x)=some v):
    (execOp f ⟨dst, .field s x n,type,pos,after,guard⟩).run P w= .ok (.value v) w:=by
  cases c:f x<;>simp only [c] at b<;>first|(cases b;done)|skip
  rename_i cs;cases b;have:=qwx (P:=P) (w:=w) (cs:=cs) (off:=a.offset) j e;simp [execOp,c,Instr.field,run_underlying g,h,asAgg,this]
theorem qwD {t e:TypeId} {i:TypeInfo} {x y:Operand} (l:P.underlying t=some (.slice e)) (p:P.info? e=some i) (h:jL w (.ixa i.size) (f x) (f y)=some v):
    (execOp f ⟨dst, .indexAddr t x y,type,pos,after,guard⟩).run P w= .ok (.value v) w:=by
  cases j:f y<;>simp only [j] at h<;>first|(cases h;done)|skip
  simp only [jL] at h;split at h
  · rename_i s;obtain ⟨k,u,a⟩:=s;cases h;rcases zJ k with ⟨b,o,n,c,g,_⟩|g|⟨b,o,sp,g⟩
    rotate_left 2
    · rw [g] at a;simp only [qk] at a;omega
    · rw [g] at a;simp only [qk] at a;simp only [execOp,g,j,Instr.indexAt,Sem.run_bind,run_underlying l,Result.andThen_ok,asIntOf,Sem.run_pure,u,a,and_self,if_true,QE p];simp only [qD,Addr.add];split
      · rename_i m;simp [m]
      · rfl
    · rw [g] at a;simp only [qk] at a;omega
  · cases h
theorem qwC {t:TypeId} {x y:Operand} (i:P.underlying t=some .string) (a:jL w .ixs (f x) (f y)=some v):
    (execOp f ⟨dst, .index t x y,type,pos,after,guard⟩).run P w= .ok (.value v) w:=by
  cases e:f x<;>simp only [e] at a<;>first|(cases a;done)|skip
  cases c:f y<;>simp only [c] at a<;>first|(cases a;done)|skip
  simp only [jL] at a;split at a
  · rename_i h;obtain ⟨b,g,rfl⟩:=Option.map_eq_some_iff.1 a;simp [execOp,e,c,Instr.index,run_underlying i,asIntOf,h,g]
  · cases a
theorem qwI {x:Operand} {n:Nat} (b:qU w (.ext n) (f x)=some v):
    (execOp f ⟨dst, .extract x n,type,pos,after,guard⟩).run P w= .ok (.value v) w:=by
  cases c:f x<;>simp only [c] at b<;>first|(cases b;done)|skip
  rename_i vs;have a:vs[n]? =some v:=b;simp [execOp,c,Instr.extract,a]
theorem qwz {t:TypeId} {d:TypeDesc} {x:Operand} (a:P.underlying t=some d) (b:∀e,d≠ .interface e) (c:qU w (.mkif t) (f x)=some v):
    (execOp f ⟨dst, .makeInterface t x,type,pos,after,guard⟩).run P w= .ok (.value v) w:=by
  cases c;simp only [execOp,Instr.makeInterface,Sem.run_bind,run_underlying a,Result.andThen_ok];cases d<;>first|rfl|exact absurd rfl (b _)
theorem qwy {x:Operand} (a:qU w .nilc (f x)=some v):
    (execOp f ⟨dst, .nilCheck x,type,pos,after,guard⟩).run P w= .ok (.value v) w:=by
  cases b:f x with
  |pointer p=>
    rw [b] at a;cases p with
    |none=>cases a
    |some c=>cases a;simp [execOp,b]
  |iface t u=>rw [b] at a;cases a;simp [execOp,b]
  |_=>rw [b] at a;cases a
theorem qk2 {x:Operand} {op:Op} (a:op= .move x∨op= .assign x) (b:qU w .same (f x)=some v):
    (execOp f ⟨dst,op,type,pos,after,guard⟩).run P w= .ok (.value v) w:=by
  cases b;rcases a with rfl|rfl<;>simp [execOp]
theorem qwB {x:Operand} {t e:TypeId} (h:P.underlying t=some (.slice e)) (j:qU w .lenS (f x)=some v):
    (execOp f ⟨dst, .call {callee:= .builtin .len,args:= #[x],argTypes:= #[t]},type,pos,after,guard⟩).run P w= .ok (.value v) w:=by
  have a:(if qo (f x)=true then some (Value.int .i64 (qk (f x))) else none)=some v:=j;split at a
  · rename_i i;cases a;rcases zJ i with ⟨b,o,n,c,g,_⟩|g|⟨b,o,s,g⟩<;>
      simp [execOp,g,resolve,invoke,builtin,Builtin.len_,run_underlying h,goInt,qk]
  · cases a
theorem qwL {x:Operand} {t e:TypeId} (h:P.underlying t=some (.slice e)) (j:qU w .capS (f x)=some v):
    (execOp f ⟨dst, .call {callee:= .builtin .cap,args:= #[x],argTypes:= #[t]},type,pos,after,guard⟩).run P w= .ok (.value v) w:=by
  have a:(if qo (f x)=true then some (Value.int .i64 (qv (f x))) else none)=some v:=j;split at a
  · rename_i i;cases a;rcases zJ i with ⟨b,o,n,c,g,_⟩|g|⟨b,o,s,g⟩<;>
      simp [execOp,g,resolve,invoke,builtin,Builtin.cap_,run_underlying h,goInt,qv]
  · cases a
theorem qwA {x:Operand} {t:TypeId} (c:P.underlying t=some .string) (a:qU w .lenT (f x)=some v):
    (execOp f ⟨dst, .call {callee:= .builtin .len,args:= #[x],argTypes:= #[t]},type,pos,after,guard⟩).run P w= .ok (.value v) w:=by
  cases b:f x<;>simp only [b] at a<;>first|(cases a;done)|skip
  cases a;simp [execOp,b,resolve,invoke,builtin,Builtin.len_,run_underlying c,goInt]
end
theorem qu4 {P : Program} {o : Oper} {p : PO} (h : qcN P o.op = some p) {f : Operand → Value} (b : ∀ v, f (.const v) = v) {w : World} {v : Value} (a : p.val w f = some v) :
    (execOp f o).run P w= .ok (.value v) w:=by
  obtain ⟨dst,op,type,pos,after,guard⟩:=o;unfold qcN at h;dsimp only at h;split at h
  · cases h;exact qk2 (.inl rfl) a
  · cases h;exact qk2 (.inr rfl) a
  · split at h
    · cases h;exact qf3 ‹_› ‹_› a
    · cases h;exact qk3 ‹_› a
    · cases h
  · split at h
    · split at h
      · cases h;exact qwv ‹_› a
      · cases h;exact qwE ‹_› a
    · cases h;exact qww a
    · cases h;exact qwN ‹_› a
    · cases h
  · cases h;exact qfY (.inl ⟨rfl,rfl⟩) a
  · cases h;exact qfY (.inr (.inl ⟨rfl,rfl⟩)) a
  · cases h;exact qfY (.inr (.inr ⟨rfl,rfl⟩)) a
  · split at h
    · cases h;exact qwK ‹_› ‹_› a
    · cases h;exact qwn ‹_› ‹_› a
    · split at h
      · cases h;exact qwO ‹_› ‹_› ‹_› a
      · cases h
    · cases h
  · split at h
    · split at h
      · cases h;exact qwu ‹_› ‹_› b a
      · cases h;exact qwt ‹_› ‹_› b a
      · cases h;exact qws ‹_› ‹_› b a
      · cases h
    · split at h
      · cases h;exact qwp ‹_› b a
      · cases h;exact qwo ‹_› b a
      · cases h
    · cases h
  · split at h
    · split at h
      · split at h
        · split at h
          · cases h
          · cases h;exact qwH ‹_› ‹_› ‹_› ‹_› a
        · cases h
      · cases h
    · cases h
  · split at h
    · split at h
      · split at h
        · cases h;exact qwF ‹_› ‹_› ‹_› ‹_› a
        · cases h;exact qwG ‹_› ‹_› ‹_› a
        · cases h
      · cases h
    · cases h
  · split at h
    · split at h
      · cases h;exact qwD ‹_› ‹_› a
      · cases h
    · cases h
  · split at h
    · cases h;exact qwC ‹_› a
    · cases h
  · cases h;exact qwI a
  · split at h
    · cases h
    · rename_i d g j;cases h;exact qwz j (fun i e=>by subst e;exact g i rfl) a
    · cases h
  · cases h;exact qwy a
  · rename_i c;obtain ⟨callee,⟨args⟩,⟨argTypes⟩⟩:=c;simp only at h;unfold qj1 at h;split at h
    · split at h
      · cases h;exact qwA ‹_› a
      · cases h;exact qwB ‹_› a
      · cases h
    · split at h
      · cases h;exact qwL ‹_› a
      · cases h
    · cases h
  · cases h
end Go.Eng
namespace Go.Eng
open Go.RowKit
inductive Ex where
  |var (i:Nat)
  |const (v:Value)
  |op1 (k:K1) (x:Ex)
  |op2 (k:K2) (x y:Ex)
  |op3 (k:K3) (x y z:Ex)
  |op4 (k:K4) (x y z u:Ex)
  |ite (c x y:Ex)
def QP (c:Value) (x y:Option Value):Option Value:=
  match c with
  | .bool true=>x
  | .bool false=>y
  |_=>none
def Ex.ev (ρ:qa) (w:World):Ex→Option Value
  | .var i=>some (ρ i)
  | .const v=>some v
  | .op1 k x=>(x.ev ρ w).bind (qU w k)
  | .op2 k x y=>(x.ev ρ w).bind fun a=>(y.ev ρ w).bind fun b=>jL w k a b
  | .op3 k x y z=>(x.ev ρ w).bind fun a=>(y.ev ρ w).bind fun b=>(z.ev ρ w).bind fun c=>we w k a b c
  | .op4 k x y z u=>(x.ev ρ w).bind fun a=>(y.ev ρ w).bind fun b=>(z.ev ρ w).bind fun c=>(u.ev ρ w).bind fun d=>pv4 w k a b c d
  | .ite c x y=>(c.ev ρ w).bind fun a=>QP a (x.ev ρ w) (y.ev ρ w)
def Jg:Operand→Value
  | .const v=>v
  | .global g=> .pointer (some ⟨g,0,none⟩)
  | .func f=> .func (.func f) #[] #[]
  | .tmp _=>undef
def xx:Operand→Ex
  | .tmp t=> .var t
  |x=> .const (Jg x)
def vf (ops:Array Oper) (i:Nat):Option Nat:=(ops[i]?).bind (·.dst)
def vu (V:List Nat):Operand→Bool
  | .tmp t=> !V.contains t
  |_=>false
def PO.opds:PO→List Operand
  | .k1 _ x=>[x]
  | .k2 _ x y=>[x,y]
  | .k3 _ x y z=>[x,y,z]
  | .k4 _ x y z u=>[x,y,z,u]
def PO.mk:PO→List Ex→Option Ex
  | .k1 .same _,[a]=>some a
  | .k1 k _,[a]=>some (.op1 k a)
  | .k2 k _ _,[a,b]=>some (.op2 k a b)
  | .k3 k _ _ _,[a,b,c]=>some (.op3 k a b c)
  | .k4 k _ _ _ _,[a,b,c,d]=>some (.op4 k a b c d)
  |_,_=>none
def vV (g:Option (Nat×Bool)) (j:Nat):Bool:=match g with|none=>true|some (i,_)=>decide (i<j)
def qbK (V:List Nat):Op→Option (Operand×Operand×Value×Bool)
  | .pick c (.const va) b=>if vu V b then some (c,b,va,false) else none
  | .pick c a (.const vb)=>if vu V a then some (c,a,vb,true) else none
  |_=>none
section
variable (P:Program) (ops:Array Oper) (V:List Nat)
def QM (rec : Nat → Option (Ex × Nat)) (g : Option (Nat × Bool)) (x : Operand) (pos : Nat) : Option (Ex × Nat) :=
  if vu V x then
    match x,pos with
    | .tmp t,p+1=>if vf ops p=some t∧(ops[p]?).map (·.guard)=some g then rec p else none
    |_,_=>none
  else some (xx x,pos)
def yQ (rec:Nat→Option (Ex×Nat)) (g:Option (Nat×Bool)):List Operand→Nat→Option (List Ex×Nat)
  |[],pos=>some ([],pos)
  |x::xs,pos=>(yQ rec g xs pos).bind fun (es,j)=>(QM ops V rec g x j).bind fun (e,j')=>some (e::es,j')
def qbF (rec : Nat → Option (Ex × Nat)) (o : Oper) (k : Nat) : Option (Ex × Nat) :=
  match qbK V o.op with
  | some (c, y, cv, want) =>
    match k,c,y with
    | p + 1, .tmp tc, .tmp ty =>
      match (ops[p]?).bind (·.guard) with
      |some (i,want')=>
        if want'=want∧vf ops p=some ty∧vf ops i=some tc∧(o.guard=none∨vu V c=true) then
          (rec p).bind fun (ey,jy)=>(QM ops V rec o.guard c jy).bind fun (ec,jc)=>some (if want then .ite ec ey (.const cv) else .ite ec (.const cv) ey,jc)
        else none
      |none=>none
    |_,_,_=>none
  |none=>
    match o.op with
    | .pick c a b=>if vu V a||vu V b then none else (QM ops V rec o.guard c k).bind fun (ec,jc)=>some (.ite ec (xx a) (xx b),jc)
    |op=>(qcN P op).bind fun p=>(yQ ops V rec o.guard p.opds k).bind fun (es,j)=>(p.mk es).map fun e=>(e,j)
def px:Nat→Nat→Option (Ex×Nat)
  |0,_=>none
  |fuel+1,k=>(ops[k]?).bind fun o=>(qbF P ops V (px fuel) o k).bind fun (e,j)=>if vV o.guard j then some (e,j) else none
end
def PV (P:Program) (w:World) (o:Oper) (a:Act) (v:Value):Prop:=∀w',qb w w'→(execOp a.eval o).run P w'= .ok (.value v) w'
def PS (P : Program) (w : World) (ops : Array Oper) : List Nat → Act → (Act → Prop) → Prop
  |[],a,K=>K a
  |i::is,a,K=>match ops[i]? with
    |none=>PS P w ops is a K
    |some o=>if Region.wanted o (yielded ops a.tmps) then∃v,PV P w o a v∧PS P w ops is (a.put o.dst v) K else PS P w ops is (a.put o.dst undef) K
theorem kK {P : Program} {w : World} {ops : Array Oper} : ∀ (l m : List Nat) (a : Act) (K : Act → Prop), PS P w ops l a (fun c => PS P w ops m c K) → PS P w ops (l ++ m) a K
  |[],_,_,_,h=>h
  | i :: l, m, a, K, h => by
    simp only [List.cons_append,PS] at h⊢;split
    · rename_i e;simp only [e] at h;exact kK l m a K h
    · rename_i o e;simp only [e] at h;split
      · rename_i b;simp only [b,if_true] at h;obtain ⟨v,j,g⟩:=h;exact ⟨v,j,kK l m _ K g⟩
      · rename_i b;simp only [b] at h;exact kK l m _ K (by simpa using h)
def gS:Nat:=1000000000
def Qe:Deferred→Value
  |⟨.collected r,_⟩=> .int .i64 r
  |⟨.fn f caps,args⟩=> .func f args caps
  |_=> .bool false
def qaO (l:List Deferred):Value:= .tuple (l.map Qe).toArray
def xS (d:Deferred):Value→Value
  | .tuple vs=> .tuple (Qe d::vs.toList).toArray
  |v=>v
theorem qFA (d:Deferred) (l:List Deferred):xS d (qaO l)=qaO (d::l):=by simp [xS,qaO]
def ko (V:List Nat) (a:Act):qa:=fun i=>if i=gS then qaO a.defers else if i∈V then a.tmps.getD i undef else undef
structure Agree (n:Nat) (V:List Nat) (ρ:qa) (a:Act):Prop where
  size:a.tmps.size=n
  env:ρ=ko V a
  lt:∀i∈V,i<n
  big:n≤gS
theorem Agree.ne {n:Nat} {V:List Nat} {ρ:qa} {a:Act} (h:Agree n V ρ a) {i:Nat} (b:i∈V):i≠gS:=by
  have c:=h.lt i b;have e:=h.big;omega
theorem Agree.at {n:Nat} {V:List Nat} {ρ:qa} {a:Act} (h:Agree n V ρ a) {i:Nat} (b:i∈V):ρ i=a.tmps.getD i undef:=by
  rw [h.env];simp only [ko];rw [if_neg (h.ne b),if_pos b]
theorem Agree.ds {n:Nat} {V:List Nat} {ρ:qa} {a:Act} (h:Agree n V ρ a):ρ gS=qaO a.defers:=by
  rw [h.env];simp [ko]
structure Fr (ops:Array Oper) (j k:Nat) (a a':Act):Prop where
  size:a'.tmps.size=a.tmps.size
  defers:a'.defers=a.defers
  keep:∀t,(∀i,j≤i→i<k→vf ops i≠some t)→a'.tmps[t]? =a.tmps[t]?
theorem Fr.refl (ops:Array Oper) (j k:Nat) (a:Act):Fr ops j k a a:=⟨rfl,rfl,fun _ _=>rfl⟩
theorem Fr.trans {ops:Array Oper} {i j k:Nat} {a b c:Act} (h:Fr ops i j a b) (g:Fr ops j k b c) (o:i≤j) (p:j≤k):Fr ops i k a c:=
  ⟨g.size.trans h.size,g.defers.trans h.defers,fun t m=>(g.keep t fun x l e=>m x (by omega) e).trans (h.keep t fun x l e=>m x l (by omega))⟩
theorem Fr.put {ops:Array Oper} {k:Nat} {o:Oper} (c:ops[k]? =some o) (a:Act) (v:Value):Fr ops k (k+1) a (a.put o.dst v):=by
  have i:vf ops k=o.dst:=by simp [vf,c]
  cases h:o.dst with
  |none=>exact Fr.refl _ _ _ _
  |some d=>
    refine ⟨by simp [Act.put],rfl,fun t g=> ?_⟩;have b:d≠t:=fun e=>g k (Nat.le_refl _) (by omega) (by rw [i,h,e]);simp [Act.put,b]
structure Region1 (n:Nat) (ops:Array Oper):Prop where
  once:∀i i' t,vf ops i=some t→vf ops i'=some t→i=i'
  lt:∀i t,vf ops i=some t→t<n
def qa0 (ops:Array Oper) (V:List Nat) (j k:Nat):Prop:=∀i,j≤i→i<k→∀t,vf ops i=some t→t∉V
theorem Agree.fr {n:Nat} {V:List Nat} {ρ:qa} {a l:Act} {ops:Array Oper} {j k:Nat} (h:Agree n V ρ a) (c:Fr ops j k a l) (b:qa0 ops V j k):Agree n V ρ l:=by
  refine ⟨c.size.trans h.size, ?_,h.lt,h.big⟩;rw [h.env];funext i;simp only [ko,c.defers];split
  · rfl
  · split
    · rename_i m;have:=c.keep i fun x o g e=>b x o g i e m;simp only [Array.getD_eq_getD_getElem?,this]
    · rfl
def jX (ops:Array Oper) (g:Option (Nat×Bool)) (a:Act):Bool:=match g with|none=>true|some (i,want)=>yielded ops a.tmps i==some want
theorem yx (ops:Array Oper) (o:Oper) (a:Act):Region.wanted o (yielded ops a.tmps)=jX ops o.guard a:=rfl
theorem quy {n:Nat} {ops:Array Oper} (h:Region1 n ops) {j k i:Nat} {a c:Act} (m:Fr ops j k a c) (o:i<j):yielded ops c.tmps i=yielded ops a.tmps i:=by
  simp only [yielded];cases b:vf ops i with
  |none=>simp only [vf] at b;simp [b]
  |some t=>
    have g:=m.keep t fun x p l e=>by have:=h.once _ _ _ b e;omega
    simp only [vf] at b;simp [b,g]
theorem wM {n:Nat} {ops:Array Oper} (l:Region1 n ops) {j k:Nat} {a c:Act} {g:Option (Nat×Bool)} (h:Fr ops j k a c) (b:vV g j=true):jX ops g c=jX ops g a:=by
  cases g with
  |none=>rfl
  |some p=>
    obtain ⟨i,e⟩:=p;simp only [vV,decide_eq_true_eq] at b;simp only [jX,quy l h b]
def qjB (ops:Array Oper) (V:List Nat) (x:Operand) (pos:Nat):Prop:=∀t,x= .tmp t→t∈V∨∃i,i<pos∧vf ops i=some t
theorem qiQ {n:Nat} {ops:Array Oper} {V:List Nat} (s:Region1 n ops) {x:Operand} {pos j k:Nat} {a l:Act} (m:qjB ops V x pos) (y:Fr ops j k a l) (z:pos≤j) (b:qa0 ops V j k):
    l.eval x=a.eval x:=by
  cases x with
  |tmp t=>
    have:l.tmps[t]? =a.tmps[t]? :=y.keep t fun i u c e=>by
      rcases m t rfl with h|⟨A,p,o⟩
      · exact b i u c t e h
      · have:=s.once _ _ _ e o;omega
    simp only [Act.eval,Array.getD_eq_getD_getElem?,this]
  |const v=>rfl
  |global g=>rfl
  |func f=>rfl
section
variable (P:Program) (ops:Array Oper) (V:List Nat) (n:Nat)
structure SemX (k:Nat) (e:Ex) (j:Nat):Prop where
  le:j≤k
  free:qa0 ops V j k
  lt:∀o,ops[k]? =some o→vV o.guard j=true
  yes:∀o,ops[k]? =some o→∀(ρ:qa) (w:World) (a:Act) (v:Value),Agree n V ρ a→jX ops o.guard a=true→e.ev ρ w=some v→∀K:Act→Prop,
    (∀a',Fr ops j (k+1) a a'→(∀d,o.dst=some d→a'.tmps[d]? =some v)→K a')→PS P w ops (List.range' j (k+1 - j)) a K
  no:∀o,ops[k]? =some o→∀(w:World) (a:Act),a.tmps.size=n→jX ops o.guard a=false→∀K:Act→Prop,
    (∀a',Fr ops j (k+1) a a'→(∀d,o.dst=some d→a'.tmps[d]? =some undef)→K a')→PS P w ops (List.range' j (k+1 - j)) a K
structure SemL (g:Option (Nat×Bool)) (xs:List Operand) (pos:Nat) (es:List Ex) (j:Nat):Prop where
  le:j≤pos
  free:qa0 ops V j pos
  safe:∀x∈xs,qjB ops V x pos
  yes:vV g j=true→∀(ρ:qa) (w:World) (a:Act) (vs:List Value),Agree n V ρ a→jX ops g a=true→es.map (·.ev ρ w)=vs.map some→∀K:Act→Prop,
    (∀a',Fr ops j pos a a'→xs.map a'.eval=vs→K a')→PS P w ops (List.range' j (pos - j)) a K
  no:vV g j=true→∀(w:World) (a:Act),a.tmps.size=n→jX ops g a=false→∀K:Act→Prop,
    (∀a',Fr ops j pos a a'→(∀x∈xs,vu V x=true→a'.eval x=undef)→K a')→PS P w ops (List.range' j (pos - j)) a K
end
theorem qmx {x:Option Value} {vs:List Value} (h:[x]=vs.map some):∃v,vs=[v]∧x=some v:=by
  cases vs with
  |nil=>cases h
  |cons v vs=>cases vs with
    |nil=>exact ⟨v,rfl,by simpa using h⟩
    |cons u a=>simp at h
theorem qdI {n:Nat} {V:List Nat} {ρ:qa} {a:Act} {w:World} {x:Operand} {v:Value} (h:Agree n V ρ a) (e:vu V x=false) (b:(xx x).ev ρ w=some v):a.eval x=v:=by
  cases x with
  |tmp t=>
    simp only [xx,Ex.ev,Option.some.injEq] at b;have c:t∈V:=by simpa [vu] using e
    rw [←b,h.at c];simp [Act.eval]
  |const u=>simpa [xx,Ex.ev,Jg,Act.eval] using b
  |global g=>simpa [xx,Ex.ev,Jg,Act.eval] using b
  |func f=>simpa [xx,Ex.ev,Jg,Act.eval] using b
theorem qzY {ops:Array Oper} {V:List Nat} {x:Operand} (a:vu V x=false) (pos:Nat):qjB ops V x pos:=fun t e=>by
  subst e;exact .inl (by simpa [vu] using a)
section
variable {P:Program} {ops:Array Oper} {V:List Nat} {n:Nat} {rec:Nat→Option (Ex×Nat)}
theorem qgq (_hr : Region1 n ops) (J : ∀ k e j, rec k = some (e, j) → SemX P ops V n k e j) {g : Option (Nat × Bool)} {x : Operand} {pos : Nat} {e : Ex} {j : Nat}
    (h:QM ops V rec g x pos=some (e,j)):SemL P ops V n g [x] pos [e] j:=by
  unfold QM at h;split at h
  · rename_i B;split at h
    · rename_i t p;split at h
      · rename_i hc;obtain ⟨Z,W⟩:=hc;have O:=J _ _ _ h;obtain ⟨o,E,L⟩:∃o,ops[p]? =some o∧o.guard=g:=by
          cases E:ops[p]? with
          |none=>simp [E] at W
          |some o=>simp only [E,Option.map_some,Option.some.injEq] at W;exact ⟨o,rfl,W⟩
        have H:o.dst=some t:=by simpa [vf,E] using Z
        have U:t∉V:=by simpa [vu] using B
        refine ⟨by have:=O.le;omega,fun i hi Q u I=> ?_,fun y C u I=> ?_,fun _ ρ w a vs Y l s K z=> ?_,fun _ w a F l K z=> ?_⟩
        · by_cases X:i=p
          · subst X;rw [Z] at I;cases I;exact U
          · exact O.free i hi (by omega) u I
        · have b:y= .tmp t:=by simpa using C
          subst b;cases I;exact .inr ⟨p,by omega,Z⟩
        · obtain ⟨v,rfl,c⟩:=qmx s;refine O.yes o E ρ w a v Y (by rw [L];exact l) c K fun R A hv=>z R A ?_;have:=hv t H;simp [Act.eval,Array.getD_eq_getD_getElem?,this]
        · refine O.no o E w a F (by rw [L];exact l) K fun R A hv=>z R A fun y C _=> ?_;have b:y= .tmp t:=by simpa using C
          subst b;simp [Act.eval,Array.getD_eq_getD_getElem?,hv t H]
      · cases h
    · cases h
  · rename_i B;have m:vu V x=false:=by simpa using B
    simp only [Option.some.injEq,Prod.mk.injEq] at h;obtain ⟨rfl,rfl⟩:=h;refine ⟨Nat.le_refl _,fun i hi Q=>by omega,fun y C=> ?_,fun _ ρ w a vs Y l s K z=> ?_,fun _ w a F l K z=> ?_⟩
    · have b:y=x:=by simpa using C
      subst b;exact qzY m _
    · obtain ⟨v,rfl,c⟩:=qmx s;simp only [Nat.sub_self,List.range',PS];exact z a (Fr.refl _ _ _ _) (by simp [qdI Y m c])
    · simp only [Nat.sub_self,List.range',PS];refine z a (Fr.refl _ _ _ _) fun y C S=> ?_;have b:y=x:=by simpa using C
      subst b;simp [m] at S
theorem QL {i j k:Nat} (a:i≤j) (b:j≤k):List.range' i (k - i)=List.range' i (j - i)++List.range' j (k - j):=by
  have h:= @List.range'_append_1 i (j - i) (k - j);rw [show i+(j - i)=j by omega,show (j - i)+(k - j)=k - i by omega] at h;exact h.symm
theorem qly (I : Region1 n ops) (A : ∀ k e j, rec k = some (e, j) → SemX P ops V n k e j) {g : Option (Nat × Bool)} : ∀ {xs : List Operand} {pos : Nat} {es : List Ex} {j : Nat},
    yQ ops V rec g xs pos=some (es,j)→SemL P ops V n g xs pos es j
  |[],pos,es,j,h=>by
    simp only [yQ,Option.some.injEq,Prod.mk.injEq] at h;obtain ⟨rfl,rfl⟩:=h;refine ⟨Nat.le_refl _,fun i Y L=>by omega,fun y u=>(by cases u),fun _ ρ w a vs Z b m K E=> ?_,fun _ w a C b K E=> ?_⟩
    · simp only [Nat.sub_self,List.range',PS]
      match vs,m with
      |[],_=>exact E a (Fr.refl _ _ _ _) rfl
    · simp only [Nat.sub_self,List.range',PS];exact E a (Fr.refl _ _ _ _) fun y u=>by cases u
  | x :: xs, pos, es, j, h => by
    simp only [yQ,Option.bind_eq_some_iff,Prod.exists,Option.some.injEq,Prod.mk.injEq] at h;obtain ⟨es',W,h1,e,j2,h2,rfl,rfl⟩:=h;have F:=qly I A h1;have B:=qgq I A h2;have l1:=F.le;have R:=B.le;refine ⟨by omega,fun i Y L=> ?_,fun y u=> ?_,fun l ρ w a vs Z b m K E=> ?_,fun l w a C b K E=> ?_⟩
    · by_cases X:i<W
      · exact B.free i Y X
      · exact F.free i (by omega) L
    · rcases List.mem_cons.1 u with rfl|u
      · intro t ht;rcases B.safe _ (List.mem_singleton.2 rfl) t ht with hh|⟨i,Y,hd⟩
        · exact .inl hh
        · exact .inr ⟨i,by omega,hd⟩
      · exact F.safe y u
    · match vs,m with
      | v :: vs, m =>
        simp only [List.map_cons,List.cons.injEq] at m;obtain ⟨Q,J⟩:=m;have o:vV g W=true:=by
          cases g with
          |none=>rfl
          |some p=>simp only [vV,decide_eq_true_eq] at l⊢;omega
        rw [QL R l1];refine kK _ _ _ _ (B.yes l ρ w a [v] Z b (by simpa using Q) _ fun S c z=> ?_);refine F.yes o ρ w S vs (Z.fr c B.free) (by rw [wM I c l];exact b) J _ fun U s H=> ?_;refine E U (c.trans s R l1) ?_;have h0:U.eval x=S.eval x:=qiQ I (B.safe x (List.mem_singleton.2 rfl)) s (Nat.le_refl _) F.free;simp only [List.map_cons,List.cons.injEq,List.map_nil,and_true] at z;simp only [List.map_cons,h0,z,H]
    · have o:vV g W=true:=by
       cases g with
       |none=>rfl
       |some p=>simp only [vV,decide_eq_true_eq] at l⊢;omega
      rw [QL R l1];refine kK _ _ _ _ (B.no l w a C b _ fun S c z=> ?_);refine F.no o w S (c.size.trans C) (by rw [wM I c l];exact b) _ fun U s H=> ?_;refine E U (c.trans s R l1) fun y u O=> ?_;rcases List.mem_cons.1 u with rfl|u
      · rw [qiQ I (B.safe y (List.mem_singleton.2 rfl)) s (Nat.le_refl _) F.free];exact z y (List.mem_singleton.2 rfl) O
      · exact H y u O
theorem qjD {w:World} {a:Act} {k:Nat} {o:Oper} (c:ops[k]? =some o) (b:jX ops o.guard a=true) {v:Value} (e:PV P w o a v) {K:Act→Prop} (h:K (a.put o.dst v)):PS P w ops [k] a K:=by
  simp only [PS,c,yx,b,if_true];exact ⟨v,e,h⟩
theorem qjC {w:World} {a:Act} {k:Nat} {o:Oper} (c:ops[k]? =some o) (b:jX ops o.guard a=false) {K:Act→Prop} (h:K (a.put o.dst undef)):PS P w ops [k] a K:=by
  simp only [PS,c,yx,b];exact h
theorem QN {a:Act} {o:Oper} {v:Value} (b:∀d,o.dst=some d→d<a.tmps.size):∀d,o.dst=some d→(a.put o.dst v).tmps[d]? =some v:=by
  intro d c;simp [Act.put,c,b d c]
theorem Qh (e:Region1 n ops) {k:Nat} {o:Oper} (c:ops[k]? =some o) {a:Act} (b:a.tmps.size=n):∀d,o.dst=some d→d<a.tmps.size:=by
  intro d g;rw [b];exact e.lt k d (by simp [vf,c,g])
theorem qzF {p:PO} {es:List Ex} {e:Ex} (h:p.mk es=some e) {ρ:qa} {w:World} {v:Value} (i:e.ev ρ w=some v):
    ∃vs,es.map (·.ev ρ w)=vs.map some∧∀f:Operand→Value,p.opds.map f=vs→p.val w f=some v:=by
  unfold PO.mk at h;split at h
  · cases h;exact ⟨[v],by simp [i],fun f g=>by simp only [PO.opds,List.map_cons,List.map_nil,List.cons.injEq,and_true] at g;simp [PO.val,qU,g]⟩
  · cases h;simp only [Ex.ev,Option.bind_eq_some_iff] at i;obtain ⟨a,j,i⟩:=i;exact ⟨[a],by simp [j],fun f g=>by simp only [PO.opds,List.map_cons,List.map_nil,List.cons.injEq,and_true] at g;simp [PO.val,g,i]⟩
  · cases h;simp only [Ex.ev,Option.bind_eq_some_iff] at i;obtain ⟨a,j,b,k,i⟩:=i;exact ⟨[a,b],by simp [j,k],fun f g=>by simp only [PO.opds,List.map_cons,List.map_nil,List.cons.injEq,and_true] at g;simp [PO.val,g.1,g.2,i]⟩
  · cases h;simp only [Ex.ev,Option.bind_eq_some_iff] at i;obtain ⟨a,j,b,k,c,l,i⟩:=i;exact ⟨[a,b,c],by simp [j,k,l],fun f g=>by simp only [PO.opds,List.map_cons,List.map_nil,List.cons.injEq,and_true] at g;simp [PO.val,g.1,g.2.1,g.2.2,i]⟩
  · cases h;simp only [Ex.ev,Option.bind_eq_some_iff] at i;obtain ⟨a,j,b,k,c,l,d,m,i⟩:=i;exact ⟨[a,b,c,d],by simp [j,k,l,m],fun f g=>by simp only [PO.opds,List.map_cons,List.map_nil,List.cons.injEq,and_true] at g;simp [PO.val,g.1,g.2.1,g.2.2.1,g.2.2.2,i]⟩
  · cases h
theorem yO {j k:Nat} (h:j≤k):List.range' j (k+1 - j)=List.range' j (k - j)++[k]:=by
  have:=QL (i:=j) (j:=k) (k:=k+1) h (by omega);simpa using this
theorem qyi {op:Op} {c y:Operand} {b:Value} {a:Bool} (h:qbK V op=some (c,y,b,a)):
    vu V y=true∧((a=false∧op= .pick c (.const b) y)∨(a=true∧op= .pick c y (.const b))):=by
  unfold qbK at h;split at h
  · split at h
    · rename_i e;cases h;exact ⟨e, .inl ⟨rfl,rfl⟩⟩
    · cases h
  · split at h
    · rename_i e;cases h;exact ⟨e, .inr ⟨rfl,rfl⟩⟩
    · cases h
  · cases h
theorem qx8 (O : Region1 n ops) (hrec : ∀ k e j, rec k = some (e, j) → SemX P ops V n k e j) {k : Nat} {o : Oper} (Q : ops[k]? = some o) {e : Ex} {j : Nat}
    (h:qbF P ops V rec o k=some (e,j)) (l:vV o.guard j=true):SemX P ops V n k e j:=by
  have U:∀z,ops[k]? =some z→z=o:=fun z R=>Option.some.inj (R.symm.trans Q);unfold qbF at h;split at h
  ·
    rename_i c y cv want hsh;obtain ⟨hfy,J⟩:=qyi hsh;split at h
    · rename_i p tc ty;split at h
      · rename_i i B hgp;split at h
        · rename_i hc;obtain ⟨rfl,hdp,hdi,hcf⟩:=hc;simp only [Option.bind_eq_some_iff,Prod.exists,Option.some.injEq,Prod.mk.injEq] at h;obtain ⟨ey,jy,hy,ec,jc,hcx,rfl,rfl⟩:=h;have sy:=hrec _ _ _ hy;have sc:=qgq O hrec hcx;obtain ⟨aa,X,hgo'⟩:∃z,ops[p]? =some z∧z.guard=some (i,B):=by
            cases hp:ops[p]? with
            |none=>simp [hp] at hgp
            |some z=>simp only [hp,Option.bind_some] at hgp;exact ⟨z,rfl,hgp⟩
          have hdop:aa.dst=some ty:=by simpa [vf,X] using hdp
          have lty:=sy.lt aa X;rw [hgo'] at lty;simp only [vV,decide_eq_true_eq] at lty;have ly:=sy.le;have lc:=sc.le;have htyV:ty∉V:=by simpa [vu] using hfy
          have free_y:qa0 ops V jy (p+1):=fun x hx hx' t ht=>by
            by_cases hxp:x=p
            · subst hxp;rw [hdp] at ht;cases ht;exact htyV
            · exact sy.free x hx (by omega) t ht
          have hltp:vV o.guard (p+1)=true:=by
            cases hg:o.guard with
            |none=>rfl
            |some q=>rw [hg] at l;simp only [vV,decide_eq_true_eq] at l⊢;omega
          have hyield:∀(C:Act) (b:Bool),C.tmps.size=n→C.eval (.tmp tc)= .bool b→yielded ops C.tmps i=some b:=by
            intro C b L hb;have hdi':((ops[i]?).bind (·.dst))=some tc:=hdi;have htc:tc<C.tmps.size:=by rw [L];exact O.lt _ _ hdi
            simp only [Act.eval,Array.getD_eq_getD_getElem?] at hb;simp only [yielded,hdi',Option.bind_some];cases hg:C.tmps[tc]? with
            |none=>simp [Array.getElem?_eq_getElem htc] at hg
            |some u=>simp only [hg,Option.getD_some] at hb;subst hb;rfl
          refine ⟨by omega,fun x hx hx' t ht=> ?_,fun z R=>by rw [U z R];exact l,fun z R ρ w a v ha s A K hK=> ?_,fun z R w a L s K hK=> ?_⟩
          · by_cases hxj:x<jy
            · exact sc.free x hx hxj t ht
            · exact free_y x (by omega) hx' t ht
          · obtain rfl:=U z R;obtain ⟨S,hcb⟩:∃S,ec.ev ρ w=some (.bool S)∧(if S=B then ey.ev ρ w=some v else v=cv):=by
              cases B<;>simp only [Bool.false_eq_true,if_false,if_true,Ex.ev,Option.bind_eq_some_iff,QP] at A<;>obtain ⟨u,hu,A⟩:=A<;>
                (split at A
                 · exact ⟨true,hu,by simpa [eq_comm] using A⟩
                 · exact ⟨false,hu,by simpa [eq_comm] using A⟩
                 · cases A)
            obtain ⟨hcb,m⟩:=hcb;rw [yO (by omega),QL (j:=jy) lc (by omega)];refine kK _ _ _ _ (kK _ _ _ _ (sc.yes l ρ w a [.bool S] ha s (by simp [hcb]) _ fun C g E=> ?_));simp only [List.map_cons,List.map_nil,List.cons.injEq,and_true] at E;have H:C.tmps.size=n:=g.size.trans ha.size;have Z:=ha.fr g sc.free;have hyl:=hyield C S H E;have hgy:jX ops aa.guard C=(S==B):=by rw [hgo'];simp only [jX,hyl];cases S<;>cases B<;>rfl
            have Y:jX ops z.guard C=true:=by rw [wM O g l];exact s
            have fin:∀W,Fr ops jy (p+1) C W→(if S=B then W.tmps[ty]? =some v else W.tmps[ty]? =some undef)→PS P w ops [p+1] W K:=by
              intro W F ab;have hcv:W.eval (.tmp tc)= .bool S:=(qiQ O (sc.safe _ (List.mem_singleton.2 rfl)) F (Nat.le_refl _) free_y).trans E;have hlty:vV z.guard jy=true:=by
                cases hg:z.guard with
                |none=>rfl
                |some q=>rw [hg] at l;simp only [vV,decide_eq_true_eq] at l⊢;omega
              have I:jX ops z.guard W=true:=by rw [wM O F hlty];exact Y
              refine qjD Q I (v:=v) (fun w' _=> ?_) (hK _ ((g.trans F lc (by omega)).trans (Fr.put Q W v) (by omega) (by omega)) (QN (Qh O Q (F.size.trans H))));have hyv:S=B→W.eval (.tmp ty)=v:=fun e=>by
                simp only [e,if_true] at ab;simp [Act.eval,Array.getD_eq_getD_getElem?,ab]
              rcases J with ⟨rfl,J⟩|⟨rfl,J⟩
              · cases S
                · simp [execOp,J,hcv,asBool,hyv rfl]
                · simp only [Bool.true_eq_false,if_false] at m;subst m;have hcst:W.eval (.const v)=v:=rfl;simp [execOp,J,hcv,asBool,hcst]
              · cases S
                · simp only [Bool.false_eq_true,if_false] at m;subst m;have hcst:W.eval (.const v)=v:=rfl;simp [execOp,J,hcv,asBool,hcst]
                · simp [execOp,J,hcv,asBool,hyv rfl]
            by_cases hcw:S=B
            · simp only [hcw,if_true] at m;refine sy.yes aa X ρ w C v Z (by rw [hgy,hcw];simp) m _ fun W F ab=>fin W F ?_;rw [if_pos hcw];exact ab ty hdop
            · refine sy.no aa X w C H (by rw [hgy];simpa using hcw) _ fun W F ab=>fin W F ?_;rw [if_neg hcw];exact ab ty hdop
          · obtain rfl:=U z R;have hcf':vu V (.tmp tc)=true:=by
              rcases hcf with hcf|hcf
              · rw [hcf] at s;cases s
              · exact hcf
            rw [yO (by omega),QL (j:=jy) lc (by omega)];refine kK _ _ _ _ (kK _ _ _ _ (sc.no l w a L s _ fun C g E=> ?_));have H:C.tmps.size=n:=g.size.trans L;have hcu:C.eval (.tmp tc)=undef:=E _ (List.mem_singleton.2 rfl) hcf';have hgy:jX ops aa.guard C=false:=by
              rw [hgo'];have hdi':((ops[i]?).bind (·.dst))=some tc:=hdi;have htc:tc<C.tmps.size:=by rw [H];exact O.lt _ _ hdi
              simp only [jX,yielded,hdi',Option.bind_some];simp only [Act.eval,Array.getD_eq_getD_getElem?] at hcu;cases hg:C.tmps[tc]? with
              |none=>simp [Array.getElem?_eq_getElem htc] at hg
              |some u=>simp only [hg,Option.getD_some] at hcu;subst hcu;rfl
            refine sy.no aa X w C H hgy _ fun W F ab=> ?_;have hlty:vV z.guard jy=true:=by
              cases hg:z.guard with
              |none=>rfl
              |some q=>rw [hg] at l;simp only [vV,decide_eq_true_eq] at l⊢;omega
            have I:jX ops z.guard W=false:=by rw [wM O F hlty,wM O g l];exact s
            exact qjC Q I (hK _ ((g.trans F lc (by omega)).trans (Fr.put Q W _) (by omega) (by omega)) (QN (Qh O Q (F.size.trans H))))
        · cases h
      · cases h
    · cases h
  · split at h
    ·
      rename_i c x y J;split at h
      · cases h
      · rename_i hxy;simp only [Bool.or_eq_true,not_or,Bool.not_eq_true] at hxy;simp only [Option.bind_eq_some_iff,Prod.exists,Option.some.injEq,Prod.mk.injEq] at h;obtain ⟨ec,jc,hcx,rfl,rfl⟩:=h;have sc:=qgq O hrec hcx;have lc:=sc.le;refine ⟨sc.le,sc.free,fun z R=>by rw [U z R];exact l,fun z R ρ w a v ha s A K hK=> ?_,fun z R w a L s K hK=> ?_⟩
        · obtain rfl:=U z R;simp only [Ex.ev,Option.bind_eq_some_iff,QP] at A;obtain ⟨u,hu,A⟩:=A;obtain ⟨S,rfl,m⟩:∃S,u= .bool S∧(if S then (xx x).ev ρ w=some v else (xx y).ev ρ w=some v):=by
            split at A
            · exact ⟨true,rfl,A⟩
            · exact ⟨false,rfl,by simpa using A⟩
            · cases A
          rw [yO lc];refine kK _ _ _ _ (sc.yes l ρ w a [.bool S] ha s (by simp [hu]) _ fun C g E=> ?_);simp only [List.map_cons,List.map_nil,List.cons.injEq,and_true] at E;have Z:=ha.fr g sc.free;have Y:jX ops z.guard C=true:=by rw [wM O g l];exact s
          refine qjD Q Y (v:=v) (fun w' _=> ?_) (hK _ (g.trans (Fr.put Q C v) lc (by omega)) (QN (Qh O Q Z.size)));cases S
          · simp only [Bool.false_eq_true,if_false] at m;simp [execOp,J,E,asBool,qdI Z hxy.2 m]
          · simp only [if_true] at m;simp [execOp,J,E,asBool,qdI Z hxy.1 m]
        · obtain rfl:=U z R;rw [yO lc];refine kK _ _ _ _ (sc.no l w a L s _ fun C g E=> ?_);have I:jX ops z.guard C=false:=by rw [wM O g l];exact s
          exact qjC Q I (hK _ (g.trans (Fr.put Q C _) lc (by omega)) (QN (Qh O Q (g.size.trans L))))
    · rename_i J;simp only [Option.bind_eq_some_iff,Prod.exists,Option.map_eq_some_iff,Prod.mk.injEq] at h;obtain ⟨p,hp,es,j',hes,e',hmk,rfl,rfl⟩:=h;have sc:=qly O hrec hes;have lc:=sc.le;refine ⟨sc.le,sc.free,fun z R=>by rw [U z R];exact l,fun z R ρ w a v ha s A K hK=> ?_,fun z R w a L s K hK=> ?_⟩
      · obtain rfl:=U z R;obtain ⟨vs,hvs,m⟩:=qzF hmk A;rw [yO lc];refine kK _ _ _ _ (sc.yes l ρ w a vs ha s hvs _ fun C g E=> ?_);have Z:=ha.fr g sc.free;have Y:jX ops z.guard C=true:=by rw [wM O g l];exact s
        refine qjD Q Y (v:=v) (fun w' hw'=> ?_) (hK _ (g.trans (Fr.put Q C v) lc (by omega)) (QN (Qh O Q Z.size)));exact qu4 hp (fun _=>rfl) (PO.val_ext hw' (m C.eval E))
      · obtain rfl:=U z R;rw [yO lc];refine kK _ _ _ _ (sc.no l w a L s _ fun C g E=> ?_);have I:jX ops z.guard C=false:=by rw [wM O g l];exact s
        exact qjC Q I (hK _ (g.trans (Fr.put Q C _) lc (by omega)) (QN (Qh O Q (g.size.trans L))))
end
theorem qdg {P:Program} {ops:Array Oper} {V:List Nat} {n:Nat} (g:Region1 n ops):∀(a k:Nat) (e:Ex) (j:Nat),px P ops V a k=some (e,j)→SemX P ops V n k e j
  |0,_,_,_,h=>by cases h
  |a+1,k,e,j,h=>by
    simp only [px,Option.bind_eq_some_iff,Prod.exists] at h;obtain ⟨o,i,m,p,l,b⟩:=h;split at b
    · rename_i c;cases b;exact qx8 g (qdg g a) i l c
    · cases b
end Go.Eng
