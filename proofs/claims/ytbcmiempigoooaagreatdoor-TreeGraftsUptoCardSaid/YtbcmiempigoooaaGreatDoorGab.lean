/- Lemmas for a claim about layer 2 (tree). No conditions but those they state. -/
import Derived.Test.YtbcmiempigoooaaGreatDoorGaa
import Derived.Laws.BytesString
set_option linter.all false
namespace Go.Eng
open Go.RowKit
theorem zz {v:Value} (h:qn v=true):(∃b o n c,v= .slice (some ⟨b,o,none⟩) n c∧n≤c)∨v= .slice none 0 0∨∃b o s,v= .slice (some ⟨b,o,some s⟩) 0 0:=by
  unfold qn at h;split at h
  · rename_i b o n c;exact .inl ⟨b,o,n,c,rfl,by simpa using h⟩
  · rename_i b o s;exact .inr (.inr ⟨b,o,s,rfl⟩)
  · exact .inr (.inl rfl)
  · cases h
theorem qfn {P:Program} (w:World) (a:Addr):∀(n i:Nat) (l:List Value) (b:Array Value),jk w a i n=some l→
    (loadCellsFrom a i n b).run P w= .ok (b++l.toArray) w
  |0,i,l,b,h=>by
    simp only [jk,Option.some.injEq] at h;subst h;simp [loadCellsFrom]
  |n+1,i,l,b,h=>by
    simp only [jk,Option.bind_eq_some_iff,Option.some.injEq] at h;obtain ⟨v,g,j,c,rfl⟩:=h;have e:=qfn (P:=P) w a n (i+1) j (b.push v) c;simp only [loadCellsFrom,load,Sem.run_bind];rw [show (Sem.load Mode.plain (a.add i) Sem.pure).run P w= .ok v w by simp [Sem.run,g]];simp only [Result.andThen_ok];rw [e];simp
theorem qfq {P:Program} {t:TypeId} {i:TypeInfo} (h:P.info? t=some i) (w:World):(typeInfo t).run P w= .ok i w:=by
  simp [typeInfo,h]
theorem Qt {P:Program} {t:TypeId} {i:TypeInfo} (h:P.info? t=some i) (w:World):(sizeOf t).run P w= .ok i.size w:=by
  simp [sizeOf,qfq h]
theorem qcA {P:Program} {t:TypeId} {b:Bool} (h:xA P t=some b) (w:World):(isAgg t).run P w= .ok b w:=by
  unfold xA at h;cases a:P.underlying t with
  |none=>simp [a] at h
  |some d=>
    simp only [a] at h;simp only [isAgg,Sem.run_bind,run_underlying a,Result.andThen_ok];cases d<;>simp_all
theorem qfr {P:Program} (w:World) (op:BinOp) (t:TypeId) (x y:Operand) (k c:IntKind) (a b:Int):
    (eqGuard op t x y (.int k a) (.int c b)).run P w= .ok () w:=by
  unfold eqGuard;cases op<;>simp
theorem qj9 {P:Program} (w:World) (op:BinOp) (t:TypeId) (x y:Operand) (a b:ByteArray):
    (eqGuard op t x y (.string a) (.string b)).run P w= .ok () w:=by
  unfold eqGuard;cases op<;>simp
theorem qka {P:Program} (w:World) (op:BinOp) (t:TypeId) (x y:Operand) (a b:Bool):
    (eqGuard op t x y (.bool a) (.bool b)).run P w= .ok () w:=by
  unfold eqGuard;cases op<;>simp
theorem qDn (x y:ByteArray):x.data=y.data↔x=y:=by
  constructor
  · intro h;cases x;cases y;congr
  · rintro rfl;rfl
theorem qDo (x y:ByteArray):(x.data==y.data)=decide (x=y):=by
  rw [Bool.eq_iff_iff];simp [qDn]
theorem qj5 {P:Program} (w:World) (b:Bool) (len cap:Nat) (kl a:IntKind) (l h:Int) (e:0≤l) (c:l≤h) (g:h≤cap):
    (Instr.sliceBounds b len cap (some (.int kl l)) (some (.int a h)) none).run P w= .ok (l.toNat,h.toNat,cap) w:=by
  have:(h.toNat:Int)=h:=Int.toNat_of_nonneg (by omega);simp [Instr.sliceBounds,run_sliceBound, *,(by omega:(0:Int)≤h)]
theorem qj2 {P:Program} (w:World) (b:Bool) (len cap:Nat) (kl:IntKind) (l:Int) (c:0≤l) (a:l≤len):
    (Instr.sliceBounds b len cap (some (.int kl l)) none none).run P w= .ok (l.toNat,len,cap) w:=by
  simp [Instr.sliceBounds,run_sliceBound, *]
theorem qj4 {P:Program} (w:World) (b:Bool) (len cap:Nat):
    (Instr.sliceBounds b len cap none none none).run P w= .ok (0,len,cap) w:=by
  simp [Instr.sliceBounds]
theorem qj3 {P:Program} (w:World) (b:Bool) (len cap:Nat) (a:IntKind) (h:Int) (c:0≤h) (e:h≤cap):
    (Instr.sliceBounds b len cap none (some (.int a h)) none).run P w= .ok (0,h.toNat,cap) w:=by
  simp [Instr.sliceBounds,run_sliceBound, *]
theorem quQ {P:Program} (w:World) (b:Bool) (len cap:Nat) (kl c a:IntKind) (l h m:Int) (e:0≤l) (k:l≤h) (o:h≤m) (i:m≤cap):
    (Instr.sliceBounds b len cap (some (.int kl l)) (some (.int c h)) (some (.int a m))).run P w= .ok (l.toNat,h.toNat,m.toNat) w:=by
  have j:(h.toNat:Int)=h:=Int.toNat_of_nonneg (by omega);have g:(m.toNat:Int)=m:=Int.toNat_of_nonneg (by omega);simp [Instr.sliceBounds,run_sliceBound, *,(by omega:(0:Int)≤h),(by omega:(0:Int)≤m)]
theorem quP {P:Program} (w:World) (b:Bool) (len cap:Nat) (c a:IntKind) (h m:Int) (e:0≤h) (j:h≤m) (i:m≤cap):
    (Instr.sliceBounds b len cap none (some (.int c h)) (some (.int a m))).run P w= .ok (0,h.toNat,m.toNat) w:=by
  have g:(m.toNat:Int)=m:=Int.toNat_of_nonneg (by omega);simp [Instr.sliceBounds,run_sliceBound, *,(by omega:(0:Int)≤m)]
theorem qfm {P:Program} (w:World) {t e:TypeId} {i:TypeInfo} (j:P.underlying t=some (.slice e)) (p:P.info? e=some i) {v:Value} (x:qn v=true)
    {g a mx:Option Value} {l h m:Nat} (k:(Instr.sliceBounds true (qk v) (qo v) g a mx).run P w= .ok (l,h,m) w):
    (Instr.sliceAt t v g a mx).run P w= .ok (qR v i.size l h m) w:=by
  have u:(Instr.sliceAt t v g a mx).run P w=(Instr.slice t v g a mx).run P w:=by simp [Instr.sliceAt,run_underlying j]
  rw [u];rcases zz x with ⟨b,o,n,c,rfl,_⟩|rfl|⟨b,o,s,rfl⟩<;>
    (simp only [qk,qo] at k;simp [Instr.slice,run_underlying j,k,Qt p,qR])
theorem qj1 {P:Program} (w:World) {t:TypeId} (e:P.underlying t=some .string) (s:ByteArray)
    {b a:Option Value} {l h m:Nat} (c:(Instr.sliceBounds false s.size s.size b a none).run P w= .ok (l,h,m) w):
    (Instr.sliceAt t (.string s) b a none).run P w= .ok (.string (s.extract l h)) w:=by
  simp [Instr.sliceAt,Instr.slice,run_underlying e,c]
section
variable {P:Program} {w:World} {f:Operand→Value} {v:Value} {dst:Option Tmp} {type:TypeId} {pos:String} {after:Array Edge} {guard:Option (Nat×Bool)}
theorem qbk {k:K1} {x:Value} (h:qS w k x=some v) (b:(∃n,k= .loadN n)∨k= .load1∨(∃o,k= .fadr o)):∃a,x= .pointer (some a):=by
  rcases b with ⟨n,rfl⟩|rfl|⟨o,rfl⟩<;>(cases x<;>first|(cases h;done)|skip)<;>rename_i a<;>cases a<;>first|(cases h;done)|exact ⟨_,rfl⟩
theorem qj7 {t:TypeId} {a:Operand} (j:xA P t=some false) (c:qS w .load1 (f a)=some v):
    (execOp f ⟨dst, .load t a,type,pos,after,guard⟩).run P w= .ok (.value v) w:=by
  obtain ⟨e,g⟩:=qbk c (.inr (.inl rfl));rw [g] at c;have b:w.cell? e=some v:=c;have h:(load e).run P w= .ok v w:=by simp [load,Sem.run,b]
  have i:=qcA (P:=P) j w;simp only [execOp,g,Instr.loadAt,Instr.sureAddr,loadVar,Sem.run_bind,Sem.run_pure,Result.andThen_ok,i,Bool.false_eq_true,if_false,h]
theorem qfp {t:TypeId} {i:TypeInfo} {a:Operand} (m:xA P t=some true) (j:P.info? t=some i) (b:qS w (.loadN i.size) (f a)=some v):
    (execOp f ⟨dst, .load t a,type,pos,after,guard⟩).run P w= .ok (.value v) w:=by
  obtain ⟨c,e⟩:=qbk b (.inl ⟨_,rfl⟩);rw [e] at b;obtain ⟨l,h,rfl⟩:=Option.map_eq_some_iff.1 (show (jk w c 0 i.size).map _=some v from b);have g:=qfn (P:=P) w c i.size 0 l #[] h;have k:=qcA (P:=P) m w;simp only [execOp,e,Instr.loadAt,Instr.sureAddr,loadVar,loadCells,Sem.run_bind,Sem.run_pure,Result.andThen_ok,k,if_true,Qt j,g];simp
theorem quU {op:BinOp} {t h:TypeId} {x y:Operand} (c:op= .shl∨op= .shr) (a:jI w (.shf op) (f x) (f y)=some v):
    (execOp f ⟨dst, .binOp op t x y h,type,pos,after,guard⟩).run P w= .ok (.value v) w:=by
  cases g:f x<;>simp only [g] at a<;>first|(cases a;done)|skip
  cases e:f y<;>simp only [e] at a<;>first|(cases a;done)|skip
  simp only [jI,qcu] at a;split at a
  · cases a
  · rename_i b;rcases c with rfl|rfl<;>(simp only [Option.some.injEq] at a;subst a;simp [execOp,g,e,qfr,binOp,Op.shift,b])
theorem qu3 {op : BinOp} {k : IntKind} {t i : TypeId} {x y : Operand} (c : ¬ (op = .shl ∨ op = .shr)) (a : jI w (.ibin op k) (f x) (f y) = some v) :
    (execOp f ⟨dst, .binOp op t x y i,type,pos,after,guard⟩).run P w= .ok (.value v) w:=by
  cases e:f x<;>simp only [e] at a<;>first|(cases a;done)|skip
  cases b:f y<;>simp only [b] at a<;>first|(cases a;done)|skip
  simp only [jI] at a;split at a
  · rename_i h;subst h;cases op<;>simp only [qap] at a<;>
      first
        |(cases a;simp [execOp,e,b,qfr,binOp,Op.intArith,Op.intBits,Op.intCmp];done)
        |(exfalso;simp at c;done)
        | (split at a
           · cases a
           · rename_i g;cases a;simp [execOp,e,b,qfr,binOp,Op.intDiv,g])
  · cases a
theorem quV {op:BinOp} {t h:TypeId} {x y:Operand} (a:jI w (.sbin op) (f x) (f y)=some v):
    (execOp f ⟨dst, .binOp op t x y h,type,pos,after,guard⟩).run P w= .ok (.value v) w:=by
  cases e:f x<;>simp only [e] at a<;>first|(cases a;done)|skip
  cases b:f y<;>simp only [b] at a<;>first|(cases a;done)|skip
  rename_i i j;simp only [jI] at a;cases op <;> simp only [ki] at a <;>
    first
      |(cases a;simp [execOp,e,b,qj9,binOp,Op.stringOp,ByteArray.toList_eq,qDo];done)
      | (split at a
         · rename_i g;cases a;have c:¬((i.size+j.size:Nat):Int)>IntKind.i64.max:=by
             simp only [maxLen] at g;simp [IntKind.max,IntKind.bits,IntKind.signed];omega
           simp only [execOp,e,b,binOp,Op.stringOp,Sem.run_bind,qj9,Result.andThen_ok];rw [if_neg c];simp
         · cases a)
      |(cases a;done)
theorem qvc {op:BinOp} {t g:TypeId} {x y:Operand} (e:P.underlying t=some .bool) (a:jI w (.bbin op) (f x) (f y)=some v):
    (execOp f ⟨dst, .binOp op t x y g,type,pos,after,guard⟩).run P w= .ok (.value v) w:=by
  cases op<;>first|(cases a;done)|skip
  all_goals
    cases c:f x<;>simp only [c] at a<;>first|(cases a;done)|skip
    cases b:f y<;>simp only [b] at a<;>first|(cases a;done)|skip
  · cases a;simp [execOp,c,b,qka,run_eql_bool w t _ _ e]
  · cases a;simp [execOp,c,b,qka,run_neq_bool w t _ _ e]
theorem qfk {op:UnOp} {k:K1} {t:TypeId} {x:Operand} (c:(op= .not∧k= .not)∨(op= .neg∧k= .neg)∨(op= .xor∧k= .bnot)) (a:qS w k (f x)=some v):
    (execOp f ⟨dst, .unOp op t x,type,pos,after,guard⟩).run P w= .ok (.value v) w:=by
  rcases c with ⟨rfl,rfl⟩|⟨rfl,rfl⟩|⟨rfl,rfl⟩<;>
    (cases b:f x<;>simp only [b] at a<;>first|(cases a;done)|skip)<;>
    (cases a;simp [execOp,b,Op.unary,Op.intArith,Op.intBits])
theorem qu9 {k:IntKind} {s d:TypeId} {ds:TypeDesc} {x:Operand} (e:P.underlying s=some ds) (c:P.underlying d=some (.int k)) (a:qS w (.conv k) (f x)=some v):
    (execOp f ⟨dst, .convert s d x,type,pos,after,guard⟩).run P w= .ok (.value v) w:=by
  cases b:f x<;>simp only [b] at a<;>first|(cases a;done)|skip
  cases a;simp [execOp,b,convert,run_underlying e,run_underlying c,Conv.intToInt]
theorem quM {s d:TypeId} {x:Operand} (c:P.underlying s=some .string) (e:P.underlying d=some .string) (a:qS w .strid (f x)=some v):
    (execOp f ⟨dst, .convert s d x,type,pos,after,guard⟩).run P w= .ok (.value v) w:=by
  cases b:f x<;>simp only [b] at a<;>first|(cases a;done)|skip
  cases a;simp [execOp,b,convert,run_underlying c,run_underlying e]
theorem qsw:∀(l:List Value) (a:List Int),kz l=some a→l=a.map (Value.int .u8)
  |[],a,h=>by simp only [kz,Option.some.injEq] at h;subst h;rfl
  | x :: l, a, h => by
    unfold kz at h;split at h
    · rename_i e;cases e
    · rename_i n c e;cases e;obtain ⟨m,b,rfl⟩:=Option.map_eq_some_iff.1 h;rw [qsw l m b];rfl
    · cases h
theorem qvd {s d e:TypeId} {x:Operand} (u:P.underlying s=some (.slice e)) (p:P.underlying d=some .string) (t:P.underlying e=some (.int .u8)) (A:qS w .b2s (f x)=some v):
    (execOp f ⟨dst, .convert s d x,type,pos,after,guard⟩).run P w= .ok (.value v) w:=by
  have i:(if qn (f x)=true then (jk w (qJ (f x) 0) 0 (qk (f x))).bind fun l=>(kz l).map fun j=>Value.string (qaA j) else none)=some v:=A;split at i
  · rename_i m;obtain ⟨l,g,z⟩:=Option.bind_eq_some_iff.1 i;obtain ⟨j,a,rfl⟩:=Option.map_eq_some_iff.1 z;rcases zz m with ⟨b,o,n,c,h,_⟩|h|⟨b,o,sp,h⟩
    rotate_left 2
    · rw [h] at g;simp only [qk,jk,Option.some.injEq] at g;subst g;simp only [kz,Option.some.injEq] at a;subst a;have k:=run_bytesToString (P:=P) w ⟨b,o,some sp⟩ 0 0 [] (by simp [loadCells,loadCellsFrom]);simp only [execOp,h,Sem.run_bind,run_convert_bytes_string w s d e _ 0 0 u t p,k,Result.andThen_ok];rfl
    · rw [h] at g;simp only [qJ,qk,Nat.add_zero] at g;have y:=qfn (P:=P) w _ _ 0 l #[] g;rw [qsw l j a] at y;have k:=run_bytesToString (P:=P) w ⟨b,o,none⟩ n c j (by simpa [loadCells] using y);simp only [execOp,h,Sem.run_bind,run_convert_bytes_string w s d e _ n c u t p,k,Result.andThen_ok];rfl
    · rw [h] at g;simp only [qk,jk,Option.some.injEq] at g;subst g;simp only [kz,Option.some.injEq] at a;subst a;simp only [execOp,h,Sem.run_bind,run_convert_bytes_string w s d e _ 0 0 u t p];simp [Conv.bytesToString,qaA]
  · cases i
theorem quT {t e : TypeId} {i : TypeInfo} {x : Operand} {c : Option Operand} (h : P.underlying t = some (.slice e)) (o : P.info? e = some i) (j : ∀ v, f (.const v) = v)
    (a:jI w (.slLo i.size) (f x) (f (c.getD vU))=some v):
    (execOp f ⟨dst, .slice t x c none none,type,pos,after,guard⟩).run P w= .ok (.value v) w:=by
  cases b:f (c.getD vU)<;>simp only [b] at a<;>first|(cases a;done)|skip
  rename_i k l;simp only [jI] at a;split at a
  · rename_i g;obtain ⟨s,y,m⟩:=g;cases a;have u:(Instr.sliceBounds true (qk (f x)) (qo (f x)) (c.map f) none none).run P w= .ok (l.toNat,qk (f x),qo (f x)) w:=by
      cases c with
      |none=>
        have:l=0:=by have:=j (.int .i64 0);simp only [Option.getD_none,vU,this,Value.int.injEq] at b;exact b.2.symm
        subst this;exact qj4 w _ _ _
      |some p=>
        simp only [Option.getD_some] at b;simp only [Option.map_some,b];exact qj2 w _ _ _ _ _ y m
    have:=qfm w h o s u;simp [execOp,this]
  · cases a
theorem quS {t e : TypeId} {i : TypeInfo} {x g : Operand} {c : Option Operand} (s : P.underlying t = some (.slice e)) (y : P.info? e = some i) (u : ∀ v, f (.const v) = v)
    (a:kX w (.slLoHi i.size) (f x) (f (c.getD vU)) (f g)=some v):
    (execOp f ⟨dst, .slice t x c (some g) none,type,pos,after,guard⟩).run P w= .ok (.value v) w:=by
  cases b:f (c.getD vU)<;>simp only [b] at a<;>first|(cases a;done)|skip
  cases o:f g<;>simp only [o] at a<;>first|(cases a;done)|skip
  rename_i k l k2 h;simp only [kX] at a;split at a
  · rename_i p;obtain ⟨A,C,m,j⟩:=p;cases a;have B:(Instr.sliceBounds true (qk (f x)) (qo (f x)) (c.map f) (some (.int k2 h)) none).run P w= .ok (l.toNat,h.toNat,qo (f x)) w:=by
      cases c with
      |none=>
        have:l=0:=by have:=u (.int .i64 0);simp only [Option.getD_none,vU,this,Value.int.injEq] at b;exact b.2.symm
        subst this;exact qj3 w _ _ _ _ _ m j
      |some z=>
        simp only [Option.getD_some] at b;simp only [Option.map_some,b];exact qj5 w _ _ _ _ _ _ _ C m j
    have:=qfm w s y A B;simp [execOp,o,this]
  · cases a
theorem quR {t e : TypeId} {i : TypeInfo} {x j g : Operand} {c : Option Operand} (A : P.underlying t = some (.slice e)) (C : P.info? e = some i) (B : ∀ v, f (.const v) = v)
    (a:pv4 w (.slMax i.size) (f x) (f (c.getD vU)) (f j) (f g)=some v):
    (execOp f ⟨dst, .slice t x c (some j) (some g),type,pos,after,guard⟩).run P w= .ok (.value v) w:=by
  cases b:f (c.getD vU)<;>simp only [b] at a<;>first|(cases a;done)|skip
  cases y:f j<;>simp only [y] at a<;>first|(cases a;done)|skip
  cases o:f g<;>simp only [o] at a<;>first|(cases a;done)|skip
  rename_i k l k2 h k3 m;simp only [pv4] at a;split at a
  · rename_i z;obtain ⟨F,I,s,p,u⟩:=z;cases a;have H:(Instr.sliceBounds true (qk (f x)) (qo (f x)) (c.map f) (some (.int k2 h)) (some (.int k3 m))).run P w= .ok (l.toNat,h.toNat,m.toNat) w:=by
      cases c with
      |none=>
        have:l=0:=by have:=B (.int .i64 0);simp only [Option.getD_none,vU,this,Value.int.injEq] at b;exact b.2.symm
        subst this;exact quP w _ _ _ _ _ _ _ s p u
      |some E=>
        simp only [Option.getD_some] at b;simp only [Option.map_some,b];exact quQ w _ _ _ _ _ _ _ _ _ I s p u
    have:=qfm w A C F H;simp [execOp,y,o,this]
  · cases a
theorem quO {t : TypeId} {x : Operand} {c : Option Operand} (h : P.underlying t = some .string) (i : ∀ v, f (.const v) = v)
    (a:jI w .stLo (f x) (f (c.getD vU))=some v):
    (execOp f ⟨dst, .slice t x c none none,type,pos,after,guard⟩).run P w= .ok (.value v) w:=by
  cases e:f x<;>simp only [e] at a<;>first|(cases a;done)|skip
  cases b:f (c.getD vU)<;>simp only [b] at a<;>first|(cases a;done)|skip
  rename_i s k l;simp only [jI] at a;split at a
  · rename_i g;obtain ⟨p,j⟩:=g;cases a;have o:(Instr.sliceBounds false s.size s.size (c.map f) none none).run P w= .ok (l.toNat,s.size,s.size) w:=by
      cases c with
      |none=>
        have:l=0:=by have:=i (.int .i64 0);simp only [Option.getD_none,vU,this,Value.int.injEq] at b;exact b.2.symm
        subst this;exact qj4 w _ _ _
      |some m=>
        simp only [Option.getD_some] at b;simp only [Option.map_some,b];exact qj2 w _ _ _ _ _ p j
    have:=qj1 w h s o;simp [execOp,e,this]
  · cases a
theorem quN {t : TypeId} {x e : Operand} {c : Option Operand} (p : P.underlying t = some .string) (u : ∀ v, f (.const v) = v)
    (a:kX w .stLoHi (f x) (f (c.getD vU)) (f e)=some v):
    (execOp f ⟨dst, .slice t x c (some e) none,type,pos,after,guard⟩).run P w= .ok (.value v) w:=by
  cases m:f x<;>simp only [m] at a<;>first|(cases a;done)|skip
  cases b:f (c.getD vU)<;>simp only [b] at a<;>first|(cases a;done)|skip
  cases j:f e<;>simp only [j] at a<;>first|(cases a;done)|skip
  rename_i s k l k2 h;simp only [kX] at a;split at a
  · rename_i o;obtain ⟨A,i,g⟩:=o;cases a;have z:(Instr.sliceBounds false s.size s.size (c.map f) (some (.int k2 h)) none).run P w= .ok (l.toNat,h.toNat,s.size) w:=by
      cases c with
      |none=>
        have:l=0:=by have:=u (.int .i64 0);simp only [Option.getD_none,vU,this,Value.int.injEq] at b;exact b.2.symm
        subst this;exact qj3 w _ _ _ _ _ i g
      |some y=>
        simp only [Option.getD_some] at b;simp only [Option.map_some,b];exact qj5 w _ _ _ _ _ _ _ A i g
    have:=qj1 w p s z;simp [execOp,m,j,this]
  · cases a
theorem qu6 {s:TypeId} {fs:Array Field} {b:Field} {i:TypeInfo} {x:Operand} {n:Nat} (g:P.underlying s=some (.struct fs)) (j:fs[n]? =some b) (h:P.info? b.type=some i)
    (e:i.size≠0) (a:qS w (.fadr b.offset) (f x)=some v):
    (execOp f ⟨dst, .fieldAddr s x n,type,pos,after,guard⟩).run P w= .ok (.value v) w:=by
  obtain ⟨k,c⟩:=qbk a (.inr (.inr ⟨_,rfl⟩));rw [c] at a;cases a;simp [execOp,c,Instr.fieldAt,Instr.sureAddr,run_underlying g,j,fieldPlace,Qt h,e]
theorem qfo {t:TypeId} {cs:Array Value} {off:Nat} (c:xA P t=some false) (b:cs[off]? =some v):(part t cs off).run P w= .ok v w:=by
  have a:=qcA (P:=P) c w;simp [part,a,b]
theorem quW {t:TypeId} {i:TypeInfo} {cs:Array Value} {off:Nat} (c:xA P t=some true) (a:P.info? t=some i):(part t cs off).run P w= .ok (.agg (cs.extract off (off+i.size))) w:=by
  have b:=qcA (P:=P) c w;simp [part,b,Qt a]
theorem qu5 {s:TypeId} {fs:Array Field} {b:Field} {x:Operand} {n:Nat} (e:P.underlying s=some (.struct fs)) (g:fs[n]? =some b) (h:xA P b.type=some false)
    (a:qS w (.fld b.offset) (f x)=some v):
    (execOp f ⟨dst, .field s x n,type,pos,after,guard⟩).run P w= .ok (.value v) w:=by
  cases c:f x<;>simp only [c] at a<;>first|(cases a;done)|skip
  have:=qfo (P:=P) (w:=w) h (show _=some v from a);simp [execOp,c,Instr.field,run_underlying e,g,asAgg,this]
theorem qu4 {s:TypeId} {fs:Array Field} {a:Field} {i:TypeInfo} {x:Operand} {n:Nat} (e:P.underlying s=some (.struct fs)) (h:fs[n]? =some a) (j:xA P a.type=some true)
    (g:P.info? a.type=some i) (b:qS w (.fldN a.offset i.size) (f x)=some v):
    (execOp f ⟨dst, .field s x n,type,pos,after,guard⟩).run P w= .ok (.value v) w:=by
  cases c:f x<;>simp only [c] at b<;>first|(cases b;done)|skip
  rename_i cs;cases b;have:=quW (P:=P) (w:=w) (cs:=cs) (off:=a.offset) j g;simp [execOp,c,Instr.field,run_underlying e,h,asAgg,this]
theorem qu2 {t e:TypeId} {i:TypeInfo} {x y:Operand} (l:P.underlying t=some (.slice e)) (p:P.info? e=some i) (g:jI w (.ixa i.size) (f x) (f y)=some v):
    (execOp f ⟨dst, .indexAddr t x y,type,pos,after,guard⟩).run P w= .ok (.value v) w:=by
  cases j:f y<;>simp only [j] at g<;>first|(cases g;done)|skip
  simp only [jI] at g;split at g
  · rename_i k;obtain ⟨s,u,a⟩:=k;cases g;rcases zz s with ⟨b,o,n,c,h,_⟩|h|⟨b,o,sp,h⟩
    rotate_left 2
    · rw [h] at a;simp only [qk] at a;omega
    · rw [h] at a;simp only [qk] at a;simp only [execOp,h,j,Instr.indexAt,Sem.run_bind,run_underlying l,Result.andThen_ok,asIntOf,Sem.run_pure,u,a,and_self,if_true,Qt p];simp only [qJ,Addr.add];split
      · rename_i m;simp [m]
      · rfl
    · rw [h] at a;simp only [qk] at a;omega
  · cases g
theorem qu1 {t:TypeId} {x y:Operand} (i:P.underlying t=some .string) (a:jI w .ixs (f x) (f y)=some v):
    (execOp f ⟨dst, .index t x y,type,pos,after,guard⟩).run P w= .ok (.value v) w:=by
  cases e:f x<;>simp only [e] at a<;>first|(cases a;done)|skip
  cases c:f y<;>simp only [c] at a<;>first|(cases a;done)|skip
  simp only [jI] at a;split at a
  · rename_i h;obtain ⟨b,g,rfl⟩:=Option.map_eq_some_iff.1 a;simp [execOp,e,c,Instr.index,run_underlying i,asIntOf,h,g]
  · cases a
theorem qu7 {x:Operand} {n:Nat} (b:qS w (.ext n) (f x)=some v):
    (execOp f ⟨dst, .extract x n,type,pos,after,guard⟩).run P w= .ok (.value v) w:=by
  cases c:f x<;>simp only [c] at b<;>first|(cases b;done)|skip
  rename_i vs;have a:vs[n]? =some v:=b;simp [execOp,c,Instr.extract,a]
theorem quY {t:TypeId} {d:TypeDesc} {x:Operand} (b:P.underlying t=some d) (a:∀c,d≠ .interface c) (e:qS w (.mkif t) (f x)=some v):
    (execOp f ⟨dst, .makeInterface t x,type,pos,after,guard⟩).run P w= .ok (.value v) w:=by
  cases e;simp only [execOp,Instr.makeInterface,Sem.run_bind,run_underlying b,Result.andThen_ok];cases d<;>first|rfl|exact absurd rfl (a _)
theorem quX {x:Operand} (a:qS w .nilc (f x)=some v):
    (execOp f ⟨dst, .nilCheck x,type,pos,after,guard⟩).run P w= .ok (.value v) w:=by
  cases b:f x with
  |pointer p=>
    rw [b] at a;cases p with
    |none=>cases a
    |some c=>cases a;simp [execOp,b]
  |iface t u=>rw [b] at a;cases a;simp [execOp,b]
  |_=>rw [b] at a;cases a
theorem qj6 {x:Operand} {op:Op} (a:op= .move x∨op= .assign x) (b:qS w .same (f x)=some v):
    (execOp f ⟨dst,op,type,pos,after,guard⟩).run P w= .ok (.value v) w:=by
  cases b;rcases a with rfl|rfl<;>simp [execOp]
theorem qu0 {x:Operand} {t e:TypeId} (h:P.underlying t=some (.slice e)) (j:qS w .lenS (f x)=some v):
    (execOp f ⟨dst, .call {callee:= .builtin .len,args:= #[x],argTypes:= #[t]},type,pos,after,guard⟩).run P w= .ok (.value v) w:=by
  have a:(if qn (f x)=true then some (Value.int .i64 (qk (f x))) else none)=some v:=j;split at a
  · rename_i i;cases a;rcases zz i with ⟨b,o,n,c,g,_⟩|g|⟨b,o,s,g⟩<;>
      simp [execOp,g,resolve,invoke,builtin,Builtin.len_,run_underlying h,goInt,qk]
  · cases a
theorem qva {x:Operand} {t e:TypeId} (h:P.underlying t=some (.slice e)) (j:qS w .capS (f x)=some v):
    (execOp f ⟨dst, .call {callee:= .builtin .cap,args:= #[x],argTypes:= #[t]},type,pos,after,guard⟩).run P w= .ok (.value v) w:=by
  have a:(if qn (f x)=true then some (Value.int .i64 (qo (f x))) else none)=some v:=j;split at a
  · rename_i i;cases a;rcases zz i with ⟨b,o,n,c,g,_⟩|g|⟨b,o,s,g⟩<;>
      simp [execOp,g,resolve,invoke,builtin,Builtin.cap_,run_underlying h,goInt,qo]
  · cases a
theorem quZ {x:Operand} {t:TypeId} (c:P.underlying t=some .string) (a:qS w .lenT (f x)=some v):
    (execOp f ⟨dst, .call {callee:= .builtin .len,args:= #[x],argTypes:= #[t]},type,pos,after,guard⟩).run P w= .ok (.value v) w:=by
  cases b:f x<;>simp only [b] at a<;>first|(cases a;done)|skip
  cases a;simp [execOp,b,resolve,invoke,builtin,Builtin.len_,run_underlying c,goInt]
end
theorem qtz {P : Program} {o : Oper} {p : PO} (h : qcf P o.op = some p) {f : Operand → Value} (b : ∀ v, f (.const v) = v) {w : World} {v : Value} (a : p.val w f = some v) :
    (execOp f o).run P w= .ok (.value v) w:=by
  obtain ⟨dst,op,type,pos,after,guard⟩:=o;unfold qcf at h;dsimp only at h;split at h
  · cases h;exact qj6 (.inl rfl) a
  · cases h;exact qj6 (.inr rfl) a
  · split at h
    · cases h;exact qfp ‹_› ‹_› a
    · cases h;exact qj7 ‹_› a
    · cases h
  · split at h
    · split at h
      · cases h;exact quU ‹_› a
      · cases h;exact qu3 ‹_› a
    · cases h;exact quV a
    · cases h;exact qvc ‹_› a
    · cases h
  · cases h;exact qfk (.inl ⟨rfl,rfl⟩) a
  · cases h;exact qfk (.inr (.inl ⟨rfl,rfl⟩)) a
  · cases h;exact qfk (.inr (.inr ⟨rfl,rfl⟩)) a
  · split at h
    · cases h;exact qu9 ‹_› ‹_› a
    · cases h;exact quM ‹_› ‹_› a
    · split at h
      · cases h;exact qvd ‹_› ‹_› ‹_› a
      · cases h
    · cases h
  · split at h
    · split at h
      · cases h;exact quT ‹_› ‹_› b a
      · cases h;exact quS ‹_› ‹_› b a
      · cases h;exact quR ‹_› ‹_› b a
      · cases h
    · split at h
      · cases h;exact quO ‹_› b a
      · cases h;exact quN ‹_› b a
      · cases h
    · cases h
  · split at h
    · split at h
      · split at h
        · split at h
          · cases h
          · cases h;exact qu6 ‹_› ‹_› ‹_› ‹_› a
        · cases h
      · cases h
    · cases h
  · split at h
    · split at h
      · split at h
        · cases h;exact qu4 ‹_› ‹_› ‹_› ‹_› a
        · cases h;exact qu5 ‹_› ‹_› ‹_› a
        · cases h
      · cases h
    · cases h
  · split at h
    · split at h
      · cases h;exact qu2 ‹_› ‹_› a
      · cases h
    · cases h
  · split at h
    · cases h;exact qu1 ‹_› a
    · cases h
  · cases h;exact qu7 a
  · split at h
    · cases h
    · rename_i d g j;cases h;exact quY j (fun i e=>by subst e;exact g i rfl) a
    · cases h
  · cases h;exact quX a
  · rename_i c;obtain ⟨callee,⟨args⟩,⟨argTypes⟩⟩:=c;simp only at h;unfold qi4 at h;split at h
    · split at h
      · cases h;exact quZ ‹_› a
      · cases h;exact qu0 ‹_› a
      · cases h
    · split at h
      · cases h;exact qva ‹_› a
      · cases h
    · cases h
  · cases h
end Go.Eng
namespace Go.Eng
open Go.RowKit
inductive Ex where
  |var (i:Nat)
  |const (v:Value)
  |op1 (k:K1) (x:Ex)
  |op2 (k:K2) (x y:Ex)
  |op3 (k:K3) (x y z:Ex)
  |op4 (k:K4) (x y z u:Ex)
  |ite (c x y:Ex)
def QD (c:Value) (x y:Option Value):Option Value:=
  match c with
  | .bool true=>x
  | .bool false=>y
  |_=>none
def Ex.ev (ρ:qa) (w:World):Ex→Option Value
  | .var i=>some (ρ i)
  | .const v=>some v
  | .op1 k x=>(x.ev ρ w).bind (qS w k)
  | .op2 k x y=>(x.ev ρ w).bind fun a=>(y.ev ρ w).bind fun b=>jI w k a b
  | .op3 k x y z=>(x.ev ρ w).bind fun a=>(y.ev ρ w).bind fun b=>(z.ev ρ w).bind fun c=>kX w k a b c
  | .op4 k x y z u=>(x.ev ρ w).bind fun a=>(y.ev ρ w).bind fun b=>(z.ev ρ w).bind fun c=>(u.ev ρ w).bind fun d=>pv4 w k a b c d
  | .ite c x y=>(c.ev ρ w).bind fun a=>QD a (x.ev ρ w) (y.ev ρ w)
def QY:Operand→Value
  | .const v=>v
  | .global g=> .pointer (some ⟨g,0,none⟩)
  | .func f=> .func (.func f) #[] #[]
  | .tmp _=>undef
def xy:Operand→Ex
  | .tmp t=> .var t
  |x=> .const (QY x)
def vf (ops:Array Oper) (i:Nat):Option Nat:=(ops[i]?).bind (·.dst)
def vE (V:List Nat):Operand→Bool
  | .tmp t=> !V.contains t
  |_=>false
def PO.opds:PO→List Operand
  | .k1 _ x=>[x]
  | .k2 _ x y=>[x,y]
  | .k3 _ x y z=>[x,y,z]
  | .k4 _ x y z u=>[x,y,z,u]
def PO.mk:PO→List Ex→Option Ex
  | .k1 .same _,[a]=>some a
  | .k1 k _,[a]=>some (.op1 k a)
  | .k2 k _ _,[a,b]=>some (.op2 k a b)
  | .k3 k _ _ _,[a,b,c]=>some (.op3 k a b c)
  | .k4 k _ _ _ _,[a,b,c,d]=>some (.op4 k a b c d)
  |_,_=>none
def vR (g:Option (Nat×Bool)) (j:Nat):Bool:=match g with|none=>true|some (i,_)=>decide (i<j)
def qbo (V:List Nat):Op→Option (Operand×Operand×Value×Bool)
  | .pick c (.const va) b=>if vE V b then some (c,b,va,false) else none
  | .pick c a (.const vb)=>if vE V a then some (c,a,vb,true) else none
  |_=>none
section
variable (P:Program) (ops:Array Oper) (V:List Nat)
def QA (rec : Nat → Option (Ex × Nat)) (g : Option (Nat × Bool)) (x : Operand) (pos : Nat) : Option (Ex × Nat) :=
  if vE V x then
    match x,pos with
    | .tmp t,p+1=>if vf ops p=some t∧(ops[p]?).map (·.guard)=some g then rec p else none
    |_,_=>none
  else some (xy x,pos)
def yK (rec:Nat→Option (Ex×Nat)) (g:Option (Nat×Bool)):List Operand→Nat→Option (List Ex×Nat)
  |[],pos=>some ([],pos)
  |x::xs,pos=>(yK rec g xs pos).bind fun (es,j)=>(QA ops V rec g x j).bind fun (e,j')=>some (e::es,j')
def qbj (rec : Nat → Option (Ex × Nat)) (o : Oper) (k : Nat) : Option (Ex × Nat) :=
  match qbo V o.op with
  | some (c, y, cv, want) =>
    match k,c,y with
    | p + 1, .tmp tc, .tmp ty =>
      match (ops[p]?).bind (·.guard) with
      |some (i,want')=>
        if want'=want∧vf ops p=some ty∧vf ops i=some tc∧(o.guard=none∨vE V c=true) then
          (rec p).bind fun (ey,jy)=>(QA ops V rec o.guard c jy).bind fun (ec,jc)=>some (if want then .ite ec ey (.const cv) else .ite ec (.const cv) ey,jc)
        else none
      |none=>none
    |_,_,_=>none
  |none=>
    match o.op with
    | .pick c a b=>if vE V a||vE V b then none else (QA ops V rec o.guard c k).bind fun (ec,jc)=>some (.ite ec (xy a) (xy b),jc)
    |op=>(qcf P op).bind fun p=>(yK ops V rec o.guard p.opds k).bind fun (es,j)=>(p.mk es).map fun e=>(e,j)
def px:Nat→Nat→Option (Ex×Nat)
  |0,_=>none
  |fuel+1,k=>(ops[k]?).bind fun o=>(qbj P ops V (px fuel) o k).bind fun (e,j)=>if vR o.guard j then some (e,j) else none
end
def PV (P:Program) (w:World) (o:Oper) (a:Act) (v:Value):Prop:=∀w',qb w w'→(execOp a.eval o).run P w'= .ok (.value v) w'
def PS (P : Program) (w : World) (ops : Array Oper) : List Nat → Act → (Act → Prop) → Prop
  |[],a,K=>K a
  |i::is,a,K=>match ops[i]? with
    |none=>PS P w ops is a K
    |some o=>if Region.wanted o (yielded ops a.tmps) then∃v,PV P w o a v∧PS P w ops is (a.put o.dst v) K else PS P w ops is (a.put o.dst undef) K
theorem kE {P : Program} {w : World} {ops : Array Oper} : ∀ (l m : List Nat) (a : Act) (K : Act → Prop), PS P w ops l a (fun c => PS P w ops m c K) → PS P w ops (l ++ m) a K
  |[],_,_,_,h=>h
  | i :: l, m, a, K, h => by
    simp only [List.cons_append,PS] at h⊢;split
    · rename_i e;simp only [e] at h;exact kE l m a K h
    · rename_i o e;simp only [e] at h;split
      · rename_i b;simp only [b,if_true] at h;obtain ⟨v,j,g⟩:=h;exact ⟨v,j,kE l m _ K g⟩
      · rename_i b;simp only [b] at h;exact kE l m _ K (by simpa using h)
def gS:Nat:=1000000000
def y8:Deferred→Value
  |⟨.collected r,_⟩=> .int .i64 r
  |⟨.fn f caps,args⟩=> .func f args caps
  |_=> .bool false
def qau (l:List Deferred):Value:= .tuple (l.map y8).toArray
def we (d:Deferred):Value→Value
  | .tuple vs=> .tuple (y8 d::vs.toList).toArray
  |v=>v
theorem qDv (d:Deferred) (l:List Deferred):we d (qau l)=qau (d::l):=by simp [we,qau]
def x8 (V:List Nat) (a:Act):qa:=fun i=>if i=gS then qau a.defers else if i∈V then a.tmps.getD i undef else undef
structure Agree (n:Nat) (V:List Nat) (ρ:qa) (a:Act):Prop where
  size:a.tmps.size=n
  env:ρ=x8 V a
  lt:∀i∈V,i<n
  big:n≤gS
theorem Agree.ne {n:Nat} {V:List Nat} {ρ:qa} {a:Act} (h:Agree n V ρ a) {i:Nat} (b:i∈V):i≠gS:=by
  have c:=h.lt i b;have e:=h.big;omega
theorem Agree.at {n:Nat} {V:List Nat} {ρ:qa} {a:Act} (h:Agree n V ρ a) {i:Nat} (b:i∈V):ρ i=a.tmps.getD i undef:=by
  rw [h.env];simp only [x8];rw [if_neg (h.ne b),if_pos b]
theorem Agree.ds {n:Nat} {V:List Nat} {ρ:qa} {a:Act} (h:Agree n V ρ a):ρ gS=qau a.defers:=by
  rw [h.env];simp [x8]
structure Fr (ops:Array Oper) (j k:Nat) (a a':Act):Prop where
  size:a'.tmps.size=a.tmps.size
  defers:a'.defers=a.defers
  keep:∀t,(∀i,j≤i→i<k→vf ops i≠some t)→a'.tmps[t]? =a.tmps[t]?
theorem Fr.refl (ops:Array Oper) (j k:Nat) (a:Act):Fr ops j k a a:=⟨rfl,rfl,fun _ _=>rfl⟩
theorem Fr.trans {ops:Array Oper} {i j k:Nat} {a b c:Act} (h:Fr ops i j a b) (g:Fr ops j k b c) (p:i≤j) (o:j≤k):Fr ops i k a c:=
  ⟨g.size.trans h.size,g.defers.trans h.defers,fun t l=>(g.keep t fun x m e=>l x (by omega) e).trans (h.keep t fun x m e=>l x m (by omega))⟩
theorem Fr.put {ops:Array Oper} {k:Nat} {o:Oper} (c:ops[k]? =some o) (a:Act) (v:Value):Fr ops k (k+1) a (a.put o.dst v):=by
  have i:vf ops k=o.dst:=by simp [vf,c]
  cases h:o.dst with
  |none=>exact Fr.refl _ _ _ _
  |some d=>
    refine ⟨by simp [Act.put],rfl,fun t g=> ?_⟩;have b:d≠t:=fun e=>g k (Nat.le_refl _) (by omega) (by rw [i,h,e]);simp [Act.put,b]
structure Region1 (n:Nat) (ops:Array Oper):Prop where
  once:∀i i' t,vf ops i=some t→vf ops i'=some t→i=i'
  lt:∀i t,vf ops i=some t→t<n
def qaH (ops:Array Oper) (V:List Nat) (j k:Nat):Prop:=∀i,j≤i→i<k→∀t,vf ops i=some t→t∉V
theorem Agree.fr {n:Nat} {V:List Nat} {ρ:qa} {a l:Act} {ops:Array Oper} {j k:Nat} (h:Agree n V ρ a) (g:Fr ops j k a l) (b:qaH ops V j k):Agree n V ρ l:=by
  refine ⟨g.size.trans h.size, ?_,h.lt,h.big⟩;rw [h.env];funext i;simp only [x8,g.defers];split
  · rfl
  · split
    · rename_i m;have:=g.keep i fun x o c e=>b x o c i e m;simp only [Array.getD_eq_getD_getElem?,this]
    · rfl
def jS (ops:Array Oper) (g:Option (Nat×Bool)) (a:Act):Bool:=match g with|none=>true|some (i,want)=>yielded ops a.tmps i==some want
theorem yp (ops:Array Oper) (o:Oper) (a:Act):Region.wanted o (yielded ops a.tmps)=jS ops o.guard a:=rfl
theorem qs7 {n:Nat} {ops:Array Oper} (h:Region1 n ops) {j k i:Nat} {a c:Act} (l:Fr ops j k a c) (o:i<j):yielded ops c.tmps i=yielded ops a.tmps i:=by
  simp only [yielded];cases b:vf ops i with
  |none=>simp only [vf] at b;simp [b]
  |some t=>
    have m:=l.keep t fun x p g e=>by have:=h.once _ _ _ b e;omega
    simp only [vf] at b;simp [b,m]
theorem wB {n:Nat} {ops:Array Oper} (h:Region1 n ops) {j k:Nat} {a b:Act} {g:Option (Nat×Bool)} (l:Fr ops j k a b) (e:vR g j=true):jS ops g b=jS ops g a:=by
  cases g with
  |none=>rfl
  |some p=>
    obtain ⟨i,c⟩:=p;simp only [vR,decide_eq_true_eq] at e;simp only [jS,qs7 h l e]
def qiD (ops:Array Oper) (V:List Nat) (x:Operand) (pos:Nat):Prop:=∀t,x= .tmp t→t∈V∨∃i,i<pos∧vf ops i=some t
theorem qhT {n:Nat} {ops:Array Oper} {V:List Nat} (m:Region1 n ops) {x:Operand} {pos j k:Nat} {a l:Act} (y:qiD ops V x pos) (o:Fr ops j k a l) (A:pos≤j) (b:qaH ops V j k):
    l.eval x=a.eval x:=by
  cases x with
  |tmp t=>
    have:l.tmps[t]? =a.tmps[t]? :=o.keep t fun i s c e=>by
      rcases y t rfl with h|⟨z,p,u⟩
      · exact b i s c t e h
      · have:=m.once _ _ _ e u;omega
    simp only [Act.eval,Array.getD_eq_getD_getElem?,this]
  |const v=>rfl
  |global g=>rfl
  |func f=>rfl
section
variable (P:Program) (ops:Array Oper) (V:List Nat) (n:Nat)
structure SemX (k:Nat) (e:Ex) (j:Nat):Prop where
  le:j≤k
  free:qaH ops V j k
  lt:∀o,ops[k]? =some o→vR o.guard j=true
  yes:∀o,ops[k]? =some o→∀(ρ:qa) (w:World) (a:Act) (v:Value),Agree n V ρ a→jS ops o.guard a=true→e.ev ρ w=some v→∀K:Act→Prop,
    (∀a',Fr ops j (k+1) a a'→(∀d,o.dst=some d→a'.tmps[d]? =some v)→K a')→PS P w ops (List.range' j (k+1 - j)) a K
  no:∀o,ops[k]? =some o→∀(w:World) (a:Act),a.tmps.size=n→jS ops o.guard a=false→∀K:Act→Prop,
    (∀a',Fr ops j (k+1) a a'→(∀d,o.dst=some d→a'.tmps[d]? =some undef)→K a')→PS P w ops (List.range' j (k+1 - j)) a K
structure SemL (g:Option (Nat×Bool)) (xs:List Operand) (pos:Nat) (es:List Ex) (j:Nat):Prop where
  le:j≤pos
  free:qaH ops V j pos
  safe:∀x∈xs,qiD ops V x pos
  yes:vR g j=true→∀(ρ:qa) (w:World) (a:Act) (vs:List Value),Agree n V ρ a→jS ops g a=true→es.map (·.ev ρ w)=vs.map some→∀K:Act→Prop,
    (∀a',Fr ops j pos a a'→xs.map a'.eval=vs→K a')→PS P w ops (List.range' j (pos - j)) a K
  no:vR g j=true→∀(w:World) (a:Act),a.tmps.size=n→jS ops g a=false→∀K:Act→Prop,
    (∀a',Fr ops j pos a a'→(∀x∈xs,vE V x=true→a'.eval x=undef)→K a')→PS P w ops (List.range' j (pos - j)) a K
end
theorem qlE {x:Option Value} {vs:List Value} (h:[x]=vs.map some):∃v,vs=[v]∧x=some v:=by
  cases vs with
  |nil=>cases h
  |cons v vs=>cases vs with
    |nil=>exact ⟨v,rfl,by simpa using h⟩
    |cons u a=>simp at h
theorem qdh {n:Nat} {V:List Nat} {ρ:qa} {a:Act} {w:World} {x:Operand} {v:Value} (h:Agree n V ρ a) (e:vE V x=false) (b:(xy x).ev ρ w=some v):a.eval x=v:=by
  cases x with
  |tmp t=>
    simp only [xy,Ex.ev,Option.some.injEq] at b;have c:t∈V:=by simpa [vE] using e
    rw [←b,h.at c];simp [Act.eval]
  |const u=>simpa [xy,Ex.ev,QY,Act.eval] using b
  |global g=>simpa [xy,Ex.ev,QY,Act.eval] using b
  |func f=>simpa [xy,Ex.ev,QY,Act.eval] using b
theorem qye {ops:Array Oper} {V:List Nat} {x:Operand} (a:vE V x=false) (pos:Nat):qiD ops V x pos:=fun t e=>by
  subst e;exact .inl (by simpa [vE] using a)
section
variable {P:Program} {ops:Array Oper} {V:List Nat} {n:Nat} {rec:Nat→Option (Ex×Nat)}
theorem qfI (_hr : Region1 n ops) (L : ∀ k e j, rec k = some (e, j) → SemX P ops V n k e j) {g : Option (Nat × Bool)} {x : Operand} {pos : Nat} {e : Ex} {j : Nat}
    (h:QA ops V rec g x pos=some (e,j)):SemL P ops V n g [x] pos [e] j:=by
  unfold QA at h;split at h
  · rename_i B;split at h
    · rename_i t p;split at h
      · rename_i hc;obtain ⟨X,W⟩:=hc;have O:=L _ _ _ h;obtain ⟨o,E,J⟩:∃o,ops[p]? =some o∧o.guard=g:=by
          cases E:ops[p]? with
          |none=>simp [E] at W
          |some o=>simp only [E,Option.map_some,Option.some.injEq] at W;exact ⟨o,rfl,W⟩
        have H:o.dst=some t:=by simpa [vf,E] using X
        have U:t∉V:=by simpa [vE] using B
        refine ⟨by have:=O.le;omega,fun i hi Q u F=> ?_,fun y A u F=> ?_,fun _ ρ w a vs ha l s K z=> ?_,fun _ w a I l K z=> ?_⟩
        · by_cases R:i=p
          · subst R;rw [X] at F;cases F;exact U
          · exact O.free i hi (by omega) u F
        · have b:y= .tmp t:=by simpa using A
          subst b;cases F;exact .inr ⟨p,by omega,X⟩
        · obtain ⟨v,rfl,c⟩:=qlE s;refine O.yes o E ρ w a v ha (by rw [J];exact l) c K fun S C Y=>z S C ?_;have:=Y t H;simp [Act.eval,Array.getD_eq_getD_getElem?,this]
        · refine O.no o E w a I (by rw [J];exact l) K fun S C Y=>z S C fun y A _=> ?_;have b:y= .tmp t:=by simpa using A
          subst b;simp [Act.eval,Array.getD_eq_getD_getElem?,Y t H]
      · cases h
    · cases h
  · rename_i B;have m:vE V x=false:=by simpa using B
    simp only [Option.some.injEq,Prod.mk.injEq] at h;obtain ⟨rfl,rfl⟩:=h;refine ⟨Nat.le_refl _,fun i hi Q=>by omega,fun y A=> ?_,fun _ ρ w a vs ha l s K z=> ?_,fun _ w a I l K z=> ?_⟩
    · have b:y=x:=by simpa using A
      subst b;exact qye m _
    · obtain ⟨v,rfl,c⟩:=qlE s;simp only [Nat.sub_self,List.range',PS];exact z a (Fr.refl _ _ _ _) (by simp [qdh ha m c])
    · simp only [Nat.sub_self,List.range',PS];refine z a (Fr.refl _ _ _ _) fun y A Z=> ?_;have b:y=x:=by simpa using A
      subst b;simp [m] at Z
theorem Qz {i j k:Nat} (a:i≤j) (b:j≤k):List.range' i (k - i)=List.range' i (j - i)++List.range' j (k - j):=by
  have h:= @List.range'_append_1 i (j - i) (k - j);rw [show i+(j - i)=j by omega,show (j - i)+(k - j)=k - i by omega] at h;exact h.symm
theorem qkJ (I : Region1 n ops) (B : ∀ k e j, rec k = some (e, j) → SemX P ops V n k e j) {g : Option (Nat × Bool)} : ∀ {xs : List Operand} {pos : Nat} {es : List Ex} {j : Nat},
    yK ops V rec g xs pos=some (es,j)→SemL P ops V n g xs pos es j
  |[],pos,es,j,h=>by
    simp only [yK,Option.some.injEq,Prod.mk.injEq] at h;obtain ⟨rfl,rfl⟩:=h;refine ⟨Nat.le_refl _,fun i W J=>by omega,fun y u=>(by cases u),fun _ ρ w a vs Z l m K E=> ?_,fun _ w a C l K E=> ?_⟩
    · simp only [Nat.sub_self,List.range',PS]
      match vs,m with
      |[],_=>exact E a (Fr.refl _ _ _ _) rfl
    · simp only [Nat.sub_self,List.range',PS];exact E a (Fr.refl _ _ _ _) fun y u=>by cases u
  | x :: xs, pos, es, j, h => by
    simp only [yK,Option.bind_eq_some_iff,Prod.exists,Option.some.injEq,Prod.mk.injEq] at h;obtain ⟨es',X,h1,e,j2,h2,rfl,rfl⟩:=h;have F:=qkJ I B h1;have A:=qfI I B h2;have l1:=F.le;have R:=A.le;refine ⟨by omega,fun i W J=> ?_,fun y u=> ?_,fun b ρ w a vs Z l m K E=> ?_,fun b w a C l K E=> ?_⟩
    · by_cases Y:i<X
      · exact A.free i W Y
      · exact F.free i (by omega) J
    · rcases List.mem_cons.1 u with rfl|u
      · intro t ht;rcases A.safe _ (List.mem_singleton.2 rfl) t ht with hh|⟨i,W,hd⟩
        · exact .inl hh
        · exact .inr ⟨i,by omega,hd⟩
      · exact F.safe y u
    · match vs,m with
      | v :: vs, m =>
        simp only [List.map_cons,List.cons.injEq] at m;obtain ⟨L,O⟩:=m;have s:vR g X=true:=by
          cases g with
          |none=>rfl
          |some p=>simp only [vR,decide_eq_true_eq] at b⊢;omega
        rw [Qz R l1];refine kE _ _ _ _ (A.yes b ρ w a [v] Z l (by simpa using L) _ fun U c z=> ?_);refine F.yes s ρ w U vs (Z.fr c A.free) (by rw [wB I c b];exact l) O _ fun S o H=> ?_;refine E S (c.trans o R l1) ?_;have h0:S.eval x=U.eval x:=qhT I (A.safe x (List.mem_singleton.2 rfl)) o (Nat.le_refl _) F.free;simp only [List.map_cons,List.cons.injEq,List.map_nil,and_true] at z;simp only [List.map_cons,h0,z,H]
    · have s:vR g X=true:=by
       cases g with
       |none=>rfl
       |some p=>simp only [vR,decide_eq_true_eq] at b⊢;omega
      rw [Qz R l1];refine kE _ _ _ _ (A.no b w a C l _ fun U c z=> ?_);refine F.no s w U (c.size.trans C) (by rw [wB I c b];exact l) _ fun S o H=> ?_;refine E S (c.trans o R l1) fun y u Q=> ?_;rcases List.mem_cons.1 u with rfl|u
      · rw [qhT I (A.safe y (List.mem_singleton.2 rfl)) o (Nat.le_refl _) F.free];exact z y (List.mem_singleton.2 rfl) Q
      · exact H y u Q
theorem qiF {w:World} {a:Act} {k:Nat} {o:Oper} (c:ops[k]? =some o) (b:jS ops o.guard a=true) {v:Value} (e:PV P w o a v) {K:Act→Prop} (h:K (a.put o.dst v)):PS P w ops [k] a K:=by
  simp only [PS,c,yp,b,if_true];exact ⟨v,e,h⟩
theorem qiE {w:World} {a:Act} {k:Nat} {o:Oper} (c:ops[k]? =some o) (b:jS ops o.guard a=false) {K:Act→Prop} (h:K (a.put o.dst undef)):PS P w ops [k] a K:=by
  simp only [PS,c,yp,b];exact h
theorem QB {a:Act} {o:Oper} {v:Value} (b:∀d,o.dst=some d→d<a.tmps.size):∀d,o.dst=some d→(a.put o.dst v).tmps[d]? =some v:=by
  intro d c;simp [Act.put,c,b d c]
theorem Qb (g:Region1 n ops) {k:Nat} {o:Oper} (c:ops[k]? =some o) {a:Act} (b:a.tmps.size=n):∀d,o.dst=some d→d<a.tmps.size:=by
  intro d e;rw [b];exact g.lt k d (by simp [vf,c,e])
theorem qxW {p:PO} {es:List Ex} {e:Ex} (h:p.mk es=some e) {ρ:qa} {w:World} {v:Value} (i:e.ev ρ w=some v):
    ∃vs,es.map (·.ev ρ w)=vs.map some∧∀f:Operand→Value,p.opds.map f=vs→p.val w f=some v:=by
  unfold PO.mk at h;split at h
  · cases h;exact ⟨[v],by simp [i],fun f g=>by simp only [PO.opds,List.map_cons,List.map_nil,List.cons.injEq,and_true] at g;simp [PO.val,qS,g]⟩
  · cases h;simp only [Ex.ev,Option.bind_eq_some_iff] at i;obtain ⟨a,j,i⟩:=i;exact ⟨[a],by simp [j],fun f g=>by simp only [PO.opds,List.map_cons,List.map_nil,List.cons.injEq,and_true] at g;simp [PO.val,g,i]⟩
  · cases h;simp only [Ex.ev,Option.bind_eq_some_iff] at i;obtain ⟨a,j,b,k,i⟩:=i;exact ⟨[a,b],by simp [j,k],fun f g=>by simp only [PO.opds,List.map_cons,List.map_nil,List.cons.injEq,and_true] at g;simp [PO.val,g.1,g.2,i]⟩
  · cases h;simp only [Ex.ev,Option.bind_eq_some_iff] at i;obtain ⟨a,j,b,k,c,l,i⟩:=i;exact ⟨[a,b,c],by simp [j,k,l],fun f g=>by simp only [PO.opds,List.map_cons,List.map_nil,List.cons.injEq,and_true] at g;simp [PO.val,g.1,g.2.1,g.2.2,i]⟩
  · cases h;simp only [Ex.ev,Option.bind_eq_some_iff] at i;obtain ⟨a,j,b,k,c,l,d,m,i⟩:=i;exact ⟨[a,b,c,d],by simp [j,k,l,m],fun f g=>by simp only [PO.opds,List.map_cons,List.map_nil,List.cons.injEq,and_true] at g;simp [PO.val,g.1,g.2.1,g.2.2.1,g.2.2.2,i]⟩
  · cases h
theorem yI {j k:Nat} (h:j≤k):List.range' j (k+1 - j)=List.range' j (k - j)++[k]:=by
  have:=Qz (i:=j) (j:=k) (k:=k+1) h (by omega);simpa using this
theorem qwH {op:Op} {c y:Operand} {b:Value} {a:Bool} (h:qbo V op=some (c,y,b,a)):
    vE V y=true∧((a=false∧op= .pick c (.const b) y)∨(a=true∧op= .pick c y (.const b))):=by
  unfold qbo at h;split at h
  · split at h
    · rename_i e;cases h;exact ⟨e, .inl ⟨rfl,rfl⟩⟩
    · cases h
  · split at h
    · rename_i e;cases h;exact ⟨e, .inr ⟨rfl,rfl⟩⟩
    · cases h
  · cases h
theorem qwx (O : Region1 n ops) (hrec : ∀ k e j, rec k = some (e, j) → SemX P ops V n k e j) {k : Nat} {o : Oper} (S : ops[k]? = some o) {e : Ex} {j : Nat}
    (h:qbj P ops V rec o k=some (e,j)) (l:vR o.guard j=true):SemX P ops V n k e j:=by
  have U:∀z,ops[k]? =some z→z=o:=fun z Q=>Option.some.inj (Q.symm.trans S);unfold qbj at h;split at h
  ·
    rename_i c y cv want hsh;obtain ⟨hfy,J⟩:=qwH hsh;split at h
    · rename_i p tc ty;split at h
      · rename_i i A hgp;split at h
        · rename_i hc;obtain ⟨rfl,hdp,hdi,hcf⟩:=hc;simp only [Option.bind_eq_some_iff,Prod.exists,Option.some.injEq,Prod.mk.injEq] at h;obtain ⟨ey,jy,hy,ec,jc,hcx,rfl,rfl⟩:=h;have sy:=hrec _ _ _ hy;have sc:=qfI O hrec hcx;obtain ⟨ab,Y,hgo'⟩:∃z,ops[p]? =some z∧z.guard=some (i,A):=by
            cases hp:ops[p]? with
            |none=>simp [hp] at hgp
            |some z=>simp only [hp,Option.bind_some] at hgp;exact ⟨z,rfl,hgp⟩
          have hdop:ab.dst=some ty:=by simpa [vf,Y] using hdp
          have lty:=sy.lt ab Y;rw [hgo'] at lty;simp only [vR,decide_eq_true_eq] at lty;have ly:=sy.le;have lc:=sc.le;have htyV:ty∉V:=by simpa [vE] using hfy
          have free_y:qaH ops V jy (p+1):=fun x hx hx' t ht=>by
            by_cases hxp:x=p
            · subst hxp;rw [hdp] at ht;cases ht;exact htyV
            · exact sy.free x hx (by omega) t ht
          have hltp:vR o.guard (p+1)=true:=by
            cases hg:o.guard with
            |none=>rfl
            |some q=>rw [hg] at l;simp only [vR,decide_eq_true_eq] at l⊢;omega
          have hyield:∀(C:Act) (b:Bool),C.tmps.size=n→C.eval (.tmp tc)= .bool b→yielded ops C.tmps i=some b:=by
            intro C b L hb;have hdi':((ops[i]?).bind (·.dst))=some tc:=hdi;have htc:tc<C.tmps.size:=by rw [L];exact O.lt _ _ hdi
            simp only [Act.eval,Array.getD_eq_getD_getElem?] at hb;simp only [yielded,hdi',Option.bind_some];cases hg:C.tmps[tc]? with
            |none=>simp [Array.getElem?_eq_getElem htc] at hg
            |some u=>simp only [hg,Option.getD_some] at hb;subst hb;rfl
          refine ⟨by omega,fun x hx hx' t ht=> ?_,fun z Q=>by rw [U z Q];exact l,fun z Q ρ w a v ha s B K hK=> ?_,fun z Q w a L s K hK=> ?_⟩
          · by_cases hxj:x<jy
            · exact sc.free x hx hxj t ht
            · exact free_y x (by omega) hx' t ht
          · obtain rfl:=U z Q;obtain ⟨R,hcb⟩:∃R,ec.ev ρ w=some (.bool R)∧(if R=A then ey.ev ρ w=some v else v=cv):=by
              cases A<;>simp only [Bool.false_eq_true,if_false,if_true,Ex.ev,Option.bind_eq_some_iff,QD] at B<;>obtain ⟨u,hu,B⟩:=B<;>
                (split at B
                 · exact ⟨true,hu,by simpa [eq_comm] using B⟩
                 · exact ⟨false,hu,by simpa [eq_comm] using B⟩
                 · cases B)
            obtain ⟨hcb,m⟩:=hcb;rw [yI (by omega),Qz (j:=jy) lc (by omega)];refine kE _ _ _ _ (kE _ _ _ _ (sc.yes l ρ w a [.bool R] ha s (by simp [hcb]) _ fun C g E=> ?_));simp only [List.map_cons,List.map_nil,List.cons.injEq,and_true] at E;have H:C.tmps.size=n:=g.size.trans ha.size;have Z:=ha.fr g sc.free;have hyl:=hyield C R H E;have hgy:jS ops ab.guard C=(R==A):=by rw [hgo'];simp only [jS,hyl];cases R<;>cases A<;>rfl
            have X:jS ops z.guard C=true:=by rw [wB O g l];exact s
            have fin:∀W,Fr ops jy (p+1) C W→(if R=A then W.tmps[ty]? =some v else W.tmps[ty]? =some undef)→PS P w ops [p+1] W K:=by
              intro W F aa;have hcv:W.eval (.tmp tc)= .bool R:=(qhT O (sc.safe _ (List.mem_singleton.2 rfl)) F (Nat.le_refl _) free_y).trans E;have hlty:vR z.guard jy=true:=by
                cases hg:z.guard with
                |none=>rfl
                |some q=>rw [hg] at l;simp only [vR,decide_eq_true_eq] at l⊢;omega
              have I:jS ops z.guard W=true:=by rw [wB O F hlty];exact X
              refine qiF S I (v:=v) (fun w' _=> ?_) (hK _ ((g.trans F lc (by omega)).trans (Fr.put S W v) (by omega) (by omega)) (QB (Qb O S (F.size.trans H))));have hyv:R=A→W.eval (.tmp ty)=v:=fun e=>by
                simp only [e,if_true] at aa;simp [Act.eval,Array.getD_eq_getD_getElem?,aa]
              rcases J with ⟨rfl,J⟩|⟨rfl,J⟩
              · cases R
                · simp [execOp,J,hcv,asBool,hyv rfl]
                · simp only [Bool.true_eq_false,if_false] at m;subst m;have hcst:W.eval (.const v)=v:=rfl;simp [execOp,J,hcv,asBool,hcst]
              · cases R
                · simp only [Bool.false_eq_true,if_false] at m;subst m;have hcst:W.eval (.const v)=v:=rfl;simp [execOp,J,hcv,asBool,hcst]
                · simp [execOp,J,hcv,asBool,hyv rfl]
            by_cases hcw:R=A
            · simp only [hcw,if_true] at m;refine sy.yes ab Y ρ w C v Z (by rw [hgy,hcw];simp) m _ fun W F aa=>fin W F ?_;rw [if_pos hcw];exact aa ty hdop
            · refine sy.no ab Y w C H (by rw [hgy];simpa using hcw) _ fun W F aa=>fin W F ?_;rw [if_neg hcw];exact aa ty hdop
          · obtain rfl:=U z Q;have hcf':vE V (.tmp tc)=true:=by
              rcases hcf with hcf|hcf
              · rw [hcf] at s;cases s
              · exact hcf
            rw [yI (by omega),Qz (j:=jy) lc (by omega)];refine kE _ _ _ _ (kE _ _ _ _ (sc.no l w a L s _ fun C g E=> ?_));have H:C.tmps.size=n:=g.size.trans L;have hcu:C.eval (.tmp tc)=undef:=E _ (List.mem_singleton.2 rfl) hcf';have hgy:jS ops ab.guard C=false:=by
              rw [hgo'];have hdi':((ops[i]?).bind (·.dst))=some tc:=hdi;have htc:tc<C.tmps.size:=by rw [H];exact O.lt _ _ hdi
              simp only [jS,yielded,hdi',Option.bind_some];simp only [Act.eval,Array.getD_eq_getD_getElem?] at hcu;cases hg:C.tmps[tc]? with
              |none=>simp [Array.getElem?_eq_getElem htc] at hg
              |some u=>simp only [hg,Option.getD_some] at hcu;subst hcu;rfl
            refine sy.no ab Y w C H hgy _ fun W F aa=> ?_;have hlty:vR z.guard jy=true:=by
              cases hg:z.guard with
              |none=>rfl
              |some q=>rw [hg] at l;simp only [vR,decide_eq_true_eq] at l⊢;omega
            have I:jS ops z.guard W=false:=by rw [wB O F hlty,wB O g l];exact s
            exact qiE S I (hK _ ((g.trans F lc (by omega)).trans (Fr.put S W _) (by omega) (by omega)) (QB (Qb O S (F.size.trans H))))
        · cases h
      · cases h
    · cases h
  · split at h
    ·
      rename_i c x y J;split at h
      · cases h
      · rename_i hxy;simp only [Bool.or_eq_true,not_or,Bool.not_eq_true] at hxy;simp only [Option.bind_eq_some_iff,Prod.exists,Option.some.injEq,Prod.mk.injEq] at h;obtain ⟨ec,jc,hcx,rfl,rfl⟩:=h;have sc:=qfI O hrec hcx;have lc:=sc.le;refine ⟨sc.le,sc.free,fun z Q=>by rw [U z Q];exact l,fun z Q ρ w a v ha s B K hK=> ?_,fun z Q w a L s K hK=> ?_⟩
        · obtain rfl:=U z Q;simp only [Ex.ev,Option.bind_eq_some_iff,QD] at B;obtain ⟨u,hu,B⟩:=B;obtain ⟨R,rfl,m⟩:∃R,u= .bool R∧(if R then (xy x).ev ρ w=some v else (xy y).ev ρ w=some v):=by
            split at B
            · exact ⟨true,rfl,B⟩
            · exact ⟨false,rfl,by simpa using B⟩
            · cases B
          rw [yI lc];refine kE _ _ _ _ (sc.yes l ρ w a [.bool R] ha s (by simp [hu]) _ fun C g E=> ?_);simp only [List.map_cons,List.map_nil,List.cons.injEq,and_true] at E;have Z:=ha.fr g sc.free;have X:jS ops z.guard C=true:=by rw [wB O g l];exact s
          refine qiF S X (v:=v) (fun w' _=> ?_) (hK _ (g.trans (Fr.put S C v) lc (by omega)) (QB (Qb O S Z.size)));cases R
          · simp only [Bool.false_eq_true,if_false] at m;simp [execOp,J,E,asBool,qdh Z hxy.2 m]
          · simp only [if_true] at m;simp [execOp,J,E,asBool,qdh Z hxy.1 m]
        · obtain rfl:=U z Q;rw [yI lc];refine kE _ _ _ _ (sc.no l w a L s _ fun C g E=> ?_);have I:jS ops z.guard C=false:=by rw [wB O g l];exact s
          exact qiE S I (hK _ (g.trans (Fr.put S C _) lc (by omega)) (QB (Qb O S (g.size.trans L))))
    · rename_i J;simp only [Option.bind_eq_some_iff,Prod.exists,Option.map_eq_some_iff,Prod.mk.injEq] at h;obtain ⟨p,hp,es,j',hes,e',hmk,rfl,rfl⟩:=h;have sc:=qkJ O hrec hes;have lc:=sc.le;refine ⟨sc.le,sc.free,fun z Q=>by rw [U z Q];exact l,fun z Q ρ w a v ha s B K hK=> ?_,fun z Q w a L s K hK=> ?_⟩
      · obtain rfl:=U z Q;obtain ⟨vs,hvs,m⟩:=qxW hmk B;rw [yI lc];refine kE _ _ _ _ (sc.yes l ρ w a vs ha s hvs _ fun C g E=> ?_);have Z:=ha.fr g sc.free;have X:jS ops z.guard C=true:=by rw [wB O g l];exact s
        refine qiF S X (v:=v) (fun w' hw'=> ?_) (hK _ (g.trans (Fr.put S C v) lc (by omega)) (QB (Qb O S Z.size)));exact qtz hp (fun _=>rfl) (PO.val_ext hw' (m C.eval E))
      · obtain rfl:=U z Q;rw [yI lc];refine kE _ _ _ _ (sc.no l w a L s _ fun C g E=> ?_);have I:jS ops z.guard C=false:=by rw [wB O g l];exact s
        exact qiE S I (hK _ (g.trans (Fr.put S C _) lc (by omega)) (QB (Qb O S (g.size.trans L))))
end
theorem qcP {P:Program} {ops:Array Oper} {V:List Nat} {n:Nat} (g:Region1 n ops):∀(a k:Nat) (e:Ex) (j:Nat),px P ops V a k=some (e,j)→SemX P ops V n k e j
  |0,_,_,_,h=>by cases h
  |a+1,k,e,j,h=>by
    simp only [px,Option.bind_eq_some_iff,Prod.exists] at h;obtain ⟨o,i,p,m,l,c⟩:=h;split at c
    · rename_i b;cases c;exact qwx g (qcP g a) i l b
    · cases c
end Go.Eng
