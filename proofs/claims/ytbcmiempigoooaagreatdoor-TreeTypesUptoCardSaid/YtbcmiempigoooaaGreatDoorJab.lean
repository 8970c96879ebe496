/- Texts of mine for the claims about layer 2 (tree), joined: EngB. -/
import Derived.Test.YtbcmiempigoooaaGreatDoorJaa
import Derived.Laws.BytesString
set_option linter.all false
set_option linter.unusedSimpArgs false
set_option linter.unusedVariables false
namespace Go.Eng
open Go.RowKit
theorem isSl_cases {v:Value} (h:isSl v=true):(∃b o n c,v= .slice (some ⟨b,o,none⟩) n c∧n≤c)∨v= .slice none 0 0∨∃b o s,v= .slice (some ⟨b,o,some s⟩) 0 0:=by
  unfold isSl at h
  split at h
  · rename_i b o n c;exact .inl ⟨b,o,n,c,rfl,by simpa using h⟩
  · rename_i b o s;exact .inr (.inr ⟨b,o,s,rfl⟩)
  · exact .inr (.inl rfl)
  · cases h
theorem run_rowAt {P:Program} (w:World) (a:Addr):∀(n i:Nat) (l:List Value) (acc:Array Value),rowAt w a i n=some l→
    (loadCellsFrom a i n acc).run P w= .ok (acc++l.toArray) w
  |0,i,l,acc,h=>by
    simp only [rowAt,Option.some.injEq] at h;subst h
    simp [loadCellsFrom]
  |n+1,i,l,acc,h=>by
    simp only [rowAt,Option.bind_eq_some_iff,Option.some.injEq] at h
    obtain ⟨v,hv,l',hl',rfl⟩:=h
    have ih:=run_rowAt (P:=P) w a n (i+1) l' (acc.push v) hl'
    simp only [loadCellsFrom,load,Sem.run_bind]
    rw [show (Sem.load Mode.plain (a.add i) Sem.pure).run P w= .ok v w by simp [Sem.run,hv]]
    simp only [Result.andThen_ok]
    rw [ih]
    simp
theorem run_info {P:Program} {t:TypeId} {i:TypeInfo} (h:P.info? t=some i) (w:World):(typeInfo t).run P w= .ok i w:=by
  simp [typeInfo,h]
theorem run_size {P:Program} {t:TypeId} {i:TypeInfo} (h:P.info? t=some i) (w:World):(sizeOf t).run P w= .ok i.size w:=by
  simp [sizeOf,run_info h]
theorem run_isAgg {P:Program} {t:TypeId} {b:Bool} (h:isAggT P t=some b) (w:World):(isAgg t).run P w= .ok b w:=by
  unfold isAggT at h
  cases hu:P.underlying t with
  |none=>simp [hu] at h
  |some d=>
    simp only [hu] at h
    simp only [isAgg,Sem.run_bind,run_underlying hu,Result.andThen_ok]
    cases d<;>simp_all
theorem run_eqGuard_int {P:Program} (w:World) (op:BinOp) (t:TypeId) (x y:Operand) (k k':IntKind) (a b:Int):
    (eqGuard op t x y (.int k a) (.int k' b)).run P w= .ok () w:=by
  unfold eqGuard;cases op<;>simp
theorem run_eqGuard_str {P:Program} (w:World) (op:BinOp) (t:TypeId) (x y:Operand) (a b:ByteArray):
    (eqGuard op t x y (.string a) (.string b)).run P w= .ok () w:=by
  unfold eqGuard;cases op<;>simp
theorem run_eqGuard_bool {P:Program} (w:World) (op:BinOp) (t:TypeId) (x y:Operand) (a b:Bool):
    (eqGuard op t x y (.bool a) (.bool b)).run P w= .ok () w:=by
  unfold eqGuard;cases op<;>simp
theorem data_inj (x y:ByteArray):x.data=y.data↔x=y:=by
  constructor
  · intro h;cases x;cases y;congr
  · rintro rfl;rfl
theorem data_beq (x y:ByteArray):(x.data==y.data)=decide (x=y):=by
  rw [Bool.eq_iff_iff];simp [data_inj]
theorem run_sliceBounds {P:Program} (w:World) (b:Bool) (len cap:Nat) (kl kh:IntKind) (l h:Int) (h0:0≤l) (h1:l≤h) (h2:h≤cap):
    (Instr.sliceBounds b len cap (some (.int kl l)) (some (.int kh h)) none).run P w= .ok (l.toNat,h.toNat,cap) w:=by
  have:(h.toNat:Int)=h:=Int.toNat_of_nonneg (by omega)
  simp [Instr.sliceBounds,run_sliceBound, *,(by omega:(0:Int)≤h)]
theorem run_sliceBounds_l {P:Program} (w:World) (b:Bool) (len cap:Nat) (kl:IntKind) (l:Int) (h0:0≤l) (h1:l≤len):
    (Instr.sliceBounds b len cap (some (.int kl l)) none none).run P w= .ok (l.toNat,len,cap) w:=by
  simp [Instr.sliceBounds,run_sliceBound, *]
theorem run_sliceBounds_0 {P:Program} (w:World) (b:Bool) (len cap:Nat):
    (Instr.sliceBounds b len cap none none none).run P w= .ok (0,len,cap) w:=by
  simp [Instr.sliceBounds]
theorem run_sliceBounds_h {P:Program} (w:World) (b:Bool) (len cap:Nat) (kh:IntKind) (h:Int) (h1:0≤h) (h2:h≤cap):
    (Instr.sliceBounds b len cap none (some (.int kh h)) none).run P w= .ok (0,h.toNat,cap) w:=by
  simp [Instr.sliceBounds,run_sliceBound, *]
theorem run_sliceBounds_m {P:Program} (w:World) (b:Bool) (len cap:Nat) (kl kh km:IntKind) (l h m:Int) (h0:0≤l) (h1:l≤h) (h2:h≤m) (h3:m≤cap):
    (Instr.sliceBounds b len cap (some (.int kl l)) (some (.int kh h)) (some (.int km m))).run P w= .ok (l.toNat,h.toNat,m.toNat) w:=by
  have e1:(h.toNat:Int)=h:=Int.toNat_of_nonneg (by omega)
  have e2:(m.toNat:Int)=m:=Int.toNat_of_nonneg (by omega)
  simp [Instr.sliceBounds,run_sliceBound, *,(by omega:(0:Int)≤h),(by omega:(0:Int)≤m)]
theorem run_sliceBounds_m0 {P:Program} (w:World) (b:Bool) (len cap:Nat) (kh km:IntKind) (h m:Int) (h1:0≤h) (h2:h≤m) (h3:m≤cap):
    (Instr.sliceBounds b len cap none (some (.int kh h)) (some (.int km m))).run P w= .ok (0,h.toNat,m.toNat) w:=by
  have e2:(m.toNat:Int)=m:=Int.toNat_of_nonneg (by omega)
  simp [Instr.sliceBounds,run_sliceBound, *,(by omega:(0:Int)≤m)]
theorem run_slice_of {P:Program} (w:World) {t e:TypeId} {i:TypeInfo} (ht:P.underlying t=some (.slice e)) (hi:P.info? e=some i) {v:Value} (hv:isSl v=true)
    {lo hi' mx:Option Value} {l h m:Nat} (hb:(Instr.sliceBounds true (slLen v) (slCap v) lo hi' mx).run P w= .ok (l,h,m) w):
    (Instr.sliceAt t v lo hi' mx).run P w= .ok (slSub v i.size l h m) w:=by
  have hs:(Instr.sliceAt t v lo hi' mx).run P w=(Instr.slice t v lo hi' mx).run P w:=by simp [Instr.sliceAt,run_underlying ht]
  rw [hs]
  rcases isSl_cases hv with ⟨b,o,n,c,rfl,_⟩|rfl|⟨b,o,s,rfl⟩<;>
    (simp only [slLen,slCap] at hb;simp [Instr.slice,run_underlying ht,hb,run_size hi,slSub])
theorem run_slice_st {P:Program} (w:World) {t:TypeId} (ht:P.underlying t=some .string) (s:ByteArray)
    {lo hi':Option Value} {l h m:Nat} (hb:(Instr.sliceBounds false s.size s.size lo hi' none).run P w= .ok (l,h,m) w):
    (Instr.sliceAt t (.string s) lo hi' none).run P w= .ok (.string (s.extract l h)) w:=by
  simp [Instr.sliceAt,Instr.slice,run_underlying ht,hb]
section
variable {P:Program} {w:World} {f:Operand→Value} {v:Value} {dst:Option Tmp} {type:TypeId} {pos:String} {after:Array Edge} {guard:Option (Nat×Bool)}
theorem pv1_ptr {k:K1} {x:Value} (h:pv1 w k x=some v) (hk:(∃n,k= .loadN n)∨k= .load1∨(∃o,k= .fadr o)):∃a,x= .pointer (some a):=by
  rcases hk with ⟨n,rfl⟩|rfl|⟨o,rfl⟩<;>(cases x<;>first|(cases h;done)|skip)<;>rename_i a<;>cases a<;>first|(cases h;done)|exact ⟨_,rfl⟩
theorem run_load1 {t:TypeId} {a:Operand} (ha:isAggT P t=some false) (hv:pv1 w .load1 (f a)=some v):
    (execOp f ⟨dst, .load t a,type,pos,after,guard⟩).run P w= .ok (.value v) w:=by
  obtain ⟨ad,hx⟩:=pv1_ptr hv (.inr (.inl rfl))
  rw [hx] at hv
  have hv':w.cell? ad=some v:=hv
  have h1:(load ad).run P w= .ok v w:=by simp [load,Sem.run,hv']
  have h2:=run_isAgg (P:=P) ha w
  simp only [execOp,hx,Instr.loadAt,Instr.sureAddr,loadVar,Sem.run_bind,Sem.run_pure,Result.andThen_ok,h2,Bool.false_eq_true,if_false,h1]
theorem run_loadN {t:TypeId} {i:TypeInfo} {a:Operand} (ha:isAggT P t=some true) (hi:P.info? t=some i) (hv:pv1 w (.loadN i.size) (f a)=some v):
    (execOp f ⟨dst, .load t a,type,pos,after,guard⟩).run P w= .ok (.value v) w:=by
  obtain ⟨ad,hx⟩:=pv1_ptr hv (.inl ⟨_,rfl⟩)
  rw [hx] at hv
  obtain ⟨l,hl,rfl⟩:=Option.map_eq_some_iff.1 (show (rowAt w ad 0 i.size).map _=some v from hv)
  have h1:=run_rowAt (P:=P) w ad i.size 0 l #[] hl
  have h2:=run_isAgg (P:=P) ha w
  simp only [execOp,hx,Instr.loadAt,Instr.sureAddr,loadVar,loadCells,Sem.run_bind,Sem.run_pure,Result.andThen_ok,h2,if_true,run_size hi,h1]
  simp
theorem run_shf {op:BinOp} {t yt:TypeId} {x y:Operand} (hop:op= .shl∨op= .shr) (hv:pv2 w (.shf op) (f x) (f y)=some v):
    (execOp f ⟨dst, .binOp op t x y yt,type,pos,after,guard⟩).run P w= .ok (.value v) w:=by
  cases hx:f x<;>simp only [hx] at hv<;>first|(cases hv;done)|skip
  cases hy:f y<;>simp only [hy] at hv<;>first|(cases hv;done)|skip
  simp only [pv2,shfBin] at hv
  split at hv
  · cases hv
  · rename_i hneg
    rcases hop with rfl|rfl<;>(simp only [Option.some.injEq] at hv;subst hv;simp [execOp,hx,hy,run_eqGuard_int,binOp,Op.shift,hneg])
theorem run_ibin {op : BinOp} {k : IntKind} {t yt : TypeId} {x y : Operand} (hop : ¬ (op = .shl ∨ op = .shr)) (hv : pv2 w (.ibin op k) (f x) (f y) = some v) :
    (execOp f ⟨dst, .binOp op t x y yt,type,pos,after,guard⟩).run P w= .ok (.value v) w:=by
  cases hx:f x<;>simp only [hx] at hv<;>first|(cases hv;done)|skip
  cases hy:f y<;>simp only [hy] at hv<;>first|(cases hv;done)|skip
  simp only [pv2] at hv
  split at hv
  · rename_i hk
    subst hk
    cases op<;>simp only [intBin] at hv<;>
      first
        |(cases hv;simp [execOp,hx,hy,run_eqGuard_int,binOp,Op.intArith,Op.intBits,Op.intCmp];done)
        |(exfalso;simp at hop;done)
        | (split at hv
           · cases hv
           · rename_i hz;cases hv;simp [execOp,hx,hy,run_eqGuard_int,binOp,Op.intDiv,hz])
  · cases hv
theorem run_sbin {op:BinOp} {t yt:TypeId} {x y:Operand} (hv:pv2 w (.sbin op) (f x) (f y)=some v):
    (execOp f ⟨dst, .binOp op t x y yt,type,pos,after,guard⟩).run P w= .ok (.value v) w:=by
  cases hx:f x<;>simp only [hx] at hv<;>first|(cases hv;done)|skip
  cases hy:f y<;>simp only [hy] at hv<;>first|(cases hv;done)|skip
  rename_i sx sy
  simp only [pv2] at hv
  cases op <;> simp only [strBin] at hv <;>
    first
      |(cases hv;simp [execOp,hx,hy,run_eqGuard_str,binOp,Op.stringOp,ByteArray.toList_eq,data_beq];done)
      | (split at hv
         · rename_i hz;cases hv
           have hz':¬((sx.size+sy.size:Nat):Int)>IntKind.i64.max:=by
             simp only [maxLen] at hz
             simp [IntKind.max,IntKind.bits,IntKind.signed];omega
           simp only [execOp,hx,hy,binOp,Op.stringOp,Sem.run_bind,run_eqGuard_str,Result.andThen_ok]
           rw [if_neg hz']
           simp
         · cases hv)
      |(cases hv;done)
theorem run_bbin {op:BinOp} {t yt:TypeId} {x y:Operand} (hu:P.underlying t=some .bool) (hv:pv2 w (.bbin op) (f x) (f y)=some v):
    (execOp f ⟨dst, .binOp op t x y yt,type,pos,after,guard⟩).run P w= .ok (.value v) w:=by
  cases op<;>first|(cases hv;done)|skip
  all_goals
    cases hx:f x<;>simp only [hx] at hv<;>first|(cases hv;done)|skip
    cases hy:f y<;>simp only [hy] at hv<;>first|(cases hv;done)|skip
  · cases hv;simp [execOp,hx,hy,run_eqGuard_bool,run_eql_bool w t _ _ hu]
  · cases hv;simp [execOp,hx,hy,run_eqGuard_bool,run_neq_bool w t _ _ hu]
theorem run_un {op:UnOp} {k:K1} {t:TypeId} {x:Operand} (hk:(op= .not∧k= .not)∨(op= .neg∧k= .neg)∨(op= .xor∧k= .bnot)) (hv:pv1 w k (f x)=some v):
    (execOp f ⟨dst, .unOp op t x,type,pos,after,guard⟩).run P w= .ok (.value v) w:=by
  rcases hk with ⟨rfl,rfl⟩|⟨rfl,rfl⟩|⟨rfl,rfl⟩<;>
    (cases hx:f x<;>simp only [hx] at hv<;>first|(cases hv;done)|skip)<;>
    (cases hv;simp [execOp,hx,Op.unary,Op.intArith,Op.intBits])
theorem run_conv {k:IntKind} {s d:TypeId} {ds:TypeDesc} {x:Operand} (hs:P.underlying s=some ds) (hd:P.underlying d=some (.int k)) (hv:pv1 w (.conv k) (f x)=some v):
    (execOp f ⟨dst, .convert s d x,type,pos,after,guard⟩).run P w= .ok (.value v) w:=by
  cases hx:f x<;>simp only [hx] at hv<;>first|(cases hv;done)|skip
  cases hv
  simp [execOp,hx,convert,run_underlying hs,run_underlying hd,Conv.intToInt]
theorem run_strid {s d:TypeId} {x:Operand} (hs:P.underlying s=some .string) (hd:P.underlying d=some .string) (hv:pv1 w .strid (f x)=some v):
    (execOp f ⟨dst, .convert s d x,type,pos,after,guard⟩).run P w= .ok (.value v) w:=by
  cases hx:f x<;>simp only [hx] at hv<;>first|(cases hv;done)|skip
  cases hv
  simp [execOp,hx,convert,run_underlying hs,run_underlying hd]
theorem byteNums_map:∀(l:List Value) (ns:List Int),byteNums l=some ns→l=ns.map (Value.int .u8)
  |[],ns,h=>by simp only [byteNums,Option.some.injEq] at h;subst h;rfl
  | x :: l, ns, h => by
    unfold byteNums at h
    split at h
    · rename_i e;cases e
    · rename_i n l' e
      cases e
      obtain ⟨m,hm,rfl⟩:=Option.map_eq_some_iff.1 h
      rw [byteNums_map l m hm];rfl
    · cases h
theorem run_b2s {s d e:TypeId} {x:Operand} (hs:P.underlying s=some (.slice e)) (hd:P.underlying d=some .string) (he:P.underlying e=some (.int .u8)) (hv:pv1 w .b2s (f x)=some v):
    (execOp f ⟨dst, .convert s d x,type,pos,after,guard⟩).run P w= .ok (.value v) w:=by
  have hv':(if isSl (f x)=true then (rowAt w (slAddr (f x) 0) 0 (slLen (f x))).bind fun l=>(byteNums l).map fun ns=>Value.string (bytesFrom ns) else none)=some v:=hv
  split at hv'
  · rename_i hsl
    obtain ⟨l,hl,h2⟩:=Option.bind_eq_some_iff.1 hv'
    obtain ⟨ns,hns,rfl⟩:=Option.map_eq_some_iff.1 h2
    rcases isSl_cases hsl with ⟨b,o,n,c,hx,_⟩|hx|⟨b,o,sp,hx⟩
    rotate_left 2
    · rw [hx] at hl
      simp only [slLen,rowAt,Option.some.injEq] at hl
      subst hl
      simp only [byteNums,Option.some.injEq] at hns
      subst hns
      have h4:=run_bytesToString (P:=P) w ⟨b,o,some sp⟩ 0 0 [] (by simp [loadCells,loadCellsFrom])
      simp only [execOp,hx,Sem.run_bind,run_convert_bytes_string w s d e _ 0 0 hs he hd,h4,Result.andThen_ok]
      rfl
    · rw [hx] at hl
      simp only [slAddr,slLen,Nat.add_zero] at hl
      have h3:=run_rowAt (P:=P) w _ _ 0 l #[] hl
      rw [byteNums_map l ns hns] at h3
      have h4:=run_bytesToString (P:=P) w ⟨b,o,none⟩ n c ns (by simpa [loadCells] using h3)
      simp only [execOp,hx,Sem.run_bind,run_convert_bytes_string w s d e _ n c hs he hd,h4,Result.andThen_ok]
      rfl
    · rw [hx] at hl
      simp only [slLen,rowAt,Option.some.injEq] at hl
      subst hl
      simp only [byteNums,Option.some.injEq] at hns
      subst hns
      simp only [execOp,hx,Sem.run_bind,run_convert_bytes_string w s d e _ 0 0 hs he hd]
      simp [Conv.bytesToString,bytesFrom]
  · cases hv'
theorem run_slLo {t e : TypeId} {i : TypeInfo} {x : Operand} {lo : Option Operand} (ht : P.underlying t = some (.slice e)) (hi : P.info? e = some i) (hf : ∀ v, f (.const v) = v)
    (hv:pv2 w (.slLo i.size) (f x) (f (lo.getD zero0))=some v):
    (execOp f ⟨dst, .slice t x lo none none,type,pos,after,guard⟩).run P w= .ok (.value v) w:=by
  cases hy:f (lo.getD zero0)<;>simp only [hy] at hv<;>first|(cases hv;done)|skip
  rename_i k l
  simp only [pv2] at hv
  split at hv
  · rename_i hc
    obtain ⟨h1,h2,h3⟩:=hc
    cases hv
    have hb:(Instr.sliceBounds true (slLen (f x)) (slCap (f x)) (lo.map f) none none).run P w= .ok (l.toNat,slLen (f x),slCap (f x)) w:=by
      cases lo with
      |none=>
        have:l=0:=by have:=hf (.int .i64 0);simp only [Option.getD_none,zero0,this,Value.int.injEq] at hy;exact hy.2.symm
        subst this
        exact run_sliceBounds_0 w _ _ _
      |some lo'=>
        simp only [Option.getD_some] at hy
        simp only [Option.map_some,hy]
        exact run_sliceBounds_l w _ _ _ _ _ h2 h3
    have:=run_slice_of w ht hi h1 hb
    simp [execOp,this]
  · cases hv
theorem run_slLoHi {t e : TypeId} {i : TypeInfo} {x h' : Operand} {lo : Option Operand} (ht : P.underlying t = some (.slice e)) (hi : P.info? e = some i) (hf : ∀ v, f (.const v) = v)
    (hv:pv3 w (.slLoHi i.size) (f x) (f (lo.getD zero0)) (f h')=some v):
    (execOp f ⟨dst, .slice t x lo (some h') none,type,pos,after,guard⟩).run P w= .ok (.value v) w:=by
  cases hy:f (lo.getD zero0)<;>simp only [hy] at hv<;>first|(cases hv;done)|skip
  cases hz:f h'<;>simp only [hz] at hv<;>first|(cases hv;done)|skip
  rename_i k l k2 h
  simp only [pv3] at hv
  split at hv
  · rename_i hc
    obtain ⟨h1,h2,h3,h4⟩:=hc
    cases hv
    have hb:(Instr.sliceBounds true (slLen (f x)) (slCap (f x)) (lo.map f) (some (.int k2 h)) none).run P w= .ok (l.toNat,h.toNat,slCap (f x)) w:=by
      cases lo with
      |none=>
        have:l=0:=by have:=hf (.int .i64 0);simp only [Option.getD_none,zero0,this,Value.int.injEq] at hy;exact hy.2.symm
        subst this
        exact run_sliceBounds_h w _ _ _ _ _ h3 h4
      |some lo'=>
        simp only [Option.getD_some] at hy
        simp only [Option.map_some,hy]
        exact run_sliceBounds w _ _ _ _ _ _ _ h2 h3 h4
    have:=run_slice_of w ht hi h1 hb
    simp [execOp,hz,this]
  · cases hv
theorem run_slMax {t e : TypeId} {i : TypeInfo} {x h' m' : Operand} {lo : Option Operand} (ht : P.underlying t = some (.slice e)) (hi : P.info? e = some i) (hf : ∀ v, f (.const v) = v)
    (hv:pv4 w (.slMax i.size) (f x) (f (lo.getD zero0)) (f h') (f m')=some v):
    (execOp f ⟨dst, .slice t x lo (some h') (some m'),type,pos,after,guard⟩).run P w= .ok (.value v) w:=by
  cases hy:f (lo.getD zero0)<;>simp only [hy] at hv<;>first|(cases hv;done)|skip
  cases hz:f h'<;>simp only [hz] at hv<;>first|(cases hv;done)|skip
  cases hu:f m'<;>simp only [hu] at hv<;>first|(cases hv;done)|skip
  rename_i k l k2 h k3 m
  simp only [pv4] at hv
  split at hv
  · rename_i hc
    obtain ⟨h1,h2,h3,h4,h5⟩:=hc
    cases hv
    have hb:(Instr.sliceBounds true (slLen (f x)) (slCap (f x)) (lo.map f) (some (.int k2 h)) (some (.int k3 m))).run P w= .ok (l.toNat,h.toNat,m.toNat) w:=by
      cases lo with
      |none=>
        have:l=0:=by have:=hf (.int .i64 0);simp only [Option.getD_none,zero0,this,Value.int.injEq] at hy;exact hy.2.symm
        subst this
        exact run_sliceBounds_m0 w _ _ _ _ _ _ _ h3 h4 h5
      |some lo'=>
        simp only [Option.getD_some] at hy
        simp only [Option.map_some,hy]
        exact run_sliceBounds_m w _ _ _ _ _ _ _ _ _ h2 h3 h4 h5
    have:=run_slice_of w ht hi h1 hb
    simp [execOp,hz,hu,this]
  · cases hv
theorem run_stLo {t : TypeId} {x : Operand} {lo : Option Operand} (ht : P.underlying t = some .string) (hf : ∀ v, f (.const v) = v)
    (hv:pv2 w .stLo (f x) (f (lo.getD zero0))=some v):
    (execOp f ⟨dst, .slice t x lo none none,type,pos,after,guard⟩).run P w= .ok (.value v) w:=by
  cases hx:f x<;>simp only [hx] at hv<;>first|(cases hv;done)|skip
  cases hy:f (lo.getD zero0)<;>simp only [hy] at hv<;>first|(cases hv;done)|skip
  rename_i s k l
  simp only [pv2] at hv
  split at hv
  · rename_i hc
    obtain ⟨h2,h3⟩:=hc
    cases hv
    have hb:(Instr.sliceBounds false s.size s.size (lo.map f) none none).run P w= .ok (l.toNat,s.size,s.size) w:=by
      cases lo with
      |none=>
        have:l=0:=by have:=hf (.int .i64 0);simp only [Option.getD_none,zero0,this,Value.int.injEq] at hy;exact hy.2.symm
        subst this
        exact run_sliceBounds_0 w _ _ _
      |some lo'=>
        simp only [Option.getD_some] at hy
        simp only [Option.map_some,hy]
        exact run_sliceBounds_l w _ _ _ _ _ h2 h3
    have:=run_slice_st w ht s hb
    simp [execOp,hx,this]
  · cases hv
theorem run_stLoHi {t : TypeId} {x h' : Operand} {lo : Option Operand} (ht : P.underlying t = some .string) (hf : ∀ v, f (.const v) = v)
    (hv:pv3 w .stLoHi (f x) (f (lo.getD zero0)) (f h')=some v):
    (execOp f ⟨dst, .slice t x lo (some h') none,type,pos,after,guard⟩).run P w= .ok (.value v) w:=by
  cases hx:f x<;>simp only [hx] at hv<;>first|(cases hv;done)|skip
  cases hy:f (lo.getD zero0)<;>simp only [hy] at hv<;>first|(cases hv;done)|skip
  cases hz:f h'<;>simp only [hz] at hv<;>first|(cases hv;done)|skip
  rename_i s k l k2 h
  simp only [pv3] at hv
  split at hv
  · rename_i hc
    obtain ⟨h2,h3,h4⟩:=hc
    cases hv
    have hb:(Instr.sliceBounds false s.size s.size (lo.map f) (some (.int k2 h)) none).run P w= .ok (l.toNat,h.toNat,s.size) w:=by
      cases lo with
      |none=>
        have:l=0:=by have:=hf (.int .i64 0);simp only [Option.getD_none,zero0,this,Value.int.injEq] at hy;exact hy.2.symm
        subst this
        exact run_sliceBounds_h w _ _ _ _ _ h3 h4
      |some lo'=>
        simp only [Option.getD_some] at hy
        simp only [Option.map_some,hy]
        exact run_sliceBounds w _ _ _ _ _ _ _ h2 h3 h4
    have:=run_slice_st w ht s hb
    simp [execOp,hx,hz,this]
  · cases hv
theorem run_fadr {s:TypeId} {fs:Array Field} {fd:Field} {i:TypeInfo} {x:Operand} {n:Nat} (hs:P.underlying s=some (.struct fs)) (hn:fs[n]? =some fd) (hi:P.info? fd.type=some i)
    (h0:i.size≠0) (hv:pv1 w (.fadr fd.offset) (f x)=some v):
    (execOp f ⟨dst, .fieldAddr s x n,type,pos,after,guard⟩).run P w= .ok (.value v) w:=by
  obtain ⟨ad,hx⟩:=pv1_ptr hv (.inr (.inr ⟨_,rfl⟩))
  rw [hx] at hv
  cases hv
  simp [execOp,hx,Instr.fieldAt,Instr.sureAddr,run_underlying hs,hn,fieldPlace,run_size hi,h0]
theorem run_part1 {t:TypeId} {cs:Array Value} {off:Nat} (ha:isAggT P t=some false) (hv:cs[off]? =some v):(part t cs off).run P w= .ok v w:=by
  have h2:=run_isAgg (P:=P) ha w
  simp [part,h2,hv]
theorem run_partN {t:TypeId} {i:TypeInfo} {cs:Array Value} {off:Nat} (ha:isAggT P t=some true) (hi:P.info? t=some i):(part t cs off).run P w= .ok (.agg (cs.extract off (off+i.size))) w:=by
  have h2:=run_isAgg (P:=P) ha w
  simp [part,h2,run_size hi]
theorem run_fld {s:TypeId} {fs:Array Field} {fd:Field} {x:Operand} {n:Nat} (hs:P.underlying s=some (.struct fs)) (hn:fs[n]? =some fd) (ha:isAggT P fd.type=some false)
    (hv:pv1 w (.fld fd.offset) (f x)=some v):
    (execOp f ⟨dst, .field s x n,type,pos,after,guard⟩).run P w= .ok (.value v) w:=by
  cases hx:f x<;>simp only [hx] at hv<;>first|(cases hv;done)|skip
  have:=run_part1 (P:=P) (w:=w) ha (show _=some v from hv)
  simp [execOp,hx,Instr.field,run_underlying hs,hn,asAgg,this]
theorem run_fldN {s:TypeId} {fs:Array Field} {fd:Field} {i:TypeInfo} {x:Operand} {n:Nat} (hs:P.underlying s=some (.struct fs)) (hn:fs[n]? =some fd) (ha:isAggT P fd.type=some true)
    (hi:P.info? fd.type=some i) (hv:pv1 w (.fldN fd.offset i.size) (f x)=some v):
    (execOp f ⟨dst, .field s x n,type,pos,after,guard⟩).run P w= .ok (.value v) w:=by
  cases hx:f x<;>simp only [hx] at hv<;>first|(cases hv;done)|skip
  rename_i cs
  cases hv
  have:=run_partN (P:=P) (w:=w) (cs:=cs) (off:=fd.offset) ha hi
  simp [execOp,hx,Instr.field,run_underlying hs,hn,asAgg,this]
theorem run_ixa {t e:TypeId} {i:TypeInfo} {x y:Operand} (ht:P.underlying t=some (.slice e)) (hi:P.info? e=some i) (hv:pv2 w (.ixa i.size) (f x) (f y)=some v):
    (execOp f ⟨dst, .indexAddr t x y,type,pos,after,guard⟩).run P w= .ok (.value v) w:=by
  cases hy:f y<;>simp only [hy] at hv<;>first|(cases hv;done)|skip
  simp only [pv2] at hv
  split at hv
  · rename_i hc
    obtain ⟨h1,h2,h3⟩:=hc
    cases hv
    rcases isSl_cases h1 with ⟨b,o,n,c,hx,_⟩|hx|⟨b,o,sp,hx⟩
    rotate_left 2
    · rw [hx] at h3
      simp only [slLen] at h3
      omega
    · rw [hx] at h3
      simp only [slLen] at h3
      simp only [execOp,hx,hy,Instr.indexAt,Sem.run_bind,run_underlying ht,Result.andThen_ok,asIntOf,Sem.run_pure,h2,h3,and_self,if_true,run_size hi]
      simp only [slAddr,Addr.add]
      split
      · rename_i e0;simp [e0]
      · rfl
    · rw [hx] at h3
      simp only [slLen] at h3
      omega
  · cases hv
theorem run_ixs {t:TypeId} {x y:Operand} (ht:P.underlying t=some .string) (hv:pv2 w .ixs (f x) (f y)=some v):
    (execOp f ⟨dst, .index t x y,type,pos,after,guard⟩).run P w= .ok (.value v) w:=by
  cases hx:f x<;>simp only [hx] at hv<;>first|(cases hv;done)|skip
  cases hy:f y<;>simp only [hy] at hv<;>first|(cases hv;done)|skip
  simp only [pv2] at hv
  split at hv
  · rename_i h0
    obtain ⟨b,hb,rfl⟩:=Option.map_eq_some_iff.1 hv
    simp [execOp,hx,hy,Instr.index,run_underlying ht,asIntOf,h0,hb]
  · cases hv
theorem run_ext {x:Operand} {n:Nat} (hv:pv1 w (.ext n) (f x)=some v):
    (execOp f ⟨dst, .extract x n,type,pos,after,guard⟩).run P w= .ok (.value v) w:=by
  cases hx:f x<;>simp only [hx] at hv<;>first|(cases hv;done)|skip
  rename_i vs
  have hv':vs[n]? =some v:=hv
  simp [execOp,hx,Instr.extract,hv']
theorem run_mkif {t:TypeId} {d:TypeDesc} {x:Operand} (ht:P.underlying t=some d) (hd:∀ms,d≠ .interface ms) (hv:pv1 w (.mkif t) (f x)=some v):
    (execOp f ⟨dst, .makeInterface t x,type,pos,after,guard⟩).run P w= .ok (.value v) w:=by
  cases hv
  simp only [execOp,Instr.makeInterface,Sem.run_bind,run_underlying ht,Result.andThen_ok]
  cases d<;>first|rfl|exact absurd rfl (hd _)
theorem run_nilc {x:Operand} (hv:pv1 w .nilc (f x)=some v):
    (execOp f ⟨dst, .nilCheck x,type,pos,after,guard⟩).run P w= .ok (.value v) w:=by
  cases hx:f x with
  |pointer p=>
    rw [hx] at hv
    cases p with
    |none=>cases hv
    |some ad=>cases hv;simp [execOp,hx]
  |iface t u=>rw [hx] at hv;cases hv;simp [execOp,hx]
  |_=>rw [hx] at hv;cases hv
theorem run_same {x:Operand} {op:Op} (hop:op= .move x∨op= .assign x) (hv:pv1 w .same (f x)=some v):
    (execOp f ⟨dst,op,type,pos,after,guard⟩).run P w= .ok (.value v) w:=by
  cases hv
  rcases hop with rfl|rfl<;>simp [execOp]
theorem run_lenS {x:Operand} {t e:TypeId} (ht:P.underlying t=some (.slice e)) (hv:pv1 w .lenS (f x)=some v):
    (execOp f ⟨dst, .call {callee:= .builtin .len,args:= #[x],argTypes:= #[t]},type,pos,after,guard⟩).run P w= .ok (.value v) w:=by
  have hv':(if isSl (f x)=true then some (Value.int .i64 (slLen (f x))) else none)=some v:=hv
  split at hv'
  · rename_i hs
    cases hv'
    rcases isSl_cases hs with ⟨b,o,n,c,hx,_⟩|hx|⟨b,o,s,hx⟩<;>
      simp [execOp,hx,resolve,invoke,builtin,Builtin.len_,run_underlying ht,goInt,slLen]
  · cases hv'
theorem run_capS {x:Operand} {t e:TypeId} (ht:P.underlying t=some (.slice e)) (hv:pv1 w .capS (f x)=some v):
    (execOp f ⟨dst, .call {callee:= .builtin .cap,args:= #[x],argTypes:= #[t]},type,pos,after,guard⟩).run P w= .ok (.value v) w:=by
  have hv':(if isSl (f x)=true then some (Value.int .i64 (slCap (f x))) else none)=some v:=hv
  split at hv'
  · rename_i hs
    cases hv'
    rcases isSl_cases hs with ⟨b,o,n,c,hx,_⟩|hx|⟨b,o,s,hx⟩<;>
      simp [execOp,hx,resolve,invoke,builtin,Builtin.cap_,run_underlying ht,goInt,slCap]
  · cases hv'
theorem run_lenT {x:Operand} {t:TypeId} (ht:P.underlying t=some .string) (hv:pv1 w .lenT (f x)=some v):
    (execOp f ⟨dst, .call {callee:= .builtin .len,args:= #[x],argTypes:= #[t]},type,pos,after,guard⟩).run P w= .ok (.value v) w:=by
  cases hx:f x<;>simp only [hx] at hv<;>first|(cases hv;done)|skip
  cases hv
  simp [execOp,hx,resolve,invoke,builtin,Builtin.len_,run_underlying ht,goInt]
end
theorem trOp_run {P : Program} {o : Oper} {p : PO} (h : trOp P o.op = some p) {f : Operand → Value} (hf : ∀ v, f (.const v) = v) {w : World} {v : Value} (hv : p.val w f = some v) :
    (execOp f o).run P w= .ok (.value v) w:=by
  obtain ⟨dst,op,type,pos,after,guard⟩:=o
  unfold trOp at h
  dsimp only at h
  split at h
  · cases h;exact run_same (.inl rfl) hv
  · cases h;exact run_same (.inr rfl) hv
  · split at h
    · cases h;exact run_loadN ‹_› ‹_› hv
    · cases h;exact run_load1 ‹_› hv
    · cases h
  · split at h
    · split at h
      · cases h;exact run_shf ‹_› hv
      · cases h;exact run_ibin ‹_› hv
    · cases h;exact run_sbin hv
    · cases h;exact run_bbin ‹_› hv
    · cases h
  · cases h;exact run_un (.inl ⟨rfl,rfl⟩) hv
  · cases h;exact run_un (.inr (.inl ⟨rfl,rfl⟩)) hv
  · cases h;exact run_un (.inr (.inr ⟨rfl,rfl⟩)) hv
  · split at h
    · cases h;exact run_conv ‹_› ‹_› hv
    · cases h;exact run_strid ‹_› ‹_› hv
    · split at h
      · cases h;exact run_b2s ‹_› ‹_› ‹_› hv
      · cases h
    · cases h
  · split at h
    · split at h
      · cases h;exact run_slLo ‹_› ‹_› hf hv
      · cases h;exact run_slLoHi ‹_› ‹_› hf hv
      · cases h;exact run_slMax ‹_› ‹_› hf hv
      · cases h
    · split at h
      · cases h;exact run_stLo ‹_› hf hv
      · cases h;exact run_stLoHi ‹_› hf hv
      · cases h
    · cases h
  · split at h
    · split at h
      · split at h
        · split at h
          · cases h
          · cases h;exact run_fadr ‹_› ‹_› ‹_› ‹_› hv
        · cases h
      · cases h
    · cases h
  · split at h
    · split at h
      · split at h
        · cases h;exact run_fldN ‹_› ‹_› ‹_› ‹_› hv
        · cases h;exact run_fld ‹_› ‹_› ‹_› hv
        · cases h
      · cases h
    · cases h
  · split at h
    · split at h
      · cases h;exact run_ixa ‹_› ‹_› hv
      · cases h
    · cases h
  · split at h
    · cases h;exact run_ixs ‹_› hv
    · cases h
  · cases h;exact run_ext hv
  · split at h
    · cases h
    · rename_i d hne hd
      cases h;exact run_mkif hd (fun ms e=>by subst e;exact hne ms rfl) hv
    · cases h
  · cases h;exact run_nilc hv
  · rename_i c
    obtain ⟨callee,⟨args⟩,⟨argTypes⟩⟩:=c
    simp only at h
    unfold trCall at h
    split at h
    · split at h
      · cases h;exact run_lenT ‹_› hv
      · cases h;exact run_lenS ‹_› hv
      · cases h
    · split at h
      · cases h;exact run_capS ‹_› hv
      · cases h
    · cases h
  · cases h
end Go.Eng
