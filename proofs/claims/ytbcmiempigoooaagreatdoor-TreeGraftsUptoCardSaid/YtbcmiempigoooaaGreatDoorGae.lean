/- Lemmas for a claim about layer 2 (tree). No conditions but those they state. -/
import Derived.Test.YtbcmiempigoooaaGreatDoorGad
import Derived.Laws.AppendOwn
import Derived.Laws.OwnMore
set_option linter.all false
namespace Go.Eng
open Go.RowKit
def qL:Code→Nat→Code
  | .region i o d,id=>if i=id then .region i o d else .skip
  | .seq a b,id| .cond _ a b,id=>match qL a id with| .skip=>qL b id|c=>c
  | .block _ c,id| .loop c,id| .scope c,id=>qL c id
  | .rangeFunc _ _ a b,id=>match qL a id with| .skip=>qL b id|c=>c
  |_,_=> .skip
@[simp] theorem qEF (ρ:qa) (i j:Nat) (v:Value):qt ρ i v j=if j=i then v else ρ j:=rfl
@[simp] theorem qEG (ρ:qa) (i:Nat) (v:Value):qm ρ (some i) v=qt ρ i v:=rfl
@[simp] theorem qEH (ρ:qa) (v:Value):qm ρ none v=ρ:=rfl
def Ks.blk (Q:Ks) (i:Nat) (K:qa→World→Prop):Ks:={Q with ex:=fun j=>if j=i then K else Q.ex j}
@[simp] theorem qIk (Q:Ks) (i:Nat) (K:qa→World→Prop):(Q.blk i K).rt=Q.rt:=rfl
@[simp] theorem qIm (Q:Ks) (i:Nat) (K:qa→World→Prop):(Q.blk i K).pn=Q.pn:=rfl
@[simp] theorem qIp (Q:Ks) (i:Nat) (K:qa→World→Prop):(Q.blk i K).df=Q.df:=rfl
@[simp] theorem qIl (Q:Ks) (i:Nat) (K:qa→World→Prop):(Q.blk i K).rd=Q.rd:=rfl
@[simp] theorem qFF (Q:Ks):Q.noRd.ex=Q.ex:=rfl
@[simp] theorem qFC (Q:Ks):Q.noRd.rt=Q.rt:=rfl
@[simp] theorem qFD (Q:Ks):Q.noRd.pn=Q.pn:=rfl
@[simp] theorem qFE (Q:Ks):Q.noRd.og=Q.og:=rfl
@[simp] theorem qFG (Q:Ks):Q.noRd.df=Q.df:=rfl
@[simp] theorem qIn (Q:Ks) (i:Nat) (K:qa→World→Prop):(Q.blk i K).og=Q.og:=rfl
@[simp] theorem qIo (Q:Ks) (i j:Nat) (K:qa→World→Prop) (ρ:qa) (w:World):(Q.blk i K).ex j ρ w=if j=i then K ρ w else Q.ex j ρ w:=by simp only [Ks.blk];split<;>rfl
theorem qtm {P:Program} {Q Q':Ks} {dst:Option Nat} {K K':qa→World→Prop} {ρ:qa} (j:∀ρ w,K ρ w→K' ρ w) (hpn:∀ρ c w,Q.pn ρ c w→Q'.pn ρ c w) (g:Q.og→Q'.og) (i:(Q.df→Q'.df)∧(Q.rd→Q'.rd)) {r:Result Next} (h:wQ P Q dst K ρ r):wQ P Q' dst K' ρ r:=by
  cases r with
  |ok x w=>
    cases x<;>simp only [wQ] at h⊢ <;>first|exact j _ _ h|exact h|exact ⟨i.1 h.1,j _ _ h.2⟩|skip
    · refine h.mono fun e w' b=> ?_;cases e with
      |returned v=>exact j _ _ b
      |panicked c=>exact hpn _ _ _ b
      |outgrown=>exact g b
    · refine ⟨i.2 h.1,h.2.mono fun e w' b=> ?_⟩;cases e with
      |returned v=>exact j _ _ b
      |panicked c=>exact hpn _ _ _ b
      |outgrown=>exact g b
  |halt x w=>cases x<;>simp only [wQ] at h⊢ <;>first|exact hpn _ _ _ h|exact h
theorem qr6 {P:Program} {Q Q':Ks} {dst:Option Nat} {op:Op} {ty:TypeId} {K K':qa→World→Prop} {ρ:qa} {w:World} (g:∀ρ w,K ρ w→K' ρ w) (hpn:∀ρ c w,Q.pn ρ c w→Q'.pn ρ c w) (b:Q.og→Q'.og) (e:(Q.df→Q'.df)∧(Q.rd→Q'.rd)) (h:jY P Q dst op ty K ρ w):jY P Q' dst op ty K' ρ w:=
  qtm g hpn b e h
theorem qjs {K K':World→Prop} (b:∀w,K w→K' w) (a:Addr):∀(vs:List Value) (i:Nat) (w:World),kW a vs i K w→kW a vs i K' w
  |[],_,_,h=>b _ h
  |_::vs,i,_,⟨c,g,j,e⟩=>⟨c,g,j,qjs b a vs (i+1) _ e⟩
theorem qf5 {b:Type} {c:Option b} {f g:b→Prop} (h:∀a,f a→g a) (e:xi c f):xi c g:=by cases c<;>first|exact e|exact h _ e
theorem qc7 {c:Option Value} {f g:Value→Prop} (h:∀a,f a→g a) (b:vG c f):vG c g:=by cases c<;>first|exact b|exact h _ b
theorem qwC {x:Value} {f g:Addr→Prop} (h:∀a,f a→g a) (b:yL x f):yL x g:=by
  cases x with
  |pointer a=>cases a<;>first|exact h _ b|exact b
  |_=>exact b
theorem qDc {P:Program} {Q Q':Ks} {dst:Option Nat} {op:Op} {ty:TypeId} {K K':qa→World→Prop} {ρ:qa} {w:World} (b:∀ρ w,K ρ w→K' ρ w) (hpn:∀ρ c w,Q.pn ρ c w→Q'.pn ρ c w) (g:Q.og→Q'.og) (i:(Q.df→Q'.df)∧(Q.rd→Q'.rd)) (h:qw P Q dst op ty K ρ w):qw P Q' dst op ty K' ρ w:=by
  unfold qw at h⊢;split at h
  · exact b _ _ h
  · exact qf5 (fun _ h=>b _ _ h) h
  · exact ⟨h.1,qwC (fun a h=>qjs (fun _ h=>b _ _ h) a _ _ _ h) h.2⟩
  · exact b _ _ h
  · exact qf5 (fun _ h=>b _ _ h) h
  · exact qf5 (fun _ h=>⟨h.1,h.2.1,h.2.2.1,b _ _ h.2.2.2⟩) h
  · unfold qeo at h⊢;split at h
    · refine ⟨h.1,h.2.mono fun e w' j=> ?_⟩;cases e with
      |returned v=>exact b _ _ j
      |panicked c=>exact hpn _ _ _ j
      |outgrown=>exact g j
    · exact qr6 b hpn g i h
  · exact qr6 b hpn g i h
theorem qaJ {P:Program} {Q Q':Ks} (hpn:∀ρ c w,Q.pn ρ c w→Q'.pn ρ c w) (b:Q.og→Q'.og) (i:(Q.df→Q'.df)∧(Q.rd→Q'.rd)):∀(l:List St) {K K':qa→World→Prop} {ρ:qa} {w:World},(∀ρ w,K ρ w→K' ρ w)→qU P Q l K ρ w→qU P Q' l K' ρ w
  |[],_,_,_,_,j,h=>j _ _ h
  | .asg g d e::r,K,K',ρ,w,j,h=>by
    simp only [qU,St.wp] at h⊢;split
    · rename_i k;rw [if_pos k] at h;exact qc7 (fun _ h=>qaJ hpn b i r j h) h
    · rename_i k;rw [if_neg k] at h;exact qaJ hpn b i r j h
  | .eff g d op ty::r,K,K',ρ,w,j,h=>by
    simp only [qU,St.wp] at h⊢;split
    · rename_i k;rw [if_pos k] at h;exact qDc (fun _ _ h=>qaJ hpn b i r j h) hpn b i h
    · rename_i k;rw [if_neg k] at h;exact qaJ hpn b i r j h
theorem qbd {P:Program} {w0:World}:∀(l:List St) {K K':qa→Prop} {ρ:qa},(∀ρ,K ρ→K' ρ)→jb P w0 l K ρ→jb P w0 l K' ρ
  |[],_,_,_,b,h=>b _ h
  | .asg g d e::r,K,K',ρ,b,h=>by
    simp only [jb] at h⊢;split
    · rename_i c;rw [if_pos c] at h;exact qc7 (fun _ h=>qbd r b h) h
    · rename_i c;rw [if_neg c] at h;exact qbd r b h
  | .eff g d op ty::r,K,K',ρ,b,h=>by
    simp only [jb] at h⊢;split
    · rename_i c;rw [if_pos c] at h;obtain ⟨v,i,j⟩:=h;exact ⟨v,i,qbd r b j⟩
    · rename_i c;rw [if_neg c] at h;exact qbd r b h
theorem qil {c:Option Value} {x y e g:Prop} (j:x→e) (i:y→g) (h:yi c x y):yi c e g:=by
  cases c with
  |none=>exact h
  |some v=>cases v with
    |bool b=>cases b<;>first|exact j h|exact i h
    |_=>exact h
theorem IR.wp_mono {cx:Cx}:∀{a:IR} {K K':qa→World→Prop} {Q Q':Ks} {ρ:qa} {w:World},a.wp cx K Q ρ w→(∀ρ w,K ρ w→K' ρ w)→(∀i ρ w,Q.ex i ρ w→Q'.ex i ρ w)→(∀ρ w,Q.rt ρ w→Q'.rt ρ w)→
    (∀ρ c w,Q.pn ρ c w→Q'.pn ρ c w)→(Q.og→Q'.og)→((Q.df→Q'.df)∧(Q.rd→Q'.rd))→a.wp cx K' Q' ρ w
  | .skip,_,_,_,_,_,_,h,n,_,_,_,_,_=>n _ _ h
  | .reg l,_,_,_,_,_,_,h,n,_,_,hpn,j,k=>qaJ hpn j k l n h
  | .drw l,_,_,_,_,_,_,h,n,_,_,_,_,_=>qbd l (fun _ h w' B=>n _ _ (h w' B)) h
  | .seq a b,_,_,_,_,_,_,h,n,g,m,hpn,j,k=>IR.wp_mono (a:=a) h (fun _ _ h=>IR.wp_mono (a:=b) h n g m hpn j k) g m hpn j k
  | .cond c a b,_,_,_,_,_,_,h,n,g,m,hpn,j,k=>qil (fun h=>IR.wp_mono (a:=a) h n g m hpn j k) (fun h=>IR.wp_mono (a:=b) h n g m hpn j k) h
  | .block id a,K,K',Q,Q',_,_,h,n,g,m,hpn,j,k=>IR.wp_mono (a:=a) h n (fun i ρ w h=>by
      simp only at h⊢;split
      · rename_i e;rw [if_pos e] at h;exact n _ _ h
      · rename_i e;rw [if_neg e] at h;exact g _ _ _ h) m hpn j k
  | .loop a,_,_,_,_,_,_,⟨I,μ,z,h⟩,_,g,m,hpn,j,k=>⟨I,μ,z,fun u w' v=>IR.wp_mono (a:=a) (h u w' v) (fun _ _ h=>h) g m hpn j k⟩
  | .exit id,_,_,_,_,_,_,h,_,g,_,_,_,_=>g _ _ _ h
  | .ret,_,_,_,_,_,_,h,_,_,m,_,_,_=>m _ _ h
  | .raw c,_,_,_,_,_,_,h,n,g,m,hpn,j,k=>fun a C y A=>Go.wp_mono (h a C y fun x=>A (k.1 x)) fun e a w t=>by
      cases e with
      |normal=>obtain ⟨p,ρ,s,o⟩:=t;exact ⟨p,ρ,s,n _ _ o⟩
      |exit i=>obtain ⟨p,ρ,s,o⟩:=t;exact ⟨p,ρ,s,g _ _ _ o⟩
      |ret=>obtain ⟨p,ρ,s,o⟩:=t;exact ⟨p,ρ,s,m _ _ o⟩
      |panic c=>obtain ⟨p,ρ,s,o⟩:=t;exact ⟨p,ρ,s,hpn _ _ _ o⟩
      |outgrown=>exact j t
      |goto l=>exact t
section
variable {cx:Cx} {K:qa→World→Prop} {Q:Ks} {ρ:qa} {w:World}
theorem QJ (I:qa→World→Prop) (μ:qa→World→Nat) {a:IR} (g:I ρ w) (h:∀c w',I c w'→a.wp cx (fun b e=>I b e∧μ b e<μ c w') Q c w'):(IR.loop a).wp cx K Q ρ w:=⟨I,μ,g,h⟩
@[simp] theorem qeJ {a b:IR}:(IR.seq a b).wp cx K Q ρ w=a.wp cx (b.wp cx K Q) Q ρ w:=rfl
@[simp] theorem qiL {l:List St}:(IR.reg l).wp cx K Q ρ w=qU cx.P Q l K ρ w:=rfl
@[simp] theorem qEB {l:List St}:(IR.drw l).wp cx K Q ρ w=jb cx.P w l (fun b=>∀w',qb w w'→K b w') ρ:=rfl
@[simp] theorem qEy:IR.skip.wp cx K Q ρ w=K ρ w:=rfl
@[simp] theorem qEA {i:Nat}:(IR.exit i).wp cx K Q ρ w=Q.ex i ρ w:=rfl
@[simp] theorem qEz:IR.ret.wp cx K Q ρ w=Q.rt ρ w:=rfl
@[simp] theorem qED {i:Nat} {a:IR}:(IR.block i a).wp cx K Q ρ w=a.wp cx K (Q.blk i K) ρ w:=rfl
@[simp] theorem qEC {c:Ex} {a b:IR}:(IR.cond c a b).wp cx K Q ρ w=yi (c.ev ρ w) (a.wp cx K Q ρ w) (b.wp cx K Q ρ w):=rfl
end
def je (rs:List RV) (R:Ending→World→Prop):Ks:=⟨fun _ _ _=>False,qC rs R,fun _ c w=>R (.panicked c) w,∀w,R .outgrown w,False,True⟩
@[simp] theorem qFY (rs:List RV) (R:Ending→World→Prop):(je rs R).rt=qC rs R:=rfl
@[simp] theorem qF0 (rs:List RV) (R:Ending→World→Prop) (ρ:qa) (c:List PanicEntry) (w:World):(je rs R).pn ρ c w=R (.panicked c) w:=rfl
@[simp] theorem qF1 (rs:List RV) (R:Ending→World→Prop):(je rs R).og=∀w,R .outgrown w:=rfl
@[simp] theorem qF2 (rs:List RV) (R:Ending→World→Prop) (i:Nat) (ρ:qa) (w:World):(je rs R).ex i ρ w=False:=rfl
@[simp] theorem qF3 (P:Program) (rs:List RV) (R:Ending→World→Prop):(zj P rs R).rt=ve P rs R .returning:=rfl
@[simp] theorem qF5 (P:Program) (rs:List RV) (R:Ending→World→Prop) (ρ:qa) (c:List PanicEntry) (w:World):(zj P rs R).pn ρ c w=ve P rs R (.panicking c) ρ w:=rfl
@[simp] theorem qF6 (P:Program) (rs:List RV) (R:Ending→World→Prop):(zj P rs R).og=∀w,R .outgrown w:=rfl
@[simp] theorem qF8 (P:Program) (rs:List RV) (R:Ending→World→Prop):(zj P rs R).df=True:=rfl
@[simp] theorem qF4 (P:Program) (rs:List RV) (R:Ending→World→Prop):(zj P rs R).rd=True:=rfl
@[simp] theorem qFZ (rs:List RV) (R:Ending→World→Prop):(je rs R).rd=True:=rfl
@[simp] theorem qF7 (P:Program) (rs:List RV) (R:Ending→World→Prop) (i:Nat) (ρ:qa) (w:World):(zj P rs R).ex i ρ w=False:=rfl
@[simp] theorem qkw (t:Nat) (R:Ending→World→Prop) (ρ:qa) (w:World):qC [.tmp t] R ρ w=R (.returned (ρ t)) w:=rfl
@[simp] theorem qEP (t u:Nat) (R:Ending→World→Prop) (ρ:qa) (w:World):qC [.tmp t, .tmp u] R ρ w=R (.returned (.tuple #[ρ t,ρ u])) w:=rfl
@[simp] theorem qEO (t u s:Nat) (R:Ending→World→Prop) (ρ:qa) (w:World):qC [.tmp t, .tmp u, .tmp s] R ρ w=R (.returned (.tuple #[ρ t,ρ u,ρ s])) w:=rfl
@[simp] theorem qEQ (R:Ending→World→Prop) (ρ:qa) (w:World):qC [] R ρ w=R (.returned (.tuple #[])) w:=rfl
@[simp] theorem qFn (b:Bool) (x y:Option Value):QD (.bool b) x y=if b then x else y:=by cases b<;>rfl
@[simp] theorem qGj (b c:Bool):(if b then some (Value.bool true) else some (Value.bool c))=some (.bool (b||c)):=by cases b<;>rfl
@[simp] theorem qGk (b c:Bool):(if b then some (Value.bool c) else some (Value.bool false))=some (.bool (b&&c)):=by cases b<;>rfl
@[simp] theorem qGh (p:Prop) [Decidable p] (c:Bool):(if p then some (Value.bool true) else some (Value.bool c))=some (.bool (decide p||c)):=by split<;>simp_all
@[simp] theorem qGi (p:Prop) [Decidable p] (c:Bool):(if p then some (Value.bool c) else some (Value.bool false))=some (.bool (decide p&&c)):=by split<;>simp_all
@[simp] theorem qGu (b:Bool) (x y:Prop):yi (some (.bool b)) x y=if b then x else y:=by cases b<;>rfl
@[simp] theorem qFv (v:Value) (f:Value→Prop):vG (some v) f=f v:=rfl
@[simp] theorem qFw {b:Type} (v:b) (f:b→Prop):xi (some v) f=f v:=rfl
@[simp] theorem qFm (a:Addr) (f:Addr→Prop):yL (.pointer (some a)) f=f a:=rfl
@[simp] theorem qiu (Q:Ks) (dst:Option Nat) (K:qa→World→Prop) (ρ:qa) (v:Value) (w:World):xP Q dst K ρ (.returned v) w=K (qm ρ dst v) w:=rfl
@[simp] theorem qst (Q:Ks) (dst:Option Nat) (K:qa→World→Prop) (ρ:qa) (c:List PanicEntry) (w:World):xP Q dst K ρ (.panicked c) w=Q.pn ρ c w:=rfl
@[simp] theorem qIj (Q:Ks) (dst:Option Nat) (K:qa→World→Prop) (ρ:qa) (w:World):xP Q dst K ρ .outgrown w=Q.og:=rfl
section
variable {P:Program} {K:qa→World→Prop} {Q:Ks} {ρ:qa} {w w0:World}
@[simp] theorem qEx:qU P Q [] K ρ w=K ρ w:=rfl
@[simp] theorem qte {g:Option (Nat×Bool)} {d:Nat} {e:Ex} {r:List St}:qU P Q (.asg g d e::r) K ρ w=if gd ρ g then vG (e.ev ρ w) (fun v=>qU P Q r K (qt ρ d v) w) else qU P Q r K (qt ρ d undef) w:=rfl
@[simp] theorem qeI {g:Option (Nat×Bool)} {d:Option Nat} {op:Op} {ty:TypeId} {r:List St}:qU P Q (.eff g d op ty::r) K ρ w=if gd ρ g then qw P Q d op ty (qU P Q r K) ρ w else qU P Q r K (qm ρ d undef) w:=rfl
end
attribute [simp] jb gd Ex.ev qap ki qcu qeo qbe
@[simp] theorem qGm (ρ:qa) (t:Nat):qd ρ (.tmp t)=ρ t:=rfl
@[simp] theorem qGp (ρ:qa) (v:Value):qd ρ (.const v)=v:=rfl
@[simp] theorem qGn (ρ:qa) (g:Nat):qd ρ (.global g)= .pointer (some ⟨g,0,none⟩):=rfl
@[simp] theorem qGo (ρ:qa) (f:FuncId):qd ρ (.func f)= .func (.func f) #[] #[]:=rfl
section
variable {P:Program} {Q:Ks} {d:Option Nat} {ty:TypeId} {K:qa→World→Prop} {ρ:qa} {w:World}
@[simp] theorem qGr (fn:Fn) (fs cs:Array Operand):qw P Q d (.makeFunc fn fs cs) ty K ρ w=K (qm ρ d (.func fn (fs.map (qd ρ)) (cs.map (qd ρ)))) w:=rfl
@[simp] theorem qr4 (t:TypeId) (ps:Array (Nat×Operand)):qw P Q d (.build t ps) ty K ρ w=xi (P.built t (ps.map fun p=>(p.1,qd ρ p.2)).toList) fun cells=>K (qm ρ d (.agg cells)) w:=rfl
@[simp] theorem qDe (f:FuncId) (args:Array Operand) (b:Array TypeId):qw P Q d (.call {callee:= .value (.func f),args:=args,argTypes:=b}) ty K ρ w=(qg P f=true∧Calls P f (args.map (qd ρ)) w (xP Q d K ρ)):=rfl
end
@[simp] theorem qE4 (w:World) (op:BinOp) (k e c:IntKind) (a b:Int):jI w (.ibin op k) (.int e a) (.int c b)=if e=c then qap op e a b else none:=rfl
@[simp] theorem qE1 (w:World) (op:BinOp) (x y:ByteArray):jI w (.sbin op) (.string x) (.string y)=ki op x y:=rfl
@[simp] theorem qE6 (w:World) (a b:Bool):jI w (.bbin .eql) (.bool a) (.bool b)=some (.bool (a==b)):=rfl
@[simp] theorem qE5 (w:World) (a b:Bool):jI w (.bbin .neq) (.bool a) (.bool b)=some (.bool (!(a==b))):=rfl
@[simp] theorem qE0 (w:World) (op:BinOp) (k c:IntKind) (a b:Int):jI w (.shf op) (.int k a) (.int c b)=qcu op k a b:=rfl
@[simp] theorem qE3 (w:World) (sz:Nat) (v:Value) (k:IntKind) (i:Int):jI w (.ixa sz) v (.int k i)=if qn v∧0≤i∧i<qk v then some (.pointer (some (qJ v (i.toNat*sz)))) else none:=by cases v<;>rfl
@[simp] theorem qE2 (w:World) (s:ByteArray) (k:IntKind) (i:Int):jI w .ixs (.string s) (.int k i)=if 0≤i then (s[i.toNat]?).map fun b=> .int .u8 b.toNat else none:=rfl
@[simp] theorem qEZ (w:World) (sz:Nat) (v:Value) (k:IntKind) (l:Int):jI w (.slLo sz) v (.int k l)=if qn v∧0≤l∧l≤qk v then some (qR v sz l.toNat (qk v) (qo v)) else none:=by cases v<;>rfl
@[simp] theorem qEY (w:World) (s:ByteArray) (k:IntKind) (l:Int):jI w .stLo (.string s) (.int k l)=if 0≤l∧l≤s.size then some (.string (s.extract l.toNat s.size)) else none:=rfl
@[simp] theorem qEX (w:World) (sz:Nat) (v:Value) (k b:IntKind) (l h:Int):kX w (.slLoHi sz) v (.int k l) (.int b h)=if qn v∧0≤l∧l≤h∧h≤qo v then some (qR v sz l.toNat h.toNat (qo v)) else none:=by cases v<;>rfl
@[simp] theorem qEW (w:World) (s:ByteArray) (k b:IntKind) (l h:Int):kX w .stLoHi (.string s) (.int k l) (.int b h)=if 0≤l∧l≤h∧h≤s.size then some (.string (s.extract l.toNat h.toNat)) else none:=rfl
@[simp] theorem qEV (w:World) (sz:Nat) (v:Value) (k c b:IntKind) (l h m:Int):pv4 w (.slMax sz) v (.int k l) (.int c h) (.int b m)=if qn v∧0≤l∧l≤h∧h≤m∧m≤qo v then some (qR v sz l.toNat h.toNat m.toNat) else none:=by cases v<;>rfl
@[simp] theorem qE8 (w:World) (v:Value):qS w .same v=some v:=rfl
@[simp] theorem qwz (w:World) (a:Addr):qS w .load1 (.pointer (some a))=w.cell? a:=rfl
@[simp] theorem qbl (w:World) (n:Nat) (a:Addr):qS w (.loadN n) (.pointer (some a))=(jk w a 0 n).map fun l=> .agg l.toArray:=rfl
@[simp] theorem qFi (w:World) (n:Nat) (a:Addr):qS w (.fadr n) (.pointer (some a))=some (.pointer (some (a.add n))):=rfl
@[simp] theorem qFh (w:World) (n:Nat) (cs:Array Value):qS w (.fld n) (.agg cs)=cs[n]? :=rfl
@[simp] theorem qFg (w:World) (o n:Nat) (cs:Array Value):qS w (.fldN o n) (.agg cs)=some (.agg (cs.extract o (o+n))):=rfl
@[simp] theorem qFf (w:World) (v:Value):qS w .lenS v=if qn v then some (.int .i64 (qk v)) else none:=rfl
@[simp] theorem qFl (w:World) (v:Value):qS w .capS v=if qn v then some (.int .i64 (qo v)) else none:=rfl
@[simp] theorem qFe (w:World) (s:ByteArray):qS w .lenT (.string s)=some (.int .i64 s.size):=rfl
@[simp] theorem qE9 (w:World) (b:Bool):qS w .not (.bool b)=some (.bool !b):=rfl
@[simp] theorem qFc (w:World) (k:IntKind) (n:Int):qS w .neg (.int k n)=some (.int k (k.wrap (0 - n))):=rfl
@[simp] theorem qFk (w:World) (k b:IntKind) (n:Int):qS w (.conv k) (.int b n)=some (.int k (k.wrap n)):=rfl
@[simp] theorem qFj (w:World) (i:Nat) (vs:Array Value):qS w (.ext i) (.tuple vs)=vs[i]? :=rfl
@[simp] theorem qFd (w:World) (t:TypeId) (v:Value):qS w (.mkif t) v=some (.iface t v):=rfl
@[simp] theorem qFa (w:World) (t:TypeId) (v:Value):qS w .nilc (.iface t v)=some (.iface t v):=rfl
@[simp] theorem qFb (w:World) (a:Addr):qS w .nilc (.pointer (some a))=some (.pointer (some a)):=rfl
@[simp] theorem qE7 (w:World) (s:ByteArray):qS w .strid (.string s)=some (.string s):=rfl
theorem qr {n:Int} (h: -9223372036854775808≤n∧n≤9223372036854775807):IntKind.i64.wrap n=n:=by
  unfold IntKind.wrap;simp only [IntKind.bits,IntKind.signed,Bool.true_and];by_cases b:n%2^64≥(2^(64 - 1):Int)
  · rw [if_pos (by simpa using b)];omega
  · rw [if_neg (by simpa using b)];omega
theorem u8w {n:Int} (h:0≤n∧n<256):IntKind.u8.wrap n=n:=by
  unfold IntKind.wrap;simp only [IntKind.bits,IntKind.signed,Bool.false_and,Bool.false_eq_true,if_false];omega
@[simp] theorem qGg (k:IntKind) (n:Int):RowKit.intOf (.int k n)=n:=rfl
end Go.Eng
namespace Go.Eng
open Go.RowKit
@[simp] theorem qfc (v:Value) (j n:Nat):(qJ v j).add n=qJ v (j+n):=by
  unfold qJ Addr.add;split<;>split<;>simp_all [Nat.add_assoc]
@[simp] theorem zF (b o n:Nat):(⟨b,o,none⟩:Addr).add n=⟨b,o+n,none⟩:=by
  unfold Addr.add;split<;>simp_all
structure Sl {α:Type} (enc:α→Value) (w:World) (v:Value) (xs:List α):Prop where
  is:qn v=true
  len:qk v=xs.length
  bd:xs.length<4611686018427387904
  cell:∀(i:Nat) (h:i<xs.length),w.cell? (qJ v i)=some (enc xs[i])
theorem Sl.ext {b:Type} {enc:b→Value} {w w':World} {v:Value} {xs:List b} (h:Sl enc w v xs) (e:qb w w'):Sl enc w' v xs:=
  ⟨h.is,h.len,h.bd,fun i c=>e.cell (h.cell i c)⟩
theorem Sl.nil {b:Type} (enc:b→Value) (w:World):Sl enc w (.slice none 0 0) ([]:List b):=⟨rfl,rfl,by simp,fun i h=>by simp at h⟩
def ji (b:UInt8):Value:= .int .u8 b.toNat
def encI (n:Int):Value:= .int .i64 n
theorem wE (w:World) (o:Obj):qb w (w.alloc o):=(Below.refl _ _).alloc (Nat.le_refl _) o
theorem qb.trans' {a b c:World} (h:qb a b) (k:qb b c):qb a c:=Below.trans h (k.mono h.size)
theorem qCS {a b c:World} (h:qb a b) (k:Below a.heap.size b c):qb a c:=Below.trans h k
@[simp] theorem qGw (w:World) (o:Obj) (b i:Nat) (h:b<w.heap.size):(w.alloc o).cell? ⟨b,i,none⟩=w.cell? ⟨b,i,none⟩:=World.cell?_alloc_lt w o _ h
@[simp] theorem qGx (w:World) (c:Array Value) (t:TypeId) (b i:Nat) (h:b=w.heap.size):(w.alloc (.cells c t)).cell? ⟨b,i,none⟩=c[i]? :=by subst h;exact World.cell?_alloc_new w c t i
structure Blk (W:World) (B:Nat) (cs:Array Value) (t:TypeId):Prop where
  heap:W.heap[B]? =some (.cells cs t (0,0))
theorem Blk.lt {W:World} {B:Nat} {cs:Array Value} {t:TypeId} (h:Blk W B cs t):B<W.heap.size:=(Array.getElem?_eq_some_iff.1 h.heap).1
theorem Blk.cell {W:World} {B:Nat} {cs:Array Value} {t:TypeId} (h:Blk W B cs t) (i:Nat):W.cell? ⟨B,i,none⟩=cs[i]? :=by simp [World.cell?,h.heap]
theorem Blk.free {W:World} {B:Nat} {cs:Array Value} {t:TypeId} (h:Blk W B cs t) (i:Nat):W.frozen? ⟨B,i,none⟩=false:=by simp [World.frozen?,h.heap]
theorem Blk.ext {W W':World} {B:Nat} {cs:Array Value} {t:TypeId} (h:Blk W B cs t) (b:qb W W'):Blk W' B cs t:=⟨(b.block B h.lt).trans h.heap⟩
structure Only (B:Nat) (W W':World):Prop where
  os:W'.os=W.os
  tape:W'.tape=W.tape
  output:W'.output=W.output
  size:W'.heap.size=W.heap.size
  block:∀k,k≠B→W'.heap[k]? =W.heap[k]?
theorem Only.ext {B:Nat} {w W W':World} (h:Only B W W') (b:qb w W) (e:w.heap.size≤B):qb w W':=
  ⟨h.os.trans b.os,h.tape.trans b.tape,h.output.trans b.output,by rw [h.size];exact b.size,fun k c=>(h.block k (by omega)).trans (b.block k c)⟩
theorem Only.blk {B B':Nat} {W W':World} {cs:Array Value} {t:TypeId} (h:Only B W W') (c:Blk W B' cs t) (b:B'≠B):Blk W' B' cs t:=⟨(h.block B' b).trans c.heap⟩
theorem Only.refl (B:Nat) (W:World):Only B W W:=⟨rfl,rfl,rfl,rfl,fun _ _=>rfl⟩
theorem Only.trans {B:Nat} {a b c:World} (h:Only B a b) (k:Only B b c):Only B a c:=
  ⟨k.os.trans h.os,k.tape.trans h.tape,k.output.trans h.output,k.size.trans h.size,fun i e=>(k.block i e).trans (h.block i e)⟩
theorem qc4 (W:World) (B i:Nat) (v:Value):Only B W (W.setCell ⟨B,i,none⟩ v):=
  ⟨rfl,rfl,rfl,by simp,fun k b=>Below.heap_setCell _ _ _ _ b⟩
theorem qev {W:World} {B:Nat} {cs:Array Value} {t:TypeId} (h:Blk W B cs t) (i:Nat) (v:Value):Blk (W.setCell ⟨B,i,none⟩ v) B (cs.setIfInBounds i v) t:=by
  have b:=h.heap;exact ⟨by simp [World.setCell,Array.getElem?_modify,b]⟩
theorem qbY (w:World) (cs:Array Value) (t:TypeId):Blk (w.alloc (.cells cs t)) w.heap.size cs t:=⟨heap_alloc_new w _⟩
section
variable {P:Program} {Q:Ks} {d:Option Nat} {ty:TypeId} {K:qa→World→Prop} {ρ:qa} {w:World}
theorem vz {t:TypeId} {x:Operand} (h:∀(B:Nat) (W:World),w.heap.size≤B→qb w W→Blk W B (qd ρ x).cells t→W.heap.size=B+1→K (qm ρ d (.pointer (some ⟨B,0,none⟩))) W):qw P Q d (.box t x) ty K ρ w:=
  h w.heap.size _ (Nat.le_refl _) (wE w _) (qbY w _ _) (by simp)
theorem qT {t:TypeId} {z:Array Value} (b:vL P t=some z) (h:∀(B:Nat) (W:World),w.heap.size≤B→qb w W→Blk W B z t→W.heap.size=B+1→K (qm ρ d (.pointer (some ⟨B,0,none⟩))) W):qw P Q d (.alloc t) ty K ρ w:=by
  show xi (vL P t) _;rw [b];exact h w.heap.size _ (Nat.le_refl _) (wE w _) (qbY w _ _) (by simp)
theorem qP {t:TypeId} {p x:Operand} {B i:Nat} {cs:Array Value} {T:TypeId} (k:qd ρ p= .pointer (some ⟨B,i,none⟩)) (b:Blk w B cs T) (c:i<cs.size) (g:(qd ρ x).cells= #[qd ρ x]) (e:(qd ρ x).oneCell=true)
    (j:jG P t 1=true) (h:∀W,Only B w W→Blk W B (cs.set i (qd ρ x)) T→K (qm ρ d undef) W):qw P Q d (.store t p x) ty K ρ w:=by
  show jG P t (qd ρ x).cells.size=true∧yL (qd ρ p) _;rw [k,g];refine ⟨j, ?_⟩;show kW _ [qd ρ x] 0 _ w;refine ⟨⟨cs[i], ?_⟩, ?_,e, ?_⟩
  · rw [zF,Nat.add_zero,b.cell];simp [c]
  · rw [zF,Nat.add_zero,b.free]
  · rw [zF,Nat.add_zero];refine h _ (qc4 w B i _) ?_;have:=qev b i (qd ρ x);rw [Array.setIfInBounds,dif_pos c] at this;exact this
theorem qcn {B : Nat} {T : TypeId} {K : World → Prop} : ∀ (vs : List Value) (i : Nat) (w : World) (cs : Array Value), Blk w B cs T → i + vs.length ≤ cs.size → (∀ v ∈ vs, v.oneCell = true) →
    (∀W,Only B w W→Blk W B (cs.toList.take i++vs++cs.toList.drop (i+vs.length)).toArray T→K W)→kW ⟨B,0,none⟩ vs i K w
  |[],i,w,cs,b,_,_,h=>h w (Only.refl _ _) (by simpa using b)
  | v :: vs, i, w, cs, b, m, g, h => by
    simp only [List.length_cons] at m;have c:i<cs.size:=by omega
    refine ⟨⟨cs[i], ?_⟩, ?_,g v (by simp), ?_⟩
    · rw [zF,Nat.zero_add,b.cell];simp [c]
    · rw [zF,Nat.zero_add,b.free]
    · rw [zF,Nat.zero_add];refine qcn vs (i+1) _ (cs.setIfInBounds i v) (qev b i v) (by simp;omega) (fun u j=>g u (by simp [j])) fun W k l=> ?_;refine h W ((qc4 w B i v).trans k) ?_;have e:(cs.setIfInBounds i v).toList.take (i+1)++vs++(cs.setIfInBounds i v).toList.drop (i+1+vs.length)=cs.toList.take i++v::vs++cs.toList.drop (i+(vs.length+1)):=by
        simp only [Array.toList_setIfInBounds];rw [List.take_succ_eq_append_getElem (by simpa using c),List.take_set_of_le (Nat.le_refl i),List.drop_set_of_lt (by omega)];simp [show i+1+vs.length=i+(vs.length+1) by omega]
      simp only [List.length_cons];rw [←e];exact l
theorem jz {t:TypeId} {n:Nat} {ps:Array (Nat×Operand)} {es:TypeId×Nat} (e:xo P t=some es) (c:n*es.2≤1000) (b:ps.toList.map (·.1)=List.range n) (g:∀p∈ps.toList,(qd ρ p.2).cells.size=es.2)
    (h:∀(B:Nat) (W:World),w.heap.size≤B→qb w W→Blk W B (ps.toList.flatMap fun p=>(qd ρ p.2).cells.toList).toArray es.1→W.heap.size=B+1→K (qm ρ d (.slice (some ⟨B,0,none⟩) n n)) W):qw P Q d (.buildSlice t n ps) ty K ρ w:=by
  show xi (xo P t) _;rw [e];exact ⟨c,b,g,h w.heap.size _ (Nat.le_refl _) (wE w _) (qbY w _ _) (by simp)⟩
end
@[simp] theorem qEL (w:World) (a:Addr):Eng.jk w a 0 2=(w.cell? (a.add 0)).bind fun x=>(w.cell? (a.add 1)).bind fun y=>some [x,y]:=by
  simp only [Eng.jk];cases w.cell? (a.add 0)<;>cases w.cell? (a.add 1)<;>simp
@[simp] theorem qEK (w:World) (a:Addr):Eng.jk w a 0 3=(w.cell? (a.add 0)).bind fun x=>(w.cell? (a.add 1)).bind fun y=>(w.cell? (a.add 2)).bind fun z=>some [x,y,z]:=by
  simp only [Eng.jk];cases w.cell? (a.add 0)<;>cases w.cell? (a.add 1)<;>cases w.cell? (a.add 2)<;>simp
theorem QL {v:Value} (h:qn v=true) (sz l r m:Nat) (t:l≤r) (u:r≤m) (k:m≤qo v):qn (qR v sz l r m)=true:=by
  rcases zz h with ⟨b,o,n,c,rfl,p⟩|rfl|⟨b,o,s,rfl⟩
  rotate_left 2
  · simp only [qo] at k;have j:m=0:=by omega
    have i:l=0:=by omega
    have g:r=0:=by omega
    subst j;subst i;subst g;rfl
  · simp only [qR];split
    · rename_i e;subst e;simp only [qn];simp;omega
    · simp only [Option.map_some,qn,zF];simp;omega
  · simp only [qo] at k;have j:m=0:=by omega
    have i:l=0:=by omega
    have g:r=0:=by omega
    subst j;subst i;subst g;rfl
@[simp] theorem Qr {v:Value} (sz l r m:Nat) (h:qn v=true):qk (qR v sz l r m)=r - l:=by
  rcases zz h with ⟨b,o,n,c,rfl,e⟩|rfl|⟨b,o,s,rfl⟩<;>simp [qR,qk]
@[simp] theorem qEJ {v:Value} (sz l r m:Nat) (h:qn v=true):qo (qR v sz l r m)=m - l:=by
  rcases zz h with ⟨b,o,n,c,rfl,e⟩|rfl|⟨b,o,s,rfl⟩<;>simp [qR,qo]
theorem qcr {v:Value} (sz l r m j:Nat) (h:qn v=true) (i:l<m) (e:qo v≠0):qJ (qR v sz l r m) j=qJ v (l*sz+j):=by
  rcases zz h with ⟨b,o,n,c,rfl,g⟩|rfl|⟨b,o,s,rfl⟩
  rotate_left 2
  · simp [qo] at e
  · simp only [qR];rw [if_neg (by omega)];simp [qJ,Nat.add_assoc]
  · simp [qo] at e
theorem qyv {v:Value} (h:qn v=true):qk v≤qo v:=by
  rcases zz h with ⟨b,o,n,c,rfl,e⟩|rfl|⟨b,o,s,rfl⟩<;>simp [qk,qo];exact e
theorem Sl.sub {b:Type} {enc:b→Value} {w:World} {v:Value} {xs:List b} (h:Sl enc w v xs) {l r m:Nat} (e:l≤r) (n:r≤xs.length) (k:r≤m) (g:m≤qo v):
    Sl enc w (qR v 1 l r m) ((xs.take r).drop l):=by
  have c:((xs.take r).drop l).length=r - l:=by simp;omega
  refine ⟨QL h.is 1 l r m e k g,by rw [Qr _ _ _ _ h.is,c],by have:=h.bd;omega,fun i j=> ?_⟩;rw [c] at j;rw [qcr 1 l r m i h.is (by omega) (by omega),Nat.mul_one,h.cell (l+i) (by omega)];simp
section
variable {cx:Cx} {K:qa→World→Prop} {Q:Ks} {ρ:qa} {w:World} {a:IR}
theorem js (s n:Nat) (I:Nat→qa→World→Prop) (l:ρ s= .int .i64 0) (t:I 0 ρ w)
    (h:∀(k:Nat) (c:qa) (w':World),k≤n→c s= .int .i64 k→I k c w'→a.wp cx (fun b g=>k<n∧b s= .int .i64 ((k:Int)+1)∧I (k+1) b g) Q c w'):(IR.loop a).wp cx K Q ρ w:=by
  refine QJ (fun c w'=>∃k:Nat,k≤n∧c s= .int .i64 k∧I k c w') (fun c _=>n - (RowKit.intOf (c s)).toNat) ⟨0,Nat.zero_le _,l,t⟩ ?_;rintro c w' ⟨k,u,m,p⟩;have:=h k c w' u m p;have e:(fun b g=>k<n∧b s= .int .i64 ((k:Int)+1)∧I (k+1) b g)=fun b g=>(k<n∧b s= .int .i64 ((k:Int)+1)∧I (k+1) b g):=rfl;refine IR.wp_mono this ?_ (fun _ _ _ h=>h) (fun _ _ h=>h) (fun _ _ _ h=>h) (fun h=>h) ⟨fun h=>h,fun h=>h⟩;rintro b g ⟨o,i,j⟩;exact ⟨⟨k+1,by omega,by rw [i];simp,j⟩,by rw [i,m];simp;omega⟩
end
@[simp] theorem qGf (a b:Nat):((a:Int)=(b:Int))↔a=b:=Int.ofNat_inj
@[simp] theorem qGe (n:Nat):((n:Int)<0)↔False:=⟨fun h=>by omega,fun h=>h.elim⟩
@[simp] theorem qGc (p n:Nat):((p:Int)+1<(n:Int))↔p+1<n:=by omega
@[simp] theorem qGd (p n:Nat):((p:Int)+1≤(n:Int))↔p+1≤n:=by omega
@[simp] theorem qGb (p:Nat):(0≤(p:Int)+1)↔True:=⟨fun _=>trivial,fun _=>by omega⟩
def qc (bs:List UInt8):ByteArray:=⟨bs.toArray⟩
@[simp] theorem qFL (b:List UInt8):(qc b).data.toList=b:=rfl
theorem jp {a b:List UInt8}:qc a=qc b↔a=b:=⟨fun h=>by have:=congrArg (fun x=>x.data.toList) h;simpa using this,fun h=>by rw [h]⟩
@[simp] theorem qxX (b:List UInt8):(qc b).size=b.length:=rfl
theorem Qw {w:World} {a:Addr}:∀{l:List Value} {i:Nat},(∀j (h:j<l.length),w.cell? (a.add (i+j))=some l[j])→jk w a i l.length=some l
  |[],_,_=>rfl
  | v :: l, i, h => by
    have b:=h 0 (by simp);have e:=Qw (w:=w) (a:=a) (l:=l) (i:=i+1) fun j c=>by
      have:=h (j+1) (by simpa using c);simpa [Nat.add_assoc,Nat.add_comm 1 j] using this
    simp only [List.length_cons,jk];simp only [Nat.add_zero,List.getElem_cons_zero] at b;simp [b,e]
theorem Sl.congr {b:Type} {enc:b→Value} {w:World} {v:Value} {xs ys:List b} (h:Sl enc w v xs) (e:xs=ys):Sl enc w v ys:=e▸h
end Go.Eng
namespace Go.Eng
open Go.RowKit
def xG (P:Program) (t:TypeId):Option (TypeId×Nat×Nat):=
  match P.underlying t with
  |some (.slice e)=>(P.info? e).bind fun i=>i.zero.bind fun z=>if z.cells.size=i.size∧0<i.size then some (e,i.size,i.bytes) else none
  |_=>none
def Own (base:Nat) (e sz:Nat) (w:World) (v:Value) (xs:List Value):Prop:=
  (v= .slice none 0 0∧xs=[])∨
  ∃g off n cap cur,v= .slice (some ⟨g,off,none⟩) n cap∧base≤g∧w.heap[g]? =some (.cells cur e (0,0))∧xs.length=n*sz∧n≤cap∧cap≤maxLen∧off+cap*sz≤cur.size∧(cur.toList.drop off).take (n*sz)=xs
theorem Own.nil (base e sz:Nat) (w:World):Own base e sz w (.slice none 0 0) []:= .inl ⟨rfl,rfl⟩
theorem Own.blk {base e sz:Nat} {w:World} {v:Value} {xs:List Value} (h:Own base e sz w v xs):∀k,v.ownBlock=some k→base≤k∧k<w.heap.size:=by
  intro k b;rcases h with ⟨rfl,_⟩|⟨g,off,n,cap,cur,rfl,c,i,_⟩
  · simp [Value.ownBlock] at b
  · simp [Value.ownBlock] at b;subst b;exact ⟨c,(Array.getElem?_eq_some_iff.1 i).1⟩
theorem Own.ext {base e sz:Nat} {w w':World} {v:Value} {xs:List Value} (h:Own base e sz w v xs) (i:qb w w'):Own base e sz w' v xs:=by
  rcases h with h|⟨g,off,n,cap,cur,rfl,c,b,r⟩
  · exact .inl h
  · exact .inr ⟨g,off,n,cap,cur,rfl,c,(i.block g (Array.getElem?_eq_some_iff.1 b).1).trans b,r⟩
theorem Own.kept {base e sz:Nat} {w w':World} {v:Value} {xs:List Value} {row:Option Nat} (h:Own base e sz w v xs) (c:w.grownBy w' row) (b:v.ownBlock=none∨v.ownBlock≠row):Own base e sz w' v xs:=by
  rcases h with h|⟨g,off,n,cap,cur,rfl,j,i,r⟩
  · exact .inl h
  · refine .inr ⟨g,off,n,cap,cur,rfl,j, ?_,r⟩;rw [c.block g (Array.getElem?_eq_some_iff.1 i).1 (by simpa [Value.ownBlock] using b)];exact i
theorem Own.only {base e sz:Nat} {w w':World} {v:Value} {xs:List Value} {B:Nat} (h:Own base e sz w v xs) (b:Only B w w') (j:B<base):Own base e sz w' v xs:=by
  rcases h with h|⟨g,off,n,cap,cur,rfl,i,c,r⟩
  · exact .inl h
  · exact .inr ⟨g,off,n,cap,cur,rfl,i,(b.block g (by omega)).trans c,r⟩
theorem Own.lit {base e sz:Nat} {W:World} {B n:Nat} {cs:List Value} (h:Blk W B cs.toArray e) (b:cs.length=n*sz) (c:base≤B) (g:n≤maxLen):Own base e sz W (.slice (some ⟨B,0,none⟩) n n) cs:=
  .inr ⟨B,0,n,n,cs.toArray,rfl,c,h.heap,b,Nat.le_refl _,g,by simpa using Nat.le_of_eq b.symm,by simp [←b]⟩
theorem Own.sl {k:Type} {enc:k→Value} {base e:Nat} {w:World} {v:Value} {xs:List k} (h:Own base e 1 w v (xs.map enc)) (b:xs.length<4611686018427387904):Sl enc w v xs:=by
  rcases h with ⟨rfl,c⟩|⟨g,off,n,cap,cur,rfl,u,s,t,m,_,x,o⟩
  · have:xs=[]:=by simpa using c
    subst this;exact Sl.nil enc w
  · have j:n=xs.length:=by simpa using t.symm
    refine ⟨by simp [qn,m],by simp [qk,j],b,fun i p=> ?_⟩;have l:((cur.toList.drop off).take (n*1))[i]? =(xs.map enc)[i]? :=by rw [o]
    rw [List.getElem?_take,if_pos (by omega),List.getElem?_drop] at l;simp only [qJ,World.cell?,s];simpa [p] using l
theorem Own.drop {base e:Nat} {w:World} {v:Value} {xs:List Value} (h:Own base e 1 w v xs) (l:Nat) (m:l≤xs.length):Own base e 1 w (qR v 1 l (qk v) (qo v)) (xs.drop l):=by
  rcases h with ⟨rfl,rfl⟩|⟨g,off,n,cap,cur,rfl,i,c,j,o,s,t,k⟩
  · have:l=0:=by simpa using m
    subst this;exact .inl ⟨by simp [qR,qk,qo],rfl⟩
  · have p:n=xs.length:=by omega
    have es:qR (.slice (some ⟨g,off,none⟩) n cap) 1 l (qk (.slice (some ⟨g,off,none⟩) n cap)) (qo (.slice (some ⟨g,off,none⟩) n cap))= .slice (some ⟨g,if cap=l then off else off+l,none⟩) (n - l) (cap - l):=by
      simp [qR,qk,qo];split<;>simp
    rw [es];by_cases b:cap=l
    · have:xs.drop l=[]:=List.drop_eq_nil_of_le (by omega);rw [this,if_pos b];exact .inr ⟨g,off,n - l,cap - l,cur,rfl,i,c,by simp;omega,by omega,by omega,by omega,by rw [show (n - l)*1=0 by omega];simp⟩
    · rw [if_neg b];refine .inr ⟨g,off+l,n - l,cap - l,cur,rfl,i,c,by simp;omega,by omega,by omega,by omega, ?_⟩;rw [←k,List.drop_take,List.drop_drop];congr 1;omega
theorem Sl.kept {g:Type} {enc:g→Value} {w w':World} {v:Value} {xs:List g} {row:Option Nat} (h:Sl enc w v xs) (l:w.grownBy w' row) (e:v.ownBlock=none∨v.ownBlock≠row):Sl enc w' v xs:=by
  refine ⟨h.is,h.len,h.bd,fun i k=> ?_⟩;have j:=h.cell i k;rcases zz h.is with ⟨b,o,n,c,rfl,_⟩|rfl|⟨b,o,s,rfl⟩
  rotate_left 2
  · have:=h.len;simp [qk] at this;omega
  · exact l.cell j (by simpa [Value.ownBlock,qJ] using e)
  · have:=h.len;simp [qk] at this;omega
structure Cells (w:World) (v:Value) (sz:Nat) (xs:List Value):Prop where
  is:qn v=true
  len:xs.length=qk v*sz
  cell:∀(j:Nat) (h:j<xs.length),w.cell? (qJ v j)=some xs[j]
theorem Sl.cells {b:Type} {enc:b→Value} {w:World} {v:Value} {xs:List b} (h:Sl enc w v xs):Cells w v 1 (xs.map enc):=
  ⟨h.is,by simp [h.len],fun j c=>by rw [h.cell j (by simpa using c)];simp⟩
theorem Blk.cells {w:World} {B n sz:Nat} {cs:List Value} {t:TypeId} (h:Blk w B cs.toArray t) (b:cs.length=n*sz):Cells w (.slice (some ⟨B,0,none⟩) n n) sz cs:=
  ⟨by simp [qn],by simp [qk,b],fun j c=>by simp only [qJ];rw [h.cell];simp⟩
section
variable {P:Program} {Q:Ks} {d:Option Nat} {ty:TypeId} {K:qa→World→Prop} {ρ:qa} {w:World}
theorem qe4 {B o:Nat} {K:World→Prop}:∀(vs:List Value) (i:Nat) (w:World),kW ⟨B,0,none⟩ vs (o+i) K w→kW ⟨B,o,none⟩ vs i K w
  |[],_,_,h=>h
  |v::vs,i,w,h=>by
    obtain ⟨b,e,g,c⟩:=h;simp only [zF,Nat.zero_add] at b e c;refine ⟨by simpa using b,by simpa using e,g, ?_⟩;simp only [zF];exact qe4 vs (i+1) _ (by simpa [Nat.add_assoc] using c)
theorem qcB {t e sz bytes : Nat} (hi : xG P t = some (e, sz, bytes)) {base : Nat} {v xv : Value} {xs news : List Value} (y : Own base e sz w v xs) (J : Cells w xv sz news) (h1 : ∀ u ∈ news, u.oneCell' = true)
    (hlen:xs.length+news.length<4611686018427387904) (E:(xs.length+news.length)*bytes≤140737488355328*sz) (X:base≤w.heap.size):
    ∃v' W,(Builtin.append_ #[t,t] ty #[v,xv]).run P w= .ok v' W∧Own base e sz W v' (xs++news)∧w.grownBy W v.ownBlock∧(v'.ownBlock=v.ownBlock∨v'.ownBlock=some w.heap.size):=by
  unfold xG at hi;split at hi
  · rename_i e' x;simp only [Option.bind_eq_some_iff] at hi;obtain ⟨i,A,z,hz,hc⟩:=hi;split at hc
    · rename_i V;cases hc;obtain ⟨V,S⟩:=V;have h:=J.len
      have grown:∀(n m old:Nat),xs.length=n*i.size→news.length=m*i.size→n+m≤maxLen→∀(row:Option Nat),
          Own base e i.size (w.drew.alloc (.cells (xs.toArray++news.toArray++Builtin.zeroCells z.cells (grownCap w (n+m) old e - (n+m))) e)) (.slice (some ⟨w.heap.size,0,none⟩) (n+m) (grownCap w (n+m) old e)) (xs++news)∧
          w.grownBy (w.drew.alloc (.cells (xs.toArray++news.toArray++Builtin.zeroCells z.cells (grownCap w (n+m) old e - (n+m))) e)) row:=by
        intro n m old H hm h63 row;have hge:=grownCap_ge w (n+m) old e;have L:grownCap w (n+m) old e≤maxLen:=grownCap_le_maxLen w (n+m) old e h63;have hl:(xs++news).length=(n+m)*i.size:=by rw [List.length_append,H,hm,Nat.add_mul]
        refine ⟨.inr ⟨w.heap.size,0,_,_,_,rfl,X,heap_alloc_new w.drew _,hl,hge,L, ?_, ?_⟩,⟨rfl,rfl,rfl,by simp,fun k hk _=>heap_alloc_old w.drew _ k hk⟩⟩
        · simp only [Array.size_append,List.size_toArray,size_zeroCells,V,H,hm,←Nat.add_mul,Nat.zero_add];refine Nat.le_of_eq ?_;congr 1;omega
        · simp only [Array.toList_append,List.append_assoc,List.drop_zero];rw [←List.append_assoc,←hl];exact List.take_left
      have p:∀n:Nat,xs.length=n*i.size→n+qk xv≤maxLen∧(n+qk xv)*i.bytes≤140737488355328:=by
        intro n H;have h2:(n+qk xv)*i.size=xs.length+news.length:=by rw [H,h,Nat.add_mul]
        have h3:n+qk xv≤(n+qk xv)*i.size:=Nat.le_mul_of_pos_right _ S;refine ⟨by simp only [maxLen];omega, ?_⟩;rw [←h2,Nat.mul_right_comm] at E;exact Nat.le_of_mul_le_mul_right E S
      rcases zz J.is with ⟨b,o,m,c,rfl,hmc⟩|rfl|⟨b,o,sp,rfl⟩
      rotate_left 2
      · have I:news=[]:=List.length_eq_zero_iff.1 (by simpa [qk] using h);subst I;refine ⟨v,w, ?_,by simpa using y,⟨rfl,rfl,rfl,Nat.le_refl _,fun _ _ _=>rfl⟩, .inl rfl⟩;rcases y with ⟨rfl,rfl⟩|⟨g,off,n,cap,cur,rfl,U,hg,H,R,L,Z,s⟩
        · simp [Builtin.append_,run_underlying x,sizeOf,typeInfo,A,Builtin.lenOf,Builtin.firstCells,loadCells,loadCellsFrom]
        · simp [Builtin.append_,run_underlying x,sizeOf,typeInfo,A,Builtin.lenOf,Builtin.firstCells,R,storeCells,loadCells,loadCellsFrom]
      · have B:∀j u,news[j]? =some u→w.cell? ((⟨b,o,none⟩:Addr).add j)=some u:=fun j u x=>by
          obtain ⟨hj,rfl⟩:=List.getElem?_eq_some_iff.1 x;have:=J.cell j hj;simpa [qJ] using this
        simp only [qk] at h p;rcases y with ⟨rfl,rfl⟩|⟨g,off,n,cap,cur,rfl,U,hg,H,R,L,Z,s⟩
        · obtain ⟨O,Y⟩:=p 0 (by simp);by_cases hm:m=0
          · subst hm;have hnn:news=[]:=List.eq_nil_of_length_eq_zero (by simpa using h);subst hnn;refine ⟨.slice none 0 0,w, ?_,Own.nil _ _ _ _,⟨rfl,rfl,rfl,Nat.le_refl _,fun _ _ _=>rfl⟩, .inl rfl⟩;simp [Builtin.append_,run_underlying x,sizeOf,typeInfo,A,Builtin.lenOf,Builtin.firstCells,loadCells,loadCellsFrom]
          · simp only [maxLen] at O;simp only [Nat.zero_add] at O Y;have hr:=run_append_nil (P:=P) w t ty e i z x A hz ⟨b,o,none⟩ m c news h B (by omega) (by omega) (by omega);have F:=grown 0 m 0 (by simp) h (by simp only [maxLen];omega) (Value.ownBlock (.slice none 0 0));simp only [Nat.zero_add,List.nil_append,Array.empty_append] at F⊢;exact ⟨_,_,hr,F.1,F.2, .inr rfl⟩
        · obtain ⟨O,Y⟩:=p n H;by_cases C:n+m≤cap
          · have aa:(n+m)*i.size≤cap*i.size:=Nat.mul_le_mul_right _ C;rw [Nat.add_mul,←h] at aa;have hb:Blk w g cur e:=⟨hg⟩;have hone:∀u∈news,u.oneCell=true:=fun u x=>by have:=h1 u x;cases u<;>first|rfl|exact this
            obtain ⟨W,hW,l,hBlk⟩:=qfl (P:=P) ⟨g,off+n*i.size,none⟩ news 0
              (fun W=>Only g w W∧Blk W g (cur.toList.take (off+n*i.size+0)++news++cur.toList.drop (off+n*i.size+0+news.length)).toArray e) w
              (qe4 news 0 w (qcn news (off+n*i.size+0) w cur hb (by omega) hone fun W hO hB=>⟨hO,hB⟩))
            refine ⟨.slice (some ⟨g,off,none⟩) (n+m) cap,W, ?_, .inr ⟨g,off,n+m,cap,_,rfl,U,hBlk.heap,by rw [List.length_append,H,h,Nat.add_mul],C,L, ?_, ?_⟩, ?_, .inl rfl⟩
            · have hf:=run_firstCells_some (P:=P) w i.size m ⟨b,o,none⟩ m c news h B;simp [Builtin.append_,run_underlying x,sizeOf,typeInfo,A,Builtin.lenOf,C,hf,hW]
            · simp;omega
            · have e0:off+n*i.size≤cur.toList.length:=by rw [Array.length_toList];omega
              have e1:(cur.toList.take (off+n*i.size)).drop off=xs:=by
                rw [List.drop_take,←s];congr 1;omega
              simp only [Nat.add_zero];rw [List.append_assoc,List.drop_append_of_le_length (by rw [List.length_take];omega),e1,←List.append_assoc,Nat.add_mul,←h,←H,←List.length_append];exact List.take_left
            · exact ⟨l.os,l.tape,l.output,by rw [l.size];exact Nat.le_refl _,fun k _ hk=>l.block k (fun e=>hk (by simp [Value.ownBlock,e]))⟩
          · have holds:∀j u,xs[j]? =some u→w.cell? ((⟨g,off,none⟩:Addr).add j)=some u:=by
              intro j u x;rw [←s,List.getElem?_take] at x;split at x
              · rw [List.getElem?_drop] at x;rw [zF,(⟨hg⟩:Blk w g cur e).cell];simpa using x
              · cases x
            simp only [maxLen] at O;have hr:=run_append_grow (P:=P) w t ty e i z x A hz ⟨g,off,none⟩ n cap xs H holds ⟨b,o,none⟩ m c news h B (by omega) (by omega) (growslice_fits (by omega) Y);have F:=grown n m cap H h (by simp only [maxLen];omega) (Value.ownBlock (.slice (some ⟨g,off,none⟩) n cap));exact ⟨_,_,hr,F.1,F.2, .inr rfl⟩
      · have I:news=[]:=List.length_eq_zero_iff.1 (by simpa [qk] using h);subst I;refine ⟨v,w, ?_,by simpa using y,⟨rfl,rfl,rfl,Nat.le_refl _,fun _ _ _=>rfl⟩, .inl rfl⟩;rcases y with ⟨rfl,rfl⟩|⟨g,off,n,cap,cur,rfl,U,hg,H,R,L,Z,s⟩
        · simp [Builtin.append_,run_underlying x,sizeOf,typeInfo,A,Builtin.lenOf,Builtin.firstCells]
        · simp [Builtin.append_,run_underlying x,sizeOf,typeInfo,A,Builtin.lenOf,Builtin.firstCells,R,storeCells]
    · cases hc
  · cases hi
theorem ku {t e sz bytes:Nat} (p:xG P t=some (e,sz,bytes)) {W0:World} (l:qb W0 w) {s x:Operand} {sv xv:Value} (B:qd ρ s=sv) (C:qd ρ x=xv) {xs news:List Value}
    (c:Own W0.heap.size e sz w sv xs) (i:Cells w xv sz news) (z:∀u∈news,u.oneCell'=true)
    (j:xs.length+news.length<4611686018427387904) (b:(xs.length+news.length)*bytes≤140737488355328*sz)
    (h:∀g W,qb W0 W→Own W0.heap.size e sz W g (xs++news)→w.grownBy W sv.ownBlock→(g.ownBlock=sv.ownBlock∨g.ownBlock=some w.heap.size)→K (qm ρ d g) W):qw P Q d (.call {callee:= .builtin .append,args:= #[s,x],argTypes:= #[t,t]}) ty K ρ w:=by
  subst B;subst C;obtain ⟨g,W,o,A,n,m⟩:=qcB (P:=P) (ty:=ty) p c i z j b l.size;refine ju (v:=g) (w':=W) ?_ (h g W ?_ A n m)
  · simp only [execOp,qD,resolve,invoke,builtin,Sem.run_bind,Sem.run_pure,Result.andThen_ok,List.map_toArray,List.map_cons,List.map_nil,o]
  · exact l.grown n l.size fun k y=>(c.blk k y).1
end
end Go.Eng
