/- Lemmas for a claim about layer 2 (tree). No conditions but those they state. -/
import Derived.Test.YtbcmiempigoooaaGreatDoorNad
import Derived.Laws.AppendOwn
import Derived.Laws.OwnMore
set_option linter.all false
namespace Go.Eng
open Go.RowKit
def qN:Code→Nat→Code
  | .region i o d,id=>if i=id then .region i o d else .skip
  | .seq a b,id| .cond _ a b,id=>match qN a id with| .skip=>qN b id|c=>c
  | .block _ c,id| .loop c,id| .scope c,id=>qN c id
  | .rangeFunc _ _ a b,id=>match qN a id with| .skip=>qN b id|c=>c
  |_,_=> .skip
@[simp] theorem qGO (ρ:qa) (i j:Nat) (v:Value):qu ρ i v j=if j=i then v else ρ j:=rfl
@[simp] theorem qGP (ρ:qa) (i:Nat) (v:Value):qm ρ (some i) v=qu ρ i v:=rfl
@[simp] theorem qGQ (ρ:qa) (v:Value):qm ρ none v=ρ:=rfl
def Ks.blk (Q:Ks) (i:Nat) (K:qa→World→Prop):Ks:={Q with ex:=fun j=>if j=i then K else Q.ex j}
@[simp] theorem qKG (Q:Ks) (i:Nat) (K:qa→World→Prop):(Q.blk i K).rt=Q.rt:=rfl
@[simp] theorem qKI (Q:Ks) (i:Nat) (K:qa→World→Prop):(Q.blk i K).pn=Q.pn:=rfl
@[simp] theorem qKL (Q:Ks) (i:Nat) (K:qa→World→Prop):(Q.blk i K).df=Q.df:=rfl
@[simp] theorem qKH (Q:Ks) (i:Nat) (K:qa→World→Prop):(Q.blk i K).rd=Q.rd:=rfl
@[simp] theorem qHO (Q:Ks):Q.noRd.ex=Q.ex:=rfl
@[simp] theorem qHL (Q:Ks):Q.noRd.rt=Q.rt:=rfl
@[simp] theorem qHM (Q:Ks):Q.noRd.pn=Q.pn:=rfl
@[simp] theorem qHN (Q:Ks):Q.noRd.og=Q.og:=rfl
@[simp] theorem qHP (Q:Ks):Q.noRd.df=Q.df:=rfl
@[simp] theorem qKJ (Q:Ks) (i:Nat) (K:qa→World→Prop):(Q.blk i K).og=Q.og:=rfl
@[simp] theorem qKK (Q:Ks) (i j:Nat) (K:qa→World→Prop) (ρ:qa) (w:World):(Q.blk i K).ex j ρ w=if j=i then K ρ w else Q.ex j ρ w:=by simp only [Ks.blk];split<;>rfl
theorem quQ {P:Program} {Q Q':Ks} {dst:Option Nat} {K K':qa→World→Prop} {ρ:qa} (j:∀ρ w,K ρ w→K' ρ w) (hpn:∀ρ c w,Q.pn ρ c w→Q'.pn ρ c w) (g:Q.og→Q'.og) (i:(Q.df→Q'.df)∧(Q.rd→Q'.rd)) {r:Result Next} (h:wX P Q dst K ρ r):wX P Q' dst K' ρ r:=by
  cases r with
  |ok x w=>
    cases x<;>simp only [wX] at h⊢ <;>first|exact j _ _ h|exact h|exact ⟨i.1 h.1,j _ _ h.2⟩|skip
    · refine h.mono fun e w' b=> ?_;cases e with
      |returned v=>exact j _ _ b
      |panicked c=>exact hpn _ _ _ b
      |outgrown=>exact g b
    · refine ⟨i.2 h.1,h.2.mono fun e w' b=> ?_⟩;cases e with
      |returned v=>exact j _ _ b
      |panicked c=>exact hpn _ _ _ b
      |outgrown=>exact g b
  |halt x w=>cases x<;>simp only [wX] at h⊢ <;>first|exact hpn _ _ _ h|exact h
theorem qtu {P:Program} {Q Q':Ks} {dst:Option Nat} {op:Op} {ty:TypeId} {K K':qa→World→Prop} {ρ:qa} {w:World} (g:∀ρ w,K ρ w→K' ρ w) (hpn:∀ρ c w,Q.pn ρ c w→Q'.pn ρ c w) (e:Q.og→Q'.og) (b:(Q.df→Q'.df)∧(Q.rd→Q'.rd)) (h:j9 P Q dst op ty K ρ w):j9 P Q' dst op ty K' ρ w:=
  quQ g hpn e b h
theorem qko {K K':World→Prop} (b:∀w,K w→K' w) (a:Addr):∀(vs:List Value) (i:Nat) (w:World),wc a vs i K w→wc a vs i K' w
  |[],_,_,h=>b _ h
  |_::vs,i,_,⟨j,g,c,e⟩=>⟨j,g,c,qko b a vs (i+1) _ e⟩
theorem qgP {b:Type} {c:Option b} {f g:b→Prop} (h:∀a,f a→g a) (e:xl c f):xl c g:=by cases c<;>first|exact e|exact h _ e
theorem qdv {c:Option Value} {f g:Value→Prop} (h:∀a,f a→g a) (b:vJ c f):vJ c g:=by cases c<;>first|exact b|exact h _ b
theorem qyd {x:Value} {f g:Addr→Prop} (h:∀a,f a→g a) (b:yR x f):yR x g:=by
  cases x with
  |pointer a=>cases a<;>first|exact h _ b|exact b
  |_=>exact b
theorem qFh {P:Program} {Q Q':Ks} {dst:Option Nat} {op:Op} {ty:TypeId} {K K':qa→World→Prop} {ρ:qa} {w:World} (b:∀ρ w,K ρ w→K' ρ w) (hpn:∀ρ c w,Q.pn ρ c w→Q'.pn ρ c w) (g:Q.og→Q'.og) (i:(Q.df→Q'.df)∧(Q.rd→Q'.rd)) (h:qr P Q dst op ty K ρ w):qr P Q' dst op ty K' ρ w:=by
  unfold qr at h⊢;split at h
  · exact b _ _ h
  · exact qgP (fun _ h=>b _ _ h) h
  · exact ⟨h.1,qyd (fun a h=>qko (fun _ h=>b _ _ h) a _ _ _ h) h.2⟩
  · exact b _ _ h
  · exact qgP (fun _ h=>b _ _ h) h
  · exact qgP (fun _ h=>⟨h.1,h.2.1,h.2.2.1,b _ _ h.2.2.2⟩) h
  · unfold qeY at h⊢;split at h
    · refine ⟨h.1,h.2.mono fun e w' j=> ?_⟩;cases e with
      |returned v=>exact b _ _ j
      |panicked c=>exact hpn _ _ _ j
      |outgrown=>exact g j
    · exact qtu b hpn g i h
  · exact qtu b hpn g i h
theorem qa2 {P:Program} {Q Q':Ks} (hpn:∀ρ c w,Q.pn ρ c w→Q'.pn ρ c w) (b:Q.og→Q'.og) (i:(Q.df→Q'.df)∧(Q.rd→Q'.rd)):∀(l:List St) {K K':qa→World→Prop} {ρ:qa} {w:World},(∀ρ w,K ρ w→K' ρ w)→qV P Q l K ρ w→qV P Q' l K' ρ w
  |[],_,_,_,_,j,h=>j _ _ h
  | .asg g d e::r,K,K',ρ,w,j,h=>by
    simp only [qV,St.wp] at h⊢;split
    · rename_i k;rw [if_pos k] at h;exact qdv (fun _ h=>qa2 hpn b i r j h) h
    · rename_i k;rw [if_neg k] at h;exact qa2 hpn b i r j h
  | .eff g d op ty::r,K,K',ρ,w,j,h=>by
    simp only [qV,St.wp] at h⊢;split
    · rename_i k;rw [if_pos k] at h;exact qFh (fun _ _ h=>qa2 hpn b i r j h) hpn b i h
    · rename_i k;rw [if_neg k] at h;exact qa2 hpn b i r j h
theorem qby {P:Program} {w0:World}:∀(l:List St) {K K':qa→Prop} {ρ:qa},(∀ρ,K ρ→K' ρ)→ja P w0 l K ρ→ja P w0 l K' ρ
  |[],_,_,_,b,h=>b _ h
  | .asg g d e::r,K,K',ρ,b,h=>by
    simp only [ja] at h⊢;split
    · rename_i c;rw [if_pos c] at h;exact qdv (fun _ h=>qby r b h) h
    · rename_i c;rw [if_neg c] at h;exact qby r b h
  | .eff g d op ty::r,K,K',ρ,b,h=>by
    simp only [ja] at h⊢;split
    · rename_i c;rw [if_pos c] at h;obtain ⟨v,i,j⟩:=h;exact ⟨v,i,qby r b j⟩
    · rename_i c;rw [if_neg c] at h;exact qby r b h
theorem qji {c:Option Value} {x y g e:Prop} (j:x→g) (i:y→e) (h:yo c x y):yo c g e:=by
  cases c with
  |none=>exact h
  |some v=>cases v with
    |bool b=>cases b<;>first|exact j h|exact i h
    |_=>exact h
theorem IR.wp_mono {cx:Cx}:∀{a:IR} {K K':qa→World→Prop} {Q Q':Ks} {ρ:qa} {w:World},a.wp cx K Q ρ w→(∀ρ w,K ρ w→K' ρ w)→(∀i ρ w,Q.ex i ρ w→Q'.ex i ρ w)→(∀ρ w,Q.rt ρ w→Q'.rt ρ w)→
    (∀ρ c w,Q.pn ρ c w→Q'.pn ρ c w)→(Q.og→Q'.og)→((Q.df→Q'.df)∧(Q.rd→Q'.rd))→a.wp cx K' Q' ρ w
  | .skip,_,_,_,_,_,_,h,n,_,_,_,_,_=>n _ _ h
  | .reg l,_,_,_,_,_,_,h,n,_,_,hpn,k,m=>qa2 hpn k m l n h
  | .drw l,_,_,_,_,_,_,h,n,_,_,_,_,_=>qby l (fun _ h w' v=>n _ _ (h w' v)) h
  | .seq a b,_,_,_,_,_,_,h,n,g,j,hpn,k,m=>IR.wp_mono (a:=a) h (fun _ _ h=>IR.wp_mono (a:=b) h n g j hpn k m) g j hpn k m
  | .cond c a b,_,_,_,_,_,_,h,n,g,j,hpn,k,m=>qji (fun h=>IR.wp_mono (a:=a) h n g j hpn k m) (fun h=>IR.wp_mono (a:=b) h n g j hpn k m) h
  | .block id a,K,K',Q,Q',_,_,h,n,g,j,hpn,k,m=>IR.wp_mono (a:=a) h n (fun i ρ w h=>by
      simp only at h⊢;split
      · rename_i e;rw [if_pos e] at h;exact n _ _ h
      · rename_i e;rw [if_neg e] at h;exact g _ _ _ h) j hpn k m
  | .loop a,_,_,_,_,_,_,⟨I,μ,B,h⟩,_,g,j,hpn,k,m=>⟨I,μ,B,fun u w' y=>IR.wp_mono (a:=a) (h u w' y) (fun _ _ h=>h) g j hpn k m⟩
  | .exit id,_,_,_,_,_,_,h,_,g,_,_,_,_=>g _ _ _ h
  | .ret,_,_,_,_,_,_,h,_,_,j,_,_,_=>j _ _ h
  | .raw c,_,_,_,_,_,_,h,n,g,j,hpn,k,m=>fun a z x C=>Go.wp_mono (h a z x fun A=>C (m.1 A)) fun e a w t=>by
      cases e with
      |normal=>obtain ⟨p,ρ,s,o⟩:=t;exact ⟨p,ρ,s,n _ _ o⟩
      |exit i=>obtain ⟨p,ρ,s,o⟩:=t;exact ⟨p,ρ,s,g _ _ _ o⟩
      |ret=>obtain ⟨p,ρ,s,o⟩:=t;exact ⟨p,ρ,s,j _ _ o⟩
      |panic c=>obtain ⟨p,ρ,s,o⟩:=t;exact ⟨p,ρ,s,hpn _ _ _ o⟩
      |outgrown=>exact k t
      |goto l=>exact t
section
variable {cx:Cx} {K:qa→World→Prop} {Q:Ks} {ρ:qa} {w:World}
theorem yZ (I:qa→World→Prop) (μ:qa→World→Nat) {a:IR} (g:I ρ w) (h:∀c w',I c w'→a.wp cx (fun b e=>I b e∧μ b e<μ c w') Q c w'):(IR.loop a).wp cx K Q ρ w:=⟨I,μ,g,h⟩
@[simp] theorem qfm {a b:IR}:(IR.seq a b).wp cx K Q ρ w=a.wp cx (b.wp cx K Q) Q ρ w:=rfl
@[simp] theorem qjJ {l:List St}:(IR.reg l).wp cx K Q ρ w=qV cx.P Q l K ρ w:=rfl
@[simp] theorem qGK {l:List St}:(IR.drw l).wp cx K Q ρ w=ja cx.P w l (fun b=>∀w',qb w w'→K b w') ρ:=rfl
@[simp] theorem qGH:IR.skip.wp cx K Q ρ w=K ρ w:=rfl
@[simp] theorem qGJ {i:Nat}:(IR.exit i).wp cx K Q ρ w=Q.ex i ρ w:=rfl
@[simp] theorem qGI:IR.ret.wp cx K Q ρ w=Q.rt ρ w:=rfl
@[simp] theorem qGM {i:Nat} {a:IR}:(IR.block i a).wp cx K Q ρ w=a.wp cx K (Q.blk i K) ρ w:=rfl
@[simp] theorem qGL {c:Ex} {a b:IR}:(IR.cond c a b).wp cx K Q ρ w=yo (c.ev ρ w) (a.wp cx K Q ρ w) (b.wp cx K Q ρ w):=rfl
end
def qF (rs:List RV) (R:Ending→World→Prop):Ks:=⟨fun _ _ _=>False,qw rs R,fun _ c w=>R (.panicked c) w,∀w,R .outgrown w,False,True⟩
@[simp] theorem qH7 (rs:List RV) (R:Ending→World→Prop):(qF rs R).rt=qw rs R:=rfl
@[simp] theorem qH9 (rs:List RV) (R:Ending→World→Prop) (ρ:qa) (c:List PanicEntry) (w:World):(qF rs R).pn ρ c w=R (.panicked c) w:=rfl
@[simp] theorem qIa (rs:List RV) (R:Ending→World→Prop):(qF rs R).og=∀w,R .outgrown w:=rfl
@[simp] theorem qIb (rs:List RV) (R:Ending→World→Prop) (i:Nat) (ρ:qa) (w:World):(qF rs R).ex i ρ w=False:=rfl
@[simp] theorem qIc (P:Program) (rs:List RV) (R:Ending→World→Prop):(vC P rs R).rt=jD P rs R .returning:=rfl
@[simp] theorem qIe (P:Program) (rs:List RV) (R:Ending→World→Prop) (ρ:qa) (c:List PanicEntry) (w:World):(vC P rs R).pn ρ c w=jD P rs R (.panicking c) ρ w:=rfl
@[simp] theorem qIf (P:Program) (rs:List RV) (R:Ending→World→Prop):(vC P rs R).og=∀w,R .outgrown w:=rfl
@[simp] theorem qIh (P:Program) (rs:List RV) (R:Ending→World→Prop):(vC P rs R).df=True:=rfl
@[simp] theorem qId (P:Program) (rs:List RV) (R:Ending→World→Prop):(vC P rs R).rd=True:=rfl
@[simp] theorem qH8 (rs:List RV) (R:Ending→World→Prop):(qF rs R).rd=True:=rfl
@[simp] theorem qIg (P:Program) (rs:List RV) (R:Ending→World→Prop) (i:Nat) (ρ:qa) (w:World):(vC P rs R).ex i ρ w=False:=rfl
@[simp] theorem qlo (t:Nat) (R:Ending→World→Prop) (ρ:qa) (w:World):qw [.tmp t] R ρ w=R (.returned (ρ t)) w:=rfl
@[simp] theorem qGY (t u:Nat) (R:Ending→World→Prop) (ρ:qa) (w:World):qw [.tmp t, .tmp u] R ρ w=R (.returned (.tuple #[ρ t,ρ u])) w:=rfl
@[simp] theorem qGX (t u s:Nat) (R:Ending→World→Prop) (ρ:qa) (w:World):qw [.tmp t, .tmp u, .tmp s] R ρ w=R (.returned (.tuple #[ρ t,ρ u,ρ s])) w:=rfl
@[simp] theorem qGZ (R:Ending→World→Prop) (ρ:qa) (w:World):qw [] R ρ w=R (.returned (.tuple #[])) w:=rfl
@[simp] theorem qHw (b:Bool) (x y:Option Value):QP (.bool b) x y=if b then x else y:=by cases b<;>rfl
@[simp] theorem qIs (b c:Bool):(if b then some (Value.bool true) else some (Value.bool c))=some (.bool (b||c)):=by cases b<;>rfl
@[simp] theorem qIt (b c:Bool):(if b then some (Value.bool c) else some (Value.bool false))=some (.bool (b&&c)):=by cases b<;>rfl
@[simp] theorem qIq (p:Prop) [Decidable p] (c:Bool):(if p then some (Value.bool true) else some (Value.bool c))=some (.bool (decide p||c)):=by split<;>simp_all
@[simp] theorem qIr (p:Prop) [Decidable p] (c:Bool):(if p then some (Value.bool c) else some (Value.bool false))=some (.bool (decide p&&c)):=by split<;>simp_all
@[simp] theorem qID (b:Bool) (x y:Prop):yo (some (.bool b)) x y=if b then x else y:=by cases b<;>rfl
@[simp] theorem qHE (v:Value) (f:Value→Prop):vJ (some v) f=f v:=rfl
@[simp] theorem qHF {b:Type} (v:b) (f:b→Prop):xl (some v) f=f v:=rfl
@[simp] theorem qHv (a:Addr) (f:Addr→Prop):yR (.pointer (some a)) f=f a:=rfl
@[simp] theorem qjr (Q:Ks) (dst:Option Nat) (K:qa→World→Prop) (ρ:qa) (v:Value) (w:World):xT Q dst K ρ (.returned v) w=K (qm ρ dst v) w:=rfl
@[simp] theorem qtO (Q:Ks) (dst:Option Nat) (K:qa→World→Prop) (ρ:qa) (c:List PanicEntry) (w:World):xT Q dst K ρ (.panicked c) w=Q.pn ρ c w:=rfl
@[simp] theorem qKF (Q:Ks) (dst:Option Nat) (K:qa→World→Prop) (ρ:qa) (w:World):xT Q dst K ρ .outgrown w=Q.og:=rfl
section
variable {P:Program} {K:qa→World→Prop} {Q:Ks} {ρ:qa} {w w0:World}
@[simp] theorem qGG:qV P Q [] K ρ w=K ρ w:=rfl
@[simp] theorem quE {g:Option (Nat×Bool)} {d:Nat} {e:Ex} {r:List St}:qV P Q (.asg g d e::r) K ρ w=if gd ρ g then vJ (e.ev ρ w) (fun v=>qV P Q r K (qu ρ d v) w) else qV P Q r K (qu ρ d undef) w:=rfl
@[simp] theorem qfl {g:Option (Nat×Bool)} {d:Option Nat} {op:Op} {ty:TypeId} {r:List St}:qV P Q (.eff g d op ty::r) K ρ w=if gd ρ g then qr P Q d op ty (qV P Q r K) ρ w else qV P Q r K (qm ρ d undef) w:=rfl
end
attribute [simp] ja gd Ex.ev qaI kw qcZ qeY qbz
@[simp] theorem qIv (ρ:qa) (t:Nat):qd ρ (.tmp t)=ρ t:=rfl
@[simp] theorem qIy (ρ:qa) (v:Value):qd ρ (.const v)=v:=rfl
@[simp] theorem qIw (ρ:qa) (g:Nat):qd ρ (.global g)= .pointer (some ⟨g,0,none⟩):=rfl
@[simp] theorem qIx (ρ:qa) (f:FuncId):qd ρ (.func f)= .func (.func f) #[] #[]:=rfl
section
variable {P:Program} {Q:Ks} {d:Option Nat} {ty:TypeId} {K:qa→World→Prop} {ρ:qa} {w:World}
@[simp] theorem qIA (fn:Fn) (fs cs:Array Operand):qr P Q d (.makeFunc fn fs cs) ty K ρ w=K (qm ρ d (.func fn (fs.map (qd ρ)) (cs.map (qd ρ)))) w:=rfl
@[simp] theorem qts (t:TypeId) (ps:Array (Nat×Operand)):qr P Q d (.build t ps) ty K ρ w=xl (P.built t (ps.map fun p=>(p.1,qd ρ p.2)).toList) fun cells=>K (qm ρ d (.agg cells)) w:=rfl
@[simp] theorem qFj (f:FuncId) (args:Array Operand) (b:Array TypeId):qr P Q d (.call {callee:= .value (.func f),args:=args,argTypes:=b}) ty K ρ w=(qf P f=true∧Calls P f (args.map (qd ρ)) w (xT Q d K ρ)):=rfl
end
@[simp] theorem qHd (w:World) (op:BinOp) (k e c:IntKind) (a b:Int):jL w (.ibin op k) (.int e a) (.int c b)=if e=c then qaI op e a b else none:=rfl
@[simp] theorem qHa (w:World) (op:BinOp) (x y:ByteArray):jL w (.sbin op) (.string x) (.string y)=kw op x y:=rfl
@[simp] theorem qHf (w:World) (a b:Bool):jL w (.bbin .eql) (.bool a) (.bool b)=some (.bool (a==b)):=rfl
@[simp] theorem qHe (w:World) (a b:Bool):jL w (.bbin .neq) (.bool a) (.bool b)=some (.bool (!(a==b))):=rfl
@[simp] theorem qG9 (w:World) (op:BinOp) (k c:IntKind) (a b:Int):jL w (.shf op) (.int k a) (.int c b)=qcZ op k a b:=rfl
@[simp] theorem qHc (w:World) (sz:Nat) (v:Value) (k:IntKind) (i:Int):jL w (.ixa sz) v (.int k i)=if qo v∧0≤i∧i<qk v then some (.pointer (some (qD v (i.toNat*sz)))) else none:=by cases v<;>rfl
@[simp] theorem qHb (w:World) (s:ByteArray) (k:IntKind) (i:Int):jL w .ixs (.string s) (.int k i)=if 0≤i then (s[i.toNat]?).map fun b=> .int .u8 b.toNat else none:=rfl
@[simp] theorem qG8 (w:World) (sz:Nat) (v:Value) (k:IntKind) (l:Int):jL w (.slLo sz) v (.int k l)=if qo v∧0≤l∧l≤qk v then some (qY v sz l.toNat (qk v) (qv v)) else none:=by cases v<;>rfl
@[simp] theorem qG7 (w:World) (s:ByteArray) (k:IntKind) (l:Int):jL w .stLo (.string s) (.int k l)=if 0≤l∧l≤s.size then some (.string (s.extract l.toNat s.size)) else none:=rfl
@[simp] theorem qG6 (w:World) (sz:Nat) (v:Value) (k b:IntKind) (l h:Int):we w (.slLoHi sz) v (.int k l) (.int b h)=if qo v∧0≤l∧l≤h∧h≤qv v then some (qY v sz l.toNat h.toNat (qv v)) else none:=by cases v<;>rfl
@[simp] theorem qG5 (w:World) (s:ByteArray) (k b:IntKind) (l h:Int):we w .stLoHi (.string s) (.int k l) (.int b h)=if 0≤l∧l≤h∧h≤s.size then some (.string (s.extract l.toNat h.toNat)) else none:=rfl
@[simp] theorem qG4 (w:World) (sz:Nat) (v:Value) (k c b:IntKind) (l h m:Int):pv4 w (.slMax sz) v (.int k l) (.int c h) (.int b m)=if qo v∧0≤l∧l≤h∧h≤m∧m≤qv v then some (qY v sz l.toNat h.toNat m.toNat) else none:=by cases v<;>rfl
@[simp] theorem qHh (w:World) (v:Value):qU w .same v=some v:=rfl
@[simp] theorem qya (w:World) (a:Addr):qU w .load1 (.pointer (some a))=w.cell? a:=rfl
@[simp] theorem qbH (w:World) (n:Nat) (a:Addr):qU w (.loadN n) (.pointer (some a))=(jq w a 0 n).map fun l=> .agg l.toArray:=rfl
@[simp] theorem qHr (w:World) (n:Nat) (a:Addr):qU w (.fadr n) (.pointer (some a))=some (.pointer (some (a.add n))):=rfl
@[simp] theorem qHq (w:World) (n:Nat) (cs:Array Value):qU w (.fld n) (.agg cs)=cs[n]? :=rfl
@[simp] theorem qHp (w:World) (o n:Nat) (cs:Array Value):qU w (.fldN o n) (.agg cs)=some (.agg (cs.extract o (o+n))):=rfl
@[simp] theorem qHo (w:World) (v:Value):qU w .lenS v=if qo v then some (.int .i64 (qk v)) else none:=rfl
@[simp] theorem qHu (w:World) (v:Value):qU w .capS v=if qo v then some (.int .i64 (qv v)) else none:=rfl
@[simp] theorem qHn (w:World) (s:ByteArray):qU w .lenT (.string s)=some (.int .i64 s.size):=rfl
@[simp] theorem qHi (w:World) (b:Bool):qU w .not (.bool b)=some (.bool !b):=rfl
@[simp] theorem qHl (w:World) (k:IntKind) (n:Int):qU w .neg (.int k n)=some (.int k (k.wrap (0 - n))):=rfl
@[simp] theorem qHt (w:World) (k b:IntKind) (n:Int):qU w (.conv k) (.int b n)=some (.int k (k.wrap n)):=rfl
@[simp] theorem qHs (w:World) (i:Nat) (vs:Array Value):qU w (.ext i) (.tuple vs)=vs[i]? :=rfl
@[simp] theorem qHm (w:World) (t:TypeId) (v:Value):qU w (.mkif t) v=some (.iface t v):=rfl
@[simp] theorem qHj (w:World) (t:TypeId) (v:Value):qU w .nilc (.iface t v)=some (.iface t v):=rfl
@[simp] theorem qHk (w:World) (a:Addr):qU w .nilc (.pointer (some a))=some (.pointer (some a)):=rfl
@[simp] theorem qHg (w:World) (s:ByteArray):qU w .strid (.string s)=some (.string s):=rfl
theorem qp {n:Int} (h: -9223372036854775808≤n∧n≤9223372036854775807):IntKind.i64.wrap n=n:=by
  unfold IntKind.wrap;simp only [IntKind.bits,IntKind.signed,Bool.true_and];by_cases b:n%2^64≥(2^(64 - 1):Int)
  · rw [if_pos (by simpa using b)];omega
  · rw [if_neg (by simpa using b)];omega
theorem u8w {n:Int} (h:0≤n∧n<256):IntKind.u8.wrap n=n:=by
  unfold IntKind.wrap;simp only [IntKind.bits,IntKind.signed,Bool.false_and,Bool.false_eq_true,if_false];omega
@[simp] theorem qIp (k:IntKind) (n:Int):RowKit.intOf (.int k n)=n:=rfl
end Go.Eng
namespace Go.Eng
open Go.RowKit
@[simp] theorem qcX (v:Value) (j n:Nat):(qD v j).add n=qD v (j+n):=by
  unfold qD Addr.add;split<;>split<;>simp_all [Nat.add_assoc]
@[simp] theorem vM (b o n:Nat):(⟨b,o,none⟩:Addr).add n=⟨b,o+n,none⟩:=by
  unfold Addr.add;split<;>simp_all
structure Sl {α:Type} (enc:α→Value) (w:World) (v:Value) (xs:List α):Prop where
  is:qo v=true
  len:qk v=xs.length
  bd:xs.length<4611686018427387904
  cell:∀(i:Nat) (h:i<xs.length),w.cell? (qD v i)=some (enc xs[i])
theorem Sl.ext {b:Type} {enc:b→Value} {w w':World} {v:Value} {xs:List b} (h:Sl enc w v xs) (e:qb w w'):Sl enc w' v xs:=
  ⟨h.is,h.len,h.bd,fun i c=>e.cell (h.cell i c)⟩
theorem Sl.nil {b:Type} (enc:b→Value) (w:World):Sl enc w (.slice none 0 0) ([]:List b):=⟨rfl,rfl,by simp,fun i h=>by simp at h⟩
def jk (b:UInt8):Value:= .int .u8 b.toNat
def encI (n:Int):Value:= .int .i64 n
theorem kj (w:World) (o:Obj):qb w (w.alloc o):=(Below.refl _ _).alloc (Nat.le_refl _) o
theorem qb.trans' {a b c:World} (h:qb a b) (k:qb b c):qb a c:=Below.trans h (k.mono h.size)
theorem qEY {a b c:World} (h:qb a b) (k:Below a.heap.size b c):qb a c:=Below.trans h k
@[simp] theorem qIF (w:World) (o:Obj) (b i:Nat) (h:b<w.heap.size):(w.alloc o).cell? ⟨b,i,none⟩=w.cell? ⟨b,i,none⟩:=World.cell?_alloc_lt w o _ h
@[simp] theorem qIG (w:World) (c:Array Value) (t:TypeId) (b i:Nat) (h:b=w.heap.size):(w.alloc (.cells c t)).cell? ⟨b,i,none⟩=c[i]? :=by subst h;exact World.cell?_alloc_new w c t i
structure Blk (W:World) (B:Nat) (cs:Array Value) (t:TypeId):Prop where
  heap:W.heap[B]? =some (.cells cs t (0,0))
theorem Blk.lt {W:World} {B:Nat} {cs:Array Value} {t:TypeId} (h:Blk W B cs t):B<W.heap.size:=(Array.getElem?_eq_some_iff.1 h.heap).1
theorem Blk.cell {W:World} {B:Nat} {cs:Array Value} {t:TypeId} (h:Blk W B cs t) (i:Nat):W.cell? ⟨B,i,none⟩=cs[i]? :=by simp [World.cell?,h.heap]
theorem Blk.free {W:World} {B:Nat} {cs:Array Value} {t:TypeId} (h:Blk W B cs t) (i:Nat):W.frozen? ⟨B,i,none⟩=false:=by simp [World.frozen?,h.heap]
theorem Blk.ext {W W':World} {B:Nat} {cs:Array Value} {t:TypeId} (h:Blk W B cs t) (b:qb W W'):Blk W' B cs t:=⟨(b.block B h.lt).trans h.heap⟩
structure Only (B:Nat) (W W':World):Prop where
  os:W'.os=W.os
  tape:W'.tape=W.tape
  output:W'.output=W.output
  size:W'.heap.size=W.heap.size
  block:∀k,k≠B→W'.heap[k]? =W.heap[k]?
theorem Only.ext {B:Nat} {w W W':World} (h:Only B W W') (b:qb w W) (e:w.heap.size≤B):qb w W':=
  ⟨h.os.trans b.os,h.tape.trans b.tape,h.output.trans b.output,by rw [h.size];exact b.size,fun k c=>(h.block k (by omega)).trans (b.block k c)⟩
theorem Only.blk {B B':Nat} {W W':World} {cs:Array Value} {t:TypeId} (h:Only B W W') (c:Blk W B' cs t) (b:B'≠B):Blk W' B' cs t:=⟨(h.block B' b).trans c.heap⟩
theorem Only.refl (B:Nat) (W:World):Only B W W:=⟨rfl,rfl,rfl,rfl,fun _ _=>rfl⟩
theorem Only.trans {B:Nat} {a b c:World} (h:Only B a b) (k:Only B b c):Only B a c:=
  ⟨k.os.trans h.os,k.tape.trans h.tape,k.output.trans h.output,k.size.trans h.size,fun i e=>(k.block i e).trans (h.block i e)⟩
theorem qds (W:World) (B i:Nat) (v:Value):Only B W (W.setCell ⟨B,i,none⟩ v):=
  ⟨rfl,rfl,rfl,by simp,fun k b=>Below.heap_setCell _ _ _ _ b⟩
theorem qe5 {W:World} {B:Nat} {cs:Array Value} {t:TypeId} (h:Blk W B cs t) (i:Nat) (v:Value):Blk (W.setCell ⟨B,i,none⟩ v) B (cs.setIfInBounds i v) t:=by
  have b:=h.heap;exact ⟨by simp [World.setCell,Array.getElem?_modify,b]⟩
theorem qct (w:World) (cs:Array Value) (t:TypeId):Blk (w.alloc (.cells cs t)) w.heap.size cs t:=⟨heap_alloc_new w _⟩
section
variable {P:Program} {Q:Ks} {d:Option Nat} {ty:TypeId} {K:qa→World→Prop} {ρ:qa} {w:World}
theorem vv {t:TypeId} {x:Operand} (h:∀(B:Nat) (W:World),w.heap.size≤B→qb w W→Blk W B (qd ρ x).cells t→W.heap.size=B+1→K (qm ρ d (.pointer (some ⟨B,0,none⟩))) W):qr P Q d (.box t x) ty K ρ w:=
  h w.heap.size _ (Nat.le_refl _) (kj w _) (qct w _ _) (by simp)
theorem qR {t:TypeId} {z:Array Value} (b:vG P t=some z) (h:∀(B:Nat) (W:World),w.heap.size≤B→qb w W→Blk W B z t→W.heap.size=B+1→K (qm ρ d (.pointer (some ⟨B,0,none⟩))) W):qr P Q d (.alloc t) ty K ρ w:=by
  show xl (vG P t) _;rw [b];exact h w.heap.size _ (Nat.le_refl _) (kj w _) (qct w _ _) (by simp)
theorem qK {t:TypeId} {p x:Operand} {B i:Nat} {cs:Array Value} {T:TypeId} (j:qd ρ p= .pointer (some ⟨B,i,none⟩)) (b:Blk w B cs T) (c:i<cs.size) (k:(qd ρ x).cells= #[qd ρ x]) (g:(qd ρ x).oneCell=true)
    (e:jA P t 1=true) (h:∀W,Only B w W→Blk W B (cs.set i (qd ρ x)) T→K (qm ρ d undef) W):qr P Q d (.store t p x) ty K ρ w:=by
  show jA P t (qd ρ x).cells.size=true∧yR (qd ρ p) _;rw [j,k];refine ⟨e, ?_⟩;show wc _ [qd ρ x] 0 _ w;refine ⟨⟨cs[i], ?_⟩, ?_,g, ?_⟩
  · rw [vM,Nat.add_zero,b.cell];simp [c]
  · rw [vM,Nat.add_zero,b.free]
  · rw [vM,Nat.add_zero];refine h _ (qds w B i _) ?_;have:=qe5 b i (qd ρ x);rw [Array.setIfInBounds,dif_pos c] at this;exact this
theorem qcS {B : Nat} {T : TypeId} {K : World → Prop} : ∀ (vs : List Value) (i : Nat) (w : World) (cs : Array Value), Blk w B cs T → i + vs.length ≤ cs.size → (∀ v ∈ vs, v.oneCell = true) →
    (∀W,Only B w W→Blk W B (cs.toList.take i++vs++cs.toList.drop (i+vs.length)).toArray T→K W)→wc ⟨B,0,none⟩ vs i K w
  |[],i,w,cs,b,_,_,h=>h w (Only.refl _ _) (by simpa using b)
  | v :: vs, i, w, cs, b, l, c, h => by
    simp only [List.length_cons] at l;have g:i<cs.size:=by omega
    refine ⟨⟨cs[i], ?_⟩, ?_,c v (by simp), ?_⟩
    · rw [vM,Nat.zero_add,b.cell];simp [g]
    · rw [vM,Nat.zero_add,b.free]
    · rw [vM,Nat.zero_add];refine qcS vs (i+1) _ (cs.setIfInBounds i v) (qe5 b i v) (by simp;omega) (fun u k=>c u (by simp [k])) fun W m j=> ?_;refine h W ((qds w B i v).trans m) ?_;have e:(cs.setIfInBounds i v).toList.take (i+1)++vs++(cs.setIfInBounds i v).toList.drop (i+1+vs.length)=cs.toList.take i++v::vs++cs.toList.drop (i+(vs.length+1)):=by
        simp only [Array.toList_setIfInBounds];rw [List.take_succ_eq_append_getElem (by simpa using g),List.take_set_of_le (Nat.le_refl i),List.drop_set_of_lt (by omega)];simp [show i+1+vs.length=i+(vs.length+1) by omega]
      simp only [List.length_cons];rw [←e];exact j
theorem jN {t:TypeId} {n:Nat} {ps:Array (Nat×Operand)} {es:TypeId×Nat} (b:xG P t=some es) (c:n*es.2≤1000) (e:ps.toList.map (·.1)=List.range n) (g:∀p∈ps.toList,(qd ρ p.2).cells.size=es.2)
    (h:∀(B:Nat) (W:World),w.heap.size≤B→qb w W→Blk W B (ps.toList.flatMap fun p=>(qd ρ p.2).cells.toList).toArray es.1→W.heap.size=B+1→K (qm ρ d (.slice (some ⟨B,0,none⟩) n n)) W):qr P Q d (.buildSlice t n ps) ty K ρ w:=by
  show xl (xG P t) _;rw [b];exact ⟨c,e,g,h w.heap.size _ (Nat.le_refl _) (kj w _) (qct w _ _) (by simp)⟩
end
@[simp] theorem qGU (w:World) (a:Addr):Eng.jq w a 0 2=(w.cell? (a.add 0)).bind fun x=>(w.cell? (a.add 1)).bind fun y=>some [x,y]:=by
  simp only [Eng.jq];cases w.cell? (a.add 0)<;>cases w.cell? (a.add 1)<;>simp
@[simp] theorem qGT (w:World) (a:Addr):Eng.jq w a 0 3=(w.cell? (a.add 0)).bind fun x=>(w.cell? (a.add 1)).bind fun y=>(w.cell? (a.add 2)).bind fun z=>some [x,y,z]:=by
  simp only [Eng.jq];cases w.cell? (a.add 0)<;>cases w.cell? (a.add 1)<;>cases w.cell? (a.add 2)<;>simp
theorem QY {v:Value} (h:qo v=true) (sz l r m:Nat) (p:l≤r) (u:r≤m) (k:m≤qv v):qo (qY v sz l r m)=true:=by
  rcases zJ h with ⟨b,o,n,c,rfl,t⟩|rfl|⟨b,o,s,rfl⟩
  rotate_left 2
  · simp only [qv] at k;have j:m=0:=by omega
    have i:l=0:=by omega
    have g:r=0:=by omega
    subst j;subst i;subst g;rfl
  · simp only [qY];split
    · rename_i e;subst e;simp only [qo];simp;omega
    · simp only [Option.map_some,qo,vM];simp;omega
  · simp only [qv] at k;have j:m=0:=by omega
    have i:l=0:=by omega
    have g:r=0:=by omega
    subst j;subst i;subst g;rfl
@[simp] theorem qbf {v:Value} (sz l r m:Nat) (h:qo v=true):qk (qY v sz l r m)=r - l:=by
  rcases zJ h with ⟨b,o,n,c,rfl,e⟩|rfl|⟨b,o,s,rfl⟩<;>simp [qY,qk]
@[simp] theorem qGS {v:Value} (sz l r m:Nat) (h:qo v=true):qv (qY v sz l r m)=m - l:=by
  rcases zJ h with ⟨b,o,n,c,rfl,e⟩|rfl|⟨b,o,s,rfl⟩<;>simp [qY,qv]
theorem qcW {v:Value} (sz l r m j:Nat) (h:qo v=true) (i:l<m) (e:qv v≠0):qD (qY v sz l r m) j=qD v (l*sz+j):=by
  rcases zJ h with ⟨b,o,n,c,rfl,g⟩|rfl|⟨b,o,s,rfl⟩
  rotate_left 2
  · simp [qv] at e
  · simp only [qY];rw [if_neg (by omega)];simp [qD,Nat.add_assoc]
  · simp [qv] at e
theorem qAe {v:Value} (h:qo v=true):qk v≤qv v:=by
  rcases zJ h with ⟨b,o,n,c,rfl,e⟩|rfl|⟨b,o,s,rfl⟩<;>simp [qk,qv];exact e
theorem Sl.sub {b:Type} {enc:b→Value} {w:World} {v:Value} {xs:List b} (h:Sl enc w v xs) {l r m:Nat} (k:l≤r) (n:r≤xs.length) (e:r≤m) (j:m≤qv v):
    Sl enc w (qY v 1 l r m) ((xs.take r).drop l):=by
  have c:((xs.take r).drop l).length=r - l:=by simp;omega
  refine ⟨QY h.is 1 l r m k e j,by rw [qbf _ _ _ _ h.is,c],by have:=h.bd;omega,fun i g=> ?_⟩;rw [c] at g;rw [qcW 1 l r m i h.is (by omega) (by omega),Nat.mul_one,h.cell (l+i) (by omega)];simp
section
variable {cx:Cx} {K:qa→World→Prop} {Q:Ks} {ρ:qa} {w:World} {a:IR}
theorem jj (s n:Nat) (I:Nat→qa→World→Prop) (l:ρ s= .int .i64 0) (u:I 0 ρ w)
    (h:∀(k:Nat) (c:qa) (w':World),k≤n→c s= .int .i64 k→I k c w'→a.wp cx (fun b g=>k<n∧b s= .int .i64 ((k:Int)+1)∧I (k+1) b g) Q c w'):(IR.loop a).wp cx K Q ρ w:=by
  refine yZ (fun c w'=>∃k:Nat,k≤n∧c s= .int .i64 k∧I k c w') (fun c _=>n - (RowKit.intOf (c s)).toNat) ⟨0,Nat.zero_le _,l,u⟩ ?_;rintro c w' ⟨k,o,m,p⟩;have:=h k c w' o m p;have e:(fun b g=>k<n∧b s= .int .i64 ((k:Int)+1)∧I (k+1) b g)=fun b g=>(k<n∧b s= .int .i64 ((k:Int)+1)∧I (k+1) b g):=rfl;refine IR.wp_mono this ?_ (fun _ _ _ h=>h) (fun _ _ h=>h) (fun _ _ _ h=>h) (fun h=>h) ⟨fun h=>h,fun h=>h⟩;rintro b g ⟨t,i,j⟩;exact ⟨⟨k+1,by omega,by rw [i];simp,j⟩,by rw [i,m];simp;omega⟩
end
@[simp] theorem qIo (a b:Nat):((a:Int)=(b:Int))↔a=b:=Int.ofNat_inj
@[simp] theorem qIn (n:Nat):((n:Int)<0)↔False:=⟨fun h=>by omega,fun h=>h.elim⟩
@[simp] theorem qIl (p n:Nat):((p:Int)+1<(n:Int))↔p+1<n:=by omega
@[simp] theorem qIm (p n:Nat):((p:Int)+1≤(n:Int))↔p+1≤n:=by omega
@[simp] theorem qIk (p:Nat):(0≤(p:Int)+1)↔True:=⟨fun _=>trivial,fun _=>by omega⟩
def qc (bs:List UInt8):ByteArray:=⟨bs.toArray⟩
@[simp] theorem qHU (b:List UInt8):(qc b).data.toList=b:=rfl
theorem qJ {a b:List UInt8}:qc a=qc b↔a=b:=⟨fun h=>by have:=congrArg (fun x=>x.data.toList) h;simpa using this,fun h=>by rw [h]⟩
theorem qdA (s:ByteArray):qc s.data.toList=s:=rfl
@[simp] theorem qzG (b:List UInt8):(qc b).size=b.length:=rfl
theorem yM {w:World} {a:Addr}:∀{l:List Value} {i:Nat},(∀j (h:j<l.length),w.cell? (a.add (i+j))=some l[j])→jq w a i l.length=some l
  |[],_,_=>rfl
  | v :: l, i, h => by
    have b:=h 0 (by simp);have c:=yM (w:=w) (a:=a) (l:=l) (i:=i+1) fun j e=>by
      have:=h (j+1) (by simpa using e);simpa [Nat.add_assoc,Nat.add_comm 1 j] using this
    simp only [List.length_cons,jq];simp only [Nat.add_zero,List.getElem_cons_zero] at b;simp [b,c]
theorem Sl.congr {b:Type} {enc:b→Value} {w:World} {v:Value} {xs ys:List b} (h:Sl enc w v xs) (e:xs=ys):Sl enc w v ys:=e▸h
end Go.Eng
namespace Go.Eng
open Go.RowKit
def ke (P:Program) (t:TypeId):Option (TypeId×Nat×Nat):=
  match P.underlying t with
  |some (.slice e)=>(P.info? e).bind fun i=>i.zero.bind fun z=>if z.cells.size=i.size∧0<i.size then some (e,i.size,i.bytes) else none
  |_=>none
def Own (base:Nat) (e sz:Nat) (w:World) (v:Value) (xs:List Value):Prop:=
  (v= .slice none 0 0∧xs=[])∨
  ∃g off n cap cur,v= .slice (some ⟨g,off,none⟩) n cap∧base≤g∧w.heap[g]? =some (.cells cur e (0,0))∧xs.length=n*sz∧n≤cap∧cap≤maxLen∧off+cap*sz≤cur.size∧(cur.toList.drop off).take (n*sz)=xs
theorem Own.nil (base e sz:Nat) (w:World):Own base e sz w (.slice none 0 0) []:= .inl ⟨rfl,rfl⟩
theorem Own.blk {base e sz:Nat} {w:World} {v:Value} {xs:List Value} (h:Own base e sz w v xs):∀k,v.ownBlock=some k→base≤k∧k<w.heap.size:=by
  intro k b;rcases h with ⟨rfl,_⟩|⟨g,off,n,cap,cur,rfl,i,c,_⟩
  · simp [Value.ownBlock] at b
  · simp [Value.ownBlock] at b;subst b;exact ⟨i,(Array.getElem?_eq_some_iff.1 c).1⟩
theorem Own.ext {base e sz:Nat} {w w':World} {v:Value} {xs:List Value} (h:Own base e sz w v xs) (i:qb w w'):Own base e sz w' v xs:=by
  rcases h with h|⟨g,off,n,cap,cur,rfl,c,b,r⟩
  · exact .inl h
  · exact .inr ⟨g,off,n,cap,cur,rfl,c,(i.block g (Array.getElem?_eq_some_iff.1 b).1).trans b,r⟩
theorem Own.kept {base e sz:Nat} {w w':World} {v:Value} {xs:List Value} {row:Option Nat} (h:Own base e sz w v xs) (c:w.grownBy w' row) (b:v.ownBlock=none∨v.ownBlock≠row):Own base e sz w' v xs:=by
  rcases h with h|⟨g,off,n,cap,cur,rfl,j,i,r⟩
  · exact .inl h
  · refine .inr ⟨g,off,n,cap,cur,rfl,j, ?_,r⟩;rw [c.block g (Array.getElem?_eq_some_iff.1 i).1 (by simpa [Value.ownBlock] using b)];exact i
theorem Own.only {base e sz:Nat} {w w':World} {v:Value} {xs:List Value} {B:Nat} (h:Own base e sz w v xs) (c:Only B w w') (j:B<base):Own base e sz w' v xs:=by
  rcases h with h|⟨g,off,n,cap,cur,rfl,i,b,r⟩
  · exact .inl h
  · exact .inr ⟨g,off,n,cap,cur,rfl,i,(c.block g (by omega)).trans b,r⟩
theorem Own.lit {base e sz:Nat} {W:World} {B n:Nat} {cs:List Value} (h:Blk W B cs.toArray e) (b:cs.length=n*sz) (c:base≤B) (g:n≤maxLen):Own base e sz W (.slice (some ⟨B,0,none⟩) n n) cs:=
  .inr ⟨B,0,n,n,cs.toArray,rfl,c,h.heap,b,Nat.le_refl _,g,by simpa using Nat.le_of_eq b.symm,by simp [←b]⟩
theorem Own.sl {k:Type} {enc:k→Value} {base e:Nat} {w:World} {v:Value} {xs:List k} (h:Own base e 1 w v (xs.map enc)) (c:xs.length<4611686018427387904):Sl enc w v xs:=by
  rcases h with ⟨rfl,j⟩|⟨g,off,n,cap,cur,rfl,x,p,o,t,_,u,m⟩
  · have:xs=[]:=by simpa using j
    subst this;exact Sl.nil enc w
  · have b:n=xs.length:=by simpa using o.symm
    refine ⟨by simp [qo,t],by simp [qk,b],c,fun i s=> ?_⟩;have l:((cur.toList.drop off).take (n*1))[i]? =(xs.map enc)[i]? :=by rw [m]
    rw [List.getElem?_take,if_pos (by omega),List.getElem?_drop] at l;simp only [qD,World.cell?,p];simpa [s] using l
theorem Own.drop {base e:Nat} {w:World} {v:Value} {xs:List Value} (h:Own base e 1 w v xs) (l:Nat) (m:l≤xs.length):Own base e 1 w (qY v 1 l (qk v) (qv v)) (xs.drop l):=by
  rcases h with ⟨rfl,rfl⟩|⟨g,off,n,cap,cur,rfl,i,c,j,s,p,o,k⟩
  · have:l=0:=by simpa using m
    subst this;exact .inl ⟨by simp [qY,qk,qv],rfl⟩
  · have t:n=xs.length:=by omega
    have es:qY (.slice (some ⟨g,off,none⟩) n cap) 1 l (qk (.slice (some ⟨g,off,none⟩) n cap)) (qv (.slice (some ⟨g,off,none⟩) n cap))= .slice (some ⟨g,if cap=l then off else off+l,none⟩) (n - l) (cap - l):=by
      simp [qY,qk,qv];split<;>simp
    rw [es];by_cases b:cap=l
    · have:xs.drop l=[]:=List.drop_eq_nil_of_le (by omega);rw [this,if_pos b];exact .inr ⟨g,off,n - l,cap - l,cur,rfl,i,c,by simp;omega,by omega,by omega,by omega,by rw [show (n - l)*1=0 by omega];simp⟩
    · rw [if_neg b];refine .inr ⟨g,off+l,n - l,cap - l,cur,rfl,i,c,by simp;omega,by omega,by omega,by omega, ?_⟩;rw [←k,List.drop_take,List.drop_drop];congr 1;omega
theorem Sl.kept {g:Type} {enc:g→Value} {w w':World} {v:Value} {xs:List g} {row:Option Nat} (h:Sl enc w v xs) (j:w.grownBy w' row) (e:v.ownBlock=none∨v.ownBlock≠row):Sl enc w' v xs:=by
  refine ⟨h.is,h.len,h.bd,fun i k=> ?_⟩;have l:=h.cell i k;rcases zJ h.is with ⟨b,o,n,c,rfl,_⟩|rfl|⟨b,o,s,rfl⟩
  rotate_left 2
  · have:=h.len;simp [qk] at this;omega
  · exact j.cell l (by simpa [Value.ownBlock,qD] using e)
  · have:=h.len;simp [qk] at this;omega
structure Cells (w:World) (v:Value) (sz:Nat) (xs:List Value):Prop where
  is:qo v=true
  len:xs.length=qk v*sz
  cell:∀(j:Nat) (h:j<xs.length),w.cell? (qD v j)=some xs[j]
theorem Sl.cells {b:Type} {enc:b→Value} {w:World} {v:Value} {xs:List b} (h:Sl enc w v xs):Cells w v 1 (xs.map enc):=
  ⟨h.is,by simp [h.len],fun j c=>by rw [h.cell j (by simpa using c)];simp⟩
theorem Blk.cells {w:World} {B n sz:Nat} {cs:List Value} {t:TypeId} (h:Blk w B cs.toArray t) (b:cs.length=n*sz):Cells w (.slice (some ⟨B,0,none⟩) n n) sz cs:=
  ⟨by simp [qo],by simp [qk,b],fun j c=>by simp only [qD];rw [h.cell];simp⟩
section
variable {P:Program} {Q:Ks} {d:Option Nat} {ty:TypeId} {K:qa→World→Prop} {ρ:qa} {w:World}
theorem qfH {B o:Nat} {K:World→Prop}:∀(vs:List Value) (i:Nat) (w:World),wc ⟨B,0,none⟩ vs (o+i) K w→wc ⟨B,o,none⟩ vs i K w
  |[],_,_,h=>h
  |v::vs,i,w,h=>by
    obtain ⟨c,e,g,b⟩:=h;simp only [vM,Nat.zero_add] at c e b;refine ⟨by simpa using c,by simpa using e,g, ?_⟩;simp only [vM];exact qfH vs (i+1) _ (by simpa [Nat.add_assoc] using b)
theorem qc5 {t e sz bytes : Nat} (hi : ke P t = some (e, sz, bytes)) {base : Nat} {v xv : Value} {xs news : List Value} (y : Own base e sz w v xs) (J : Cells w xv sz news) (h1 : ∀ u ∈ news, u.oneCell' = true)
    (hlen:xs.length+news.length<4611686018427387904) (E:(xs.length+news.length)*bytes≤140737488355328*sz) (V:base≤w.heap.size):
    ∃v' W,(Builtin.append_ #[t,t] ty #[v,xv]).run P w= .ok v' W∧Own base e sz W v' (xs++news)∧w.grownBy W v.ownBlock∧(v'.ownBlock=v.ownBlock∨v'.ownBlock=some w.heap.size):=by
  unfold ke at hi;split at hi
  · rename_i e' x;simp only [Option.bind_eq_some_iff] at hi;obtain ⟨i,A,z,hz,hc⟩:=hi;split at hc
    · rename_i X;cases hc;obtain ⟨X,S⟩:=X;have h:=J.len
      have grown:∀(n m old:Nat),xs.length=n*i.size→news.length=m*i.size→n+m≤maxLen→∀(row:Option Nat),
          Own base e i.size (w.drew.alloc (.cells (xs.toArray++news.toArray++Builtin.zeroCells z.cells (grownCap w (n+m) old e - (n+m))) e)) (.slice (some ⟨w.heap.size,0,none⟩) (n+m) (grownCap w (n+m) old e)) (xs++news)∧
          w.grownBy (w.drew.alloc (.cells (xs.toArray++news.toArray++Builtin.zeroCells z.cells (grownCap w (n+m) old e - (n+m))) e)) row:=by
        intro n m old H hm h63 row;have hge:=grownCap_ge w (n+m) old e;have I:grownCap w (n+m) old e≤maxLen:=grownCap_le_maxLen w (n+m) old e h63;have hl:(xs++news).length=(n+m)*i.size:=by rw [List.length_append,H,hm,Nat.add_mul]
        refine ⟨.inr ⟨w.heap.size,0,_,_,_,rfl,V,heap_alloc_new w.drew _,hl,hge,I, ?_, ?_⟩,⟨rfl,rfl,rfl,by simp,fun k hk _=>heap_alloc_old w.drew _ k hk⟩⟩
        · simp only [Array.size_append,List.size_toArray,size_zeroCells,X,H,hm,←Nat.add_mul,Nat.zero_add];refine Nat.le_of_eq ?_;congr 1;omega
        · simp only [Array.toList_append,List.append_assoc,List.drop_zero];rw [←List.append_assoc,←hl];exact List.take_left
      have s:∀n:Nat,xs.length=n*i.size→n+qk xv≤maxLen∧(n+qk xv)*i.bytes≤140737488355328:=by
        intro n H;have h2:(n+qk xv)*i.size=xs.length+news.length:=by rw [H,h,Nat.add_mul]
        have h3:n+qk xv≤(n+qk xv)*i.size:=Nat.le_mul_of_pos_right _ S;refine ⟨by simp only [maxLen];omega, ?_⟩;rw [←h2,Nat.mul_right_comm] at E;exact Nat.le_of_mul_le_mul_right E S
      rcases zJ J.is with ⟨b,o,m,c,rfl,hmc⟩|rfl|⟨b,o,sp,rfl⟩
      rotate_left 2
      · have L:news=[]:=List.length_eq_zero_iff.1 (by simpa [qk] using h);subst L;refine ⟨v,w, ?_,by simpa using y,⟨rfl,rfl,rfl,Nat.le_refl _,fun _ _ _=>rfl⟩, .inl rfl⟩;rcases y with ⟨rfl,rfl⟩|⟨g,off,n,cap,cur,rfl,U,hg,H,R,I,hcs,p⟩
        · simp [Builtin.append_,run_underlying x,sizeOf,typeInfo,A,Builtin.lenOf,Builtin.firstCells,loadCells,loadCellsFrom]
        · simp [Builtin.append_,run_underlying x,sizeOf,typeInfo,A,Builtin.lenOf,Builtin.firstCells,R,storeCells,loadCells,loadCellsFrom]
      · have C:∀j u,news[j]? =some u→w.cell? ((⟨b,o,none⟩:Addr).add j)=some u:=fun j u x=>by
          obtain ⟨hj,rfl⟩:=List.getElem?_eq_some_iff.1 x;have:=J.cell j hj;simpa [qD] using this
        simp only [qk] at h s;rcases y with ⟨rfl,rfl⟩|⟨g,off,n,cap,cur,rfl,U,hg,H,R,I,hcs,p⟩
        · obtain ⟨O,Y⟩:=s 0 (by simp);by_cases hm:m=0
          · subst hm;have hnn:news=[]:=List.eq_nil_of_length_eq_zero (by simpa using h);subst hnn;refine ⟨.slice none 0 0,w, ?_,Own.nil _ _ _ _,⟨rfl,rfl,rfl,Nat.le_refl _,fun _ _ _=>rfl⟩, .inl rfl⟩;simp [Builtin.append_,run_underlying x,sizeOf,typeInfo,A,Builtin.lenOf,Builtin.firstCells,loadCells,loadCellsFrom]
          · simp only [maxLen] at O;simp only [Nat.zero_add] at O Y;have hr:=run_append_nil (P:=P) w t ty e i z x A hz ⟨b,o,none⟩ m c news h C (by omega) (by omega) (by omega);have F:=grown 0 m 0 (by simp) h (by simp only [maxLen];omega) (Value.ownBlock (.slice none 0 0));simp only [Nat.zero_add,List.nil_append,Array.empty_append] at F⊢;exact ⟨_,_,hr,F.1,F.2, .inr rfl⟩
        · obtain ⟨O,Y⟩:=s n H;by_cases B:n+m≤cap
          · have hmul:(n+m)*i.size≤cap*i.size:=Nat.mul_le_mul_right _ B;rw [Nat.add_mul,←h] at hmul;have hb:Blk w g cur e:=⟨hg⟩;have aa:∀u∈news,u.oneCell=true:=fun u x=>by have:=h1 u x;cases u<;>first|rfl|exact this
            obtain ⟨W,hW,l,Z⟩:=qfZ (P:=P) ⟨g,off+n*i.size,none⟩ news 0
              (fun W=>Only g w W∧Blk W g (cur.toList.take (off+n*i.size+0)++news++cur.toList.drop (off+n*i.size+0+news.length)).toArray e) w
              (qfH news 0 w (qcS news (off+n*i.size+0) w cur hb (by omega) aa fun W hO hB=>⟨hO,hB⟩))
            refine ⟨.slice (some ⟨g,off,none⟩) (n+m) cap,W, ?_, .inr ⟨g,off,n+m,cap,_,rfl,U,Z.heap,by rw [List.length_append,H,h,Nat.add_mul],B,I, ?_, ?_⟩, ?_, .inl rfl⟩
            · have hf:=run_firstCells_some (P:=P) w i.size m ⟨b,o,none⟩ m c news h C;simp [Builtin.append_,run_underlying x,sizeOf,typeInfo,A,Builtin.lenOf,B,hf,hW]
            · simp;omega
            · have e0:off+n*i.size≤cur.toList.length:=by rw [Array.length_toList];omega
              have e1:(cur.toList.take (off+n*i.size)).drop off=xs:=by
                rw [List.drop_take,←p];congr 1;omega
              simp only [Nat.add_zero];rw [List.append_assoc,List.drop_append_of_le_length (by rw [List.length_take];omega),e1,←List.append_assoc,Nat.add_mul,←h,←H,←List.length_append];exact List.take_left
            · exact ⟨l.os,l.tape,l.output,by rw [l.size];exact Nat.le_refl _,fun k _ hk=>l.block k (fun e=>hk (by simp [Value.ownBlock,e]))⟩
          · have holds:∀j u,xs[j]? =some u→w.cell? ((⟨g,off,none⟩:Addr).add j)=some u:=by
              intro j u x;rw [←p,List.getElem?_take] at x;split at x
              · rw [List.getElem?_drop] at x;rw [vM,(⟨hg⟩:Blk w g cur e).cell];simpa using x
              · cases x
            simp only [maxLen] at O;have hr:=run_append_grow (P:=P) w t ty e i z x A hz ⟨g,off,none⟩ n cap xs H holds ⟨b,o,none⟩ m c news h C (by omega) (by omega) (growslice_fits (by omega) Y);have F:=grown n m cap H h (by simp only [maxLen];omega) (Value.ownBlock (.slice (some ⟨g,off,none⟩) n cap));exact ⟨_,_,hr,F.1,F.2, .inr rfl⟩
      · have L:news=[]:=List.length_eq_zero_iff.1 (by simpa [qk] using h);subst L;refine ⟨v,w, ?_,by simpa using y,⟨rfl,rfl,rfl,Nat.le_refl _,fun _ _ _=>rfl⟩, .inl rfl⟩;rcases y with ⟨rfl,rfl⟩|⟨g,off,n,cap,cur,rfl,U,hg,H,R,I,hcs,p⟩
        · simp [Builtin.append_,run_underlying x,sizeOf,typeInfo,A,Builtin.lenOf,Builtin.firstCells]
        · simp [Builtin.append_,run_underlying x,sizeOf,typeInfo,A,Builtin.lenOf,Builtin.firstCells,R,storeCells]
    · cases hc
  · cases hi
theorem kF {t e sz bytes:Nat} (B:ke P t=some (e,sz,bytes)) {W0:World} (m:qb W0 w) {s x:Operand} {sv xv:Value} (p:qd ρ s=sv) (C:qd ρ x=xv) {xs news:List Value}
    (c:Own W0.heap.size e sz w sv xs) (i:Cells w xv sz news) (y:∀u∈news,u.oneCell'=true)
    (j:xs.length+news.length<4611686018427387904) (b:(xs.length+news.length)*bytes≤140737488355328*sz)
    (h:∀g W,qb W0 W→Own W0.heap.size e sz W g (xs++news)→w.grownBy W sv.ownBlock→(g.ownBlock=sv.ownBlock∨g.ownBlock=some w.heap.size)→K (qm ρ d g) W):qr P Q d (.call {callee:= .builtin .append,args:= #[s,x],argTypes:= #[t,t]}) ty K ρ w:=by
  subst p;subst C;obtain ⟨g,W,A,o,n,l⟩:=qc5 (P:=P) (ty:=ty) B c i y j b m.size;refine jf (v:=g) (w':=W) ?_ (h g W ?_ o n l)
  · simp only [execOp,qA,resolve,invoke,builtin,Sem.run_bind,Sem.run_pure,Result.andThen_ok,List.map_toArray,List.map_cons,List.map_nil,A]
  · exact m.grown n m.size fun k z=>(c.blk k z).1
end
end Go.Eng
