/- Lemmas for a claim about layer 2 (tree). No conditions but those they state. -/
import Derived.Test.YtbcmiempigoooaaGreatDoorBad
import Derived.Laws.AppendOwn
import Derived.Laws.OwnMore
set_option linter.all false
namespace Go.Eng
open Go.RowKit
def qI:Code→Nat→Code
  | .region i o d,id=>if i=id then .region i o d else .skip
  | .seq a b,id| .cond _ a b,id=>match qI a id with| .skip=>qI b id|c=>c
  | .block _ c,id| .loop c,id| .scope c,id=>qI c id
  | .rangeFunc _ _ a b,id=>match qI a id with| .skip=>qI b id|c=>c
  |_,_=> .skip
@[simp] theorem qrA (ρ:qa) (i j:Nat) (v:Value):qn ρ i v j=if j=i then v else ρ j:=rfl
@[simp] theorem qiS (ρ:qa) (i:Nat) (v:Value):qk ρ (some i) v=qn ρ i v:=rfl
@[simp] theorem qBR (ρ:qa) (v:Value):qk ρ none v=ρ:=rfl
def Ks.blk (Q:Ks) (i:Nat) (K:qa→World→Prop):Ks:={Q with ex:=fun j=>if j=i then K else Q.ex j}
@[simp] theorem qEH (Q:Ks) (i:Nat) (K:qa→World→Prop):(Q.blk i K).rt=Q.rt:=rfl
@[simp] theorem qEJ (Q:Ks) (i:Nat) (K:qa→World→Prop):(Q.blk i K).pn=Q.pn:=rfl
@[simp] theorem qEM (Q:Ks) (i:Nat) (K:qa→World→Prop):(Q.blk i K).df=Q.df:=rfl
@[simp] theorem qEI (Q:Ks) (i:Nat) (K:qa→World→Prop):(Q.blk i K).rd=Q.rd:=rfl
@[simp] theorem qCQ (Q:Ks):Q.noRd.ex=Q.ex:=rfl
@[simp] theorem qCN (Q:Ks):Q.noRd.rt=Q.rt:=rfl
@[simp] theorem qCO (Q:Ks):Q.noRd.pn=Q.pn:=rfl
@[simp] theorem qCP (Q:Ks):Q.noRd.og=Q.og:=rfl
@[simp] theorem qCR (Q:Ks):Q.noRd.df=Q.df:=rfl
@[simp] theorem qEK (Q:Ks) (i:Nat) (K:qa→World→Prop):(Q.blk i K).og=Q.og:=rfl
@[simp] theorem qEL (Q:Ks) (i j:Nat) (K:qa→World→Prop) (ρ:qa) (w:World):(Q.blk i K).ex j ρ w=if j=i then K ρ w else Q.ex j ρ w:=by simp only [Ks.blk];split<;>rfl
theorem qrx {P:Program} {Q Q':Ks} {dst:Option Nat} {K K':qa→World→Prop} {ρ:qa} (j:∀ρ w,K ρ w→K' ρ w) (hpn:∀ρ c w,Q.pn ρ c w→Q'.pn ρ c w) (g:Q.og→Q'.og) (i:(Q.df→Q'.df)∧(Q.rd→Q'.rd)) {r:Result Next} (h:ye P Q dst K ρ r):ye P Q' dst K' ρ r:=by
  cases r with
  |ok x w=>
    cases x<;>simp only [ye] at h⊢ <;>first|exact j _ _ h|exact h|exact ⟨i.1 h.1,j _ _ h.2⟩|skip
    · refine h.mono fun e w' b=> ?_;cases e with
      |returned v=>exact j _ _ b
      |panicked c=>exact hpn _ _ _ b
      |outgrown=>exact g b
    · refine ⟨i.2 h.1,h.2.mono fun e w' b=> ?_⟩;cases e with
      |returned v=>exact j _ _ b
      |panicked c=>exact hpn _ _ _ b
      |outgrown=>exact g b
  |halt x w=>cases x<;>simp only [ye] at h⊢ <;>first|exact hpn _ _ _ h|exact h
theorem qp4 {P:Program} {Q Q':Ks} {dst:Option Nat} {op:Op} {ty:TypeId} {K K':qa→World→Prop} {ρ:qa} {w:World} (g:∀ρ w,K ρ w→K' ρ w) (hpn:∀ρ c w,Q.pn ρ c w→Q'.pn ρ c w) (e:Q.og→Q'.og) (b:(Q.df→Q'.df)∧(Q.rd→Q'.rd)) (h:jV P Q dst op ty K ρ w):jV P Q' dst op ty K' ρ w:=
  qrx g hpn e b h
theorem qjF {K K':World→Prop} (b:∀w,K w→K' w) (a:Addr):∀(vs:List Value) (i:Nat) (w:World),kS a vs i K w→kS a vs i K' w
  |[],_,_,h=>b _ h
  |_::vs,i,_,⟨g,j,c,e⟩=>⟨g,j,c,qjF b a vs (i+1) _ e⟩
theorem qgc {b:Type} {c:Option b} {f g:b→Prop} (h:∀a,f a→g a) (e:jF c f):jF c g:=by cases c<;>first|exact e|exact h _ e
theorem qlj {c:Option Value} {f g:Value→Prop} (h:∀a,f a→g a) (b:z7 c f):z7 c g:=by cases c<;>first|exact b|exact h _ b
theorem qug {x:Value} {f g:Addr→Prop} (h:∀a,f a→g a) (b:yn x f):yn x g:=by
  cases x with
  |pointer a=>cases a<;>first|exact h _ b|exact b
  |_=>exact b
theorem qzZ {P:Program} {Q Q':Ks} {dst:Option Nat} {op:Op} {ty:TypeId} {K K':qa→World→Prop} {ρ:qa} {w:World} (b:∀ρ w,K ρ w→K' ρ w) (hpn:∀ρ c w,Q.pn ρ c w→Q'.pn ρ c w) (g:Q.og→Q'.og) (i:(Q.df→Q'.df)∧(Q.rd→Q'.rd)) (h:qm P Q dst op ty K ρ w):qm P Q' dst op ty K' ρ w:=by
  unfold qm at h⊢;split at h
  · exact b _ _ h
  · exact qgc (fun _ h=>b _ _ h) h
  · exact ⟨h.1,qug (fun a h=>qjF (fun _ h=>b _ _ h) a _ _ _ h) h.2⟩
  · exact b _ _ h
  · exact qgc (fun _ h=>b _ _ h) h
  · exact qgc (fun _ h=>⟨h.1,h.2.1,h.2.2.1,b _ _ h.2.2.2⟩) h
  · unfold qej at h⊢;split at h
    · refine ⟨h.1,h.2.mono fun e w' j=> ?_⟩;cases e with
      |returned v=>exact b _ _ j
      |panicked c=>exact hpn _ _ _ j
      |outgrown=>exact g j
    · exact qp4 b hpn g i h
  · exact qp4 b hpn g i h
theorem qa6 {P:Program} {Q Q':Ks} (hpn:∀ρ c w,Q.pn ρ c w→Q'.pn ρ c w) (b:Q.og→Q'.og) (i:(Q.df→Q'.df)∧(Q.rd→Q'.rd)):∀(l:List St) {K K':qa→World→Prop} {ρ:qa} {w:World},(∀ρ w,K ρ w→K' ρ w)→qQ P Q l K ρ w→qQ P Q' l K' ρ w
  |[],_,_,_,_,k,h=>k _ _ h
  | .asg g d e::r,K,K',ρ,w,k,h=>by
    simp only [qQ,St.wp] at h⊢;split
    · rename_i j;rw [if_pos j] at h;exact qlj (fun _ h=>qa6 hpn b i r k h) h
    · rename_i j;rw [if_neg j] at h;exact qa6 hpn b i r k h
  | .eff g d op ty::r,K,K',ρ,w,k,h=>by
    simp only [qQ,St.wp] at h⊢;split
    · rename_i j;rw [if_pos j] at h;exact qzZ (fun _ _ h=>qa6 hpn b i r k h) hpn b i h
    · rename_i j;rw [if_neg j] at h;exact qa6 hpn b i r k h
theorem qby {P:Program} {w0:World}:∀(l:List St) {K K':qa→Prop} {ρ:qa},(∀ρ,K ρ→K' ρ)→qX P w0 l K ρ→qX P w0 l K' ρ
  |[],_,_,_,c,h=>c _ h
  | .asg g d e::r,K,K',ρ,c,h=>by
    simp only [qX] at h⊢;split
    · rename_i b;rw [if_pos b] at h;exact qlj (fun _ h=>qby r c h) h
    · rename_i b;rw [if_neg b] at h;exact qby r c h
  | .eff g d op ty::r,K,K',ρ,c,h=>by
    simp only [qX] at h⊢;split
    · rename_i b;rw [if_pos b] at h;obtain ⟨v,j,i⟩:=h;exact ⟨v,j,qby r c i⟩
    · rename_i b;rw [if_neg b] at h;exact qby r c h
theorem qAx {c:Option Value} {x y x' e:Prop} (i:x→x') (g:y→e) (h:QM c x y):QM c x' e:=by
  cases c with
  |none=>exact h
  |some v=>cases v with
    |bool b=>cases b<;>first|exact i h|exact g h
    |_=>exact h
theorem IR.wp_mono {cx:Cx}:∀{a:IR} {K K':qa→World→Prop} {Q Q':Ks} {ρ:qa} {w:World},a.wp cx K Q ρ w→(∀ρ w,K ρ w→K' ρ w)→(∀i ρ w,Q.ex i ρ w→Q'.ex i ρ w)→(∀ρ w,Q.rt ρ w→Q'.rt ρ w)→
    (∀ρ c w,Q.pn ρ c w→Q'.pn ρ c w)→(Q.og→Q'.og)→((Q.df→Q'.df)∧(Q.rd→Q'.rd))→a.wp cx K' Q' ρ w
  | .skip,_,_,_,_,_,_,h,n,_,_,_,_,_=>n _ _ h
  | .reg l,_,_,_,_,_,_,h,n,_,_,hpn,g,j=>qa6 hpn g j l n h
  | .drw l,_,_,_,_,_,_,h,n,_,_,_,_,_=>qby l (fun _ h w' B=>n _ _ (h w' B)) h
  | .seq a b,_,_,_,_,_,_,h,n,k,m,hpn,g,j=>IR.wp_mono (a:=a) h (fun _ _ h=>IR.wp_mono (a:=b) h n k m hpn g j) k m hpn g j
  | .cond c a b,_,_,_,_,_,_,h,n,k,m,hpn,g,j=>qAx (fun h=>IR.wp_mono (a:=a) h n k m hpn g j) (fun h=>IR.wp_mono (a:=b) h n k m hpn g j) h
  | .block id a,K,K',Q,Q',_,_,h,n,k,m,hpn,g,j=>IR.wp_mono (a:=a) h n (fun i ρ w h=>by
      simp only at h⊢;split
      · rename_i e;rw [if_pos e] at h;exact n _ _ h
      · rename_i e;rw [if_neg e] at h;exact k _ _ _ h) m hpn g j
  | .loop a,_,_,_,_,_,_,⟨I,μ,x,h⟩,_,k,m,hpn,g,j=>⟨I,μ,x,fun u w' C=>IR.wp_mono (a:=a) (h u w' C) (fun _ _ h=>h) k m hpn g j⟩
  | .exit id,_,_,_,_,_,_,h,_,k,_,_,_,_=>k _ _ _ h
  | .ret,_,_,_,_,_,_,h,_,_,m,_,_,_=>m _ _ h
  | .raw c,_,_,_,_,_,_,h,n,k,m,hpn,g,j=>fun a z A y=>Go.wp_mono (h a z A fun v=>y (j.1 v)) fun e a w t=>by
      cases e with
      |normal=>obtain ⟨s,ρ,q,o⟩:=t;exact ⟨s,ρ,q,n _ _ o⟩
      |exit i=>obtain ⟨s,ρ,q,o⟩:=t;exact ⟨s,ρ,q,k _ _ _ o⟩
      |ret=>obtain ⟨s,ρ,q,o⟩:=t;exact ⟨s,ρ,q,m _ _ o⟩
      |panic c=>obtain ⟨s,ρ,q,o⟩:=t;exact ⟨s,ρ,q,hpn _ _ _ o⟩
      |outgrown=>exact g t
      |goto l=>exact t
section
variable {cx:Cx} {K:qa→World→Prop} {Q:Ks} {ρ:qa} {w:World}
theorem yR (I:qa→World→Prop) (μ:qa→World→Nat) {a:IR} (g:I ρ w) (h:∀c w',I c w'→a.wp cx (fun b e=>I b e∧μ b e<μ c w') Q c w'):(IR.loop a).wp cx K Q ρ w:=⟨I,μ,g,h⟩
@[simp] theorem qrp {a b:IR}:(IR.seq a b).wp cx K Q ρ w=a.wp cx (b.wp cx K Q) Q ρ w:=rfl
@[simp] theorem qBL {l:List St}:(IR.reg l).wp cx K Q ρ w=qQ cx.P Q l K ρ w:=rfl
@[simp] theorem qBN {l:List St}:(IR.drw l).wp cx K Q ρ w=qX cx.P w l (fun b=>∀w',qc w w'→K b w') ρ:=rfl
@[simp] theorem qBJ:IR.skip.wp cx K Q ρ w=K ρ w:=rfl
@[simp] theorem qBM {i:Nat}:(IR.exit i).wp cx K Q ρ w=Q.ex i ρ w:=rfl
@[simp] theorem qBK:IR.ret.wp cx K Q ρ w=Q.rt ρ w:=rfl
@[simp] theorem qBP {i:Nat} {a:IR}:(IR.block i a).wp cx K Q ρ w=a.wp cx K (Q.blk i K) ρ w:=rfl
@[simp] theorem qBO {c:Ex} {a b:IR}:(IR.cond c a b).wp cx K Q ρ w=QM (c.ev ρ w) (a.wp cx K Q ρ w) (b.wp cx K Q ρ w):=rfl
end
def jd (rs:List RV) (R:Ending→World→Prop):Ks:=⟨fun _ _ _=>False,qz rs R,fun _ c w=>R (.panicked c) w,∀w,R .outgrown w,False,True⟩
@[simp] theorem qCU (rs:List RV) (R:Ending→World→Prop):(jd rs R).rt=qz rs R:=rfl
@[simp] theorem qCW (rs:List RV) (R:Ending→World→Prop) (ρ:qa) (c:List PanicEntry) (w:World):(jd rs R).pn ρ c w=R (.panicked c) w:=rfl
@[simp] theorem qCX (rs:List RV) (R:Ending→World→Prop):(jd rs R).og=∀w,R .outgrown w:=rfl
@[simp] theorem qCY (rs:List RV) (R:Ending→World→Prop) (i:Nat) (ρ:qa) (w:World):(jd rs R).ex i ρ w=False:=rfl
@[simp] theorem qCZ (P:Program) (rs:List RV) (R:Ending→World→Prop):(vD P rs R).rt=jH P rs R .returning:=rfl
@[simp] theorem qC1 (P:Program) (rs:List RV) (R:Ending→World→Prop) (ρ:qa) (c:List PanicEntry) (w:World):(vD P rs R).pn ρ c w=jH P rs R (.panicking c) ρ w:=rfl
@[simp] theorem qC2 (P:Program) (rs:List RV) (R:Ending→World→Prop):(vD P rs R).og=∀w,R .outgrown w:=rfl
@[simp] theorem qC4 (P:Program) (rs:List RV) (R:Ending→World→Prop):(vD P rs R).df=True:=rfl
@[simp] theorem qC0 (P:Program) (rs:List RV) (R:Ending→World→Prop):(vD P rs R).rd=True:=rfl
@[simp] theorem qCV (rs:List RV) (R:Ending→World→Prop):(jd rs R).rd=True:=rfl
@[simp] theorem qC3 (P:Program) (rs:List RV) (R:Ending→World→Prop) (i:Nat) (ρ:qa) (w:World):(vD P rs R).ex i ρ w=False:=rfl
@[simp] theorem qB0 (t:Nat) (R:Ending→World→Prop) (ρ:qa) (w:World):qz [.tmp t] R ρ w=R (.returned (ρ t)) w:=rfl
@[simp] theorem qBZ (t u:Nat) (R:Ending→World→Prop) (ρ:qa) (w:World):qz [.tmp t, .tmp u] R ρ w=R (.returned (.tuple #[ρ t,ρ u])) w:=rfl
@[simp] theorem qBY (t u s:Nat) (R:Ending→World→Prop) (ρ:qa) (w:World):qz [.tmp t, .tmp u, .tmp s] R ρ w=R (.returned (.tuple #[ρ t,ρ u,ρ s])) w:=rfl
@[simp] theorem qB1 (R:Ending→World→Prop) (ρ:qa) (w:World):qz [] R ρ w=R (.returned (.tuple #[])) w:=rfl
@[simp] theorem qCy (b:Bool) (x y:Option Value):qap (.bool b) x y=if b then x else y:=by cases b<;>rfl
@[simp] theorem qDd (b c:Bool):(if b then some (Value.bool true) else some (Value.bool c))=some (.bool (b||c)):=by cases b<;>rfl
@[simp] theorem qDe (b c:Bool):(if b then some (Value.bool c) else some (Value.bool false))=some (.bool (b&&c)):=by cases b<;>rfl
@[simp] theorem qDb (p:Prop) [Decidable p] (c:Bool):(if p then some (Value.bool true) else some (Value.bool c))=some (.bool (decide p||c)):=by split<;>simp_all
@[simp] theorem qDc (p:Prop) [Decidable p] (c:Bool):(if p then some (Value.bool c) else some (Value.bool false))=some (.bool (decide p&&c)):=by split<;>simp_all
@[simp] theorem qDp (b:Bool) (x y:Prop):QM (some (.bool b)) x y=if b then x else y:=by cases b<;>rfl
@[simp] theorem qCG (v:Value) (f:Value→Prop):z7 (some v) f=f v:=rfl
@[simp] theorem qCH {b:Type} (v:b) (f:b→Prop):jF (some v) f=f v:=rfl
@[simp] theorem qCx (a:Addr) (f:Addr→Prop):yn (.pointer (some a)) f=f a:=rfl
@[simp] theorem qcd (Q:Ks) (dst:Option Nat) (K:qa→World→Prop) (ρ:qa) (v:Value) (w:World):jR Q dst K ρ (.returned v) w=K (qk ρ dst v) w:=rfl
@[simp] theorem qqq (Q:Ks) (dst:Option Nat) (K:qa→World→Prop) (ρ:qa) (c:List PanicEntry) (w:World):jR Q dst K ρ (.panicked c) w=Q.pn ρ c w:=rfl
@[simp] theorem qEG (Q:Ks) (dst:Option Nat) (K:qa→World→Prop) (ρ:qa) (w:World):jR Q dst K ρ .outgrown w=Q.og:=rfl
section
variable {P:Program} {K:qa→World→Prop} {Q:Ks} {ρ:qa} {w w0:World}
@[simp] theorem qBI:qQ P Q [] K ρ w=K ρ w:=rfl
@[simp] theorem qiL {g:Option (Nat×Bool)} {d:Nat} {e:Ex} {r:List St}:qQ P Q (.asg g d e::r) K ρ w=if gd ρ g then z7 (e.ev ρ w) (fun v=>qQ P Q r K (qn ρ d v) w) else qQ P Q r K (qn ρ d undef) w:=rfl
@[simp] theorem qiK {g:Option (Nat×Bool)} {d:Option Nat} {op:Op} {ty:TypeId} {r:List St}:qQ P Q (.eff g d op ty::r) K ρ w=if gd ρ g then qm P Q d op ty (qQ P Q r K) ρ w else qQ P Q r K (qk ρ d undef) w:=rfl
end
attribute [simp] qX gd Ex.ev qaJ kj qcR qej qbz
@[simp] theorem qDg (ρ:qa) (t:Nat):qd ρ (.tmp t)=ρ t:=rfl
@[simp] theorem qDj (ρ:qa) (v:Value):qd ρ (.const v)=v:=rfl
@[simp] theorem qDh (ρ:qa) (g:Nat):qd ρ (.global g)= .pointer (some ⟨g,0,none⟩):=rfl
@[simp] theorem qDi (ρ:qa) (f:FuncId):qd ρ (.func f)= .func (.func f) #[] #[]:=rfl
section
variable {P:Program} {Q:Ks} {d:Option Nat} {ty:TypeId} {K:qa→World→Prop} {ρ:qa} {w:World}
@[simp] theorem qDl (fn:Fn) (fs cs:Array Operand):qm P Q d (.makeFunc fn fs cs) ty K ρ w=K (qk ρ d (.func fn (fs.map (qd ρ)) (cs.map (qd ρ)))) w:=rfl
@[simp] theorem qp2 (t:TypeId) (ps:Array (Nat×Operand)):qm P Q d (.build t ps) ty K ρ w=jF (P.built t (ps.map fun p=>(p.1,qd ρ p.2)).toList) fun cells=>K (qk ρ d (.agg cells)) w:=rfl
@[simp] theorem qDm (f:FuncId) (args:Array Operand) (b:Array TypeId):qm P Q d (.call {callee:= .value (.func f),args:=args,argTypes:=b}) ty K ρ w=(qf P f=true∧Calls P f (args.map (qd ρ)) w (jR Q d K ρ)):=rfl
end
@[simp] theorem qCf (w:World) (op:BinOp) (k e c:IntKind) (a b:Int):jA w (.ibin op k) (.int e a) (.int c b)=if e=c then qaJ op e a b else none:=rfl
@[simp] theorem qCc (w:World) (op:BinOp) (x y:ByteArray):jA w (.sbin op) (.string x) (.string y)=kj op x y:=rfl
@[simp] theorem qCh (w:World) (a b:Bool):jA w (.bbin .eql) (.bool a) (.bool b)=some (.bool (a==b)):=rfl
@[simp] theorem qCg (w:World) (a b:Bool):jA w (.bbin .neq) (.bool a) (.bool b)=some (.bool (!(a==b))):=rfl
@[simp] theorem qCb (w:World) (op:BinOp) (k c:IntKind) (a b:Int):jA w (.shf op) (.int k a) (.int c b)=qcR op k a b:=rfl
@[simp] theorem qCe (w:World) (sz:Nat) (v:Value) (k:IntKind) (i:Int):jA w (.ixa sz) v (.int k i)=if qt v∧0≤i∧i<qh v then some (.pointer (some (qM v (i.toNat*sz)))) else none:=by cases v<;>rfl
@[simp] theorem qCd (w:World) (s:ByteArray) (k:IntKind) (i:Int):jA w .ixs (.string s) (.int k i)=if 0≤i then (s[i.toNat]?).map fun b=> .int .u8 b.toNat else none:=rfl
@[simp] theorem qCa (w:World) (sz:Nat) (v:Value) (k:IntKind) (l:Int):jA w (.slLo sz) v (.int k l)=if qt v∧0≤l∧l≤qh v then some (qL v sz l.toNat (qh v) (qx v)) else none:=by cases v<;>rfl
@[simp] theorem qB9 (w:World) (s:ByteArray) (k:IntKind) (l:Int):jA w .stLo (.string s) (.int k l)=if 0≤l∧l≤s.size then some (.string (s.extract l.toNat s.size)) else none:=rfl
@[simp] theorem qB8 (w:World) (sz:Nat) (v:Value) (k b:IntKind) (l h:Int):wq w (.slLoHi sz) v (.int k l) (.int b h)=if qt v∧0≤l∧l≤h∧h≤qx v then some (qL v sz l.toNat h.toNat (qx v)) else none:=by cases v<;>rfl
@[simp] theorem qB7 (w:World) (s:ByteArray) (k b:IntKind) (l h:Int):wq w .stLoHi (.string s) (.int k l) (.int b h)=if 0≤l∧l≤h∧h≤s.size then some (.string (s.extract l.toNat h.toNat)) else none:=rfl
@[simp] theorem qB6 (w:World) (sz:Nat) (v:Value) (k c b:IntKind) (l h m:Int):pv4 w (.slMax sz) v (.int k l) (.int c h) (.int b m)=if qt v∧0≤l∧l≤h∧h≤m∧m≤qx v then some (qL v sz l.toNat h.toNat m.toNat) else none:=by cases v<;>rfl
@[simp] theorem qCj (w:World) (v:Value):qJ w .same v=some v:=rfl
@[simp] theorem qud (w:World) (a:Addr):qJ w .load1 (.pointer (some a))=w.cell? a:=rfl
@[simp] theorem qbF (w:World) (n:Nat) (a:Addr):qJ w (.loadN n) (.pointer (some a))=(jq w a 0 n).map fun l=> .agg l.toArray:=rfl
@[simp] theorem qCt (w:World) (n:Nat) (a:Addr):qJ w (.fadr n) (.pointer (some a))=some (.pointer (some (a.add n))):=rfl
@[simp] theorem qCs (w:World) (n:Nat) (cs:Array Value):qJ w (.fld n) (.agg cs)=cs[n]? :=rfl
@[simp] theorem qCr (w:World) (o n:Nat) (cs:Array Value):qJ w (.fldN o n) (.agg cs)=some (.agg (cs.extract o (o+n))):=rfl
@[simp] theorem qCq (w:World) (v:Value):qJ w .lenS v=if qt v then some (.int .i64 (qh v)) else none:=rfl
@[simp] theorem qCw (w:World) (v:Value):qJ w .capS v=if qt v then some (.int .i64 (qx v)) else none:=rfl
@[simp] theorem qCp (w:World) (s:ByteArray):qJ w .lenT (.string s)=some (.int .i64 s.size):=rfl
@[simp] theorem qCk (w:World) (b:Bool):qJ w .not (.bool b)=some (.bool !b):=rfl
@[simp] theorem qCn (w:World) (k:IntKind) (n:Int):qJ w .neg (.int k n)=some (.int k (k.wrap (0 - n))):=rfl
@[simp] theorem qCv (w:World) (k b:IntKind) (n:Int):qJ w (.conv k) (.int b n)=some (.int k (k.wrap n)):=rfl
@[simp] theorem qCu (w:World) (i:Nat) (vs:Array Value):qJ w (.ext i) (.tuple vs)=vs[i]? :=rfl
@[simp] theorem qCo (w:World) (t:TypeId) (v:Value):qJ w (.mkif t) v=some (.iface t v):=rfl
@[simp] theorem qCl (w:World) (t:TypeId) (v:Value):qJ w .nilc (.iface t v)=some (.iface t v):=rfl
@[simp] theorem qCm (w:World) (a:Addr):qJ w .nilc (.pointer (some a))=some (.pointer (some a)):=rfl
@[simp] theorem qCi (w:World) (s:ByteArray):qJ w .strid (.string s)=some (.string s):=rfl
theorem jG {n:Int} (h: -9223372036854775808≤n∧n≤9223372036854775807):IntKind.i64.wrap n=n:=by
  unfold IntKind.wrap;simp only [IntKind.bits,IntKind.signed,Bool.true_and];by_cases b:n%2^64≥(2^(64 - 1):Int)
  · rw [if_pos (by simpa using b)];omega
  · rw [if_neg (by simpa using b)];omega
theorem u8w {n:Int} (h:0≤n∧n<256):IntKind.u8.wrap n=n:=by
  unfold IntKind.wrap;simp only [IntKind.bits,IntKind.signed,Bool.false_and,Bool.false_eq_true,if_false];omega
@[simp] theorem qDa (k:IntKind) (n:Int):RowKit.intOf (.int k n)=n:=rfl
end Go.Eng
namespace Go.Eng
open Go.RowKit
@[simp] theorem qfm (v:Value) (j n:Nat):(qM v j).add n=qM v (j+n):=by
  unfold qM Addr.add;split<;>split<;>simp_all [Nat.add_assoc]
@[simp] theorem xp (b o n:Nat):(⟨b,o,none⟩:Addr).add n=⟨b,o+n,none⟩:=by
  unfold Addr.add;split<;>simp_all
structure Sl {α:Type} (enc:α→Value) (w:World) (v:Value) (xs:List α):Prop where
  is:qt v=true
  len:qh v=xs.length
  bd:xs.length<4611686018427387904
  cell:∀(i:Nat) (h:i<xs.length),w.cell? (qM v i)=some (enc xs[i])
theorem Sl.ext {b:Type} {enc:b→Value} {w w':World} {v:Value} {xs:List b} (h:Sl enc w v xs) (c:qc w w'):Sl enc w' v xs:=
  ⟨h.is,h.len,h.bd,fun i e=>c.cell (h.cell i e)⟩
theorem Sl.nil {b:Type} (enc:b→Value) (w:World):Sl enc w (.slice none 0 0) ([]:List b):=⟨rfl,rfl,by simp,fun i h=>by simp at h⟩
def jf (b:UInt8):Value:= .int .u8 b.toNat
def encI (n:Int):Value:= .int .i64 n
theorem wU (w:World) (o:Obj):qc w (w.alloc o):=(Below.refl _ _).alloc (Nat.le_refl _) o
theorem qc.trans' {a b c:World} (h:qc a b) (k:qc b c):qc a c:=Below.trans h (k.mono h.size)
theorem qzI {a b c:World} (h:qc a b) (k:Below a.heap.size b c):qc a c:=Below.trans h k
@[simp] theorem qDq (w:World) (o:Obj) (b i:Nat) (h:b<w.heap.size):(w.alloc o).cell? ⟨b,i,none⟩=w.cell? ⟨b,i,none⟩:=World.cell?_alloc_lt w o _ h
@[simp] theorem qDr (w:World) (c:Array Value) (t:TypeId) (b i:Nat) (h:b=w.heap.size):(w.alloc (.cells c t)).cell? ⟨b,i,none⟩=c[i]? :=by subst h;exact World.cell?_alloc_new w c t i
structure Blk (W:World) (B:Nat) (cs:Array Value) (t:TypeId):Prop where
  heap:W.heap[B]? =some (.cells cs t (0,0))
theorem Blk.lt {W:World} {B:Nat} {cs:Array Value} {t:TypeId} (h:Blk W B cs t):B<W.heap.size:=(Array.getElem?_eq_some_iff.1 h.heap).1
theorem Blk.cell {W:World} {B:Nat} {cs:Array Value} {t:TypeId} (h:Blk W B cs t) (i:Nat):W.cell? ⟨B,i,none⟩=cs[i]? :=by simp [World.cell?,h.heap]
theorem Blk.free {W:World} {B:Nat} {cs:Array Value} {t:TypeId} (h:Blk W B cs t) (i:Nat):W.frozen? ⟨B,i,none⟩=false:=by simp [World.frozen?,h.heap]
theorem Blk.ext {W W':World} {B:Nat} {cs:Array Value} {t:TypeId} (h:Blk W B cs t) (b:qc W W'):Blk W' B cs t:=⟨(b.block B h.lt).trans h.heap⟩
structure Only (B:Nat) (W W':World):Prop where
  os:W'.os=W.os
  tape:W'.tape=W.tape
  output:W'.output=W.output
  size:W'.heap.size=W.heap.size
  block:∀k,k≠B→W'.heap[k]? =W.heap[k]?
theorem Only.ext {B:Nat} {w W W':World} (h:Only B W W') (b:qc w W) (e:w.heap.size≤B):qc w W':=
  ⟨h.os.trans b.os,h.tape.trans b.tape,h.output.trans b.output,by rw [h.size];exact b.size,fun k c=>(h.block k (by omega)).trans (b.block k c)⟩
theorem Only.blk {B B':Nat} {W W':World} {cs:Array Value} {t:TypeId} (h:Only B W W') (c:Blk W B' cs t) (b:B'≠B):Blk W' B' cs t:=⟨(h.block B' b).trans c.heap⟩
theorem Only.refl (B:Nat) (W:World):Only B W W:=⟨rfl,rfl,rfl,rfl,fun _ _=>rfl⟩
theorem Only.trans {B:Nat} {a b c:World} (h:Only B a b) (k:Only B b c):Only B a c:=
  ⟨k.os.trans h.os,k.tape.trans h.tape,k.output.trans h.output,k.size.trans h.size,fun i e=>(k.block i e).trans (h.block i e)⟩
theorem qdj (W:World) (B i:Nat) (v:Value):Only B W (W.setCell ⟨B,i,none⟩ v):=
  ⟨rfl,rfl,rfl,by simp,fun k b=>Below.heap_setCell _ _ _ _ b⟩
theorem qen {W:World} {B:Nat} {cs:Array Value} {t:TypeId} (h:Blk W B cs t) (i:Nat) (v:Value):Blk (W.setCell ⟨B,i,none⟩ v) B (cs.setIfInBounds i v) t:=by
  have b:=h.heap;exact ⟨by simp [World.setCell,Array.getElem?_modify,b]⟩
theorem qcg (w:World) (cs:Array Value) (t:TypeId):Blk (w.alloc (.cells cs t)) w.heap.size cs t:=⟨heap_alloc_new w _⟩
section
variable {P:Program} {Q:Ks} {d:Option Nat} {ty:TypeId} {K:qa→World→Prop} {ρ:qa} {w:World}
theorem vY {t:TypeId} {x:Operand} (h:∀(B:Nat) (W:World),w.heap.size≤B→qc w W→Blk W B (qd ρ x).cells t→W.heap.size=B+1→K (qk ρ d (.pointer (some ⟨B,0,none⟩))) W):qm P Q d (.box t x) ty K ρ w:=
  h w.heap.size _ (Nat.le_refl _) (wU w _) (qcg w _ _) (by simp)
theorem qK {t:TypeId} {z:Array Value} (b:vh P t=some z) (h:∀(B:Nat) (W:World),w.heap.size≤B→qc w W→Blk W B z t→W.heap.size=B+1→K (qk ρ d (.pointer (some ⟨B,0,none⟩))) W):qm P Q d (.alloc t) ty K ρ w:=by
  show jF (vh P t) _;rw [b];exact h w.heap.size _ (Nat.le_refl _) (wU w _) (qcg w _ _) (by simp)
theorem qS {t:TypeId} {p x:Operand} {B i:Nat} {cs:Array Value} {T:TypeId} (g:qd ρ p= .pointer (some ⟨B,i,none⟩)) (b:Blk w B cs T) (c:i<cs.size) (j:(qd ρ x).cells= #[qd ρ x]) (k:(qd ρ x).oneCell=true)
    (e:jo P t 1=true) (h:∀W,Only B w W→Blk W B (cs.set i (qd ρ x)) T→K (qk ρ d undef) W):qm P Q d (.store t p x) ty K ρ w:=by
  show jo P t (qd ρ x).cells.size=true∧yn (qd ρ p) _;rw [g,j];refine ⟨e, ?_⟩;show kS _ [qd ρ x] 0 _ w;refine ⟨⟨cs[i], ?_⟩, ?_,k, ?_⟩
  · rw [xp,Nat.add_zero,b.cell];simp [c]
  · rw [xp,Nat.add_zero,b.free]
  · rw [xp,Nat.add_zero];refine h _ (qdj w B i _) ?_;have:=qen b i (qd ρ x);rw [Array.setIfInBounds,dif_pos c] at this;exact this
theorem qbh {B : Nat} {T : TypeId} {K : World → Prop} : ∀ (vs : List Value) (i : Nat) (w : World) (cs : Array Value), Blk w B cs T → i + vs.length ≤ cs.size → (∀ v ∈ vs, v.oneCell = true) →
    (∀W,Only B w W→Blk W B (cs.toList.take i++vs++cs.toList.drop (i+vs.length)).toArray T→K W)→kS ⟨B,0,none⟩ vs i K w
  |[],i,w,cs,b,_,_,h=>h w (Only.refl _ _) (by simpa using b)
  | v :: vs, i, w, cs, b, m, g, h => by
    simp only [List.length_cons] at m;have c:i<cs.size:=by omega
    refine ⟨⟨cs[i], ?_⟩, ?_,g v (by simp), ?_⟩
    · rw [xp,Nat.zero_add,b.cell];simp [c]
    · rw [xp,Nat.zero_add,b.free]
    · rw [xp,Nat.zero_add];refine qbh vs (i+1) _ (cs.setIfInBounds i v) (qen b i v) (by simp;omega) (fun u k=>g u (by simp [k])) fun W l j=> ?_;refine h W ((qdj w B i v).trans l) ?_;have e:(cs.setIfInBounds i v).toList.take (i+1)++vs++(cs.setIfInBounds i v).toList.drop (i+1+vs.length)=cs.toList.take i++v::vs++cs.toList.drop (i+(vs.length+1)):=by
        simp only [Array.toList_setIfInBounds];rw [List.take_succ_eq_append_getElem (by simpa using c),List.take_set_of_le (Nat.le_refl i),List.drop_set_of_lt (by omega)];simp [show i+1+vs.length=i+(vs.length+1) by omega]
      simp only [List.length_cons];rw [←e];exact j
theorem qb8 {t:TypeId} {e:Nat} {x:Operand} {g:TypeId} {r:List St} {z:Array Value} (n:vh P t=some z) (m:∀v,qd (qn ρ e v) x=qd ρ x) (b:(qd ρ x).cells.size=z.size) (y:∀v∈(qd ρ x).cells.toList,v.oneCell=true)
    (k:jo P t z.size=true) (h:∀(B:Nat) (W:World),w.heap.size≤B→qc w W→Blk W B (qd ρ x).cells t→W.heap.size=B+1→qQ P Q r K (qn ρ e (.pointer (some ⟨B,0,none⟩))) W):
    qm P Q (some e) (.alloc t) ty (qQ P Q (.eff none none (.store t (.tmp e) x) g::r) K) ρ w:=by
  refine qK n fun B W i l o s=> ?_;simp only [qiS,qiK,gd,if_true];show jo P t (qd (qn ρ e _) x).cells.size=true∧yn (qd (qn ρ e _) (.tmp e)) _;rw [m,b];refine ⟨k, ?_⟩;have u:qd (qn ρ e (.pointer (some ⟨B,0,none⟩))) (.tmp e)= .pointer (some ⟨B,0,none⟩):=by simp
  rw [u];show kS ⟨B,0,none⟩ _ 0 _ W;refine qbh _ 0 W z o (by rw [Array.length_toList,b];omega) y fun W' j c=> ?_;refine h B W' i (j.ext l i) ?_ (by rw [j.size];exact s);have:(z.toList.take 0++(qd ρ x).cells.toList++z.toList.drop (0+(qd ρ x).cells.toList.length)).toArray=(qd ρ x).cells:=by
    have q:List.drop (0+(qd ρ x).cells.toList.length) z.toList=[]:=List.drop_eq_nil_of_le (by rw [Array.length_toList,Array.length_toList,b];omega);rw [q];simp
  rw [this] at c;exact c
theorem xc {t:TypeId} {n:Nat} {ps:Array (Nat×Operand)} {es:TypeId×Nat} (c:xX P t=some es) (e:n*es.2≤1000) (b:ps.toList.map (·.1)=List.range n) (g:∀p∈ps.toList,(qd ρ p.2).cells.size=es.2)
    (h:∀(B:Nat) (W:World),w.heap.size≤B→qc w W→Blk W B (ps.toList.flatMap fun p=>(qd ρ p.2).cells.toList).toArray es.1→W.heap.size=B+1→K (qk ρ d (.slice (some ⟨B,0,none⟩) n n)) W):qm P Q d (.buildSlice t n ps) ty K ρ w:=by
  show jF (xX P t) _;rw [c];exact ⟨e,b,g,h w.heap.size _ (Nat.le_refl _) (wU w _) (qcg w _ _) (by simp)⟩
end
@[simp] theorem qBV (w:World) (a:Addr):Eng.jq w a 0 2=(w.cell? (a.add 0)).bind fun x=>(w.cell? (a.add 1)).bind fun y=>some [x,y]:=by
  simp only [Eng.jq];cases w.cell? (a.add 0)<;>cases w.cell? (a.add 1)<;>simp
@[simp] theorem qBU (w:World) (a:Addr):Eng.jq w a 0 3=(w.cell? (a.add 0)).bind fun x=>(w.cell? (a.add 1)).bind fun y=>(w.cell? (a.add 2)).bind fun z=>some [x,y,z]:=by
  simp only [Eng.jq];cases w.cell? (a.add 0)<;>cases w.cell? (a.add 1)<;>cases w.cell? (a.add 2)<;>simp
theorem QA {v:Value} (h:qt v=true) (sz l r m:Nat) (u:l≤r) (q:r≤m) (k:m≤qx v):qt (qL v sz l r m)=true:=by
  rcases xy h with ⟨b,o,n,c,rfl,t⟩|rfl|⟨b,o,s,rfl⟩
  rotate_left 2
  · simp only [qx] at k;have j:m=0:=by omega
    have i:l=0:=by omega
    have g:r=0:=by omega
    subst j;subst i;subst g;rfl
  · simp only [qL];split
    · rename_i e;subst e;simp only [qt];simp;omega
    · simp only [Option.map_some,qt,xp];simp;omega
  · simp only [qx] at k;have j:m=0:=by omega
    have i:l=0:=by omega
    have g:r=0:=by omega
    subst j;subst i;subst g;rfl
@[simp] theorem qcP {v:Value} (sz l r m:Nat) (h:qt v=true):qh (qL v sz l r m)=r - l:=by
  rcases xy h with ⟨b,o,n,c,rfl,e⟩|rfl|⟨b,o,s,rfl⟩<;>simp [qL,qh]
@[simp] theorem qBT {v:Value} (sz l r m:Nat) (h:qt v=true):qx (qL v sz l r m)=m - l:=by
  rcases xy h with ⟨b,o,n,c,rfl,e⟩|rfl|⟨b,o,s,rfl⟩<;>simp [qL,qx]
theorem qcQ {v:Value} (sz l r m j:Nat) (h:qt v=true) (i:l<m) (e:qx v≠0):qM (qL v sz l r m) j=qM v (l*sz+j):=by
  rcases xy h with ⟨b,o,n,c,rfl,g⟩|rfl|⟨b,o,s,rfl⟩
  rotate_left 2
  · simp [qx] at e
  · simp only [qL];rw [if_neg (by omega)];simp [qM,Nat.add_assoc]
  · simp [qx] at e
theorem qgx {v:Value} (h:qt v=true):qh v≤qx v:=by
  rcases xy h with ⟨b,o,n,c,rfl,e⟩|rfl|⟨b,o,s,rfl⟩<;>simp [qh,qx];exact e
theorem Sl.sub {b:Type} {enc:b→Value} {w:World} {v:Value} {xs:List b} (h:Sl enc w v xs) {l r m:Nat} (j:l≤r) (n:r≤xs.length) (e:r≤m) (g:m≤qx v):
    Sl enc w (qL v 1 l r m) ((xs.take r).drop l):=by
  have c:((xs.take r).drop l).length=r - l:=by simp;omega
  refine ⟨QA h.is 1 l r m j e g,by rw [qcP _ _ _ _ h.is,c],by have:=h.bd;omega,fun i k=> ?_⟩;rw [c] at k;rw [qcQ 1 l r m i h.is (by omega) (by omega),Nat.mul_one,h.cell (l+i) (by omega)];simp
section
variable {cx:Cx} {K:qa→World→Prop} {Q:Ks} {ρ:qa} {w:World} {a:IR}
theorem ko (s n:Nat) (I:Nat→qa→World→Prop) (l:ρ s= .int .i64 0) (o:I 0 ρ w)
    (h:∀(k:Nat) (c:qa) (w':World),k≤n→c s= .int .i64 k→I k c w'→a.wp cx (fun b g=>k<n∧b s= .int .i64 ((k:Int)+1)∧I (k+1) b g) Q c w'):(IR.loop a).wp cx K Q ρ w:=by
  refine yR (fun c w'=>∃k:Nat,k≤n∧c s= .int .i64 k∧I k c w') (fun c _=>n - (RowKit.intOf (c s)).toNat) ⟨0,Nat.zero_le _,l,o⟩ ?_;rintro c w' ⟨k,t,m,u⟩;have:=h k c w' t m u;have e:(fun b g=>k<n∧b s= .int .i64 ((k:Int)+1)∧I (k+1) b g)=fun b g=>(k<n∧b s= .int .i64 ((k:Int)+1)∧I (k+1) b g):=rfl;refine IR.wp_mono this ?_ (fun _ _ _ h=>h) (fun _ _ h=>h) (fun _ _ _ h=>h) (fun h=>h) ⟨fun h=>h,fun h=>h⟩;rintro b g ⟨q,i,j⟩;exact ⟨⟨k+1,by omega,by rw [i];simp,j⟩,by rw [i,m];simp;omega⟩
end
@[simp] theorem qC9 (a b:Nat):((a:Int)=(b:Int))↔a=b:=Int.ofNat_inj
@[simp] theorem qC8 (n:Nat):((n:Int)<0)↔False:=⟨fun h=>by omega,fun h=>h.elim⟩
@[simp] theorem qC6 (p n:Nat):((p:Int)+1<(n:Int))↔p+1<n:=by omega
@[simp] theorem qC7 (p n:Nat):((p:Int)+1≤(n:Int))↔p+1≤n:=by omega
@[simp] theorem qC5 (p:Nat):(0≤(p:Int)+1)↔True:=⟨fun _=>trivial,fun _=>by omega⟩
def qb (bs:List UInt8):ByteArray:=⟨bs.toArray⟩
@[simp] theorem qCT (b:List UInt8):(qb b).data.toList=b:=rfl
theorem xH {a b:List UInt8}:qb a=qb b↔a=b:=⟨fun h=>by have:=congrArg (fun x=>x.data.toList) h;simpa using this,fun h=>by rw [h]⟩
@[simp] theorem qvN (b:List UInt8):(qb b).size=b.length:=rfl
theorem qal {w:World} {a:Addr}:∀{l:List Value} {i:Nat},(∀j (h:j<l.length),w.cell? (a.add (i+j))=some l[j])→jq w a i l.length=some l
  |[],_,_=>rfl
  | v :: l, i, h => by
    have b:=h 0 (by simp);have c:=qal (w:=w) (a:=a) (l:=l) (i:=i+1) fun j e=>by
      have:=h (j+1) (by simpa using e);simpa [Nat.add_assoc,Nat.add_comm 1 j] using this
    simp only [List.length_cons,jq];simp only [Nat.add_zero,List.getElem_cons_zero] at b;simp [b,c]
theorem Sl.congr {b:Type} {enc:b→Value} {w:World} {v:Value} {xs ys:List b} (h:Sl enc w v xs) (e:xs=ys):Sl enc w v ys:=e▸h
end Go.Eng
namespace Go.Eng
open Go.RowKit
def kF (P:Program) (t:TypeId):Option (TypeId×Nat×Nat):=
  match P.underlying t with
  |some (.slice e)=>(P.info? e).bind fun i=>i.zero.bind fun z=>if z.cells.size=i.size∧0<i.size then some (e,i.size,i.bytes) else none
  |_=>none
def Own (base:Nat) (e sz:Nat) (w:World) (v:Value) (xs:List Value):Prop:=
  (v= .slice none 0 0∧xs=[])∨
  ∃g off n cap cur,v= .slice (some ⟨g,off,none⟩) n cap∧base≤g∧w.heap[g]? =some (.cells cur e (0,0))∧xs.length=n*sz∧n≤cap∧cap≤maxLen∧off+cap*sz≤cur.size∧(cur.toList.drop off).take (n*sz)=xs
theorem Own.nil (base e sz:Nat) (w:World):Own base e sz w (.slice none 0 0) []:= .inl ⟨rfl,rfl⟩
theorem Own.blk {base e sz:Nat} {w:World} {v:Value} {xs:List Value} (h:Own base e sz w v xs):∀k,v.ownBlock=some k→base≤k∧k<w.heap.size:=by
  intro k b;rcases h with ⟨rfl,_⟩|⟨g,off,n,cap,cur,rfl,i,c,_⟩
  · simp [Value.ownBlock] at b
  · simp [Value.ownBlock] at b;subst b;exact ⟨i,(Array.getElem?_eq_some_iff.1 c).1⟩
theorem Own.ext {base e sz:Nat} {w w':World} {v:Value} {xs:List Value} (h:Own base e sz w v xs) (c:qc w w'):Own base e sz w' v xs:=by
  rcases h with h|⟨g,off,n,cap,cur,rfl,i,b,r⟩
  · exact .inl h
  · exact .inr ⟨g,off,n,cap,cur,rfl,i,(c.block g (Array.getElem?_eq_some_iff.1 b).1).trans b,r⟩
theorem Own.kept {base e sz:Nat} {w w':World} {v:Value} {xs:List Value} {row:Option Nat} (h:Own base e sz w v xs) (c:w.grownBy w' row) (b:v.ownBlock=none∨v.ownBlock≠row):Own base e sz w' v xs:=by
  rcases h with h|⟨g,off,n,cap,cur,rfl,j,i,r⟩
  · exact .inl h
  · refine .inr ⟨g,off,n,cap,cur,rfl,j, ?_,r⟩;rw [c.block g (Array.getElem?_eq_some_iff.1 i).1 (by simpa [Value.ownBlock] using b)];exact i
theorem Own.only {base e sz:Nat} {w w':World} {v:Value} {xs:List Value} {B:Nat} (h:Own base e sz w v xs) (i:Only B w w') (j:B<base):Own base e sz w' v xs:=by
  rcases h with h|⟨g,off,n,cap,cur,rfl,c,b,r⟩
  · exact .inl h
  · exact .inr ⟨g,off,n,cap,cur,rfl,c,(i.block g (by omega)).trans b,r⟩
theorem Own.lit {base e sz:Nat} {W:World} {B n:Nat} {cs:List Value} (h:Blk W B cs.toArray e) (b:cs.length=n*sz) (g:base≤B) (c:n≤maxLen):Own base e sz W (.slice (some ⟨B,0,none⟩) n n) cs:=
  .inr ⟨B,0,n,n,cs.toArray,rfl,g,h.heap,b,Nat.le_refl _,c,by simpa using Nat.le_of_eq b.symm,by simp [←b]⟩
theorem Own.sl {l:Type} {enc:l→Value} {base e:Nat} {w:World} {v:Value} {xs:List l} (h:Own base e 1 w v (xs.map enc)) (b:xs.length<4611686018427387904):Sl enc w v xs:=by
  rcases h with ⟨rfl,j⟩|⟨g,off,n,cap,cur,rfl,x,o,t,q,_,u,m⟩
  · have:xs=[]:=by simpa using j
    subst this;exact Sl.nil enc w
  · have c:n=xs.length:=by simpa using t.symm
    refine ⟨by simp [qt,q],by simp [qh,c],b,fun i s=> ?_⟩;have k:((cur.toList.drop off).take (n*1))[i]? =(xs.map enc)[i]? :=by rw [m]
    rw [List.getElem?_take,if_pos (by omega),List.getElem?_drop] at k;simp only [qM,World.cell?,o];simpa [s] using k
theorem Own.drop {base e:Nat} {w:World} {v:Value} {xs:List Value} (h:Own base e 1 w v xs) (l:Nat) (m:l≤xs.length):Own base e 1 w (qL v 1 l (qh v) (qx v)) (xs.drop l):=by
  rcases h with ⟨rfl,rfl⟩|⟨g,off,n,cap,cur,rfl,i,c,j,q,t,o,k⟩
  · have:l=0:=by simpa using m
    subst this;exact .inl ⟨by simp [qL,qh,qx],rfl⟩
  · have s:n=xs.length:=by omega
    have es:qL (.slice (some ⟨g,off,none⟩) n cap) 1 l (qh (.slice (some ⟨g,off,none⟩) n cap)) (qx (.slice (some ⟨g,off,none⟩) n cap))= .slice (some ⟨g,if cap=l then off else off+l,none⟩) (n - l) (cap - l):=by
      simp [qL,qh,qx];split<;>simp
    rw [es];by_cases b:cap=l
    · have:xs.drop l=[]:=List.drop_eq_nil_of_le (by omega);rw [this,if_pos b];exact .inr ⟨g,off,n - l,cap - l,cur,rfl,i,c,by simp;omega,by omega,by omega,by omega,by rw [show (n - l)*1=0 by omega];simp⟩
    · rw [if_neg b];refine .inr ⟨g,off+l,n - l,cap - l,cur,rfl,i,c,by simp;omega,by omega,by omega,by omega, ?_⟩;rw [←k,List.drop_take,List.drop_drop];congr 1;omega
structure Cells (w:World) (v:Value) (sz:Nat) (xs:List Value):Prop where
  is:qt v=true
  len:xs.length=qh v*sz
  cell:∀(j:Nat) (h:j<xs.length),w.cell? (qM v j)=some xs[j]
theorem Sl.cells {b:Type} {enc:b→Value} {w:World} {v:Value} {xs:List b} (h:Sl enc w v xs):Cells w v 1 (xs.map enc):=
  ⟨h.is,by simp [h.len],fun j c=>by rw [h.cell j (by simpa using c)];simp⟩
theorem Blk.cells {w:World} {B n sz:Nat} {cs:List Value} {t:TypeId} (h:Blk w B cs.toArray t) (b:cs.length=n*sz):Cells w (.slice (some ⟨B,0,none⟩) n n) sz cs:=
  ⟨by simp [qt],by simp [qh,b],fun j c=>by simp only [qM];rw [h.cell];simp⟩
section
variable {P:Program} {Q:Ks} {d:Option Nat} {ty:TypeId} {K:qa→World→Prop} {ρ:qa} {w:World}
theorem qfe {B o:Nat} {K:World→Prop}:∀(vs:List Value) (i:Nat) (w:World),kS ⟨B,0,none⟩ vs (o+i) K w→kS ⟨B,o,none⟩ vs i K w
  |[],_,_,h=>h
  |v::vs,i,w,h=>by
    obtain ⟨c,e,g,b⟩:=h;simp only [xp,Nat.zero_add] at c e b;refine ⟨by simpa using c,by simpa using e,g, ?_⟩;simp only [xp];exact qfe vs (i+1) _ (by simpa [Nat.add_assoc] using b)
theorem qcY {t e sz bytes : Nat} (hi : kF P t = some (e, sz, bytes)) {base : Nat} {v xv : Value} {xs news : List Value} (y : Own base e sz w v xs) (L : Cells w xv sz news) (h1 : ∀ u ∈ news, u.oneCell' = true)
    (hlen:xs.length+news.length<4611686018427387904) (E:(xs.length+news.length)*bytes≤140737488355328*sz) (X:base≤w.heap.size):
    ∃v' W,(Builtin.append_ #[t,t] ty #[v,xv]).run P w= .ok v' W∧Own base e sz W v' (xs++news)∧w.grownBy W v.ownBlock∧(v'.ownBlock=v.ownBlock∨v'.ownBlock=some w.heap.size):=by
  unfold kF at hi;split at hi
  · rename_i e' x;simp only [Option.bind_eq_some_iff] at hi;obtain ⟨i,A,z,hz,hc⟩:=hi;split at hc
    · rename_i Y;cases hc;obtain ⟨Y,S⟩:=Y;have h:=L.len
      have grown:∀(n m old:Nat),xs.length=n*i.size→news.length=m*i.size→n+m≤maxLen→∀(row:Option Nat),
          Own base e i.size (w.drew.alloc (.cells (xs.toArray++news.toArray++Builtin.zeroCells z.cells (grownCap w (n+m) old e - (n+m))) e)) (.slice (some ⟨w.heap.size,0,none⟩) (n+m) (grownCap w (n+m) old e)) (xs++news)∧
          w.grownBy (w.drew.alloc (.cells (xs.toArray++news.toArray++Builtin.zeroCells z.cells (grownCap w (n+m) old e - (n+m))) e)) row:=by
        intro n m old H hm h63 row;have hge:=grownCap_ge w (n+m) old e;have I:grownCap w (n+m) old e≤maxLen:=grownCap_le_maxLen w (n+m) old e h63;have hl:(xs++news).length=(n+m)*i.size:=by rw [List.length_append,H,hm,Nat.add_mul]
        refine ⟨.inr ⟨w.heap.size,0,_,_,_,rfl,X,heap_alloc_new w.drew _,hl,hge,I, ?_, ?_⟩,⟨rfl,rfl,rfl,by simp,fun k hk _=>heap_alloc_old w.drew _ k hk⟩⟩
        · simp only [Array.size_append,List.size_toArray,size_zeroCells,Y,H,hm,←Nat.add_mul,Nat.zero_add];refine Nat.le_of_eq ?_;congr 1;omega
        · simp only [Array.toList_append,List.append_assoc,List.drop_zero];rw [←List.append_assoc,←hl];exact List.take_left
      have s:∀n:Nat,xs.length=n*i.size→n+qh xv≤maxLen∧(n+qh xv)*i.bytes≤140737488355328:=by
        intro n H;have h2:(n+qh xv)*i.size=xs.length+news.length:=by rw [H,h,Nat.add_mul]
        have h3:n+qh xv≤(n+qh xv)*i.size:=Nat.le_mul_of_pos_right _ S;refine ⟨by simp only [maxLen];omega, ?_⟩;rw [←h2,Nat.mul_right_comm] at E;exact Nat.le_of_mul_le_mul_right E S
      rcases xy L.is with ⟨b,o,m,c,rfl,hmc⟩|rfl|⟨b,o,sp,rfl⟩
      rotate_left 2
      · have J:news=[]:=List.length_eq_zero_iff.1 (by simpa [qh] using h);subst J;refine ⟨v,w, ?_,by simpa using y,⟨rfl,rfl,rfl,Nat.le_refl _,fun _ _ _=>rfl⟩, .inl rfl⟩;rcases y with ⟨rfl,rfl⟩|⟨g,off,n,cap,cur,rfl,V,hg,H,O,I,hcs,q⟩
        · simp [Builtin.append_,run_underlying x,sizeOf,typeInfo,A,Builtin.lenOf,Builtin.firstCells,loadCells,loadCellsFrom]
        · simp [Builtin.append_,run_underlying x,sizeOf,typeInfo,A,Builtin.lenOf,Builtin.firstCells,O,storeCells,loadCells,loadCellsFrom]
      · have B:∀j u,news[j]? =some u→w.cell? ((⟨b,o,none⟩:Addr).add j)=some u:=fun j u x=>by
          obtain ⟨hj,rfl⟩:=List.getElem?_eq_some_iff.1 x;have:=L.cell j hj;simpa [qM] using this
        simp only [qh] at h s;rcases y with ⟨rfl,rfl⟩|⟨g,off,n,cap,cur,rfl,V,hg,H,O,I,hcs,q⟩
        · obtain ⟨R,U⟩:=s 0 (by simp);by_cases hm:m=0
          · subst hm;have hnn:news=[]:=List.eq_nil_of_length_eq_zero (by simpa using h);subst hnn;refine ⟨.slice none 0 0,w, ?_,Own.nil _ _ _ _,⟨rfl,rfl,rfl,Nat.le_refl _,fun _ _ _=>rfl⟩, .inl rfl⟩;simp [Builtin.append_,run_underlying x,sizeOf,typeInfo,A,Builtin.lenOf,Builtin.firstCells,loadCells,loadCellsFrom]
          · simp only [maxLen] at R;simp only [Nat.zero_add] at R U;have hr:=run_append_nil (P:=P) w t ty e i z x A hz ⟨b,o,none⟩ m c news h B (by omega) (by omega) (by omega);have F:=grown 0 m 0 (by simp) h (by simp only [maxLen];omega) (Value.ownBlock (.slice none 0 0));simp only [Nat.zero_add,List.nil_append,Array.empty_append] at F⊢;exact ⟨_,_,hr,F.1,F.2, .inr rfl⟩
        · obtain ⟨R,U⟩:=s n H;by_cases C:n+m≤cap
          · have Z:(n+m)*i.size≤cap*i.size:=Nat.mul_le_mul_right _ C;rw [Nat.add_mul,←h] at Z;have hb:Blk w g cur e:=⟨hg⟩;have hone:∀u∈news,u.oneCell=true:=fun u x=>by have:=h1 u x;cases u<;>first|rfl|exact this
            obtain ⟨W,hW,l,aa⟩:=qfz (P:=P) ⟨g,off+n*i.size,none⟩ news 0
              (fun W=>Only g w W∧Blk W g (cur.toList.take (off+n*i.size+0)++news++cur.toList.drop (off+n*i.size+0+news.length)).toArray e) w
              (qfe news 0 w (qbh news (off+n*i.size+0) w cur hb (by omega) hone fun W hO hB=>⟨hO,hB⟩))
            refine ⟨.slice (some ⟨g,off,none⟩) (n+m) cap,W, ?_, .inr ⟨g,off,n+m,cap,_,rfl,V,aa.heap,by rw [List.length_append,H,h,Nat.add_mul],C,I, ?_, ?_⟩, ?_, .inl rfl⟩
            · have hf:=run_firstCells_some (P:=P) w i.size m ⟨b,o,none⟩ m c news h B;simp [Builtin.append_,run_underlying x,sizeOf,typeInfo,A,Builtin.lenOf,C,hf,hW]
            · simp;omega
            · have e0:off+n*i.size≤cur.toList.length:=by rw [Array.length_toList];omega
              have e1:(cur.toList.take (off+n*i.size)).drop off=xs:=by
                rw [List.drop_take,←q];congr 1;omega
              simp only [Nat.add_zero];rw [List.append_assoc,List.drop_append_of_le_length (by rw [List.length_take];omega),e1,←List.append_assoc,Nat.add_mul,←h,←H,←List.length_append];exact List.take_left
            · exact ⟨l.os,l.tape,l.output,by rw [l.size];exact Nat.le_refl _,fun k _ hk=>l.block k (fun e=>hk (by simp [Value.ownBlock,e]))⟩
          · have holds:∀j u,xs[j]? =some u→w.cell? ((⟨g,off,none⟩:Addr).add j)=some u:=by
              intro j u x;rw [←q,List.getElem?_take] at x;split at x
              · rw [List.getElem?_drop] at x;rw [xp,(⟨hg⟩:Blk w g cur e).cell];simpa using x
              · cases x
            simp only [maxLen] at R;have hr:=run_append_grow (P:=P) w t ty e i z x A hz ⟨g,off,none⟩ n cap xs H holds ⟨b,o,none⟩ m c news h B (by omega) (by omega) (growslice_fits (by omega) U);have F:=grown n m cap H h (by simp only [maxLen];omega) (Value.ownBlock (.slice (some ⟨g,off,none⟩) n cap));exact ⟨_,_,hr,F.1,F.2, .inr rfl⟩
      · have J:news=[]:=List.length_eq_zero_iff.1 (by simpa [qh] using h);subst J;refine ⟨v,w, ?_,by simpa using y,⟨rfl,rfl,rfl,Nat.le_refl _,fun _ _ _=>rfl⟩, .inl rfl⟩;rcases y with ⟨rfl,rfl⟩|⟨g,off,n,cap,cur,rfl,V,hg,H,O,I,hcs,q⟩
        · simp [Builtin.append_,run_underlying x,sizeOf,typeInfo,A,Builtin.lenOf,Builtin.firstCells]
        · simp [Builtin.append_,run_underlying x,sizeOf,typeInfo,A,Builtin.lenOf,Builtin.firstCells,O,storeCells]
    · cases hc
  · cases hi
theorem qzX {t e sz bytes:Nat} (B:kF P t=some (e,sz,bytes)) {W0:World} (m:qc W0 w) {s x:Operand} {sv xv:Value} (q:qd ρ s=sv) (z:qd ρ x=xv) {xs news:List Value}
    (c:Own W0.heap.size e sz w sv xs) (i:Cells w xv sz news) (C:∀u∈news,u.oneCell'=true)
    (j:xs.length+news.length<4611686018427387904) (b:(xs.length+news.length)*bytes≤140737488355328*sz)
    (h:∀g W,qc W0 W→Own W0.heap.size e sz W g (xs++news)→w.grownBy W sv.ownBlock→(g.ownBlock=sv.ownBlock∨g.ownBlock=some w.heap.size)→K (qk ρ d g) W):qm P Q d (.call {callee:= .builtin .append,args:= #[s,x],argTypes:= #[t,t]}) ty K ρ w:=by
  subst q;subst z;obtain ⟨g,W,o,y,n,l⟩:=qcY (P:=P) (ty:=ty) B c i C j b m.size;refine jk (v:=g) (w':=W) ?_ (h g W ?_ y n l)
  · simp only [execOp,qA,resolve,invoke,builtin,Sem.run_bind,Sem.run_pure,Result.andThen_ok,List.map_toArray,List.map_cons,List.map_nil,o]
  · exact m.grown n m.size fun k A=>(c.blk k A).1
end
end Go.Eng
