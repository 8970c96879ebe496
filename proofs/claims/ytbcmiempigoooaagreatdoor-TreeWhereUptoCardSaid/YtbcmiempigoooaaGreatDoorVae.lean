/- Lemmas for a claim about layer 2 (tree). No conditions but those they state. -/
import Derived.Test.YtbcmiempigoooaaGreatDoorVad
import Derived.Laws.AppendOwn
import Derived.Laws.OwnMore
set_option linter.all false
namespace Go.Eng
open Go.RowKit
def qv:Code->Nat->Code
  | .region i o d,id=>if i=id then .region i o d else .skip
  | .seq a b,id| .cond _ a b,id=>match qv a id with| .skip=>qv b id|c=>c
  | .block _ c,id| .loop c,id| .scope c,id=>qv c id
  | .rangeFunc _ _ a b,id=>match qv a id with| .skip=>qv b id|c=>c
  |_,_=> .skip
@[simp] theorem qxt (ρ:qa) (i j:Nat) (v:AB):qx ρ i v j=if j=i then v else ρ j:=rfl
@[simp] theorem qlv (ρ:qa) (i:Nat) (v:AB):qp ρ (some i) v=qx ρ i v:=rfl
@[simp] theorem qKv (ρ:qa) (v:AB):qp ρ none v=ρ:=rfl
def Ks.blk (Q:Ks) (i:Nat) (K:qa->AA->Prop):Ks:={Q with ex:=fun j=>if j=i then K else Q.ex j}
@[simp] theorem qN4 (Q:Ks) (i:Nat) (K:qa->AA->Prop):(Q.blk i K).rt=Q.rt:=rfl
@[simp] theorem qN6 (Q:Ks) (i:Nat) (K:qa->AA->Prop):(Q.blk i K).pn=Q.pn:=rfl
@[simp] theorem qN9 (Q:Ks) (i:Nat) (K:qa->AA->Prop):(Q.blk i K).df=Q.df:=rfl
@[simp] theorem qN5 (Q:Ks) (i:Nat) (K:qa->AA->Prop):(Q.blk i K).rd=Q.rd:=rfl
@[simp] theorem qLu (Q:Ks):Q.noRd.ex=Q.ex:=rfl
@[simp] theorem qLr (Q:Ks):Q.noRd.rt=Q.rt:=rfl
@[simp] theorem qLs (Q:Ks):Q.noRd.pn=Q.pn:=rfl
@[simp] theorem qLt (Q:Ks):Q.noRd.og=Q.og:=rfl
@[simp] theorem qLv (Q:Ks):Q.noRd.df=Q.df:=rfl
@[simp] theorem qN7 (Q:Ks) (i:Nat) (K:qa->AA->Prop):(Q.blk i K).og=Q.og:=rfl
@[simp] theorem qN8 (Q:Ks) (i j:Nat) (K:qa->AA->Prop) (ρ:qa) (w:AA):(Q.blk i K).ex j ρ w=if j=i then K ρ w else Q.ex j ρ w:=by simp only [Ks.blk];split<;>rfl
def qxq {P:Program} {Q Q':Ks} {dst:Option Nat} {K K':qa->AA->Prop} {ρ:qa} (j:∀ρ w,K ρ w->K' ρ w) (hpn:∀ρ c w,Q.pn ρ c w->Q'.pn ρ c w) (g:Q.og->Q'.og) (i:(Q.df->Q'.df)/\(Q.rd->Q'.rd)) {r:Result Next} (h:QA P Q dst K ρ r):QA P Q' dst K' ρ r:=by
  cases r with
  |ok x w=>
    cases x<;>simp only [QA] at h⊢ <;>first|exact j _ _ h|exact h|exact ⟨i.1 h.1,j _ _ h.2⟩|skip
    · refine h.mono fun e w' b=>?_;cases e with
      |returned v=>exact j _ _ b
      |panicked c=>exact hpn _ _ _ b
      |outgrown=>exact g b
    · refine ⟨i.2 h.1,h.2.mono fun e w' b=>?_⟩;cases e with
      |returned v=>exact j _ _ b
      |panicked c=>exact hpn _ _ _ b
      |outgrown=>exact g b
  |halt x w=>cases x<;>simp only [QA] at h⊢ <;>first|exact hpn _ _ _ h|exact h
def qvN {P:Program} {Q Q':Ks} {dst:Option Nat} {op:Op} {ty:TypeId} {K K':qa->AA->Prop} {ρ:qa} {w:AA} (g:∀ρ w,K ρ w->K' ρ w) (hpn:∀ρ c w,Q.pn ρ c w->Q'.pn ρ c w) (b:Q.og->Q'.og) (e:(Q.df->Q'.df)/\(Q.rd->Q'.rd)) (h:vD P Q dst op ty K ρ w):vD P Q' dst op ty K' ρ w:=
  qxq g hpn b e h
def qmG {K K':AA->Prop} (b:∀w,K w->K' w) (a:Addr):∀(vs:List AB) (i:Nat) (w:AA),kM a vs i K w->kM a vs i K' w
  |[],_,_,h=>b _ h
  |_::vs,i,_,⟨g,e,c,j⟩=>⟨g,e,c,qmG b a vs (i+1) _ j⟩
def qis {e:Type} {c:Option e} {f g:e->Prop} (h:∀a,f a->g a) (b:qT c f):qT c g:=by cases c<;>first|exact b|exact h _ b
def qoW {c:Option AB} {f g:AB->Prop} (h:∀a,f a->g a) (b:xD c f):xD c g:=by cases c<;>first|exact b|exact h _ b
def qAA {x:AB} {f g:Addr->Prop} (h:∀a,f a->g a) (b:y7 x f):y7 x g:=by
  cases x with
  |pointer a=>cases a<;>first|exact h _ b|exact b
  |_=>exact b
def qIm {P:Program} {Q Q':Ks} {dst:Option Nat} {op:Op} {ty:TypeId} {K K':qa->AA->Prop} {ρ:qa} {w:AA} (b:∀ρ w,K ρ w->K' ρ w) (hpn:∀ρ c w,Q.pn ρ c w->Q'.pn ρ c w) (g:Q.og->Q'.og) (i:(Q.df->Q'.df)/\(Q.rd->Q'.rd)) (h:qB P Q dst op ty K ρ w):qB P Q' dst op ty K' ρ w:=by
  unfold qB at h⊢;split at h
  · exact b _ _ h
  · exact qis (fun _ h=>b _ _ h) h
  · exact ⟨h.1,qAA (fun a h=>qmG (fun _ h=>b _ _ h) a _ _ _ h) h.2⟩
  · exact b _ _ h
  · exact qis (fun _ h=>b _ _ h) h
  · exact qis (fun _ h=>⟨h.1,h.2.1,h.2.2.1,b _ _ h.2.2.2⟩) h
  · unfold qgn at h⊢;split at h
    · refine ⟨h.1,h.2.mono fun e w' j=>?_⟩;cases e with
      |returned v=>exact b _ _ j
      |panicked c=>exact hpn _ _ _ j
      |outgrown=>exact g j
    · exact qvN b hpn g i h
  · exact qvN b hpn g i h
def qcN {P:Program} {Q Q':Ks} (hpn:∀ρ c w,Q.pn ρ c w->Q'.pn ρ c w) (b:Q.og->Q'.og) (i:(Q.df->Q'.df)/\(Q.rd->Q'.rd)):∀(l:List St) {K K':qa->AA->Prop} {ρ:qa} {w:AA},(∀ρ w,K ρ w->K' ρ w)->jr P Q l K ρ w->jr P Q' l K' ρ w
  |[],_,_,_,_,k,h=>k _ _ h
  | .asg g d e::r,K,K',ρ,w,k,h=>by
    simp only [jr,St.wp] at h⊢;split
    · rename_i j;rw [j0 j] at h;exact qoW (fun _ h=>qcN hpn b i r k h) h
    · rename_i j;rw [q3 j] at h;exact qcN hpn b i r k h
  | .eff g d op ty::r,K,K',ρ,w,k,h=>by
    simp only [jr,St.wp] at h⊢;split
    · rename_i j;rw [j0 j] at h;exact qIm (fun _ _ h=>qcN hpn b i r k h) hpn b i h
    · rename_i j;rw [q3 j] at h;exact qcN hpn b i r k h
def qdl {P:Program} {w0:AA}:∀(l:List St) {K K':qa->Prop} {ρ:qa},(∀ρ,K ρ->K' ρ)->jj P w0 l K ρ->jj P w0 l K' ρ
  |[],_,_,_,c,h=>c _ h
  | .asg g d e::r,K,K',ρ,c,h=>by
    simp only [jj] at h⊢;split
    · rename_i b;rw [j0 b] at h;exact qoW (fun _ h=>qdl r c h) h
    · rename_i b;rw [q3 b] at h;exact qdl r c h
  | .eff g d op ty::r,K,K',ρ,c,h=>by
    simp only [jj] at h⊢;split
    · rename_i b;rw [j0 b] at h;obtain ⟨v,j,i⟩:=h;exact ⟨v,j,qdl r c i⟩
    · rename_i b;rw [q3 b] at h;exact qdl r c h
def qIE {c:Option AB} {x y x' e:Prop} (i:x->x') (g:y->e) (h:qbA c x y):qbA c x' e:=by
  cases c with
  |none=>exact h
  |some v=>cases v with
    |bool b=>cases b<;>first|exact i h|exact g h
    |_=>exact h
def IR.wp_mono {cx:Cx}:∀{a:IR} {K K':qa->AA->Prop} {Q Q':Ks} {ρ:qa} {w:AA},a.wp cx K Q ρ w->(∀ρ w,K ρ w->K' ρ w)->(∀i ρ w,Q.ex i ρ w->Q'.ex i ρ w)->(∀ρ w,Q.rt ρ w->Q'.rt ρ w)->
    (∀ρ c w,Q.pn ρ c w->Q'.pn ρ c w)->(Q.og->Q'.og)->((Q.df->Q'.df)/\(Q.rd->Q'.rd))->a.wp cx K' Q' ρ w
  | .skip,_,_,_,_,_,_,h,n,_,_,_,_,_=>n _ _ h
  | .reg l,_,_,_,_,_,_,h,n,_,_,hpn,g,m=>qcN hpn g m l n h
  | .drw l,_,_,_,_,_,_,h,n,_,_,_,_,_=>qdl l (fun _ h w' B=>n _ _ (h w' B)) h
  | .seq a b,_,_,_,_,_,_,h,n,k,j,hpn,g,m=>IR.wp_mono (a:=a) h (fun _ _ h=>IR.wp_mono (a:=b) h n k j hpn g m) k j hpn g m
  | .cond c a b,_,_,_,_,_,_,h,n,k,j,hpn,g,m=>qIE (fun h=>IR.wp_mono (a:=a) h n k j hpn g m) (fun h=>IR.wp_mono (a:=b) h n k j hpn g m) h
  | .block id a,K,K',Q,Q',_,_,h,n,k,j,hpn,g,m=>IR.wp_mono (a:=a) h n (fun i ρ w h=>by
      simp only at h⊢;split
      · rename_i e;rw [j0 e] at h;exact n _ _ h
      · rename_i e;rw [q3 e] at h;exact k _ _ _ h) j hpn g m
  | .loop a,_,_,_,_,_,_,⟨I,μ,u,h⟩,_,k,j,hpn,g,m=>⟨I,μ,u,fun t w' x=>IR.wp_mono (a:=a) (h t w' x) (fun _ _ h=>h) k j hpn g m⟩
  | .exit id,_,_,_,_,_,_,h,_,k,_,_,_,_=>k _ _ _ h
  | .ret,_,_,_,_,_,_,h,_,_,j,_,_,_=>j _ _ h
  | .raw c,_,_,_,_,_,_,h,n,k,j,hpn,g,m=>fun a z A v=>Go.wp_mono (h a z A fun y=>v (m.1 y)) fun e a w s=>by
      cases e with
      |normal=>obtain ⟨q,ρ,p,o⟩:=s;exact ⟨q,ρ,p,n _ _ o⟩
      |exit i=>obtain ⟨q,ρ,p,o⟩:=s;exact ⟨q,ρ,p,k _ _ _ o⟩
      |ret=>obtain ⟨q,ρ,p,o⟩:=s;exact ⟨q,ρ,p,j _ _ o⟩
      |panic c=>obtain ⟨q,ρ,p,o⟩:=s;exact ⟨q,ρ,p,hpn _ _ _ o⟩
      |outgrown=>exact g s
      |goto l=>exact s
section
variable {cx:Cx} {K:qa->AA->Prop} {Q:Ks} {ρ:qa} {w:AA}
theorem kr (I:qa->AA->Prop) (μ:qa->AA->Nat) {a:IR} (g:I ρ w) (h:∀c w',I c w'->a.wp cx (fun b e=>I b e/\μ b e<μ c w') Q c w'):(IR.loop a).wp cx K Q ρ w:=⟨I,μ,g,h⟩
@[simp] theorem qlr {a b:IR}:(IR.seq a b).wp cx K Q ρ w=a.wp cx (b.wp cx K Q) Q ρ w:=rfl
@[simp] theorem qxh {l:List St}:(IR.reg l).wp cx K Q ρ w=jr cx.P Q l K ρ w:=rfl
@[simp] theorem qKs {l:List St}:(IR.drw l).wp cx K Q ρ w=jj cx.P w l (fun b=>∀w',qc w w'->K b w') ρ:=rfl
@[simp] theorem qKp:IR.skip.wp cx K Q ρ w=K ρ w:=rfl
@[simp] theorem qKr {i:Nat}:(IR.exit i).wp cx K Q ρ w=Q.ex i ρ w:=rfl
@[simp] theorem qKq:IR.ret.wp cx K Q ρ w=Q.rt ρ w:=rfl
@[simp] theorem qxi {i:Nat} {a:IR}:(IR.block i a).wp cx K Q ρ w=a.wp cx K (Q.blk i K) ρ w:=rfl
@[simp] theorem qKt {c:Ex} {a b:IR}:(IR.cond c a b).wp cx K Q ρ w=qbA (c.ev ρ w) (a.wp cx K Q ρ w) (b.wp cx K Q ρ w):=rfl
end
def qM (rs:List RV) (R:Ending->AA->Prop):Ks:=⟨fun _ _ _=>False,qz rs R,fun _ c w=>R (.panicked c) w,∀w,R .outgrown w,False,True⟩
@[simp] theorem qLy (rs:List RV) (R:Ending->AA->Prop):(qM rs R).rt=qz rs R:=rfl
@[simp] theorem qLA (rs:List RV) (R:Ending->AA->Prop) (ρ:qa) (c:List PanicEntry) (w:AA):(qM rs R).pn ρ c w=R (.panicked c) w:=rfl
@[simp] theorem qLB (rs:List RV) (R:Ending->AA->Prop):(qM rs R).og=∀w,R .outgrown w:=rfl
@[simp] theorem qLC (rs:List RV) (R:Ending->AA->Prop) (i:Nat) (ρ:qa) (w:AA):(qM rs R).ex i ρ w=False:=rfl
@[simp] theorem qLD (P:Program) (rs:List RV) (R:Ending->AA->Prop):(zJ P rs R).rt=vl P rs R .returning:=rfl
@[simp] theorem qLF (P:Program) (rs:List RV) (R:Ending->AA->Prop) (ρ:qa) (c:List PanicEntry) (w:AA):(zJ P rs R).pn ρ c w=vl P rs R (.panicking c) ρ w:=rfl
@[simp] theorem qLG (P:Program) (rs:List RV) (R:Ending->AA->Prop):(zJ P rs R).og=∀w,R .outgrown w:=rfl
@[simp] theorem qLI (P:Program) (rs:List RV) (R:Ending->AA->Prop):(zJ P rs R).df=True:=rfl
@[simp] theorem qLE (P:Program) (rs:List RV) (R:Ending->AA->Prop):(zJ P rs R).rd=True:=rfl
@[simp] theorem qLz (rs:List RV) (R:Ending->AA->Prop):(qM rs R).rd=True:=rfl
@[simp] theorem qLH (P:Program) (rs:List RV) (R:Ending->AA->Prop) (i:Nat) (ρ:qa) (w:AA):(zJ P rs R).ex i ρ w=False:=rfl
@[simp] theorem qKE (t:Nat) (R:Ending->AA->Prop) (ρ:qa) (w:AA):qz [.tmp t] R ρ w=R (.returned (ρ t)) w:=rfl
@[simp] theorem qKD (t u:Nat) (R:Ending->AA->Prop) (ρ:qa) (w:AA):qz [.tmp t,.tmp u] R ρ w=R (.returned (.tuple #[ρ t,ρ u])) w:=rfl
@[simp] theorem qKC (t u s:Nat) (R:Ending->AA->Prop) (ρ:qa) (w:AA):qz [.tmp t,.tmp u,.tmp s] R ρ w=R (.returned (.tuple #[ρ t,ρ u,ρ s])) w:=rfl
@[simp] theorem qKF (R:Ending->AA->Prop) (ρ:qa) (w:AA):qz [] R ρ w=R (.returned (.tuple #[])) w:=rfl
@[simp] theorem qLc (b:Bool) (x y:Option AB):qb7 (.bool b) x y=if b then x else y:=by cases b<;>rfl
@[simp] theorem qLR (b c:Bool):(if b then some (Value.bool true) else some (Value.bool c))=some (.bool (b||c)):=by cases b<;>rfl
@[simp] theorem qLS (b c:Bool):(if b then some (Value.bool c) else some (Value.bool false))=some (.bool (b&&c)):=by cases b<;>rfl
@[simp] theorem qLP (p:Prop) [Decidable p] (c:Bool):(if p then some (Value.bool true) else some (Value.bool c))=some (.bool (decide p||c)):=by split<;>simp_all
@[simp] theorem qLQ (p:Prop) [Decidable p] (c:Bool):(if p then some (Value.bool c) else some (Value.bool false))=some (.bool (decide p&&c)):=by split<;>simp_all
@[simp] theorem qL3 (b:Bool) (x y:Prop):qbA (some (.bool b)) x y=if b then x else y:=by cases b<;>rfl
@[simp] theorem qLk (v:AB) (f:AB->Prop):xD (some v) f=f v:=rfl
@[simp] theorem qLl {b:Type} (v:b) (f:b->Prop):qT (some v) f=f v:=rfl
@[simp] theorem qLb (a:Addr) (f:Addr->Prop):y7 (.pointer (some a)) f=f a:=rfl
@[simp] theorem qcC (Q:Ks) (dst:Option Nat) (K:qa->AA->Prop) (ρ:qa) (v:AB) (w:AA):vL Q dst K ρ (.returned v) w=K (qp ρ dst v) w:=rfl
@[simp] theorem qkX (Q:Ks) (dst:Option Nat) (K:qa->AA->Prop) (ρ:qa) (c:List PanicEntry) (w:AA):vL Q dst K ρ (.panicked c) w=Q.pn ρ c w:=rfl
@[simp] theorem qN3 (Q:Ks) (dst:Option Nat) (K:qa->AA->Prop) (ρ:qa) (w:AA):vL Q dst K ρ .outgrown w=Q.og:=rfl
section
variable {P:Program} {K:qa->AA->Prop} {Q:Ks} {ρ:qa} {w w0:AA}
@[simp] theorem qKo:jr P Q [] K ρ w=K ρ w:=rfl
@[simp] theorem qxg {g:Option (Nat×Bool)} {d:Nat} {e:Ex} {r:List St}:jr P Q (.asg g d e::r) K ρ w=if gd ρ g then xD (e.ev ρ w) (fun v=>jr P Q r K (qx ρ d v) w) else jr P Q r K (qx ρ d undef) w:=rfl
@[simp] theorem qxf {g:Option (Nat×Bool)} {d:Option Nat} {op:Op} {ty:TypeId} {r:List St}:jr P Q (.eff g d op ty::r) K ρ w=if gd ρ g then qB P Q d op ty (jr P Q r K) ρ w else jr P Q r K (qp ρ d undef) w:=rfl
end
attribute [simp] jj gd Ex.ev qcn qaq qeC qgn qdm
@[simp] theorem qLU (ρ:qa) (t:Nat):qd ρ (.tmp t)=ρ t:=rfl
@[simp] theorem qLX (ρ:qa) (v:AB):qd ρ (.const v)=v:=rfl
@[simp] theorem qLV (ρ:qa) (g:Nat):qd ρ (.global g)=.pointer (some ⟨g,0,none⟩):=rfl
@[simp] theorem qLW (ρ:qa) (f:FuncId):qd ρ (.func f)=.func (.func f) #[] #[]:=rfl
section
variable {P:Program} {Q:Ks} {d:Option Nat} {ty:TypeId} {K:qa->AA->Prop} {ρ:qa} {w:AA}
@[simp] theorem qLZ (fn:Fn) (fs cs:Array Operand):qB P Q d (.makeFunc fn fs cs) ty K ρ w=K (qp ρ d (.func fn (fs.map (qd ρ)) (cs.map (qd ρ)))) w:=rfl
@[simp] theorem qvL (t:TypeId) (ps:Array (Nat×Operand)):qB P Q d (.build t ps) ty K ρ w=qT (P.built t (ps.map fun p=>(p.1,qd ρ p.2)).toList) fun cells=>K (qp ρ d (.agg cells)) w:=rfl
@[simp] theorem qL0 (f:FuncId) (args:Array Operand) (b:Array TypeId):qB P Q d (.call {callee:=.value (.func f),args:=args,argTypes:=b}) ty K ρ w=(qk P f=true/\Calls P f (args.map (qd ρ)) w (vL Q d K ρ)):=rfl
end
@[simp] theorem qKT (w:AA) (op:BinOp) (k e c:IntKind) (a b:Int):vf w (.ibin op k) (.int e a) (.int c b)=if e=c then qcn op e a b else none:=rfl
@[simp] theorem qKQ (w:AA) (op:BinOp) (x y:ByteArray):vf w (.sbin op) (.string x) (.string y)=qaq op x y:=rfl
@[simp] theorem qKV (w:AA) (a b:Bool):vf w (.bbin .eql) (.bool a) (.bool b)=some (.bool (a==b)):=rfl
@[simp] theorem qKU (w:AA) (a b:Bool):vf w (.bbin .neq) (.bool a) (.bool b)=some (.bool (!(a==b))):=rfl
@[simp] theorem qKP (w:AA) (op:BinOp) (k c:IntKind) (a b:Int):vf w (.shf op) (.int k a) (.int c b)=qeC op k a b:=rfl
@[simp] theorem qKS (w:AA) (sz:Nat) (v:AB) (k:IntKind) (i:Int):vf w (.ixa sz) v (.int k i)=if qA v/\0<=i/\i<qm v then some (.pointer (some (qN v (i.toNat*sz)))) else none:=by cases v<;>rfl
@[simp] theorem qKR (w:AA) (s:ByteArray) (k:IntKind) (i:Int):vf w .ixs (.string s) (.int k i)=if 0<=i then (s[i.toNat]?).map fun b=> .int .u8 b.toNat else none:=rfl
@[simp] theorem qKO (w:AA) (sz:Nat) (v:AB) (k:IntKind) (l:Int):vf w (.slLo sz) v (.int k l)=if qA v/\0<=l/\l<=qm v then some (q8 v sz l.toNat (qm v) (qI v)) else none:=by cases v<;>rfl
@[simp] theorem qKN (w:AA) (s:ByteArray) (k:IntKind) (l:Int):vf w .stLo (.string s) (.int k l)=if 0<=l/\l<=s.size then some (.string (s.extract l.toNat s.size)) else none:=rfl
@[simp] theorem qKM (w:AA) (sz:Nat) (v:AB) (k b:IntKind) (l h:Int):yz w (.slLoHi sz) v (.int k l) (.int b h)=if qA v/\0<=l/\l<=h/\h<=qI v then some (q8 v sz l.toNat h.toNat (qI v)) else none:=by cases v<;>rfl
@[simp] theorem qKL (w:AA) (s:ByteArray) (k b:IntKind) (l h:Int):yz w .stLoHi (.string s) (.int k l) (.int b h)=if 0<=l/\l<=h/\h<=s.size then some (.string (s.extract l.toNat h.toNat)) else none:=rfl
@[simp] theorem qKK (w:AA) (sz:Nat) (v:AB) (k c b:IntKind) (l h m:Int):pv4 w (.slMax sz) v (.int k l) (.int c h) (.int b m)=if qA v/\0<=l/\l<=h/\h<=m/\m<=qI v then some (q8 v sz l.toNat h.toNat m.toNat) else none:=by cases v<;>rfl
@[simp] theorem qKX (w:AA) (v:AB):q9 w .same v=some v:=rfl
@[simp] theorem qAx (w:AA) (a:Addr):q9 w .load1 (.pointer (some a))=w.cell? a:=rfl
@[simp] theorem qdr (w:AA) (n:Nat) (a:Addr):q9 w (.loadN n) (.pointer (some a))=(q4 w a 0 n).map fun l=> .agg l.toArray:=rfl
@[simp] theorem qK7 (w:AA) (n:Nat) (a:Addr):q9 w (.fadr n) (.pointer (some a))=some (.pointer (some (a.add n))):=rfl
@[simp] theorem qK6 (w:AA) (n:Nat) (cs:Array AB):q9 w (.fld n) (.agg cs)=cs[n]? :=rfl
@[simp] theorem qK5 (w:AA) (o n:Nat) (cs:Array AB):q9 w (.fldN o n) (.agg cs)=some (.agg (cs.extract o (o+n))):=rfl
@[simp] theorem qK4 (w:AA) (v:AB):q9 w .lenS v=if qA v then some (.int .i64 (qm v)) else none:=rfl
@[simp] theorem qLa (w:AA) (v:AB):q9 w .capS v=if qA v then some (.int .i64 (qI v)) else none:=rfl
@[simp] theorem qK3 (w:AA) (s:ByteArray):q9 w .lenT (.string s)=some (.int .i64 s.size):=rfl
@[simp] theorem qKY (w:AA) (b:Bool):q9 w .not (.bool b)=some (.bool !b):=rfl
@[simp] theorem qK1 (w:AA) (k:IntKind) (n:Int):q9 w .neg (.int k n)=some (.int k (k.wrap (0 - n))):=rfl
@[simp] theorem qK9 (w:AA) (k b:IntKind) (n:Int):q9 w (.conv k) (.int b n)=some (.int k (k.wrap n)):=rfl
@[simp] theorem qK8 (w:AA) (i:Nat) (vs:Array AB):q9 w (.ext i) (.tuple vs)=vs[i]? :=rfl
@[simp] theorem qK2 (w:AA) (t:TypeId) (v:AB):q9 w (.mkif t) v=some (.iface t v):=rfl
@[simp] theorem qKZ (w:AA) (t:TypeId) (v:AB):q9 w .nilc (.iface t v)=some (.iface t v):=rfl
@[simp] theorem qK0 (w:AA) (a:Addr):q9 w .nilc (.pointer (some a))=some (.pointer (some a)):=rfl
@[simp] theorem qKW (w:AA) (s:ByteArray):q9 w .strid (.string s)=some (.string s):=rfl
def q7 {n:Int} (h: -9223372036854775808<=n/\n<=9223372036854775807):IntKind.i64.wrap n=n:=by
  unfold IntKind.wrap;simp only [IntKind.bits,IntKind.signed,Bool.true_and];by_cases b:n%2^64>=(2^(64 - 1):Int)
  · rw [j0 (by simpa using b)];omega
  · rw [q3 (by simpa using b)];omega
def u8w {n:Int} (h:0<=n/\n<256):IntKind.u8.wrap n=n:=by
  unfold IntKind.wrap;simp only [IntKind.bits,IntKind.signed,Bool.false_and,uk,ud];omega
@[simp] theorem qLO (k:IntKind) (n:Int):RowKit.intOf (.int k n)=n:=rfl
end Go.Eng
namespace Go.Eng
open Go.RowKit
@[simp] theorem qba (v:AB) (j n:Nat):(qN v j).add n=qN v (j+n):=by
  unfold qN Addr.add;split<;>split<;>simp_all [uB]
@[simp] theorem zD (b o n:Nat):(⟨b,o,none⟩:Addr).add n=⟨b,o+n,none⟩:=by
  unfold Addr.add;split<;>simp_all
structure Sl {α:Type} (enc:α->AB) (w:AA) (v:AB) (xs:List α):Prop where
  is:qA v=true
  len:qm v=xs.length
  bd:xs.length<4611686018427387904
  cell:∀(i:Nat) (h:i<xs.length),w.cell? (qN v i)=some (enc xs[i])
def Sl.ext {b:Type} {enc:b->AB} {w w':AA} {v:AB} {xs:List b} (h:Sl enc w v xs) (e:qc w w'):Sl enc w' v xs:=
  ⟨h.is,h.len,h.bd,fun i c=>e.cell (h.cell i c)⟩
def Sl.nil {b:Type} (enc:b->AB) (w:AA):Sl enc w (.slice none 0 0) ([]:List b):=⟨rfl,rfl,by simp,fun i h=>by simp at h⟩
def jE (b:UInt8):AB:=.int .u8 b.toNat
def encI (n:Int):AB:=.int .i64 n
def yK (w:AA) (o:Obj):qc w (w.alloc o):=(Below.refl _ _).alloc (kh _) o
def qc.trans' {a b c:AA} (h:qc a b) (k:qc b c):qc a c:=Below.trans h (k.mono h.size)
def qH5 {a b c:AA} (h:qc a b) (k:Below a.heap.size b c):qc a c:=Below.trans h k
@[simp] theorem qL4 (w:AA) (o:Obj) (b i:Nat) (h:b<w.heap.size):(w.alloc o).cell? ⟨b,i,none⟩=w.cell? ⟨b,i,none⟩:=World.cell?_alloc_lt w o _ h
@[simp] theorem qL5 (w:AA) (c:Array AB) (t:TypeId) (b i:Nat) (h:b=w.heap.size):(w.alloc (.cells c t)).cell? ⟨b,i,none⟩=c[i]? :=by subst h;exact World.cell?_alloc_new w c t i
structure Blk (W:AA) (B:Nat) (cs:Array AB) (t:TypeId):Prop where
  heap:W.heap[B]? =some (.cells cs t (0,0))
def Blk.lt {W:AA} {B:Nat} {cs:Array AB} {t:TypeId} (h:Blk W B cs t):B<W.heap.size:=(ul.1 h.heap).1
def Blk.cell {W:AA} {B:Nat} {cs:Array AB} {t:TypeId} (h:Blk W B cs t) (i:Nat):W.cell? ⟨B,i,none⟩=cs[i]? :=by simp [World.cell?,h.heap]
def Blk.free {W:AA} {B:Nat} {cs:Array AB} {t:TypeId} (h:Blk W B cs t) (i:Nat):W.frozen? ⟨B,i,none⟩=false:=by simp [World.frozen?,h.heap]
def Blk.ext {W W':AA} {B:Nat} {cs:Array AB} {t:TypeId} (h:Blk W B cs t) (b:qc W W'):Blk W' B cs t:=⟨(b.block B h.lt).trans h.heap⟩
structure Only (B:Nat) (W W':AA):Prop where
  os:W'.os=W.os
  tape:W'.tape=W.tape
  output:W'.output=W.output
  size:W'.heap.size=W.heap.size
  block:∀k,k≠B->W'.heap[k]? =W.heap[k]?
def Only.ext {B:Nat} {w W W':AA} (h:Only B W W') (b:qc w W) (e:w.heap.size<=B):qc w W':=
  ⟨h.os.trans b.os,h.tape.trans b.tape,h.output.trans b.output,by rw [h.size];exact b.size,fun k c=>(h.block k (by omega)).trans (b.block k c)⟩
def Only.blk {B B':Nat} {W W':AA} {cs:Array AB} {t:TypeId} (h:Only B W W') (c:Blk W B' cs t) (b:B'≠B):Blk W' B' cs t:=⟨(h.block B' b).trans c.heap⟩
theorem Only.refl (B:Nat) (W:AA):Only B W W:=⟨rfl,rfl,rfl,rfl,fun _ _=>rfl⟩
def Only.trans {B:Nat} {a b c:AA} (h:Only B a b) (k:Only B b c):Only B a c:=
  ⟨k.os.trans h.os,k.tape.trans h.tape,k.output.trans h.output,k.size.trans h.size,fun i e=>(k.block i e).trans (h.block i e)⟩
def qe4 (W:AA) (B i:Nat) (v:AB):Only B W (W.setCell ⟨B,i,none⟩ v):=
  ⟨rfl,rfl,rfl,by simp,fun k b=>Below.heap_setCell _ _ _ _ b⟩
def qgt {W:AA} {B:Nat} {cs:Array AB} {t:TypeId} (h:Blk W B cs t) (i:Nat) (v:AB):Blk (W.setCell ⟨B,i,none⟩ v) B (cs.setIfInBounds i v) t:=by
  have b:=h.heap;exact ⟨by simp [World.setCell,JD,b]⟩
def qcE (w:AA) (cs:Array AB) (t:TypeId):Blk (w.alloc (.cells cs t)) w.heap.size cs t:=⟨heap_alloc_new w _⟩
section
variable {P:Program} {Q:Ks} {d:Option Nat} {ty:TypeId} {K:qa->AA->Prop} {ρ:qa} {w:AA}
theorem vC {t:TypeId} {x:Operand} (h:∀(B:Nat) (W:AA),w.heap.size<=B->qc w W->Blk W B (qd ρ x).cells t->W.heap.size=B+1->K (qp ρ d (.pointer (some ⟨B,0,none⟩))) W):qB P Q d (.box t x) ty K ρ w:=
  h w.heap.size _ (kh _) (yK w _) (qcE w _ _) (by simp)
theorem qQ {t:TypeId} {z:Array AB} (b:jU P t=some z) (h:∀(B:Nat) (W:AA),w.heap.size<=B->qc w W->Blk W B z t->W.heap.size=B+1->K (qp ρ d (.pointer (some ⟨B,0,none⟩))) W):qB P Q d (.alloc t) ty K ρ w:=by
  show qT (jU P t) _;rw [b];exact h w.heap.size _ (kh _) (yK w _) (qcE w _ _) (by simp)
theorem qD {t:TypeId} {p x:Operand} {B i:Nat} {cs:Array AB} {T:TypeId} (e:qd ρ p=.pointer (some ⟨B,i,none⟩)) (b:Blk w B cs T) (c:i<cs.size) (j:(qd ρ x).cells=#[qd ρ x]) (g:(qd ρ x).oneCell=true)
    (k:jh P t 1=true) (h:∀W,Only B w W->Blk W B (cs.set i (qd ρ x)) T->K (qp ρ d undef) W):qB P Q d (.store t p x) ty K ρ w:=by
  show jh P t (qd ρ x).cells.size=true/\y7 (qd ρ p) _;rw [e,j];refine ⟨k, ?_⟩;show kM _ [qd ρ x] 0 _ w;refine ⟨⟨cs[i], ?_⟩, ?_,g, ?_⟩
  · rw [zD,Nat.add_zero,b.cell];simp [c]
  · rw [zD,Nat.add_zero,b.free]
  · rw [zD,Nat.add_zero];refine h _ (qe4 w B i _) ?_;have:=qgt b i (qd ρ x);rw [Array.setIfInBounds,dif_pos c] at this;exact this
theorem qbW {B : Nat} {T : TypeId} {K : AA -> Prop} : ∀ (vs : List AB) (i : Nat) (w : AA) (cs : Array AB), Blk w B cs T -> i + vs.length <= cs.size -> (∀ v ∈ vs, v.oneCell = true) ->
    (∀W,Only B w W->Blk W B (cs.toList.take i++vs++cs.toList.drop (i+vs.length)).toArray T->K W)->kM ⟨B,0,none⟩ vs i K w
  |[],i,w,cs,b,_,_,h=>h w (Only.refl _ _) (by simpa using b)
  | v :: vs, i, w, cs, b, j, g, h => by
    simp only [List.length_cons] at j;have c:i<cs.size:=by omega
    refine ⟨⟨cs[i], ?_⟩, ?_,g v (by simp), ?_⟩
    · rw [zD,ur,b.cell];simp [c]
    · rw [zD,ur,b.free]
    · rw [zD,ur];refine qbW vs (i+1) _ (cs.setIfInBounds i v) (qgt b i v) (by simp;omega) (fun u l=>g u (by simp [l])) fun W m k=>?_;refine h W ((qe4 w B i v).trans m) ?_;have e:(cs.setIfInBounds i v).toList.take (i+1)++vs++(cs.setIfInBounds i v).toList.drop (i+1+vs.length)=cs.toList.take i++v::vs++cs.toList.drop (i+(vs.length+1)):=by
        simp only [Array.toList_setIfInBounds];rw [uO (by simpa using c),List.take_set_of_le (kh i),List.drop_set_of_lt (by omega)];simp [show i+1+vs.length=i+(vs.length+1) by omega]
      simp only [List.length_cons];rw [<-e];exact k
theorem vR {t:TypeId} {e:Nat} {x:Operand} {g:TypeId} {r:List St} {z:Array AB} (u:jU P t=some z) (k:∀v,qd (qx ρ e v) x=qd ρ x) (b:(qd ρ x).cells.size=z.size) (s:∀v∈(qd ρ x).cells.toList,v.oneCell=true)
    (q:jh P t z.size=true) (h:∀(B:Nat) (W:AA),w.heap.size<=B->qc w W->Blk W B (qd ρ x).cells t->W.heap.size=B+1->jr P Q r K (qx ρ e (.pointer (some ⟨B,0,none⟩))) W):
    qB P Q (some e) (.alloc t) ty (jr P Q (.eff none none (.store t (.tmp e) x) g::r) K) ρ w:=by
  refine qQ u fun B W i o m p=>?_;simp only [qlv,qxf,gd,wh];show jh P t (qd (qx ρ e _) x).cells.size=true/\y7 (qd (qx ρ e _) (.tmp e)) _;rw [k,b];refine ⟨q, ?_⟩;have n:qd (qx ρ e (.pointer (some ⟨B,0,none⟩))) (.tmp e)=.pointer (some ⟨B,0,none⟩):=by simp
  rw [n];show kM ⟨B,0,none⟩ _ 0 _ W;refine qbW _ 0 W z m (by rw [Array.length_toList,b];omega) s fun W' j c=>?_;refine h B W' i (j.ext o i) ?_ (by rw [j.size];exact p);have:(z.toList.take 0++(qd ρ x).cells.toList++z.toList.drop (0+(qd ρ x).cells.toList.length)).toArray=(qd ρ x).cells:=by
    have l:List.drop (0+(qd ρ x).cells.toList.length) z.toList=[]:=Jr (by rw [Array.length_toList,Array.length_toList,b];omega);rw [l];simp
  rw [this] at c;exact c
theorem jC {t:TypeId} {n:Nat} {ps:Array (Nat×Operand)} {es:TypeId×Nat} (e:xB P t=some es) (b:n*es.2<=1000) (g:ps.toList.map (·.1)=List.range n) (c:∀p∈ps.toList,(qd ρ p.2).cells.size=es.2)
    (h:∀(B:Nat) (W:AA),w.heap.size<=B->qc w W->Blk W B (ps.toList.flatMap fun p=>(qd ρ p.2).cells.toList).toArray es.1->W.heap.size=B+1->K (qp ρ d (.slice (some ⟨B,0,none⟩) n n)) W):qB P Q d (.buildSlice t n ps) ty K ρ w:=by
  show qT (xB P t) _;rw [e];exact ⟨b,g,c,h w.heap.size _ (kh _) (yK w _) (qcE w _ _) (by simp)⟩
end
@[simp] theorem qKz (w:AA) (a:Addr):Eng.q4 w a 0 2=(w.cell? (a.add 0)).bind fun x=>(w.cell? (a.add 1)).bind fun y=>some [x,y]:=by
  simp only [Eng.q4];cases w.cell? (a.add 0)<;>cases w.cell? (a.add 1)<;>simp
@[simp] theorem qKy (w:AA) (a:Addr):Eng.q4 w a 0 3=(w.cell? (a.add 0)).bind fun x=>(w.cell? (a.add 1)).bind fun y=>(w.cell? (a.add 2)).bind fun z=>some [x,y,z]:=by
  simp only [Eng.q4];cases w.cell? (a.add 0)<;>cases w.cell? (a.add 1)<;>cases w.cell? (a.add 2)<;>simp
def qbq {v:AB} (h:qA v=true) (sz l r m:Nat) (t:l<=r) (q:r<=m) (k:m<=qI v):qA (q8 v sz l r m)=true:=by
  rcases xF h with ⟨b,o,n,c,rfl,p⟩|rfl|⟨b,o,s,rfl⟩
  rotate_left 2
  · simp only [qI] at k;have j:m=0:=by omega
    have i:l=0:=by omega
    have g:r=0:=by omega
    subst j;subst i;subst g;rfl
  · simp only [q8];split
    · rename_i e;subst e;simp only [qA];simp;omega
    · simp only [Option.map_some,qA,zD];simp;omega
  · simp only [qI] at k;have j:m=0:=by omega
    have i:l=0:=by omega
    have g:r=0:=by omega
    subst j;subst i;subst g;rfl
@[simp] theorem qht {v:AB} (sz l r m:Nat) (h:qA v=true):qm (q8 v sz l r m)=r - l:=by
  rcases xF h with ⟨b,o,n,c,rfl,e⟩|rfl|⟨b,o,s,rfl⟩<;>simp [q8,qm]
@[simp] theorem qKx {v:AB} (sz l r m:Nat) (h:qA v=true):qI (q8 v sz l r m)=m - l:=by
  rcases xF h with ⟨b,o,n,c,rfl,e⟩|rfl|⟨b,o,s,rfl⟩<;>simp [q8,qI]
def qhu {v:AB} (sz l r m j:Nat) (h:qA v=true) (i:l<m) (e:qI v≠0):qN (q8 v sz l r m) j=qN v (l*sz+j):=by
  rcases xF h with ⟨b,o,n,c,rfl,g⟩|rfl|⟨b,o,s,rfl⟩
  rotate_left 2
  · simp [qI] at e
  · simp only [q8];rw [q3 (by omega)];simp [qN,uB]
  · simp [qI] at e
def qdL {v:AB} (h:qA v=true):qm v<=qI v:=by
  rcases xF h with ⟨b,o,n,c,rfl,e⟩|rfl|⟨b,o,s,rfl⟩<;>simp [qm,qI];exact e
def Sl.sub {b:Type} {enc:b->AB} {w:AA} {v:AB} {xs:List b} (h:Sl enc w v xs) {l r m:Nat} (g:l<=r) (n:r<=xs.length) (e:r<=m) (k:m<=qI v):
    Sl enc w (q8 v 1 l r m) ((xs.take r).drop l):=by
  have c:((xs.take r).drop l).length=r - l:=by simp;omega
  refine ⟨qbq h.is 1 l r m g e k,by rw [qht _ _ _ _ h.is,c],by have:=h.bd;omega,fun i j=>?_⟩;rw [c] at j;rw [qhu 1 l r m i h.is (by omega) (by omega),uW,h.cell (l+i) (by omega)];simp
section
variable {cx:Cx} {K:qa->AA->Prop} {Q:Ks} {ρ:qa} {w:AA} {a:IR}
theorem zH (s n:Nat) (I:Nat->qa->AA->Prop) (l:ρ s=.int .i64 0) (o:I 0 ρ w)
    (h:∀(k:Nat) (c:qa) (w':AA),k<=n->c s=.int .i64 k->I k c w'->a.wp cx (fun b g=>k<n/\b s=.int .i64 ((k:Int)+1)/\I (k+1) b g) Q c w'):(IR.loop a).wp cx K Q ρ w:=by
  refine kr (fun c w'=>∃k:Nat,k<=n/\c s=.int .i64 k/\I k c w') (fun c _=>n - (RowKit.intOf (c s)).toNat) ⟨0,uf _,l,o⟩ ?_;rintro c w' ⟨k,t,m,q⟩;have:=h k c w' t m q;have e:(fun b g=>k<n/\b s=.int .i64 ((k:Int)+1)/\I (k+1) b g)=fun b g=>(k<n/\b s=.int .i64 ((k:Int)+1)/\I (k+1) b g):=rfl;refine IR.wp_mono this ?_ (fun _ _ _ h=>h) (fun _ _ h=>h) (fun _ _ _ h=>h) (fun h=>h) ⟨fun h=>h,fun h=>h⟩;rintro b g ⟨p,i,j⟩;exact ⟨⟨k+1,by omega,by rw [i];simp,j⟩,by rw [i,m];simp;omega⟩
end
@[simp] theorem qLN (a b:Nat):((a:Int)=(b:Int))↔a=b:=Int.ofNat_inj
@[simp] theorem qLM (n:Nat):((n:Int)<0)↔False:=⟨fun h=>by omega,fun h=>h.elim⟩
@[simp] theorem qLK (p n:Nat):((p:Int)+1<(n:Int))↔p+1<n:=by omega
@[simp] theorem qLL (p n:Nat):((p:Int)+1<=(n:Int))↔p+1<=n:=by omega
@[simp] theorem qLJ (p:Nat):(0<=(p:Int)+1)↔True:=⟨fun _=>trivial,fun _=>by omega⟩
def qb (bs:List UInt8):ByteArray:=⟨bs.toArray⟩
@[simp] theorem qLx (b:List UInt8):(qb b).data.toList=b:=rfl
def vv {a b:List UInt8}:qb a=qb b↔a=b:=⟨fun h=>by have:=congrArg (fun x=>x.data.toList) h;simpa using this,fun h=>by rw [h]⟩
@[simp] theorem qCH (b:List UInt8):(qb b).size=b.length:=rfl
def wE {w:AA} {a:Addr}:∀{l:List AB} {i:Nat},(∀j (h:j<l.length),w.cell? (a.add (i+j))=some l[j])->q4 w a i l.length=some l
  |[],_,_=>rfl
  | v :: l, i, h => by
    have b:=h 0 (by simp);have c:=wE (w:=w) (a:=a) (l:=l) (i:=i+1) fun j e=>by
      have:=h (j+1) (by simpa using e);simpa [uB,Nat.add_comm 1 j] using this
    simp only [List.length_cons,q4];simp only [Nat.add_zero,List.getElem_cons_zero] at b;simp [b,c]
def Sl.congr {b:Type} {enc:b->AB} {w:AA} {v:AB} {xs ys:List b} (h:Sl enc w v xs) (e:xs=ys):Sl enc w v ys:=e▸h
end Go.Eng
namespace Go.Eng
open Go.RowKit
def xM (P:Program) (t:TypeId):Option (TypeId×Nat×Nat):=
  match P.underlying t with
  |some (.slice e)=>(P.info? e).bind fun i=>i.zero.bind fun z=>if z.cells.size=i.size/\0<i.size then some (e,i.size,i.bytes) else none
  |_=>none
def Own (base:Nat) (e sz:Nat) (w:AA) (v:AB) (xs:List AB):Prop:=
  (v=.slice none 0 0/\xs=[])\/
  ∃g off n cap cur,v=.slice (some ⟨g,off,none⟩) n cap/\base<=g/\w.heap[g]? =some (.cells cur e (0,0))/\xs.length=n*sz/\n<=cap/\cap<=maxLen/\off+cap*sz<=cur.size/\(cur.toList.drop off).take (n*sz)=xs
def Own.nil (base e sz:Nat) (w:AA):Own base e sz w (.slice none 0 0) []:=.inl ⟨rfl,rfl⟩
def Own.blk {base e sz:Nat} {w:AA} {v:AB} {xs:List AB} (h:Own base e sz w v xs):∀k,v.ownBlock=some k->base<=k/\k<w.heap.size:=by
  intro k b;rcases h with ⟨rfl,_⟩|⟨g,off,n,cap,cur,rfl,c,i,_⟩
  · simp [Value.ownBlock] at b
  · simp [Value.ownBlock] at b;subst b;exact ⟨c,(ul.1 i).1⟩
def Own.ext {base e sz:Nat} {w w':AA} {v:AB} {xs:List AB} (h:Own base e sz w v xs) (i:qc w w'):Own base e sz w' v xs:=by
  rcases h with h|⟨g,off,n,cap,cur,rfl,c,b,r⟩
  · exact .inl h
  · exact .inr ⟨g,off,n,cap,cur,rfl,c,(i.block g (ul.1 b).1).trans b,r⟩
def Own.kept {base e sz:Nat} {w w':AA} {v:AB} {xs:List AB} {row:Option Nat} (h:Own base e sz w v xs) (b:w.grownBy w' row) (c:v.ownBlock=none\/v.ownBlock≠row):Own base e sz w' v xs:=by
  rcases h with h|⟨g,off,n,cap,cur,rfl,j,i,r⟩
  · exact .inl h
  · refine .inr ⟨g,off,n,cap,cur,rfl,j, ?_,r⟩;rw [b.block g (ul.1 i).1 (by simpa [Value.ownBlock] using c)];exact i
def Own.only {base e sz:Nat} {w w':AA} {v:AB} {xs:List AB} {B:Nat} (h:Own base e sz w v xs) (i:Only B w w') (j:B<base):Own base e sz w' v xs:=by
  rcases h with h|⟨g,off,n,cap,cur,rfl,c,b,r⟩
  · exact .inl h
  · exact .inr ⟨g,off,n,cap,cur,rfl,c,(i.block g (by omega)).trans b,r⟩
def Own.lit {base e sz:Nat} {W:AA} {B n:Nat} {cs:List AB} (h:Blk W B cs.toArray e) (b:cs.length=n*sz) (c:base<=B) (g:n<=maxLen):Own base e sz W (.slice (some ⟨B,0,none⟩) n n) cs:=
  .inr ⟨B,0,n,n,cs.toArray,rfl,c,h.heap,b,kh _,g,by simpa using Nat.le_of_eq b.symm,by simp [<-b]⟩
def Own.sl {k:Type} {enc:k->AB} {base e:Nat} {w:AA} {v:AB} {xs:List k} (h:Own base e 1 w v (xs.map enc)) (b:xs.length<4611686018427387904):Sl enc w v xs:=by
  rcases h with ⟨rfl,j⟩|⟨g,off,n,cap,cur,rfl,t,o,p,q,_,u,m⟩
  · have:xs=[]:=by simpa using j
    subst this;exact Sl.nil enc w
  · have c:n=xs.length:=by simpa using p.symm
    refine ⟨by simp [qA,q],by simp [qm,c],b,fun i s=>?_⟩;have l:((cur.toList.drop off).take (n*1))[i]? =(xs.map enc)[i]? :=by rw [m]
    rw [Jv,j0 (by omega),u0] at l;simp only [qN,World.cell?,o];simpa [s] using l
def Own.drop {base e:Nat} {w:AA} {v:AB} {xs:List AB} (h:Own base e 1 w v xs) (l:Nat) (m:l<=xs.length):Own base e 1 w (q8 v 1 l (qm v) (qI v)) (xs.drop l):=by
  rcases h with ⟨rfl,rfl⟩|⟨g,off,n,cap,cur,rfl,i,c,j,o,s,p,k⟩
  · have:l=0:=by simpa using m
    subst this;exact .inl ⟨by simp [q8,qm,qI],rfl⟩
  · have q:n=xs.length:=by omega
    have es:q8 (.slice (some ⟨g,off,none⟩) n cap) 1 l (qm (.slice (some ⟨g,off,none⟩) n cap)) (qI (.slice (some ⟨g,off,none⟩) n cap))=.slice (some ⟨g,if cap=l then off else off+l,none⟩) (n - l) (cap - l):=by
      simp [q8,qm,qI];split<;>simp
    rw [es];by_cases b:cap=l
    · have:xs.drop l=[]:=Jr (by omega);rw [this,j0 b];exact .inr ⟨g,off,n - l,cap - l,cur,rfl,i,c,by simp;omega,by omega,by omega,by omega,by rw [show (n - l)*1=0 by omega];simp⟩
    · rw [q3 b];refine .inr ⟨g,off+l,n - l,cap - l,cur,rfl,i,c,by simp;omega,by omega,by omega,by omega, ?_⟩;rw [<-k,List.drop_take,Jj];congr 1;omega
def Sl.kept {g:Type} {enc:g->AB} {w w':AA} {v:AB} {xs:List g} {row:Option Nat} (h:Sl enc w v xs) (j:w.grownBy w' row) (e:v.ownBlock=none\/v.ownBlock≠row):Sl enc w' v xs:=by
  refine ⟨h.is,h.len,h.bd,fun i l=>?_⟩;have k:=h.cell i l;rcases xF h.is with ⟨b,o,n,c,rfl,_⟩|rfl|⟨b,o,s,rfl⟩
  rotate_left 2
  · have:=h.len;simp [qm] at this;omega
  · exact j.cell k (by simpa [Value.ownBlock,qN] using e)
  · have:=h.len;simp [qm] at this;omega
structure Cells (w:AA) (v:AB) (sz:Nat) (xs:List AB):Prop where
  is:qA v=true
  len:xs.length=qm v*sz
  cell:∀(j:Nat) (h:j<xs.length),w.cell? (qN v j)=some xs[j]
def Sl.cells {b:Type} {enc:b->AB} {w:AA} {v:AB} {xs:List b} (h:Sl enc w v xs):Cells w v 1 (xs.map enc):=
  ⟨h.is,by simp [h.len],fun j c=>by rw [h.cell j (by simpa using c)];simp⟩
def Blk.cells {w:AA} {B n sz:Nat} {cs:List AB} {t:TypeId} (h:Blk w B cs.toArray t) (b:cs.length=n*sz):Cells w (.slice (some ⟨B,0,none⟩) n n) sz cs:=
  ⟨by simp [qA],by simp [qm,b],fun j c=>by simp only [qN];rw [h.cell];simp⟩
section
variable {P:Program} {Q:Ks} {d:Option Nat} {ty:TypeId} {K:qa->AA->Prop} {ρ:qa} {w:AA}
theorem qhn {B o:Nat} {K:AA->Prop}:∀(vs:List AB) (i:Nat) (w:AA),kM ⟨B,0,none⟩ vs (o+i) K w->kM ⟨B,o,none⟩ vs i K w
  |[],_,_,h=>h
  |v::vs,i,w,h=>by
    obtain ⟨c,b,g,e⟩:=h;simp only [zD,ur] at c b e;refine ⟨by simpa using c,by simpa using b,g, ?_⟩;simp only [zD];exact qhn vs (i+1) _ (by simpa [uB] using e)
theorem qeI {t e sz bytes : Nat} (hi : xM P t = some (e, sz, bytes)) {base : Nat} {v xv : AB} {xs news : List AB} (x : Own base e sz w v xs) (I : Cells w xv sz news) (h1 : ∀ u ∈ news, u.oneCell' = true)
    (hlen:xs.length+news.length<4611686018427387904) (C:(xs.length+news.length)*bytes<=140737488355328*sz) (X:base<=w.heap.size):
    ∃v' W,(Builtin.append_ #[t,t] ty #[v,xv]).run P w=.ok v' W/\Own base e sz W v' (xs++news)/\w.grownBy W v.ownBlock/\(v'.ownBlock=v.ownBlock\/v'.ownBlock=some w.heap.size):=by
  unfold xM at hi;split at hi
  · rename_i e' s;simp only [uh] at hi;obtain ⟨i,y,z,hz,hc⟩:=hi;split at hc
    · rename_i U;cases hc;obtain ⟨U,R⟩:=U;have h:=I.len
      have grown:∀(n m old:Nat),xs.length=n*i.size->news.length=m*i.size->n+m<=maxLen->∀(row:Option Nat),
          Own base e i.size (w.drew.alloc (.cells (xs.toArray++news.toArray++Builtin.zeroCells z.cells (grownCap w (n+m) old e - (n+m))) e)) (.slice (some ⟨w.heap.size,0,none⟩) (n+m) (grownCap w (n+m) old e)) (xs++news)/\
          w.grownBy (w.drew.alloc (.cells (xs.toArray++news.toArray++Builtin.zeroCells z.cells (grownCap w (n+m) old e - (n+m))) e)) row:=by
        intro n m old F hm h63 row;have hge:=grownCap_ge w (n+m) old e;have J:grownCap w (n+m) old e<=maxLen:=grownCap_le_maxLen w (n+m) old e h63;have hl:(xs++news).length=(n+m)*i.size:=by rw [ky,F,hm,uK]
        refine ⟨.inr ⟨w.heap.size,0,_,_,_,rfl,X,heap_alloc_new w.drew _,hl,hge,J, ?_, ?_⟩,⟨rfl,rfl,rfl,by simp,fun k hk _=>heap_alloc_old w.drew _ k hk⟩⟩
        · simp only [Array.size_append,Vc,size_zeroCells,U,F,hm,<-uK,ur];refine Nat.le_of_eq ?_;congr 1;omega
        · simp only [Array.toList_append,un,List.drop_zero];rw [<-un,<-hl];exact Jn
      have q:∀n:Nat,xs.length=n*i.size->n+qm xv<=maxLen/\(n+qm xv)*i.bytes<=140737488355328:=by
        intro n F;have h2:(n+qm xv)*i.size=xs.length+news.length:=by rw [F,h,uK]
        have h3:n+qm xv<=(n+qm xv)*i.size:=Nat.le_mul_of_pos_right _ R;refine ⟨by simp only [maxLen];omega, ?_⟩;rw [<-h2,Nat.mul_right_comm] at C;exact Vg C R
      rcases xF I.is with ⟨b,o,m,c,rfl,hmc⟩|rfl|⟨b,o,sp,rfl⟩
      rotate_left 2
      · have H:news=[]:=uJ.1 (by simpa [qm] using h);subst H;refine ⟨v,w, ?_,by simpa using x,⟨rfl,rfl,rfl,kh _,fun _ _ _=>rfl⟩,.inl rfl⟩;rcases x with ⟨rfl,rfl⟩|⟨g,off,n,cap,cur,rfl,V,hg,F,O,J,aa,p⟩
        · simp [Builtin.append_,run_underlying s,sizeOf,typeInfo,y,Builtin.lenOf,Builtin.firstCells,loadCells,loadCellsFrom]
        · simp [Builtin.append_,run_underlying s,sizeOf,typeInfo,y,Builtin.lenOf,Builtin.firstCells,O,storeCells,loadCells,loadCellsFrom]
      · have B:∀j u,news[j]? =some u->w.cell? ((⟨b,o,none⟩:Addr).add j)=some u:=fun j u s=>by
          obtain ⟨hj,rfl⟩:=u4.1 s;have:=I.cell j hj;simpa [qN] using this
        simp only [qm] at h q;rcases x with ⟨rfl,rfl⟩|⟨g,off,n,cap,cur,rfl,V,hg,F,O,J,aa,p⟩
        · obtain ⟨L,S⟩:=q 0 (by simp);by_cases hm:m=0
          · subst hm;have hnn:news=[]:=List.eq_nil_of_length_eq_zero (by simpa using h);subst hnn;refine ⟨.slice none 0 0,w, ?_,Own.nil _ _ _ _,⟨rfl,rfl,rfl,kh _,fun _ _ _=>rfl⟩,.inl rfl⟩;simp [Builtin.append_,run_underlying s,sizeOf,typeInfo,y,Builtin.lenOf,Builtin.firstCells,loadCells,loadCellsFrom]
          · simp only [maxLen] at L;simp only [ur] at L S;have hr:=run_append_nil (P:=P) w t ty e i z s y hz ⟨b,o,none⟩ m c news h B (by omega) (by omega) (by omega);have E:=grown 0 m 0 (by simp) h (by simp only [maxLen];omega) (Value.ownBlock (.slice none 0 0));simp only [ur,List.nil_append,Array.empty_append] at E⊢;exact ⟨_,_,hr,E.1,E.2,.inr rfl⟩
        · obtain ⟨L,S⟩:=q n F;by_cases A:n+m<=cap
          · have ab:(n+m)*i.size<=cap*i.size:=JT _ A;rw [uK,<-h] at ab;have hb:Blk w g cur e:=⟨hg⟩;have Y:∀u∈news,u.oneCell=true:=fun u s=>by have:=h1 u s;cases u<;>first|rfl|exact this
            obtain ⟨W,hW,l,Z⟩:=qhE (P:=P) ⟨g,off+n*i.size,none⟩ news 0
              (fun W=>Only g w W/\Blk W g (cur.toList.take (off+n*i.size+0)++news++cur.toList.drop (off+n*i.size+0+news.length)).toArray e) w
              (qhn news 0 w (qbW news (off+n*i.size+0) w cur hb (by omega) Y fun W hO hB=>⟨hO,hB⟩))
            refine ⟨.slice (some ⟨g,off,none⟩) (n+m) cap,W, ?_,.inr ⟨g,off,n+m,cap,_,rfl,V,Z.heap,by rw [ky,F,h,uK],A,J, ?_, ?_⟩, ?_,.inl rfl⟩
            · have hf:=run_firstCells_some (P:=P) w i.size m ⟨b,o,none⟩ m c news h B;simp [Builtin.append_,run_underlying s,sizeOf,typeInfo,y,Builtin.lenOf,A,hf,hW]
            · simp;omega
            · have e0:off+n*i.size<=cur.toList.length:=by rw [Array.length_toList];omega
              have e1:(cur.toList.take (off+n*i.size)).drop off=xs:=by
                rw [List.drop_take,<-p];congr 1;omega
              simp only [Nat.add_zero];rw [un,List.drop_append_of_le_length (by rw [uF];omega),e1,<-un,uK,<-h,<-F,<-ky];exact Jn
            · exact ⟨l.os,l.tape,l.output,by rw [l.size];exact kh _,fun k _ hk=>l.block k (fun e=>hk (by simp [Value.ownBlock,e]))⟩
          · have holds:∀j u,xs[j]? =some u->w.cell? ((⟨g,off,none⟩:Addr).add j)=some u:=by
              intro j u s;rw [<-p,Jv] at s;split at s
              · rw [u0] at s;rw [zD,(⟨hg⟩:Blk w g cur e).cell];simpa using s
              · cases s
            simp only [maxLen] at L;have hr:=run_append_grow (P:=P) w t ty e i z s y hz ⟨g,off,none⟩ n cap xs F holds ⟨b,o,none⟩ m c news h B (by omega) (by omega) (growslice_fits (by omega) S);have E:=grown n m cap F h (by simp only [maxLen];omega) (Value.ownBlock (.slice (some ⟨g,off,none⟩) n cap));exact ⟨_,_,hr,E.1,E.2,.inr rfl⟩
      · have H:news=[]:=uJ.1 (by simpa [qm] using h);subst H;refine ⟨v,w, ?_,by simpa using x,⟨rfl,rfl,rfl,kh _,fun _ _ _=>rfl⟩,.inl rfl⟩;rcases x with ⟨rfl,rfl⟩|⟨g,off,n,cap,cur,rfl,V,hg,F,O,J,aa,p⟩
        · simp [Builtin.append_,run_underlying s,sizeOf,typeInfo,y,Builtin.lenOf,Builtin.firstCells]
        · simp [Builtin.append_,run_underlying s,sizeOf,typeInfo,y,Builtin.lenOf,Builtin.firstCells,O,storeCells]
    · cases hc
  · cases hi
theorem qkp {t e sz bytes:Nat} (A:xM P t=some (e,sz,bytes)) {W0:AA} (l:qc W0 w) {s x:Operand} {sv xv:AB} (y:qd ρ s=sv) (o:qd ρ x=xv) {xs news:List AB}
    (c:Own W0.heap.size e sz w sv xs) (i:Cells w xv sz news) (B:∀u∈news,u.oneCell'=true)
    (j:xs.length+news.length<4611686018427387904) (b:(xs.length+news.length)*bytes<=140737488355328*sz)
    (h:∀g W,qc W0 W->Own W0.heap.size e sz W g (xs++news)->w.grownBy W sv.ownBlock->(g.ownBlock=sv.ownBlock\/g.ownBlock=some w.heap.size)->K (qp ρ d g) W):qB P Q d (.call {callee:=.builtin .append,args:=#[s,x],argTypes:=#[t,t]}) ty K ρ w:=by
  subst y;subst o;obtain ⟨g,W,p,q,n,m⟩:=qeI (P:=P) (ty:=ty) A c i B j b l.size;refine jN (v:=g) (w':=W) ?_ (h g W ?_ q n m)
  · simp only [execOp,qR,resolve,invoke,builtin,Sem.run_bind,Sem.run_pure,Result.andThen_ok,List.map_toArray,List.map_cons,List.map_nil,p]
  · exact l.grown n l.size fun k z=>(c.blk k z).1
end
end Go.Eng
