/- Lemmas for a claim about layer 2 (tree). No conditions but those they state. -/
import Derived.Test.YtbcmiempigoooaaGreatDoorEad
import Derived.Laws.AppendOwn
import Derived.Laws.OwnMore
set_option linter.all false
namespace Go.Eng
open Go.RowKit
def qP:Code->Nat->Code
  | .region i o d,id=>if i=id then .region i o d else .skip
  | .seq a b,id| .cond _ a b,id=>match qP a id with| .skip=>qP b id|c=>c
  | .block _ c,id| .loop c,id| .scope c,id=>qP c id
  | .rangeFunc _ _ a b,id=>match qP a id with| .skip=>qP b id|c=>c
  |_,_=> .skip
@[simp] theorem qyo (ρ:qa) (i j:Nat) (v:Value):qw ρ i v j=if j=i then v else ρ j:=rfl
@[simp] theorem qmA (ρ:qa) (i:Nat) (v:Value):qn ρ (some i) v=qw ρ i v:=rfl
@[simp] theorem qK4 (ρ:qa) (v:Value):qn ρ none v=ρ:=rfl
def Ks.blk (Q:Ks) (i:Nat) (K:qa->World->Prop):Ks:={Q with ex:=fun j=>if j=i then K else Q.ex j}
@[simp] theorem qOR (Q:Ks) (i:Nat) (K:qa->World->Prop):(Q.blk i K).rt=Q.rt:=rfl
@[simp] theorem qOT (Q:Ks) (i:Nat) (K:qa->World->Prop):(Q.blk i K).pn=Q.pn:=rfl
@[simp] theorem qOW (Q:Ks) (i:Nat) (K:qa->World->Prop):(Q.blk i K).df=Q.df:=rfl
@[simp] theorem qOS (Q:Ks) (i:Nat) (K:qa->World->Prop):(Q.blk i K).rd=Q.rd:=rfl
@[simp] theorem qL2 (Q:Ks):Q.noRd.ex=Q.ex:=rfl
@[simp] theorem qLZ (Q:Ks):Q.noRd.rt=Q.rt:=rfl
@[simp] theorem qL0 (Q:Ks):Q.noRd.pn=Q.pn:=rfl
@[simp] theorem qL1 (Q:Ks):Q.noRd.og=Q.og:=rfl
@[simp] theorem qL3 (Q:Ks):Q.noRd.df=Q.df:=rfl
@[simp] theorem qOU (Q:Ks) (i:Nat) (K:qa->World->Prop):(Q.blk i K).og=Q.og:=rfl
@[simp] theorem qOV (Q:Ks) (i j:Nat) (K:qa->World->Prop) (ρ:qa) (w:World):(Q.blk i K).ex j ρ w=if j=i then K ρ w else Q.ex j ρ w:=by simp only [Ks.blk];split<;>rfl
def qyl {P:Program} {Q Q':Ks} {dst:Option Nat} {K K':qa->World->Prop} {ρ:qa} (j:∀ρ w,K ρ w->K' ρ w) (hpn:∀ρ c w,Q.pn ρ c w->Q'.pn ρ c w) (g:Q.og->Q'.og) (i:(Q.df->Q'.df)/\(Q.rd->Q'.rd)) {r:Result Next} (h:QN P Q dst K ρ r):QN P Q' dst K' ρ r:=by
  cases r with
  |ok x w=>
    cases x<;>simp only [QN] at h⊢ <;>first|exact j _ _ h|exact h|exact ⟨i.1 h.1,j _ _ h.2⟩|skip
    · refine h.mono fun e w' b=>?_;cases e with
      |returned v=>exact j _ _ b
      |panicked c=>exact hpn _ _ _ b
      |outgrown=>exact g b
    · refine ⟨i.2 h.1,h.2.mono fun e w' b=>?_⟩;cases e with
      |returned v=>exact j _ _ b
      |panicked c=>exact hpn _ _ _ b
      |outgrown=>exact g b
  |halt x w=>cases x<;>simp only [QN] at h⊢ <;>first|exact hpn _ _ _ h|exact h
def qwA {P:Program} {Q Q':Ks} {dst:Option Nat} {op:Op} {ty:TypeId} {K K':qa->World->Prop} {ρ:qa} {w:World} (g:∀ρ w,K ρ w->K' ρ w) (hpn:∀ρ c w,Q.pn ρ c w->Q'.pn ρ c w) (e:Q.og->Q'.og) (b:(Q.df->Q'.df)/\(Q.rd->Q'.rd)) (h:vK P Q dst op ty K ρ w):vK P Q' dst op ty K' ρ w:=
  qyl g hpn e b h
def qns {K K':World->Prop} (b:∀w,K w->K' w) (a:Addr):∀(vs:List Value) (i:Nat) (w:World),yx a vs i K w->yx a vs i K' w
  |[],_,_,h=>b _ h
  |_::vs,i,_,⟨e,g,c,j⟩=>⟨e,g,c,qns b a vs (i+1) _ j⟩
def qja {e:Type} {c:Option e} {f g:e->Prop} (h:∀a,f a->g a) (b:vt c f):vt c g:=by cases c<;>first|exact b|exact h _ b
def qfx {c:Option Value} {f g:Value->Prop} (h:∀a,f a->g a) (b:xp c f):xp c g:=by cases c<;>first|exact b|exact h _ b
def qBO {x:Value} {f g:Addr->Prop} (h:∀a,f a->g a) (b:Q0 x f):Q0 x g:=by
  cases x with
  |pointer a=>cases a<;>first|exact h _ b|exact b
  |_=>exact b
def qJe {P:Program} {Q Q':Ks} {dst:Option Nat} {op:Op} {ty:TypeId} {K K':qa->World->Prop} {ρ:qa} {w:World} (b:∀ρ w,K ρ w->K' ρ w) (hpn:∀ρ c w,Q.pn ρ c w->Q'.pn ρ c w) (g:Q.og->Q'.og) (i:(Q.df->Q'.df)/\(Q.rd->Q'.rd)) (h:qx P Q dst op ty K ρ w):qx P Q' dst op ty K' ρ w:=by
  unfold qx at h⊢;split at h
  · exact b _ _ h
  · exact qja (fun _ h=>b _ _ h) h
  · exact ⟨h.1,qBO (fun a h=>qns (fun _ h=>b _ _ h) a _ _ _ h) h.2⟩
  · exact b _ _ h
  · exact qja (fun _ h=>b _ _ h) h
  · exact qja (fun _ h=>⟨h.1,h.2.1,h.2.2.1,b _ _ h.2.2.2⟩) h
  · unfold qgW at h⊢;split at h
    · refine ⟨h.1,h.2.mono fun e w' j=>?_⟩;cases e with
      |returned v=>exact b _ _ j
      |panicked c=>exact hpn _ _ _ j
      |outgrown=>exact g j
    · exact qwA b hpn g i h
  · exact qwA b hpn g i h
def qcR {P:Program} {Q Q':Ks} (hpn:∀ρ c w,Q.pn ρ c w->Q'.pn ρ c w) (b:Q.og->Q'.og) (i:(Q.df->Q'.df)/\(Q.rd->Q'.rd)):∀(l:List St) {K K':qa->World->Prop} {ρ:qa} {w:World},(∀ρ w,K ρ w->K' ρ w)->je P Q l K ρ w->je P Q' l K' ρ w
  |[],_,_,_,_,k,h=>k _ _ h
  | .asg g d e::r,K,K',ρ,w,k,h=>by
    simp only [je,St.wp] at h⊢;split
    · rename_i j;rw [if_pos j] at h;exact qfx (fun _ h=>qcR hpn b i r k h) h
    · rename_i j;rw [if_neg j] at h;exact qcR hpn b i r k h
  | .eff g d op ty::r,K,K',ρ,w,k,h=>by
    simp only [je,St.wp] at h⊢;split
    · rename_i j;rw [if_pos j] at h;exact qJe (fun _ _ h=>qcR hpn b i r k h) hpn b i h
    · rename_i j;rw [if_neg j] at h;exact qcR hpn b i r k h
def qdo {P:Program} {w0:World}:∀(l:List St) {K K':qa->Prop} {ρ:qa},(∀ρ,K ρ->K' ρ)->qM P w0 l K ρ->qM P w0 l K' ρ
  |[],_,_,_,c,h=>c _ h
  | .asg g d e::r,K,K',ρ,c,h=>by
    simp only [qM] at h⊢;split
    · rename_i b;rw [if_pos b] at h;exact qfx (fun _ h=>qdo r c h) h
    · rename_i b;rw [if_neg b] at h;exact qdo r c h
  | .eff g d op ty::r,K,K',ρ,c,h=>by
    simp only [qM] at h⊢;split
    · rename_i b;rw [if_pos b] at h;obtain ⟨v,j,i⟩:=h;exact ⟨v,j,qdo r c i⟩
    · rename_i b;rw [if_neg b] at h;exact qdo r c h
def qlO {c:Option Value} {x y x' e:Prop} (g:x->x') (i:y->e) (h:Je c x y):Je c x' e:=by
  cases c with
  |none=>exact h
  |some v=>cases v with
    |bool b=>cases b<;>first|exact g h|exact i h
    |_=>exact h
def IR.wp_mono {cx:Cx}:∀{a:IR} {K K':qa->World->Prop} {Q Q':Ks} {ρ:qa} {w:World},a.wp cx K Q ρ w->(∀ρ w,K ρ w->K' ρ w)->(∀i ρ w,Q.ex i ρ w->Q'.ex i ρ w)->(∀ρ w,Q.rt ρ w->Q'.rt ρ w)->
    (∀ρ c w,Q.pn ρ c w->Q'.pn ρ c w)->(Q.og->Q'.og)->((Q.df->Q'.df)/\(Q.rd->Q'.rd))->a.wp cx K' Q' ρ w
  | .skip,_,_,_,_,_,_,h,n,_,_,_,_,_=>n _ _ h
  | .reg l,_,_,_,_,_,_,h,n,_,_,hpn,g,j=>qcR hpn g j l n h
  | .drw l,_,_,_,_,_,_,h,n,_,_,_,_,_=>qdo l (fun _ h w' v=>n _ _ (h w' v)) h
  | .seq a b,_,_,_,_,_,_,h,n,m,k,hpn,g,j=>IR.wp_mono (a:=a) h (fun _ _ h=>IR.wp_mono (a:=b) h n m k hpn g j) m k hpn g j
  | .cond c a b,_,_,_,_,_,_,h,n,m,k,hpn,g,j=>qlO (fun h=>IR.wp_mono (a:=a) h n m k hpn g j) (fun h=>IR.wp_mono (a:=b) h n m k hpn g j) h
  | .block id a,K,K',Q,Q',_,_,h,n,m,k,hpn,g,j=>IR.wp_mono (a:=a) h n (fun i ρ w h=>by
      simp only at h⊢;split
      · rename_i e;rw [if_pos e] at h;exact n _ _ h
      · rename_i e;rw [if_neg e] at h;exact m _ _ _ h) k hpn g j
  | .loop a,_,_,_,_,_,_,⟨I,μ,C,h⟩,_,m,k,hpn,g,j=>⟨I,μ,C,fun u w' y=>IR.wp_mono (a:=a) (h u w' y) (fun _ _ h=>h) m k hpn g j⟩
  | .exit id,_,_,_,_,_,_,h,_,m,_,_,_,_=>m _ _ _ h
  | .ret,_,_,_,_,_,_,h,_,_,k,_,_,_=>k _ _ h
  | .raw c,_,_,_,_,_,_,h,n,m,k,hpn,g,j=>fun a x A z=>Go.wp_mono (h a x A fun B=>z (j.1 B)) fun e a w t=>by
      cases e with
      |normal=>obtain ⟨s,ρ,o,p⟩:=t;exact ⟨s,ρ,o,n _ _ p⟩
      |exit i=>obtain ⟨s,ρ,o,p⟩:=t;exact ⟨s,ρ,o,m _ _ _ p⟩
      |ret=>obtain ⟨s,ρ,o,p⟩:=t;exact ⟨s,ρ,o,k _ _ p⟩
      |panic c=>obtain ⟨s,ρ,o,p⟩:=t;exact ⟨s,ρ,o,hpn _ _ _ p⟩
      |outgrown=>exact g t
      |goto l=>exact t
section
variable {cx:Cx} {K:qa->World->Prop} {Q:Ks} {ρ:qa} {w:World}
theorem Q4 (I:qa->World->Prop) (μ:qa->World->Nat) {a:IR} (g:I ρ w) (h:∀c w',I c w'->a.wp cx (fun b e=>I b e/\μ b e<μ c w') Q c w'):(IR.loop a).wp cx K Q ρ w:=⟨I,μ,g,h⟩
@[simp] theorem qhu {a b:IR}:(IR.seq a b).wp cx K Q ρ w=a.wp cx (b.wp cx K Q) Q ρ w:=rfl
@[simp] theorem qmt {l:List St}:(IR.reg l).wp cx K Q ρ w=je cx.P Q l K ρ w:=rfl
@[simp] theorem qK0 {l:List St}:(IR.drw l).wp cx K Q ρ w=qM cx.P w l (fun b=>∀w',qc w w'->K b w') ρ:=rfl
@[simp] theorem qKX:IR.skip.wp cx K Q ρ w=K ρ w:=rfl
@[simp] theorem qKZ {i:Nat}:(IR.exit i).wp cx K Q ρ w=Q.ex i ρ w:=rfl
@[simp] theorem qKY:IR.ret.wp cx K Q ρ w=Q.rt ρ w:=rfl
@[simp] theorem qK2 {i:Nat} {a:IR}:(IR.block i a).wp cx K Q ρ w=a.wp cx K (Q.blk i K) ρ w:=rfl
@[simp] theorem qK1 {c:Ex} {a b:IR}:(IR.cond c a b).wp cx K Q ρ w=Je (c.ev ρ w) (a.wp cx K Q ρ w) (b.wp cx K Q ρ w):=rfl
end
def ji (rs:List RV) (R:Ending->World->Prop):Ks:=⟨fun _ _ _=>False,qB rs R,fun _ c w=>R (.panicked c) w,∀w,R .outgrown w,False,True⟩
@[simp] theorem qMl (rs:List RV) (R:Ending->World->Prop):(ji rs R).rt=qB rs R:=rfl
@[simp] theorem qMn (rs:List RV) (R:Ending->World->Prop) (ρ:qa) (c:List PanicEntry) (w:World):(ji rs R).pn ρ c w=R (.panicked c) w:=rfl
@[simp] theorem qMo (rs:List RV) (R:Ending->World->Prop):(ji rs R).og=∀w,R .outgrown w:=rfl
@[simp] theorem qMp (rs:List RV) (R:Ending->World->Prop) (i:Nat) (ρ:qa) (w:World):(ji rs R).ex i ρ w=False:=rfl
@[simp] theorem qMq (P:Program) (rs:List RV) (R:Ending->World->Prop):(xj P rs R).rt=vz P rs R .returning:=rfl
@[simp] theorem qMs (P:Program) (rs:List RV) (R:Ending->World->Prop) (ρ:qa) (c:List PanicEntry) (w:World):(xj P rs R).pn ρ c w=vz P rs R (.panicking c) ρ w:=rfl
@[simp] theorem qMt (P:Program) (rs:List RV) (R:Ending->World->Prop):(xj P rs R).og=∀w,R .outgrown w:=rfl
@[simp] theorem qMv (P:Program) (rs:List RV) (R:Ending->World->Prop):(xj P rs R).df=True:=rfl
@[simp] theorem qMr (P:Program) (rs:List RV) (R:Ending->World->Prop):(xj P rs R).rd=True:=rfl
@[simp] theorem qMm (rs:List RV) (R:Ending->World->Prop):(ji rs R).rd=True:=rfl
@[simp] theorem qMu (P:Program) (rs:List RV) (R:Ending->World->Prop) (i:Nat) (ρ:qa) (w:World):(xj P rs R).ex i ρ w=False:=rfl
@[simp] theorem qot (t:Nat) (R:Ending->World->Prop) (ρ:qa) (w:World):qB [.tmp t] R ρ w=R (.returned (ρ t)) w:=rfl
@[simp] theorem qLc (t u:Nat) (R:Ending->World->Prop) (ρ:qa) (w:World):qB [.tmp t,.tmp u] R ρ w=R (.returned (.tuple #[ρ t,ρ u])) w:=rfl
@[simp] theorem qLb (t u s:Nat) (R:Ending->World->Prop) (ρ:qa) (w:World):qB [.tmp t,.tmp u,.tmp s] R ρ w=R (.returned (.tuple #[ρ t,ρ u,ρ s])) w:=rfl
@[simp] theorem qLd (R:Ending->World->Prop) (ρ:qa) (w:World):qB [] R ρ w=R (.returned (.tuple #[])) w:=rfl
@[simp] theorem qLK (b:Bool) (x y:Option Value):qbi (.bool b) x y=if b then x else y:=by cases b<;>rfl
@[simp] theorem qMG (b c:Bool):(if b then some (Value.bool true) else some (Value.bool c))=some (.bool (b||c)):=by cases b<;>rfl
@[simp] theorem qMH (b c:Bool):(if b then some (Value.bool c) else some (Value.bool false))=some (.bool (b&&c)):=by cases b<;>rfl
@[simp] theorem qME (p:Prop) [Decidable p] (c:Bool):(if p then some (Value.bool true) else some (Value.bool c))=some (.bool (decide p||c)):=by split<;>simp_all
@[simp] theorem qMF (p:Prop) [Decidable p] (c:Bool):(if p then some (Value.bool c) else some (Value.bool false))=some (.bool (decide p&&c)):=by split<;>simp_all
@[simp] theorem qMR (b:Bool) (x y:Prop):Je (some (.bool b)) x y=if b then x else y:=by cases b<;>rfl
@[simp] theorem qLS (v:Value) (f:Value->Prop):xp (some v) f=f v:=rfl
@[simp] theorem qLT {b:Type} (v:b) (f:b->Prop):vt (some v) f=f v:=rfl
@[simp] theorem qLJ (a:Addr) (f:Addr->Prop):Q0 (.pointer (some a)) f=f a:=rfl
@[simp] theorem qed (Q:Ks) (dst:Option Nat) (K:qa->World->Prop) (ρ:qa) (v:Value) (w:World):zD Q dst K ρ (.returned v) w=K (qn ρ dst v) w:=rfl
@[simp] theorem qw3 (Q:Ks) (dst:Option Nat) (K:qa->World->Prop) (ρ:qa) (c:List PanicEntry) (w:World):zD Q dst K ρ (.panicked c) w=Q.pn ρ c w:=rfl
@[simp] theorem qOQ (Q:Ks) (dst:Option Nat) (K:qa->World->Prop) (ρ:qa) (w:World):zD Q dst K ρ .outgrown w=Q.og:=rfl
section
variable {P:Program} {K:qa->World->Prop} {Q:Ks} {ρ:qa} {w w0:World}
@[simp] theorem qKW:je P Q [] K ρ w=K ρ w:=rfl
@[simp] theorem qms {g:Option (Nat×Bool)} {d:Nat} {e:Ex} {r:List St}:je P Q (.asg g d e::r) K ρ w=if gd ρ g then xp (e.ev ρ w) (fun v=>je P Q r K (qw ρ d v) w) else je P Q r K (qw ρ d undef) w:=rfl
@[simp] theorem qep {g:Option (Nat×Bool)} {d:Option Nat} {op:Op} {ty:TypeId} {r:List St}:je P Q (.eff g d op ty::r) K ρ w=if gd ρ g then qx P Q d op ty (je P Q r K) ρ w else je P Q r K (qn ρ d undef) w:=rfl
end
attribute [simp] qM gd Ex.ev qcu qY qeY qgW qdp
@[simp] theorem qMJ (ρ:qa) (t:Nat):qe ρ (.tmp t)=ρ t:=rfl
@[simp] theorem qMM (ρ:qa) (v:Value):qe ρ (.const v)=v:=rfl
@[simp] theorem qMK (ρ:qa) (g:Nat):qe ρ (.global g)=.pointer (some ⟨g,0,none⟩):=rfl
@[simp] theorem qML (ρ:qa) (f:FuncId):qe ρ (.func f)=.func (.func f) #[] #[]:=rfl
section
variable {P:Program} {Q:Ks} {d:Option Nat} {ty:TypeId} {K:qa->World->Prop} {ρ:qa} {w:World}
@[simp] theorem qMO (fn:Fn) (fs cs:Array Operand):qx P Q d (.makeFunc fn fs cs) ty K ρ w=K (qn ρ d (.func fn (fs.map (qe ρ)) (cs.map (qe ρ)))) w:=rfl
@[simp] theorem qwy (t:TypeId) (ps:Array (Nat×Operand)):qx P Q d (.build t ps) ty K ρ w=vt (P.built t (ps.map fun p=>(p.1,qe ρ p.2)).toList) fun cells=>K (qn ρ d (.agg cells)) w:=rfl
@[simp] theorem qJg (f:FuncId) (args:Array Operand) (b:Array TypeId):qx P Q d (.call {callee:=.value (.func f),args:=args,argTypes:=b}) ty K ρ w=(qh P f=true/\Calls P f (args.map (qe ρ)) w (zD Q d K ρ)):=rfl
end
@[simp] theorem qLr (w:World) (op:BinOp) (k e c:IntKind) (a b:Int):vl w (.ibin op k) (.int e a) (.int c b)=if e=c then qcu op e a b else none:=rfl
@[simp] theorem qLo (w:World) (op:BinOp) (x y:ByteArray):vl w (.sbin op) (.string x) (.string y)=qY op x y:=rfl
@[simp] theorem qLt (w:World) (a b:Bool):vl w (.bbin .eql) (.bool a) (.bool b)=some (.bool (a==b)):=rfl
@[simp] theorem qLs (w:World) (a b:Bool):vl w (.bbin .neq) (.bool a) (.bool b)=some (.bool (!(a==b))):=rfl
@[simp] theorem qLn (w:World) (op:BinOp) (k c:IntKind) (a b:Int):vl w (.shf op) (.int k a) (.int c b)=qeY op k a b:=rfl
@[simp] theorem qLq (w:World) (sz:Nat) (v:Value) (k:IntKind) (i:Int):vl w (.ixa sz) v (.int k i)=if qu v/\0<=i/\i<ql v then some (.pointer (some (qQ v (i.toNat*sz)))) else none:=by cases v<;>rfl
@[simp] theorem qLp (w:World) (s:ByteArray) (k:IntKind) (i:Int):vl w .ixs (.string s) (.int k i)=if 0<=i then (s[i.toNat]?).map fun b=> .int .u8 b.toNat else none:=rfl
@[simp] theorem qLm (w:World) (sz:Nat) (v:Value) (k:IntKind) (l:Int):vl w (.slLo sz) v (.int k l)=if qu v/\0<=l/\l<=ql v then some (qZ v sz l.toNat (ql v) (qy v)) else none:=by cases v<;>rfl
@[simp] theorem qLl (w:World) (s:ByteArray) (k:IntKind) (l:Int):vl w .stLo (.string s) (.int k l)=if 0<=l/\l<=s.size then some (.string (s.extract l.toNat s.size)) else none:=rfl
@[simp] theorem qLk (w:World) (sz:Nat) (v:Value) (k b:IntKind) (l h:Int):yS w (.slLoHi sz) v (.int k l) (.int b h)=if qu v/\0<=l/\l<=h/\h<=qy v then some (qZ v sz l.toNat h.toNat (qy v)) else none:=by cases v<;>rfl
@[simp] theorem qLj (w:World) (s:ByteArray) (k b:IntKind) (l h:Int):yS w .stLoHi (.string s) (.int k l) (.int b h)=if 0<=l/\l<=h/\h<=s.size then some (.string (s.extract l.toNat h.toNat)) else none:=rfl
@[simp] theorem qLi (w:World) (sz:Nat) (v:Value) (k c b:IntKind) (l h m:Int):pv4 w (.slMax sz) v (.int k l) (.int c h) (.int b m)=if qu v/\0<=l/\l<=h/\h<=m/\m<=qy v then some (qZ v sz l.toNat h.toNat m.toNat) else none:=by cases v<;>rfl
@[simp] theorem qLv (w:World) (v:Value):jd w .same v=some v:=rfl
@[simp] theorem qBL (w:World) (a:Addr):jd w .load1 (.pointer (some a))=w.cell? a:=rfl
@[simp] theorem qdv (w:World) (n:Nat) (a:Addr):jd w (.loadN n) (.pointer (some a))=(jG w a 0 n).map fun l=> .agg l.toArray:=rfl
@[simp] theorem qLF (w:World) (n:Nat) (a:Addr):jd w (.fadr n) (.pointer (some a))=some (.pointer (some (a.add n))):=rfl
@[simp] theorem qLE (w:World) (n:Nat) (cs:Array Value):jd w (.fld n) (.agg cs)=cs[n]? :=rfl
@[simp] theorem qLD (w:World) (o n:Nat) (cs:Array Value):jd w (.fldN o n) (.agg cs)=some (.agg (cs.extract o (o+n))):=rfl
@[simp] theorem qLC (w:World) (v:Value):jd w .lenS v=if qu v then some (.int .i64 (ql v)) else none:=rfl
@[simp] theorem qLI (w:World) (v:Value):jd w .capS v=if qu v then some (.int .i64 (qy v)) else none:=rfl
@[simp] theorem qLB (w:World) (s:ByteArray):jd w .lenT (.string s)=some (.int .i64 s.size):=rfl
@[simp] theorem qLw (w:World) (b:Bool):jd w .not (.bool b)=some (.bool !b):=rfl
@[simp] theorem qLz (w:World) (k:IntKind) (n:Int):jd w .neg (.int k n)=some (.int k (k.wrap (0 - n))):=rfl
@[simp] theorem qLH (w:World) (k b:IntKind) (n:Int):jd w (.conv k) (.int b n)=some (.int k (k.wrap n)):=rfl
@[simp] theorem qLG (w:World) (i:Nat) (vs:Array Value):jd w (.ext i) (.tuple vs)=vs[i]? :=rfl
@[simp] theorem qLA (w:World) (t:TypeId) (v:Value):jd w (.mkif t) v=some (.iface t v):=rfl
@[simp] theorem qLx (w:World) (t:TypeId) (v:Value):jd w .nilc (.iface t v)=some (.iface t v):=rfl
@[simp] theorem qLy (w:World) (a:Addr):jd w .nilc (.pointer (some a))=some (.pointer (some a)):=rfl
@[simp] theorem qLu (w:World) (s:ByteArray):jd w .strid (.string s)=some (.string s):=rfl
def qH {n:Int} (h: -9223372036854775808<=n/\n<=9223372036854775807):IntKind.i64.wrap n=n:=by
  unfold IntKind.wrap;simp only [IntKind.bits,IntKind.signed,ud];by_cases b:n%2^64>=(2^(64 - 1):Int)
  · rw [if_pos (by simpa using b)];omega
  · rw [if_neg (by simpa using b)];omega
def u8w {n:Int} (h:0<=n/\n<256):IntKind.u8.wrap n=n:=by
  unfold IntKind.wrap;simp only [IntKind.bits,IntKind.signed,Va,uf,km];omega
@[simp] theorem qMD (k:IntKind) (n:Int):RowKit.intOf (.int k n)=n:=rfl
end Go.Eng
namespace Go.Eng
open Go.RowKit
@[simp] theorem qeT (v:Value) (j n:Nat):(qQ v j).add n=qQ v (j+n):=by
  unfold qQ Addr.add;split<;>split<;>simp_all [uN]
@[simp] theorem kg (b o n:Nat):(⟨b,o,none⟩:Addr).add n=⟨b,o+n,none⟩:=by
  unfold Addr.add;split<;>simp_all
structure Sl {α:Type} (enc:α->Value) (w:World) (v:Value) (xs:List α):Prop where
  is:qu v=true
  len:ql v=xs.length
  bd:xs.length<4611686018427387904
  cell:∀(i:Nat) (h:i<xs.length),w.cell? (qQ v i)=some (enc xs[i])
def Sl.ext {b:Type} {enc:b->Value} {w w':World} {v:Value} {xs:List b} (h:Sl enc w v xs) (e:qc w w'):Sl enc w' v xs:=
  ⟨h.is,h.len,h.bd,fun i c=>e.cell (h.cell i c)⟩
def Sl.nil {b:Type} (enc:b->Value) (w:World):Sl enc w (.slice none 0 0) ([]:List b):=⟨rfl,rfl,by simp,fun i h=>by simp at h⟩
def jn (b:UInt8):Value:=.int .u8 b.toNat
def encI (n:Int):Value:=.int .i64 n
def QD (w:World) (o:Obj):qc w (w.alloc o):=(Below.refl _ _).alloc (j1 _) o
def qc.trans' {a b c:World} (h:qc a b) (k:qc b c):qc a c:=Below.trans h (k.mono h.size)
def qIV {a b c:World} (h:qc a b) (k:Below a.heap.size b c):qc a c:=Below.trans h k
@[simp] theorem qMT (w:World) (o:Obj) (b i:Nat) (h:b<w.heap.size):(w.alloc o).cell? ⟨b,i,none⟩=w.cell? ⟨b,i,none⟩:=World.cell?_alloc_lt w o _ h
@[simp] theorem qMU (w:World) (c:Array Value) (t:TypeId) (b i:Nat) (h:b=w.heap.size):(w.alloc (.cells c t)).cell? ⟨b,i,none⟩=c[i]? :=by subst h;exact World.cell?_alloc_new w c t i
structure Blk (W:World) (B:Nat) (cs:Array Value) (t:TypeId):Prop where
  heap:W.heap[B]? =some (.cells cs t (0,0))
def Blk.lt {W:World} {B:Nat} {cs:Array Value} {t:TypeId} (h:Blk W B cs t):B<W.heap.size:=(uq.1 h.heap).1
def Blk.cell {W:World} {B:Nat} {cs:Array Value} {t:TypeId} (h:Blk W B cs t) (i:Nat):W.cell? ⟨B,i,none⟩=cs[i]? :=by simp [World.cell?,h.heap]
def Blk.free {W:World} {B:Nat} {cs:Array Value} {t:TypeId} (h:Blk W B cs t) (i:Nat):W.frozen? ⟨B,i,none⟩=false:=by simp [World.frozen?,h.heap]
def Blk.ext {W W':World} {B:Nat} {cs:Array Value} {t:TypeId} (h:Blk W B cs t) (b:qc W W'):Blk W' B cs t:=⟨(b.block B h.lt).trans h.heap⟩
structure Only (B:Nat) (W W':World):Prop where
  os:W'.os=W.os
  tape:W'.tape=W.tape
  output:W'.output=W.output
  size:W'.heap.size=W.heap.size
  block:∀k,k≠B->W'.heap[k]? =W.heap[k]?
def Only.ext {B:Nat} {w W W':World} (h:Only B W W') (b:qc w W) (e:w.heap.size<=B):qc w W':=
  ⟨h.os.trans b.os,h.tape.trans b.tape,h.output.trans b.output,by rw [h.size];exact b.size,fun k c=>(h.block k (by omega)).trans (b.block k c)⟩
def Only.blk {B B':Nat} {W W':World} {cs:Array Value} {t:TypeId} (h:Only B W W') (c:Blk W B' cs t) (b:B'≠B):Blk W' B' cs t:=⟨(h.block B' b).trans c.heap⟩
theorem Only.refl (B:Nat) (W:World):Only B W W:=⟨rfl,rfl,rfl,rfl,fun _ _=>rfl⟩
def Only.trans {B:Nat} {a b c:World} (h:Only B a b) (k:Only B b c):Only B a c:=
  ⟨k.os.trans h.os,k.tape.trans h.tape,k.output.trans h.output,k.size.trans h.size,fun i e=>(k.block i e).trans (h.block i e)⟩
def qfu (W:World) (B i:Nat) (v:Value):Only B W (W.setCell ⟨B,i,none⟩ v):=
  ⟨rfl,rfl,rfl,by simp,fun k b=>Below.heap_setCell _ _ _ _ b⟩
def qg2 {W:World} {B:Nat} {cs:Array Value} {t:TypeId} (h:Blk W B cs t) (i:Nat) (v:Value):Blk (W.setCell ⟨B,i,none⟩ v) B (cs.setIfInBounds i v) t:=by
  have b:=h.heap;exact ⟨by simp [World.setCell,J7,b]⟩
def qeg (w:World) (cs:Array Value) (t:TypeId):Blk (w.alloc (.cells cs t)) w.heap.size cs t:=⟨heap_alloc_new w _⟩
section
variable {P:Program} {Q:Ks} {d:Option Nat} {ty:TypeId} {K:qa->World->Prop} {ρ:qa} {w:World}
theorem vO {t:TypeId} {x:Operand} (h:∀(B:Nat) (W:World),w.heap.size<=B->qc w W->Blk W B (qe ρ x).cells t->W.heap.size=B+1->K (qn ρ d (.pointer (some ⟨B,0,none⟩))) W):qx P Q d (.box t x) ty K ρ w:=
  h w.heap.size _ (j1 _) (QD w _) (qeg w _ _) (by simp)
theorem qX {t:TypeId} {z:Array Value} (b:zR P t=some z) (h:∀(B:Nat) (W:World),w.heap.size<=B->qc w W->Blk W B z t->W.heap.size=B+1->K (qn ρ d (.pointer (some ⟨B,0,none⟩))) W):qx P Q d (.alloc t) ty K ρ w:=by
  show vt (zR P t) _;rw [b];exact h w.heap.size _ (j1 _) (QD w _) (qeg w _ _) (by simp)
theorem qW {t:TypeId} {p x:Operand} {B i:Nat} {cs:Array Value} {T:TypeId} (g:qe ρ p=.pointer (some ⟨B,i,none⟩)) (b:Blk w B cs T) (c:i<cs.size) (k:(qe ρ x).cells=#[qe ρ x]) (e:(qe ρ x).oneCell=true)
    (j:jT P t 1=true) (h:∀W,Only B w W->Blk W B (cs.set i (qe ρ x)) T->K (qn ρ d undef) W):qx P Q d (.store t p x) ty K ρ w:=by
  show jT P t (qe ρ x).cells.size=true/\Q0 (qe ρ p) _;rw [g,k];refine ⟨j, ?_⟩;show yx _ [qe ρ x] 0 _ w;refine ⟨⟨cs[i], ?_⟩, ?_,e, ?_⟩
  · rw [kg,Nat.add_zero,b.cell];simp [c]
  · rw [kg,Nat.add_zero,b.free]
  · rw [kg,Nat.add_zero];refine h _ (qfu w B i _) ?_;have:=qg2 b i (qe ρ x);rw [Array.setIfInBounds,dif_pos c] at this;exact this
theorem qc5 {B : Nat} {T : TypeId} {K : World -> Prop} : ∀ (vs : List Value) (i : Nat) (w : World) (cs : Array Value), Blk w B cs T -> i + vs.length <= cs.size -> (∀ v ∈ vs, v.oneCell = true) ->
    (∀W,Only B w W->Blk W B (cs.toList.take i++vs++cs.toList.drop (i+vs.length)).toArray T->K W)->yx ⟨B,0,none⟩ vs i K w
  |[],i,w,cs,b,_,_,h=>h w (Only.refl _ _) (by simpa using b)
  | v :: vs, i, w, cs, b, j, g, h => by
    simp only [List.length_cons] at j;have c:i<cs.size:=by omega
    refine ⟨⟨cs[i], ?_⟩, ?_,g v (by simp), ?_⟩
    · rw [kg,ut,b.cell];simp [c]
    · rw [kg,ut,b.free]
    · rw [kg,ut];refine qc5 vs (i+1) _ (cs.setIfInBounds i v) (qg2 b i v) (by simp;omega) (fun u k=>g u (by simp [k])) fun W m l=>?_;refine h W ((qfu w B i v).trans m) ?_;have e:(cs.setIfInBounds i v).toList.take (i+1)++vs++(cs.setIfInBounds i v).toList.drop (i+1+vs.length)=cs.toList.take i++v::vs++cs.toList.drop (i+(vs.length+1)):=by
        simp only [Array.toList_setIfInBounds];rw [uG (by simpa using c),List.take_set_of_le (j1 i),List.drop_set_of_lt (by omega)];simp [show i+1+vs.length=i+(vs.length+1) by omega]
      simp only [List.length_cons];rw [<-e];exact l
theorem qd9 {t:TypeId} {e:Nat} {x:Operand} {g:TypeId} {r:List St} {z:Array Value} (u:zR P t=some z) (y:∀v,qe (qw ρ e v) x=qe ρ x) (b:(qe ρ x).cells.size=z.size) (s:∀v∈(qe ρ x).cells.toList,v.oneCell=true)
    (p:jT P t z.size=true) (h:∀(B:Nat) (W:World),w.heap.size<=B->qc w W->Blk W B (qe ρ x).cells t->W.heap.size=B+1->je P Q r K (qw ρ e (.pointer (some ⟨B,0,none⟩))) W):
    qx P Q (some e) (.alloc t) ty (je P Q (.eff none none (.store t (.tmp e) x) g::r) K) ρ w:=by
  refine qX u fun B W i k n m=>?_;simp only [qmA,qep,gd,kk];show jT P t (qe (qw ρ e _) x).cells.size=true/\Q0 (qe (qw ρ e _) (.tmp e)) _;rw [y,b];refine ⟨p, ?_⟩;have o:qe (qw ρ e (.pointer (some ⟨B,0,none⟩))) (.tmp e)=.pointer (some ⟨B,0,none⟩):=by simp
  rw [o];show yx ⟨B,0,none⟩ _ 0 _ W;refine qc5 _ 0 W z n (by rw [Array.length_toList,b];omega) s fun W' j c=>?_;refine h B W' i (j.ext k i) ?_ (by rw [j.size];exact m);have:(z.toList.take 0++(qe ρ x).cells.toList++z.toList.drop (0+(qe ρ x).cells.toList.length)).toArray=(qe ρ x).cells:=by
    have l:List.drop (0+(qe ρ x).cells.toList.length) z.toList=[]:=uY (by rw [Array.length_toList,Array.length_toList,b];omega);rw [l];simp
  rw [this] at c;exact c
theorem jV {t:TypeId} {n:Nat} {ps:Array (Nat×Operand)} {es:TypeId×Nat} (b:wI P t=some es) (e:n*es.2<=1000) (c:ps.toList.map (·.1)=List.range n) (g:∀p∈ps.toList,(qe ρ p.2).cells.size=es.2)
    (h:∀(B:Nat) (W:World),w.heap.size<=B->qc w W->Blk W B (ps.toList.flatMap fun p=>(qe ρ p.2).cells.toList).toArray es.1->W.heap.size=B+1->K (qn ρ d (.slice (some ⟨B,0,none⟩) n n)) W):qx P Q d (.buildSlice t n ps) ty K ρ w:=by
  show vt (wI P t) _;rw [b];exact ⟨e,c,g,h w.heap.size _ (j1 _) (QD w _) (qeg w _ _) (by simp)⟩
end
@[simp] theorem qK8 (w:World) (a:Addr):Eng.jG w a 0 2=(w.cell? (a.add 0)).bind fun x=>(w.cell? (a.add 1)).bind fun y=>some [x,y]:=by
  simp only [Eng.jG];cases w.cell? (a.add 0)<;>cases w.cell? (a.add 1)<;>simp
@[simp] theorem qK7 (w:World) (a:Addr):Eng.jG w a 0 3=(w.cell? (a.add 0)).bind fun x=>(w.cell? (a.add 1)).bind fun y=>(w.cell? (a.add 2)).bind fun z=>some [x,y,z]:=by
  simp only [Eng.jG];cases w.cell? (a.add 0)<;>cases w.cell? (a.add 1)<;>cases w.cell? (a.add 2)<;>simp
def qaC {v:Value} (h:qu v=true) (sz l r m:Nat) (u:l<=r) (p:r<=m) (k:m<=qy v):qu (qZ v sz l r m)=true:=by
  rcases xT h with ⟨b,o,n,c,rfl,t⟩|rfl|⟨b,o,s,rfl⟩
  rotate_left 2
  · simp only [qy] at k;have j:m=0:=by omega
    have i:l=0:=by omega
    have g:r=0:=by omega
    subst j;subst i;subst g;rfl
  · simp only [qZ];split
    · rename_i e;subst e;simp only [qu];simp;omega
    · simp only [Option.map_some,qu,kg];simp;omega
  · simp only [qy] at k;have j:m=0:=by omega
    have i:l=0:=by omega
    have g:r=0:=by omega
    subst j;subst i;subst g;rfl
@[simp] theorem qc9 {v:Value} (sz l r m:Nat) (h:qu v=true):ql (qZ v sz l r m)=r - l:=by
  rcases xT h with ⟨b,o,n,c,rfl,e⟩|rfl|⟨b,o,s,rfl⟩<;>simp [qZ,ql]
@[simp] theorem qK6 {v:Value} (sz l r m:Nat) (h:qu v=true):qy (qZ v sz l r m)=m - l:=by
  rcases xT h with ⟨b,o,n,c,rfl,e⟩|rfl|⟨b,o,s,rfl⟩<;>simp [qZ,qy]
def qda {v:Value} (sz l r m j:Nat) (h:qu v=true) (i:l<m) (e:qy v≠0):qQ (qZ v sz l r m) j=qQ v (l*sz+j):=by
  rcases xT h with ⟨b,o,n,c,rfl,g⟩|rfl|⟨b,o,s,rfl⟩
  rotate_left 2
  · simp [qy] at e
  · simp only [qZ];rw [if_neg (by omega)];simp [qQ,uN]
  · simp [qy] at e
def qjx {v:Value} (h:qu v=true):ql v<=qy v:=by
  rcases xT h with ⟨b,o,n,c,rfl,e⟩|rfl|⟨b,o,s,rfl⟩<;>simp [ql,qy];exact e
def Sl.sub {c:Type} {enc:c->Value} {w:World} {v:Value} {xs:List c} (h:Sl enc w v xs) {l r m:Nat} (j:l<=r) (n:r<=xs.length) (e:r<=m) (k:m<=qy v):
    Sl enc w (qZ v 1 l r m) ((xs.take r).drop l):=by
  have b:((xs.take r).drop l).length=r - l:=by simp;omega
  refine ⟨qaC h.is 1 l r m j e k,by rw [qc9 _ _ _ _ h.is,b],by have:=h.bd;omega,fun i g=>?_⟩;rw [b] at g;rw [qda 1 l r m i h.is (by omega) (by omega),y0,h.cell (l+i) (by omega)];simp
section
variable {cx:Cx} {K:qa->World->Prop} {Q:Ks} {ρ:qa} {w:World} {a:IR}
theorem vD (s n:Nat) (I:Nat->qa->World->Prop) (l:ρ s=.int .i64 0) (u:I 0 ρ w)
    (h:∀(k:Nat) (c:qa) (w':World),k<=n->c s=.int .i64 k->I k c w'->a.wp cx (fun b g=>k<n/\b s=.int .i64 ((k:Int)+1)/\I (k+1) b g) Q c w'):(IR.loop a).wp cx K Q ρ w:=by
  refine Q4 (fun c w'=>∃k:Nat,k<=n/\c s=.int .i64 k/\I k c w') (fun c _=>n - (RowKit.intOf (c s)).toNat) ⟨0,uz _,l,u⟩ ?_;rintro c w' ⟨k,t,m,o⟩;have:=h k c w' t m o;have e:(fun b g=>k<n/\b s=.int .i64 ((k:Int)+1)/\I (k+1) b g)=fun b g=>(k<n/\b s=.int .i64 ((k:Int)+1)/\I (k+1) b g):=rfl;refine IR.wp_mono this ?_ (fun _ _ _ h=>h) (fun _ _ h=>h) (fun _ _ _ h=>h) (fun h=>h) ⟨fun h=>h,fun h=>h⟩;rintro b g ⟨p,i,j⟩;exact ⟨⟨k+1,by omega,by rw [i];simp,j⟩,by rw [i,m];simp;omega⟩
end
@[simp] theorem qMC (a b:Nat):((a:Int)=(b:Int))↔a=b:=Int.ofNat_inj
@[simp] theorem qMB (n:Nat):((n:Int)<0)↔False:=⟨fun h=>by omega,fun h=>h.elim⟩
@[simp] theorem qMz (p n:Nat):((p:Int)+1<(n:Int))↔p+1<n:=by omega
@[simp] theorem qMA (p n:Nat):((p:Int)+1<=(n:Int))↔p+1<=n:=by omega
@[simp] theorem qMy (p:Nat):(0<=(p:Int)+1)↔True:=⟨fun _=>trivial,fun _=>by omega⟩
def qb (bs:List UInt8):ByteArray:=⟨bs.toArray⟩
@[simp] theorem qL8 (b:List UInt8):(qb b).data.toList=b:=rfl
def jC {a b:List UInt8}:qb a=qb b↔a=b:=⟨fun h=>by have:=congrArg (fun x=>x.data.toList) h;simpa using this,fun h=>by rw [h]⟩
@[simp] theorem qDB (b:List UInt8):(qb b).size=b.length:=rfl
def qal {w:World} {a:Addr}:∀{l:List Value} {i:Nat},(∀j (h:j<l.length),w.cell? (a.add (i+j))=some l[j])->jG w a i l.length=some l
  |[],_,_=>rfl
  | v :: l, i, h => by
    have b:=h 0 (by simp);have e:=qal (w:=w) (a:=a) (l:=l) (i:=i+1) fun j c=>by
      have:=h (j+1) (by simpa using c);simpa [uN,Nat.add_comm 1 j] using this
    simp only [List.length_cons,jG];simp only [Nat.add_zero,List.getElem_cons_zero] at b;simp [b,e]
theorem qJ0 (c:List UInt8):wc (c.map jn)=some (c.map fun b=>(b.toNat:Int)):=by
  induction c with
  |nil=>rfl
  |cons b c e=>simp [wc,jn,e]
def qJY (e:List UInt8):Jf (e.map fun b=>(b.toNat:Int))=qb e:=by
  have key:∀(e:List UInt8) (c:Array UInt8),(e.map fun b=>(b.toNat:Int)).foldl (fun (r:ByteArray) n=>r.push (UInt8.ofNat n.toNat)) ⟨c⟩=⟨c++e.toArray⟩:=by
    intro e
    induction e with
    |nil=>intro c;simp
    |cons b e i=>
      intro c;have g:(⟨c⟩:ByteArray).push (UInt8.ofNat ((b.toNat:Int)).toNat)=⟨c.push b⟩:=by simp [ByteArray.push]
      simp only [List.map_cons,List.foldl_cons];rw [g,i];simp
  have h:(ByteArray.empty:ByteArray)=⟨#[]⟩:=rfl;unfold Jf qb;rw [h,key e #[]];simp
def qg3 {w:World} {v:Value} {b:List UInt8} (h:Sl jn w v b):jd w .b2s v=some (.string (qb b)):=by
  have e:jG w (qQ v 0) 0 (ql v)=some (b.map jn):=by
    have:=qal (w:=w) (a:=qQ v 0) (l:=b.map jn) (i:=0) fun j c=>by
      simp only [qeT,ut];rw [h.cell j (by simpa using c)];simp
    rw [h.len];simpa using this
  show (if qu v=true then (jG w (qQ v 0) 0 (ql v)).bind fun l=>(wc l).map fun g=>Value.string (Jf g) else none)=_;rw [if_pos h.is,e];simp [qJ0,qJY]
def Sl.congr {b:Type} {enc:b->Value} {w:World} {v:Value} {xs ys:List b} (h:Sl enc w v xs) (e:xs=ys):Sl enc w v ys:=e▸h
end Go.Eng
namespace Go.Eng
open Go.RowKit
def ye (P:Program) (t:TypeId):Option (TypeId×Nat×Nat):=
  match P.underlying t with
  |some (.slice e)=>(P.info? e).bind fun i=>i.zero.bind fun z=>if z.cells.size=i.size/\0<i.size then some (e,i.size,i.bytes) else none
  |_=>none
def Own (base:Nat) (e sz:Nat) (w:World) (v:Value) (xs:List Value):Prop:=
  (v=.slice none 0 0/\xs=[])\/
  ∃g off n cap cur,v=.slice (some ⟨g,off,none⟩) n cap/\base<=g/\w.heap[g]? =some (.cells cur e (0,0))/\xs.length=n*sz/\n<=cap/\cap<=maxLen/\off+cap*sz<=cur.size/\(cur.toList.drop off).take (n*sz)=xs
def Own.nil (base e sz:Nat) (w:World):Own base e sz w (.slice none 0 0) []:=.inl ⟨rfl,rfl⟩
def Own.blk {base e sz:Nat} {w:World} {v:Value} {xs:List Value} (h:Own base e sz w v xs):∀k,v.ownBlock=some k->base<=k/\k<w.heap.size:=by
  intro k b;rcases h with ⟨rfl,_⟩|⟨g,off,n,cap,cur,rfl,c,i,_⟩
  · simp [Value.ownBlock] at b
  · simp [Value.ownBlock] at b;subst b;exact ⟨c,(uq.1 i).1⟩
def Own.ext {base e sz:Nat} {w w':World} {v:Value} {xs:List Value} (h:Own base e sz w v xs) (i:qc w w'):Own base e sz w' v xs:=by
  rcases h with h|⟨g,off,n,cap,cur,rfl,c,b,r⟩
  · exact .inl h
  · exact .inr ⟨g,off,n,cap,cur,rfl,c,(i.block g (uq.1 b).1).trans b,r⟩
def Own.kept {base e sz:Nat} {w w':World} {v:Value} {xs:List Value} {row:Option Nat} (h:Own base e sz w v xs) (c:w.grownBy w' row) (b:v.ownBlock=none\/v.ownBlock≠row):Own base e sz w' v xs:=by
  rcases h with h|⟨g,off,n,cap,cur,rfl,j,i,r⟩
  · exact .inl h
  · refine .inr ⟨g,off,n,cap,cur,rfl,j, ?_,r⟩;rw [c.block g (uq.1 i).1 (by simpa [Value.ownBlock] using b)];exact i
def Own.only {base e sz:Nat} {w w':World} {v:Value} {xs:List Value} {B:Nat} (h:Own base e sz w v xs) (i:Only B w w') (j:B<base):Own base e sz w' v xs:=by
  rcases h with h|⟨g,off,n,cap,cur,rfl,b,c,r⟩
  · exact .inl h
  · exact .inr ⟨g,off,n,cap,cur,rfl,b,(i.block g (by omega)).trans c,r⟩
def Own.lit {base e sz:Nat} {W:World} {B n:Nat} {cs:List Value} (h:Blk W B cs.toArray e) (b:cs.length=n*sz) (c:base<=B) (g:n<=maxLen):Own base e sz W (.slice (some ⟨B,0,none⟩) n n) cs:=
  .inr ⟨B,0,n,n,cs.toArray,rfl,c,h.heap,b,j1 _,g,by simpa using Nat.le_of_eq b.symm,by simp [<-b]⟩
def Own.sl {l:Type} {enc:l->Value} {base e:Nat} {w:World} {v:Value} {xs:List l} (h:Own base e 1 w v (xs.map enc)) (b:xs.length<4611686018427387904):Sl enc w v xs:=by
  rcases h with ⟨rfl,c⟩|⟨g,off,n,cap,cur,rfl,u,t,m,p,_,x,o⟩
  · have:xs=[]:=by simpa using c
    subst this;exact Sl.nil enc w
  · have j:n=xs.length:=by simpa using m.symm
    refine ⟨by simp [qu,p],by simp [ql,j],b,fun i s=>?_⟩;have k:((cur.toList.drop off).take (n*1))[i]? =(xs.map enc)[i]? :=by rw [o]
    rw [JU,if_pos (by omega),Jm] at k;simp only [qQ,World.cell?,t];simpa [s] using k
def Own.drop {base e:Nat} {w:World} {v:Value} {xs:List Value} (h:Own base e 1 w v xs) (l:Nat) (k:l<=xs.length):Own base e 1 w (qZ v 1 l (ql v) (qy v)) (xs.drop l):=by
  rcases h with ⟨rfl,rfl⟩|⟨g,off,n,cap,cur,rfl,c,j,i,s,t,p,m⟩
  · have:l=0:=by simpa using k
    subst this;exact .inl ⟨by simp [qZ,ql,qy],rfl⟩
  · have o:n=xs.length:=by omega
    have es:qZ (.slice (some ⟨g,off,none⟩) n cap) 1 l (ql (.slice (some ⟨g,off,none⟩) n cap)) (qy (.slice (some ⟨g,off,none⟩) n cap))=.slice (some ⟨g,if cap=l then off else off+l,none⟩) (n - l) (cap - l):=by
      simp [qZ,ql,qy];split<;>simp
    rw [es];by_cases b:cap=l
    · have:xs.drop l=[]:=uY (by omega);rw [this,if_pos b];exact .inr ⟨g,off,n - l,cap - l,cur,rfl,c,j,by simp;omega,by omega,by omega,by omega,by rw [show (n - l)*1=0 by omega];simp⟩
    · rw [if_neg b];refine .inr ⟨g,off+l,n - l,cap - l,cur,rfl,c,j,by simp;omega,by omega,by omega,by omega, ?_⟩;rw [<-m,List.drop_take,JH];congr 1;omega
def Sl.kept {g:Type} {enc:g->Value} {w w':World} {v:Value} {xs:List g} {row:Option Nat} (h:Sl enc w v xs) (l:w.grownBy w' row) (e:v.ownBlock=none\/v.ownBlock≠row):Sl enc w' v xs:=by
  refine ⟨h.is,h.len,h.bd,fun i k=>?_⟩;have j:=h.cell i k;rcases xT h.is with ⟨b,o,n,c,rfl,_⟩|rfl|⟨b,o,s,rfl⟩
  rotate_left 2
  · have:=h.len;simp [ql] at this;omega
  · exact l.cell j (by simpa [Value.ownBlock,qQ] using e)
  · have:=h.len;simp [ql] at this;omega
structure Cells (w:World) (v:Value) (sz:Nat) (xs:List Value):Prop where
  is:qu v=true
  len:xs.length=ql v*sz
  cell:∀(j:Nat) (h:j<xs.length),w.cell? (qQ v j)=some xs[j]
def Sl.cells {b:Type} {enc:b->Value} {w:World} {v:Value} {xs:List b} (h:Sl enc w v xs):Cells w v 1 (xs.map enc):=
  ⟨h.is,by simp [h.len],fun j c=>by rw [h.cell j (by simpa using c)];simp⟩
def Blk.cells {w:World} {B n sz:Nat} {cs:List Value} {t:TypeId} (h:Blk w B cs.toArray t) (b:cs.length=n*sz):Cells w (.slice (some ⟨B,0,none⟩) n n) sz cs:=
  ⟨by simp [qu],by simp [ql,b],fun j c=>by simp only [qQ];rw [h.cell];simp⟩
section
variable {P:Program} {Q:Ks} {d:Option Nat} {ty:TypeId} {K:qa->World->Prop} {ρ:qa} {w:World}
theorem qh2 {B o:Nat} {K:World->Prop}:∀(vs:List Value) (i:Nat) (w:World),yx ⟨B,0,none⟩ vs (o+i) K w->yx ⟨B,o,none⟩ vs i K w
  |[],_,_,h=>h
  |v::vs,i,w,h=>by
    obtain ⟨b,c,g,e⟩:=h;simp only [kg,ut] at b c e;refine ⟨by simpa using b,by simpa using c,g, ?_⟩;simp only [kg];exact qh2 vs (i+1) _ (by simpa [uN] using e)
theorem qe4 {t e sz bytes : Nat} (hi : ye P t = some (e, sz, bytes)) {base : Nat} {v xv : Value} {xs news : List Value} (A : Own base e sz w v xs) (J : Cells w xv sz news) (h1 : ∀ u ∈ news, u.oneCell' = true)
    (hlen:xs.length+news.length<4611686018427387904) (E:(xs.length+news.length)*bytes<=140737488355328*sz) (U:base<=w.heap.size):
    ∃v' W,(Builtin.append_ #[t,t] ty #[v,xv]).run P w=.ok v' W/\Own base e sz W v' (xs++news)/\w.grownBy W v.ownBlock/\(v'.ownBlock=v.ownBlock\/v'.ownBlock=some w.heap.size):=by
  unfold ye at hi;split at hi
  · rename_i e' x;simp only [uc] at hi;obtain ⟨i,y,z,hz,hc⟩:=hi;split at hc
    · rename_i Y;cases hc;obtain ⟨Y,S⟩:=Y;have h:=J.len
      have grown:∀(n m old:Nat),xs.length=n*i.size->news.length=m*i.size->n+m<=maxLen->∀(row:Option Nat),
          Own base e i.size (w.drew.alloc (.cells (xs.toArray++news.toArray++Builtin.zeroCells z.cells (grownCap w (n+m) old e - (n+m))) e)) (.slice (some ⟨w.heap.size,0,none⟩) (n+m) (grownCap w (n+m) old e)) (xs++news)/\
          w.grownBy (w.drew.alloc (.cells (xs.toArray++news.toArray++Builtin.zeroCells z.cells (grownCap w (n+m) old e - (n+m))) e)) row:=by
        intro n m old H hm h63 row;have hge:=grownCap_ge w (n+m) old e;have L:grownCap w (n+m) old e<=maxLen:=grownCap_le_maxLen w (n+m) old e h63;have hl:(xs++news).length=(n+m)*i.size:=by rw [kh,H,hm,uX]
        refine ⟨.inr ⟨w.heap.size,0,_,_,_,rfl,U,heap_alloc_new w.drew _,hl,hge,L, ?_, ?_⟩,⟨rfl,rfl,rfl,by simp,fun k hk _=>heap_alloc_old w.drew _ k hk⟩⟩
        · simp only [Array.size_append,List.size_toArray,size_zeroCells,Y,H,hm,<-uX,ut];refine Nat.le_of_eq ?_;congr 1;omega
        · simp only [Array.toList_append,uB,List.drop_zero];rw [<-uB,<-hl];exact Vl
      have s:∀n:Nat,xs.length=n*i.size->n+ql xv<=maxLen/\(n+ql xv)*i.bytes<=140737488355328:=by
        intro n H;have h2:(n+ql xv)*i.size=xs.length+news.length:=by rw [H,h,uX]
        have h3:n+ql xv<=(n+ql xv)*i.size:=Nat.le_mul_of_pos_right _ S;refine ⟨by simp only [maxLen];omega, ?_⟩;rw [<-h2,Nat.mul_right_comm] at E;exact VS E S
      rcases xT J.is with ⟨b,o,m,c,rfl,hmc⟩|rfl|⟨b,o,sp,rfl⟩
      rotate_left 2
      · have I:news=[]:=uU.1 (by simpa [ql] using h);subst I;refine ⟨v,w, ?_,by simpa using A,⟨rfl,rfl,rfl,j1 _,fun _ _ _=>rfl⟩,.inl rfl⟩;rcases A with ⟨rfl,rfl⟩|⟨g,off,n,cap,cur,rfl,X,hg,H,R,L,aa,p⟩
        · simp [Builtin.append_,run_underlying x,sizeOf,typeInfo,y,Builtin.lenOf,Builtin.firstCells,loadCells,loadCellsFrom]
        · simp [Builtin.append_,run_underlying x,sizeOf,typeInfo,y,Builtin.lenOf,Builtin.firstCells,R,storeCells,loadCells,loadCellsFrom]
      · have C:∀j u,news[j]? =some u->w.cell? ((⟨b,o,none⟩:Addr).add j)=some u:=fun j u x=>by
          obtain ⟨hj,rfl⟩:=Jv.1 x;have:=J.cell j hj;simpa [qQ] using this
        simp only [ql] at h s;rcases A with ⟨rfl,rfl⟩|⟨g,off,n,cap,cur,rfl,X,hg,H,R,L,aa,p⟩
        · obtain ⟨O,V⟩:=s 0 (by simp);by_cases hm:m=0
          · subst hm;have hnn:news=[]:=List.eq_nil_of_length_eq_zero (by simpa using h);subst hnn;refine ⟨.slice none 0 0,w, ?_,Own.nil _ _ _ _,⟨rfl,rfl,rfl,j1 _,fun _ _ _=>rfl⟩,.inl rfl⟩;simp [Builtin.append_,run_underlying x,sizeOf,typeInfo,y,Builtin.lenOf,Builtin.firstCells,loadCells,loadCellsFrom]
          · simp only [maxLen] at O;simp only [ut] at O V;have hr:=run_append_nil (P:=P) w t ty e i z x y hz ⟨b,o,none⟩ m c news h C (by omega) (by omega) (by omega);have F:=grown 0 m 0 (by simp) h (by simp only [maxLen];omega) (Value.ownBlock (.slice none 0 0));simp only [ut,List.nil_append,Array.empty_append] at F⊢;exact ⟨_,_,hr,F.1,F.2,.inr rfl⟩
        · obtain ⟨O,V⟩:=s n H;by_cases B:n+m<=cap
          · have hmul:(n+m)*i.size<=cap*i.size:=Vn _ B;rw [uX,<-h] at hmul;have hb:Blk w g cur e:=⟨hg⟩;have Z:∀u∈news,u.oneCell=true:=fun u x=>by have:=h1 u x;cases u<;>first|rfl|exact this
            obtain ⟨W,hW,l,hBlk⟩:=qir (P:=P) ⟨g,off+n*i.size,none⟩ news 0
              (fun W=>Only g w W/\Blk W g (cur.toList.take (off+n*i.size+0)++news++cur.toList.drop (off+n*i.size+0+news.length)).toArray e) w
              (qh2 news 0 w (qc5 news (off+n*i.size+0) w cur hb (by omega) Z fun W hO hB=>⟨hO,hB⟩))
            refine ⟨.slice (some ⟨g,off,none⟩) (n+m) cap,W, ?_,.inr ⟨g,off,n+m,cap,_,rfl,X,hBlk.heap,by rw [kh,H,h,uX],B,L, ?_, ?_⟩, ?_,.inl rfl⟩
            · have hf:=run_firstCells_some (P:=P) w i.size m ⟨b,o,none⟩ m c news h C;simp [Builtin.append_,run_underlying x,sizeOf,typeInfo,y,Builtin.lenOf,B,hf,hW]
            · simp;omega
            · have e0:off+n*i.size<=cur.toList.length:=by rw [Array.length_toList];omega
              have e1:(cur.toList.take (off+n*i.size)).drop off=xs:=by
                rw [List.drop_take,<-p];congr 1;omega
              simp only [Nat.add_zero];rw [uB,List.drop_append_of_le_length (by rw [uF];omega),e1,<-uB,uX,<-h,<-H,<-kh];exact Vl
            · exact ⟨l.os,l.tape,l.output,by rw [l.size];exact j1 _,fun k _ hk=>l.block k (fun e=>hk (by simp [Value.ownBlock,e]))⟩
          · have holds:∀j u,xs[j]? =some u->w.cell? ((⟨g,off,none⟩:Addr).add j)=some u:=by
              intro j u x;rw [<-p,JU] at x;split at x
              · rw [Jm] at x;rw [kg,(⟨hg⟩:Blk w g cur e).cell];simpa using x
              · cases x
            simp only [maxLen] at O;have hr:=run_append_grow (P:=P) w t ty e i z x y hz ⟨g,off,none⟩ n cap xs H holds ⟨b,o,none⟩ m c news h C (by omega) (by omega) (growslice_fits (by omega) V);have F:=grown n m cap H h (by simp only [maxLen];omega) (Value.ownBlock (.slice (some ⟨g,off,none⟩) n cap));exact ⟨_,_,hr,F.1,F.2,.inr rfl⟩
      · have I:news=[]:=uU.1 (by simpa [ql] using h);subst I;refine ⟨v,w, ?_,by simpa using A,⟨rfl,rfl,rfl,j1 _,fun _ _ _=>rfl⟩,.inl rfl⟩;rcases A with ⟨rfl,rfl⟩|⟨g,off,n,cap,cur,rfl,X,hg,H,R,L,aa,p⟩
        · simp [Builtin.append_,run_underlying x,sizeOf,typeInfo,y,Builtin.lenOf,Builtin.firstCells]
        · simp [Builtin.append_,run_underlying x,sizeOf,typeInfo,y,Builtin.lenOf,Builtin.firstCells,R,storeCells]
    · cases hc
  · cases hi
theorem qbz {t e sz bytes:Nat} (y:ye P t=some (e,sz,bytes)) {W0:World} (l:qc W0 w) {s x:Operand} {sv xv:Value} (p:qe ρ s=sv) (B:qe ρ x=xv) {xs news:List Value}
    (c:Own W0.heap.size e sz w sv xs) (j:Cells w xv sz news) (z:∀u∈news,u.oneCell'=true)
    (i:xs.length+news.length<4611686018427387904) (b:(xs.length+news.length)*bytes<=140737488355328*sz)
    (h:∀g W,qc W0 W->Own W0.heap.size e sz W g (xs++news)->w.grownBy W sv.ownBlock->(g.ownBlock=sv.ownBlock\/g.ownBlock=some w.heap.size)->K (qn ρ d g) W):qx P Q d (.call {callee:=.builtin .append,args:=#[s,x],argTypes:=#[t,t]}) ty K ρ w:=by
  subst p;subst B;obtain ⟨g,W,o,C,n,m⟩:=qe4 (P:=P) (ty:=ty) y c j z i b l.size;refine jQ (v:=g) (w':=W) ?_ (h g W ?_ C n m)
  · simp only [execOp,qN,resolve,invoke,builtin,Sem.run_bind,Sem.run_pure,Result.andThen_ok,List.map_toArray,List.map_cons,List.map_nil,o]
  · exact l.grown n l.size fun k A=>(c.blk k A).1
end
end Go.Eng
