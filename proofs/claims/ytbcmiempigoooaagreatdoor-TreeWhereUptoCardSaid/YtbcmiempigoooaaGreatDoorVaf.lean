/- Lemmas for a claim about layer 2 (tree). No conditions but those they state. -/
import Derived.Test.YtbcmiempigoooaaGreatDoorVae
import Derived.OrdersHeld
import Derived.StillTail
set_option linter.all false
namespace Go.Eng
open Go.RowKit
inductive OT where
  |done
  |take (g:Option (Nat×Bool)) (d:Nat) (e:Ex) (t:OT)
  |step (s:St) (b:Bool) (t:OT)
  |both (x y:OT)
def OT.wp (P:Program) (Q:Ks) (S:AA->Prop) (K:qa->AA->Prop):OT->qa->AA->Prop
  | .done,ρ,w=>K ρ w
  | .take g d e t,ρ,w=>if gd ρ g then xD (e.ev ρ w) (fun v=>(∀w',S w'->e.ev ρ w'=some v)/\t.wp P Q S K (qx ρ d v) w) else t.wp P Q S K (qx ρ d undef) w
  | .step s b t,ρ,w=>s.wp P Q (fun ρ' w'=>(b=true->S w')/\t.wp P Q S K ρ' w') ρ w
  | .both x y,ρ,w=>x.wp P Q S K ρ w/\y.wp P Q S K ρ w
def OT.takes:OT->List Nat
  | .done=>[]
  | .take _ d _ t=>d::t.takes
  | .step _ _ t=>t.takes
  | .both x y=>x.takes++y.takes
section
variable (P:Program) (ops:Array Oper) (V:List Nat)
def qaW (i : Nat) : Option (Option (Nat × Bool) × Nat × Ex) :=
  match ops[i]? with
  |none=>none
  |some o=>match px P ops V (i+1) i,o.dst with
    |some (e,j),some d=>if V.contains d&&decide (j=i) then (tg ops V o.guard i).map fun g=>(g,d,e) else none
    |_,_=>none
def QM (i : Nat) : Option St :=
  match qaW P ops V i with
  |some (g,d,e)=>some (.asg g d e)
  |none=>match ops[i]? with
    |none=>none
    |some o=>if qaT V o then (tg ops V o.guard i).map fun g=> .eff g o.dst o.op o.type else none
def yN : List (Option OT) -> Option OT
  |[]=>none
  |[x]=>x
  |x::y::l=>match x,yN (y::l) with
    |some a,some b=>some (.both a b)
    |_,_=>none
def qca (n : Nat) : Nat -> Bool -> Array Bool -> Option OT
  |0,_,listed=>if (Region.ready .any ops listed).isEmpty then some .done else none
  | f + 1, hd, listed =>
    if (Region.ready .any ops listed).isEmpty then some .done else
    match (if hd then (Region.ready .any ops listed).find? (fun i=>decide (i<n)&&Region.free .any ops listed i&&(qaW P ops V i).isSome) else none) with
    |some i=>match qaW P ops V i with
      |some (g,d,e)=>(qca n f hd (listed.setIfInBounds i true)).map (.take g d e)
      |none=>none
    |none=>yN ((Region.ready .any ops listed).map fun i=>match QM P ops V i with
      |some s=>(qca n f (hd&&decide (i<n)) (listed.setIfInBounds i true)).map (.step s (decide (i<n)))
      |none=>none)
end
def jx (P : Program) (nt : Nat) (V : List Nat) (n : Nat) : Code -> Option OT
  | .region _ ops true=>
    if qbd ops nt&&Region.noSelect ops&&P.follows .mixedOrders&&(decide (n=ops.size)||(decide (n<ops.size)&&Region.sinkB .any ops n&&Region.chainB .any ops n)) then qca P ops V n ops.size true (Array.replicate ops.size false) else none
  |_=>none
section
variable {P:Program} {ops:Array Oper} {Q:Exit->Act->AA->Prop} {md:Region.Mode} {S:AA->Prop} {n:Nat}
def qaf (P : Program) (md : Region.Mode) (ops : Array Oper) (Q : Exit -> Act -> AA -> Prop) (S : AA -> Prop) (n : Nat) : Nat -> Array Bool -> Act -> AA -> Prop
  |0,listed,a,w=>Region.ready md ops listed=[]/\Q .normal a w
  |f+1,listed,a,w=>(Region.ready md ops listed=[]->Q .normal a w)/\
    ∀i∈Region.ready md ops listed,wpOp P ops Q i (fun a' w'=>(i<n->S w')/\qaf P md ops Q S n f (listed.setIfInBounds i true) a' w') a w
theorem qgM:∀(f:Nat) (listed:Array Bool) (a:Act) (w:AA),qaf P md ops Q S n f listed a w->wpAny P md ops Q f listed a w
  |0,_,_,_,h=>h
  |f+1,_,_,_,h=>⟨h.1,fun i c=>wpOp_mono (fun b w' e=>qgM f _ b w' e.2) (h.2 i c)⟩
theorem qlu {i : Nat} {A : Oper} {v : AB} (Z : ops[i]? = some A) (y : ∀ (j : Nat) (o : Oper) cs b, ops[j]? = some o -> o.op ≠ .select cs b)
    (hn:n=ops.size\/(n<ops.size/\Region.sinkB md ops n=true/\Region.chainB md ops n=true)) (hin:i<n)
    (hQ:∀c a w,Q (.panic c) (a.put A.dst v) w->Q (.panic c) a w):
    ∀(f:Nat) (listed:Array Bool) (a:Act) (w:AA),HeadInv md ops n listed->
      (∀j x,ops[j]? =some x->j≠i->listed.getD j true=false->(∀e∈x.after,Region.binds md e=true->e.on≠i)->A.apart ops x=true)->
      i∈Region.ready md ops listed->YieldsIf P ops S A v a->S w->
      qaf P md ops Q S n f (listed.setIfInBounds i true) (a.put A.dst v) w->qaf P md ops Q S n (f+1) listed a w:=by
  have C:∀{listed:Array Bool},HeadInv md ops n listed->i∈Region.ready md ops listed->∀j,j∈Region.ready md ops listed->j<n:=by
    intro listed m q j t;rcases hn with rfl|⟨U,hs,hc⟩
    · obtain ⟨_,x,p,_⟩:=mem_ready.1 t;exact (ul.1 p).1
    · rcases JA j n with h|h
      · exact h
      · exact absurd t (tail_waits hs hc U m _ i rfl hin (mem_ready.1 q).1 j h)
  intro f
  induction f with
  |zero=>
    intro listed a w m _ q O E H;refine ⟨fun h=>(by rw [h] at q;cases q),fun j t=>?_⟩;by_cases g:j=i
    · subst g;exact O.wpOp Z E ⟨fun _=>E,H⟩
    · have:=ready_mono t g;rw [H.1] at this;cases this
  |succ f ih=>
    intro listed a w m l q O E H;refine ⟨fun h=>(by rw [h] at q;cases q),fun j t=>?_⟩;by_cases g:j=i
    · subst g;exact O.wpOp Z E ⟨fun _=>E,H⟩
    · have R:=H.2 j (ready_mono t g);have F:=C m q j t;obtain ⟨z,x,p,B⟩:=mem_ready.1 t;have W:=(mem_ready.1 q).1;have I:∀e∈x.after,Region.binds md e=true->e.on≠i:=fun e he hb X=>by
        have R:=B e he hb;rw [X,getD_both W] at R;cases R
      have h2:=wpOp_putIf p (l j x p g z I) (fun cs b=>y i A cs b Z) (fun cs b=>y j x cs b p) hQ O R
      have s:∀k ok,ops[k]? =some ok->k≠i->(listed.setIfInBounds j true).getD k true=false->
          (∀e∈ok.after,Region.binds md e=true->e.on≠i)->A.apart ops ok=true:=fun k ok hk aa u Y=>by
        refine l k ok hk aa ?_ Y;by_cases J:j=k
        · subst J;exact z
        · rw [getD_set_ne true J] at u;exact u
      refine wpOp_mono (fun a' w' L=>⟨L.2.1,ih (listed.setIfInBounds j true) a' w' (m.set t F) s (ready_mono q (ub g)) L.1 (L.2.1 F) ?_⟩) h2;rw [Array.setIfInBounds_comm _ _ g];exact L.2.2
end
section
variable {ops:Array Oper} {cx:Cx}
theorem qJX {P : Program} {V : List Nat} {i : Nat} {g : Option (Nat × Bool)} {d : Nat} {e : Ex} (h : qaW P ops V i = some (g, d, e)) :
    ∃o,ops[i]? =some o/\px P ops V (i+1) i=some (e,i)/\o.dst=some d/\d∈V/\tg ops V o.guard i=some g:=by
  unfold qaW at h;split at h
  · cases h
  · rename_i o m;split at h
    · rename_i s j t a k;split at h
      · rename_i b;simp only [km,ue] at b;obtain ⟨l,rfl⟩:=b;simp only [uc] at h;obtain ⟨q,c,p⟩:=h;cases p;exact ⟨o,m,a,k,by simpa using l,c⟩
      · cases h
    · cases h
theorem qgw (q:Region1 cx.n ops) {i:Nat} {g:Option (Nat×Bool)} {d:Nat} {e:Ex} (h:qaW cx.P ops cx.V i=some (g,d,e)) {ρ:qa} {a:Act} (m:Agree cx.n cx.V ρ a) {S:AA->Prop} {v:AB}
    (l:if gd ρ g then (∀w',S w'->e.ev ρ w'=some v) else v=undef):∃o,ops[i]? =some o/\o.dst=some d/\d∈cx.V/\YieldsIf cx.P ops S o v a:=by
  obtain ⟨o,j,s,k,F,A⟩:=qJX h;refine ⟨o,j,k,F, ?_⟩;obtain ⟨c,_⟩:=qco m A;have E:=qeR q _ _ _ _ s;by_cases b:gd ρ g=true
  · rw [j0 b] at l;refine .inl ⟨by rw [qag,c];exact b,fun w' I=>?_⟩;have t:=E.yes o j ρ w' a v m (by rw [c];exact b) (l w' I) (fun y=>y.tmps[d]? =some v) fun y _ p=>p d k;rw [show i+1 - i=1 by omega] at t;simp only [List.range'_one,PS,j,qag,c,b,wh] at t;obtain ⟨H,C,u⟩:=t;have z:=qaU q j m.size d k;have:=qbg (a:=a) (o:=o) (v:=H) (fun x B=>qaU q j m.size x B) d k;rw [this] at u;cases u;exact C w' (jd _)
  · rw [q3 b] at l;exact .inr ⟨by rw [qag,c];simpa using b,l⟩
theorem qhp (U : Region1 cx.n ops) {K0 : qa -> AA -> Prop} {Q : Ks} {i : Nat} {s : St} (h : QM cx.P ops cx.V i = some s) {K : qa -> AA -> Prop} {ρ : qa} {a : Act} {w : AA} (m : Agree cx.n cx.V ρ a) (z : vy cx a) (H : ¬ Q.rd) (R : Q.df -> cx.D ≠ [])
    (k:s.wp cx.P Q K ρ w):wpOp cx.P ops (ku cx K0 Q) i (fun W w'=>vy cx W/\∃p,Agree cx.n cx.V p W/\K p w') a w:=by
  unfold QM at h;split at h
  · rename_i g d e u;cases h;simp only [St.wp] at k;by_cases j:gd ρ g=true
    · simp only [j,wh,xD] at k;cases y:e.ev ρ w with
      |none=>simp only [y] at k
      |some v=>
        simp only [y] at k;obtain ⟨o,B,F,I,L⟩:=qgw U u m (S:=fun w'=>w'=w) (v:=v) (by rw [j0 j];rintro _ rfl;exact y);refine L.wpOp B rfl ?_;rw [F];exact ⟨fun e=>(yA _ _ _).trans (z e),_,m.put I v,k⟩
    · simp only [j] at k;obtain ⟨o,B,F,I,L⟩:=qgw U u m (S:=fun w'=>w'=w) (v:=undef) (by rw [q3 j]);refine L.wpOp B rfl ?_;rw [F];exact ⟨fun e=>(yA _ _ _).trans (z e),_,m.put I undef,by simpa using k⟩
  · split at h
    · cases h
    · rename_i o B;split at h
      · rename_i C;simp only [uc] at h;obtain ⟨g,X,rfl⟩:=h;obtain ⟨A,_⟩:=qco m X;have q:=qkt C;have O:=qkj m C;simp only [wpOp,B,qag];simp only [St.wp] at k;by_cases j:gd ρ g=true
        · simp only [j,wh] at k;have l:vx ops o.guard a=true:=by rw [A];exact j
          simp only [l,wh];have b:=qvK k;unfold vD at b;have t:∀v E,K (qp ρ o.dst v) E->vy cx (a.put o.dst v)/\∃p,Agree cx.n cx.V p (a.put o.dst v)/\K p E:=
            fun v E Y=>⟨fun e=>(yA _ _ _).trans (z e),_,m.putO q v,Y⟩
          refine .inl ?_;simp only [Oper.wp,O];generalize (execOp (qd ρ) (qR o.dst o.op o.type)).run cx.P w=r at b;cases r with
          |ok x w'=>
            cases x<;>simp only [QA,Oper.upon] at b⊢ <;>first|exact t _ _ b|(cases b;done)|(exact absurd b.1 H)|skip
            · refine b.mono fun e E J=>?_;cases e with
              |returned v=>exact t _ _ J
              |panicked c=>exact ⟨z,ρ,m,J⟩
              |outgrown=>exact qfg J
            · exact ⟨fun e=>absurd e (R b.1),_,(m.defer _).putO q undef,b.2⟩
          |halt x w'=>
            cases x<;>simp only [QA,Oper.upon] at b⊢ <;>first|(cases b;done)|exact ⟨z,ρ,m,b⟩
        · simp only [j] at k;have l:vx ops o.guard a=false:=by rw [A];simpa using j
          simp only [l,uk,ud];exact ⟨fun e=>(yA _ _ _).trans (z e),_,m.putO q undef,by simpa using k⟩
      · cases h
theorem qkP {P:Program} {Q:Ks} {S:AA->Prop} {K:qa->AA->Prop} {ρ:qa} {w:AA}:∀{l:List (Option OT)} {t:OT},yN l=some t->t.wp P Q S K ρ w->∀x∈l,∃g,x=some g/\g.wp P Q S K ρ w
  |[],_,h,_,_,_=>by simp [yN] at h
  |[x],t,h,e,y,c=>by
    simp only [yN] at h;rw [uu] at c;subst c;exact ⟨t,h,e⟩
  | x :: z :: l, t, h, e, y, c => by
    simp only [yN] at h;split at h
    · rename_i a b i;cases h;rcases ug.1 c with rfl|c
      · exact ⟨a,rfl,e.1⟩
      · exact qkP i e.2 y c
    · cases h
theorem qkQ:∀{l:List (Option OT)} {t:OT},yN l=some t->∀(e:OT),some e∈l->∀d∈e.takes,d∈t.takes
  |[],_,h,_,_,_,_=>by simp [yN] at h
  |[x],t,h,e,c,d,g=>by
    simp only [yN] at h;rw [uu] at c;subst c;cases h;exact g
  | x :: z :: l, t, h, e, c, d, g => by
    simp only [yN] at h;split at h
    · rename_i a b j;cases h;rcases ug.1 c with i|c
      · cases i;exact J7 _ g
      · exact List.mem_append_right _ (qkQ j e c d g)
    · cases h
theorem qof {Q:Ks} {K:qa->AA->Prop} {o:Oper} {d:Nat} {v:AB} (i:o.dst=some d) (l:d∈cx.V) (hpn:∀ρ v c w,Q.pn (qx ρ d v) c w->Q.pn ρ c w) (c:List PanicEntry) (a:Act) (w:AA)
    (h:ku cx K Q (.panic c) (a.put o.dst v) w):ku cx K Q (.panic c) a w:=by
  obtain ⟨q,ρ,b,k⟩:=h;have g:a.tmps.size=cx.n:=by have:=b.size;rw [i] at this;simpa [Act.put] using this
  have j:Agree cx.n cx.V (wr cx.V a) a:=⟨g,rfl,b.lt,b.big⟩;have m:=j.put l v;rw [i] at b;have p:ρ=qx (wr cx.V a) d v:=b.env.trans m.env.symm;subst p;exact ⟨fun e=>(yA a o.dst v).symm.trans (q e),_,j,hpn _ _ _ _ k⟩
theorem qio (X : Region1 cx.n ops) (m : Region.noSelect ops = true) {n : Nat} (hn : n = ops.size \/ (n < ops.size /\ Region.sinkB .any ops n = true /\ Region.chainB .any ops n = true)) {S : AA -> Prop} {K : qa -> AA -> Prop} {Q : Ks} (A : ¬ Q.rd) (C : Q.df -> cx.D ≠ []) :
    ∀(f:Nat) (E:Bool) (listed:Array Bool) (t:OT),qca cx.P ops cx.V n f E listed=some t->(∀d∈t.takes,∀ρ v c w,Q.pn (qx ρ d v) c w->Q.pn ρ c w)->(E=true->HeadInv .any ops n listed)->∀(ρ:qa) (a:Act) (w:AA),Agree cx.n cx.V ρ a->vy cx a->(E=true->S w)->
      t.wp cx.P Q S K ρ w->qaf cx.P .any ops (ku cx K Q) S n f listed a w
  |0,E,listed,t,h,_,_,ρ,a,w,F,L,_,j=>by
    simp only [qca] at h;split at h
    · rename_i W;cases h;exact ⟨by simpa using W,L,ρ,F,j⟩
    · cases h
  | f + 1, E, listed, t, h, hpn, l, ρ, a, w, F, L, hS, j => by
    simp only [qca] at h;split at h
    · rename_i W;cases h;have z:Region.ready .any ops listed=[]:=by simpa using W
      exact ⟨fun _=>⟨L,ρ,F,j⟩,by rw [z];simp⟩
    · rename_i W;have z:Region.ready .any ops listed≠[]:=by simpa using W
      split at h
      · rename_i i y;split at y
        · rename_i O;have u:=J9 y;have p:=List.find?_some y;simp only [km,ue] at p;obtain ⟨⟨hin,B⟩,_⟩:=p;split at h
          · rename_i g d e U;simp only [uc] at h;obtain ⟨t',b,rfl⟩:=h;simp only [OT.wp] at j;have key:∀v,(if gd ρ g then (∀w',S w'->e.ev ρ w'=some v) else v=undef)->t'.wp cx.P Q S K (qx ρ d v) w->qaf cx.P .any ops (ku cx K Q) S n (f+1) listed a w:=by
              intro v hv hk;obtain ⟨o,ho,H,hV,hy⟩:=qgw X U F hv;refine qlu ho (Region.noSelect_spec m) hn hin (fun c a w k=>?_) f listed a w (l O) (Region.free_spec ho B) u hy (hS O) ?_
              · exact qof H hV (hpn d (by simp [OT.takes])) c a w k
              · rw [H];exact qio X m hn A C f E _ t' b (fun x Z=>hpn x (by simp [OT.takes,Z])) (fun k=>(l k).set u hin) _ _ w (F.put hV v) (fun e=>(yA _ _ _).trans (L e)) hS hk
            by_cases q:gd ρ g=true
            · rw [j0 q] at j;unfold xD at j;split at j
              · obtain ⟨k,h2⟩:=j;exact key _ (by rw [j0 q];exact k) h2
              · cases j
            · rw [q3 q] at j;exact key undef (by rw [q3 q]) j
          · cases h
        · cases y
      · refine ⟨fun h0=>absurd h0 z,fun i y=>?_⟩;obtain ⟨t',b,R⟩:=qkP h j _ (uw.2 ⟨i,y,rfl⟩);split at b
        · rename_i s hs;simp only [uc] at b;obtain ⟨t2,I,rfl⟩:=b;simp only [OT.wp] at R;refine wpOp_mono ?_ (qhp X hs F L A C R);rintro a' w' ⟨hD',ρ',aa,J,hk'⟩;refine ⟨fun Y=>J (by simpa using Y),qio X m hn A C f _ _ t2 I (fun x Z=>hpn x (qkQ h (.step s (decide (i<n)) t2) (uw.2 ⟨i,y,by simp only [hs,I,Option.map_some]⟩) x (by simpa [OT.takes] using Z))) (fun k=>?_) ρ' a' w' aa hD' (fun k=>?_) hk'⟩
          · simp only [km,ue] at k;exact (l k.1).set y k.2
          · simp only [km,ue] at k;exact J (by simpa using k.2)
        · cases b
theorem qvc {n:Nat}:HeadInv .any ops n (Array.replicate ops.size false):=
  ⟨by simp,fun j c _ a=>(by rw [getD_replicate_false] at a;cases a),fun t _ b=>getD_in (by simpa using b) (getD_replicate_false _ _)⟩
theorem js {c:Code} {n:Nat} {t:OT} (h:jx cx.P cx.n cx.V n c=some t) (S:AA->Prop) {K:qa->AA->Prop} {Q:Ks} {ρ:qa} {w:AA}
    (p:∀w',qc w w'->w'.heap=w.heap->S w'/\t.wp cx.P Q.noRd S K ρ w') (hpn:∀d∈t.takes,∀ρ v c w,Q.pn (qx ρ d v) c w->Q.pn ρ c w:=by exact fun _ _ _ _ _ _ h=>h):(IR.raw c).wp cx K Q ρ w:=by
  intro a j m e;unfold jx at h;split at h
  · rename_i id ops;split at h
    · rename_i g;simp only [km,uS,ue] at g;obtain ⟨⟨⟨q,k⟩,i⟩,b⟩:=g;obtain ⟨l,o⟩:=p {w with drawn:=w.drawn+1} ⟨rfl,rfl,rfl,kh _,fun _ _=>rfl⟩ rfl;refine wp_region_any i (qgM _ _ _ _ (qio (qdk q) k (by rcases b with b|b;exact .inl b;exact .inr ⟨b.1.1,b.1.2,b.2⟩) (Q:=Q.noRd) (fun h=>h) e _ _ _ t h hpn (fun _=>qvc) ρ a _ j m (fun _=>l) o))
    · cases h
  · cases h
end
section
variable {P:Program} {Q:Ks} {S:AA->Prop} {K:qa->AA->Prop} {ρ:qa} {w:AA}
@[simp] theorem qLh:OT.wp P Q S K .done ρ w=K ρ w:=rfl
@[simp] theorem qLf {g:Option (Nat×Bool)} {d:Nat} {e:Ex} {t:OT}:OT.wp P Q S K (.take g d e t) ρ w=if gd ρ g then xD (e.ev ρ w) (fun v=>(∀w',S w'->e.ev ρ w'=some v)/\t.wp P Q S K (qx ρ d v) w) else t.wp P Q S K (qx ρ d undef) w:=rfl
@[simp] theorem qLg {b:Bool} {g:Option (Nat×Bool)} {d:Option Nat} {op:Op} {ty:TypeId} {t:OT}:OT.wp P Q S K (.step (.eff g d op ty) b t) ρ w=if gd ρ g then qB P Q d op ty (fun a w'=>(b=true->S w')/\t.wp P Q S K a w') ρ w else (b=true->S w)/\t.wp P Q S K (qp ρ d undef) w:=rfl
@[simp] theorem qLj {b:Bool} {g:Option (Nat×Bool)} {d:Nat} {e:Ex} {t:OT}:OT.wp P Q S K (.step (.asg g d e) b t) ρ w=if gd ρ g then xD (e.ev ρ w) (fun v=>(b=true->S w)/\t.wp P Q S K (qx ρ d v) w) else (b=true->S w)/\t.wp P Q S K (qx ρ d undef) w:=rfl
@[simp] theorem qLi {x y:OT}:OT.wp P Q S K (.both x y) ρ w=(x.wp P Q S K ρ w/\y.wp P Q S K ρ w):=rfl
end
end Go.Eng
namespace Go.Eng
open Go.RowKit
section
variable {P:Program} {Q:Ks} {d:Option Nat} {ty:TypeId} {K:qa->AA->Prop} {ρ:qa} {w:AA}
theorem qe5 {B:Nat} {w W:AA} (h:Only B w W):w.grownBy W (some B):=
  ⟨h.os,h.tape,h.output,by rw [h.size];exact kh _,fun k _ a=>h.block k (by simpa using a)⟩
end
end Go.Eng
namespace Go.Eng
open Go.RowKit
@[simp] theorem qLn (a:Option Addr) (n c:Nat):(Value.slice a n c).oneCell=true:=rfl
@[simp] theorem qLm (s:ByteArray):(Value.string s).oneCell=true:=rfl
@[simp] theorem qLp (k:IntKind) (n:Int):(Value.int k n).oneCell=true:=rfl
@[simp] theorem qLq (b:Bool):(Value.bool b).oneCell=true:=rfl
@[simp] theorem qLo (a:Option Addr):(Value.pointer a).oneCell=true:=rfl
@[simp] theorem qLe (B o n c:Nat):(Value.slice (some ⟨B,o,none⟩) n c).ownBlock=some B:=rfl
@[simp] theorem qLd (n c:Nat):(Value.slice none n c).ownBlock=none:=rfl
structure SlD where
  v:AB
  e:Nat
  sz:Nat
  xs:List AB
def qeg (a b:AB):Prop:=a.ownBlock=none\/a.ownBlock≠b.ownBlock
def qeg.symm {a b:AB} (h:qeg a b):qeg b a:=by
  unfold qeg at*;rcases h with h|h
  · cases c:b.ownBlock with
    |none=>exact .inl rfl
    |some x=>right;rw [h];simp
  · exact .inr (ub h)
def wN (base:Nat) (W:AA):List SlD->Prop
  |[]=>True
  |d::l=>Own base d.e d.sz W d.v d.xs/\(∀x∈l,qeg d.v x.v)/\wN base W l
def wN.imp {base:Nat} {W W':AA}:∀{l:List SlD},wN base W l->(∀x∈l,Own base x.e x.sz W x.v x.xs->Own base x.e x.sz W' x.v x.xs)->wN base W' l
  |[],_,_=>trivial
  |d::l,⟨g,c,b⟩,a=>⟨a d (by simp) g,c,wN.imp b fun x h=>a x (by simp [h])⟩
def wN.ext {base:Nat} {W W':AA} {l:List SlD} (h:wN base W l) (a:qc W W'):wN base W' l:=h.imp fun _ _ h=>h.ext a
def wN.only {base B:Nat} {W W':AA} {l:List SlD} (h:wN base W l) (b:Only B W W') (a:B<base):wN base W' l:=h.imp fun _ _ h=>h.only b a
def wN.head {base:Nat} {W:AA} {a:SlD} {l:List SlD} (h:wN base W (a::l)):Own base a.e a.sz W a.v a.xs:=h.1
def Own.isl {base e sz:Nat} {w:AA} {v:AB} {xs:List AB} (h:Own base e sz w v xs):qA v=true:=by
  rcases h with ⟨rfl,_⟩|⟨g,off,n',cap,cur,rfl,b,c,i,a,_⟩
  · rfl
  · simp [qA,a]
def qHI {B:Nat} {a b c:AA} (h:a.grownBy b (some B)) (k:Below a.heap.size b c):a.grownBy c (some B):=
  ⟨k.os.trans h.os,k.tape.trans h.tape,k.output.trans h.output,Nat.le_trans h.size k.size,fun i g e=>(k.block i g).trans (h.block i g e)⟩
def qvg {B:Nat} {a b c:AA} (h:a.grownBy b (some B)) (k:qc b c):a.grownBy c (some B):=qHI h (k.mono h.size)
def qvf {B:Nat} {a b c:AA} (h:a.grownBy b (some B)) (k:Only B b c):a.grownBy c (some B):=
  ⟨k.os.trans h.os,k.tape.trans h.tape,k.output.trans h.output,by rw [k.size];exact h.size,fun i g e=>(k.block i (by simpa using e)).trans (h.block i g e)⟩
theorem qHJ (row:Option Nat) (a:AA):a.grownBy a row:=⟨rfl,rfl,rfl,kh _,fun _ _ _=>rfl⟩
def Blk.below {W W':AA} {B base:Nat} {cs:Array AB} {t:TypeId} (h:Blk W B cs t) (k:Below base W W') (a:B<base):Blk W' B cs t:=⟨(k.block B a).trans h.heap⟩
def Blk.gb {W W':AA} {B B':Nat} {cs:Array AB} {t:TypeId} (h:Blk W B cs t) (k:W.grownBy W' (some B')) (a:B≠B'):Blk W' B cs t:=⟨(k.block B h.lt (by simpa using a)).trans h.heap⟩
def kq {B base:Nat} {W W':AA} (h:Only B W W') (a:base<=B):Below base W W':=
  ⟨h.os,h.tape,h.output,by rw [h.size];exact kh _,fun k b=>h.block k (by omega)⟩
section
variable {P:Program} {Q:Ks} {d:Option Nat} {ty:TypeId} {K:qa->AA->Prop} {ρ:qa} {w:AA}
theorem jg {t:TypeId} {p x:Operand} {B:Nat} {cs:Array AB} {T:TypeId} (e:qd ρ p=.pointer (some ⟨B,0,none⟩)) (c:Blk w B cs T) (a:(qd ρ x).cells.size=cs.size) (i:∀v∈(qd ρ x).cells.toList,v.oneCell=true)
    (j:jh P t cs.size=true) (h:∀W,Only B w W->Blk W B (qd ρ x).cells T->K (qp ρ d undef) W):qB P Q d (.store t p x) ty K ρ w:=by
  show jh P t (qd ρ x).cells.size=true/\y7 (qd ρ p) _;rw [e,a];refine ⟨j, ?_⟩;show kM ⟨B,0,none⟩ _ 0 _ w;refine qbW _ 0 w cs c (by rw [Array.length_toList,a];omega) i fun W' g b=>?_;refine h W' g ?_;have:(cs.toList.take 0++(qd ρ x).cells.toList++cs.toList.drop (0+(qd ρ x).cells.toList.length)).toArray=(qd ρ x).cells:=by
    have k:List.drop (0+(qd ρ x).cells.toList.length) cs.toList=[]:=Jr (by rw [Array.length_toList,Array.length_toList,a];omega);rw [k];simp
  rw [this] at b;exact b
theorem xc {B:Nat} {cs:Array AB} {T:TypeId} (c:Blk w B cs T):q4 w ⟨B,0,none⟩ 0 cs.size=some cs.toList:=by
  have:=wE (w:=w) (a:=⟨B,0,none⟩) (l:=cs.toList) (i:=0) fun j e=>by
    rw [zD,c.cell];have b:j<cs.size:=by simpa using e
    simp [b]
  simpa using this
theorem qn {v:AB} (h:qA v=true):v.cells=#[v]:=by
  rcases xF h with ⟨b,o,n,c,rfl,_⟩|rfl|⟨b,o,s,rfl⟩<;>rfl
theorem jf {v:AB} (h:qA v=true):v.oneCell=true:=by
  rcases xF h with ⟨b,o,n,c,rfl,_⟩|rfl|⟨b,o,s,rfl⟩<;>rfl
theorem qkf {base:Nat} {W:AA} {v:AB} (a:w.grownBy W v.ownBlock) (c:∀k,v.ownBlock=some k->base<=k) (b:base<=w.heap.size):Below base w W:=
  ⟨a.os,a.tape,a.output,a.size,fun k g=>a.block k (by omega) fun e=>by have:=c k e.symm;omega⟩
end
end Go.Eng
