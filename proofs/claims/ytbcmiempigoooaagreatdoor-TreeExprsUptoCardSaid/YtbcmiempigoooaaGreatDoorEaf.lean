/- Lemmas for a claim about layer 2 (tree). No conditions but those they state. -/
import Derived.Test.YtbcmiempigoooaaGreatDoorEae
import Derived.OrdersHeld
import Derived.StillTail
set_option linter.all false
namespace Go.Eng
open Go.RowKit
inductive OT where
  |done
  |take (g:Option (Nat×Bool)) (d:Nat) (e:Ex) (t:OT)
  |step (s:St) (b:Bool) (t:OT)
  |both (x y:OT)
def OT.wp (P:Program) (Q:Ks) (S:World->Prop) (K:qa->World->Prop):OT->qa->World->Prop
  | .done,ρ,w=>K ρ w
  | .take g d e t,ρ,w=>if gd ρ g then xp (e.ev ρ w) (fun v=>(∀w',S w'->e.ev ρ w'=some v)/\t.wp P Q S K (qw ρ d v) w) else t.wp P Q S K (qw ρ d undef) w
  | .step s b t,ρ,w=>s.wp P Q (fun ρ' w'=>(b=true->S w')/\t.wp P Q S K ρ' w') ρ w
  | .both x y,ρ,w=>x.wp P Q S K ρ w/\y.wp P Q S K ρ w
def OT.takes:OT->List Nat
  | .done=>[]
  | .take _ d _ t=>d::t.takes
  | .step _ _ t=>t.takes
  | .both x y=>x.takes++y.takes
section
variable (P:Program) (ops:Array Oper) (V:List Nat)
def qaR (i : Nat) : Option (Option (Nat × Bool) × Nat × Ex) :=
  match ops[i]? with
  |none=>none
  |some o=>match px P ops V (i+1) i,o.dst with
    |some (e,j),some d=>if V.contains d&&decide (j=i) then (tg ops V o.guard i).map fun g=>(g,d,e) else none
    |_,_=>none
def QT (i : Nat) : Option St :=
  match qaR P ops V i with
  |some (g,d,e)=>some (.asg g d e)
  |none=>match ops[i]? with
    |none=>none
    |some o=>if qaM V o then (tg ops V o.guard i).map fun g=> .eff g o.dst o.op o.type else none
def y8 : List (Option OT) -> Option OT
  |[]=>none
  |[x]=>x
  |x::y::l=>match x,y8 (y::l) with
    |some a,some b=>some (.both a b)
    |_,_=>none
def qcd (n : Nat) : Nat -> Bool -> Array Bool -> Option OT
  |0,_,listed=>if (Region.ready .any ops listed).isEmpty then some .done else none
  | f + 1, hd, listed =>
    if (Region.ready .any ops listed).isEmpty then some .done else
    match (if hd then (Region.ready .any ops listed).find? (fun i=>decide (i<n)&&Region.free .any ops listed i&&(qaR P ops V i).isSome) else none) with
    |some i=>match qaR P ops V i with
      |some (g,d,e)=>(qcd n f hd (listed.setIfInBounds i true)).map (.take g d e)
      |none=>none
    |none=>y8 ((Region.ready .any ops listed).map fun i=>match QT P ops V i with
      |some s=>(qcd n f (hd&&decide (i<n)) (listed.setIfInBounds i true)).map (.step s (decide (i<n)))
      |none=>none)
end
def zj (P : Program) (nt : Nat) (V : List Nat) (n : Nat) : Code -> Option OT
  | .region _ ops true=>
    if qbc ops nt&&Region.noSelect ops&&P.follows .mixedOrders&&(decide (n=ops.size)||(decide (n<ops.size)&&Region.sinkB .any ops n&&Region.chainB .any ops n)) then qcd P ops V n ops.size true (Array.replicate ops.size false) else none
  |_=>none
section
variable {P:Program} {ops:Array Oper} {Q:Exit->Act->World->Prop} {md:Region.Mode} {S:World->Prop} {n:Nat}
def qab (P : Program) (md : Region.Mode) (ops : Array Oper) (Q : Exit -> Act -> World -> Prop) (S : World -> Prop) (n : Nat) : Nat -> Array Bool -> Act -> World -> Prop
  |0,listed,a,w=>Region.ready md ops listed=[]/\Q .normal a w
  |f+1,listed,a,w=>(Region.ready md ops listed=[]->Q .normal a w)/\
    ∀i∈Region.ready md ops listed,wpOp P ops Q i (fun a' w'=>(i<n->S w')/\qab P md ops Q S n f (listed.setIfInBounds i true) a' w') a w
theorem qhw:∀(f:Nat) (listed:Array Bool) (a:Act) (w:World),qab P md ops Q S n f listed a w->wpAny P md ops Q f listed a w
  |0,_,_,_,h=>h
  |f+1,_,_,_,h=>⟨h.1,fun i b=>wpOp_mono (fun c w' e=>qhw f _ c w' e.2) (h.2 i b)⟩
theorem qmw {i : Nat} {B : Oper} {v : Value} (Y : ops[i]? = some B) (y : ∀ (j : Nat) (o : Oper) cs b, ops[j]? = some o -> o.op ≠ .select cs b)
    (hn:n=ops.size\/(n<ops.size/\Region.sinkB md ops n=true/\Region.chainB md ops n=true)) (hin:i<n)
    (hQ:∀c a w,Q (.panic c) (a.put B.dst v) w->Q (.panic c) a w):
    ∀(f:Nat) (listed:Array Bool) (a:Act) (w:World),HeadInv md ops n listed->
      (∀j A,ops[j]? =some A->j≠i->listed.getD j true=false->(∀e∈A.after,Region.binds md e=true->e.on≠i)->B.apart ops A=true)->
      i∈Region.ready md ops listed->YieldsIf P ops S B v a->S w->
      qab P md ops Q S n f (listed.setIfInBounds i true) (a.put B.dst v) w->qab P md ops Q S n (f+1) listed a w:=by
  have J:∀{listed:Array Bool},HeadInv md ops n listed->i∈Region.ready md ops listed->∀j,j∈Region.ready md ops listed->j<n:=by
    intro listed m s j t;rcases hn with rfl|⟨X,hs,hc⟩
    · obtain ⟨_,A,l,_⟩:=mem_ready.1 t;exact (uq.1 l).1
    · rcases JM j n with h|h
      · exact h
      · exact absurd t (tail_waits hs hc X m _ i rfl hin (mem_ready.1 s).1 j h)
  intro f
  induction f with
  |zero=>
    intro listed a w m _ s R I H;refine ⟨fun h=>(by rw [h] at s;cases s),fun j t=>?_⟩;by_cases g:j=i
    · subst g;exact R.wpOp Y I ⟨fun _=>I,H⟩
    · have:=ready_mono t g;rw [H.1] at this;cases this
  |succ f ih=>
    intro listed a w m p s R I H;refine ⟨fun h=>(by rw [h] at s;cases s),fun j t=>?_⟩;by_cases g:j=i
    · subst g;exact R.wpOp Y I ⟨fun _=>I,H⟩
    · have U:=H.2 j (ready_mono t g);have E:=J m s j t;obtain ⟨z,A,l,F⟩:=mem_ready.1 t;have W:=(mem_ready.1 s).1;have L:∀e∈A.after,Region.binds md e=true->e.on≠i:=fun e he hb ab=>by
        have U:=F e he hb;rw [ab,getD_both W] at U;cases U
      have h2:=wpOp_putIf l (p j A l g z L) (fun cs b=>y i B cs b Y) (fun cs b=>y j A cs b l) hQ R U
      have u:∀k ok,ops[k]? =some ok->k≠i->(listed.setIfInBounds j true).getD k true=false->
          (∀e∈ok.after,Region.binds md e=true->e.on≠i)->B.apart ops ok=true:=fun k ok hk aa x Z=>by
        refine p k ok hk aa ?_ Z;by_cases C:j=k
        · subst C;exact z
        · rw [getD_set_ne true C] at x;exact x
      refine wpOp_mono (fun a' w' O=>⟨O.2.1,ih (listed.setIfInBounds j true) a' w' (m.set t E) u (ready_mono s (Ne.symm g)) O.1 (O.2.1 E) ?_⟩) h2;rw [Array.setIfInBounds_comm _ _ g];exact O.2.2
end
section
variable {ops:Array Oper} {cx:Cx}
theorem qKB {P : Program} {V : List Nat} {i : Nat} {g : Option (Nat × Bool)} {d : Nat} {e : Ex} (h : qaR P ops V i = some (g, d, e)) :
    ∃o,ops[i]? =some o/\px P ops V (i+1) i=some (e,i)/\o.dst=some d/\d∈V/\tg ops V o.guard i=some g:=by
  unfold qaR at h;split at h
  · cases h
  · rename_i o m;split at h
    · rename_i u j t a c;split at h
      · rename_i b;simp only [j0,kr] at b;obtain ⟨p,rfl⟩:=b;simp only [ua] at h;obtain ⟨s,l,k⟩:=h;cases k;exact ⟨o,m,a,c,by simpa using p,l⟩
      · cases h
    · cases h
theorem qg5 (p:Region1 cx.n ops) {i:Nat} {g:Option (Nat×Bool)} {d:Nat} {e:Ex} (h:qaR cx.P ops cx.V i=some (g,d,e)) {ρ:qa} {a:Act} (k:Agree cx.n cx.V ρ a) {S:World->Prop} {v:Value}
    (m:if gd ρ g then (∀w',S w'->e.ev ρ w'=some v) else v=undef):∃o,ops[i]? =some o/\o.dst=some d/\d∈cx.V/\YieldsIf cx.P ops S o v a:=by
  obtain ⟨o,j,s,l,J,H⟩:=qKB h;refine ⟨o,j,l,J, ?_⟩;obtain ⟨c,_⟩:=qcv k H;have A:=qfh p _ _ _ _ s;by_cases b:gd ρ g=true
  · rw [if_pos b] at m;refine .inl ⟨by rw [qac,c];exact b,fun w' B=>?_⟩;have t:=A.yes o j ρ w' a v k (by rw [c];exact b) (m w' B) (fun z=>z.tmps[d]? =some v) fun z _ u=>u d l;rw [show i+1 - i=1 by omega] at t;simp only [List.range'_one,PS,j,qac,c,b,kk] at t;obtain ⟨E,C,y⟩:=t;have F:=qaO p j k.size d l;have:=qbg (a:=a) (o:=o) (v:=E) (fun x I=>qaO p j k.size x I) d l;rw [this] at y;cases y;exact C w' (qO _)
  · rw [if_neg b] at m;exact .inr ⟨by rw [qac,c];simpa using b,m⟩
theorem qh4 (W : Region1 cx.n ops) {K0 : qa -> World -> Prop} {Q : Ks} {i : Nat} {s : St} (h : QT cx.P ops cx.V i = some s) {K : qa -> World -> Prop} {ρ : qa} {a : Act} {w : World} (m : Agree cx.n cx.V ρ a) (A : vG cx a) (R : ¬ Q.rd) (L : Q.df -> cx.D ≠ [])
    (k:s.wp cx.P Q K ρ w):wpOp cx.P ops (kV cx K0 Q) i (fun X w'=>vG cx X/\∃l,Agree cx.n cx.V l X/\K l w') a w:=by
  unfold QT at h;split at h
  · rename_i g d e u;cases h;simp only [St.wp] at k;by_cases j:gd ρ g=true
    · simp only [j,kk,xp] at k;cases z:e.ev ρ w with
      |none=>simp only [z] at k
      |some v=>
        simp only [z] at k;obtain ⟨o,E,H,U,J⟩:=qg5 W u m (S:=fun w'=>w'=w) (v:=v) (by rw [if_pos j];rintro _ rfl;exact z);refine J.wpOp E rfl ?_;rw [H];exact ⟨fun e=>(yT _ _ _).trans (A e),_,m.put U v,k⟩
    · simp only [j] at k;obtain ⟨o,E,H,U,J⟩:=qg5 W u m (S:=fun w'=>w'=w) (v:=undef) (by rw [if_neg j]);refine J.wpOp E rfl ?_;rw [H];exact ⟨fun e=>(yT _ _ _).trans (A e),_,m.put U undef,by simpa using k⟩
  · split at h
    · cases h
    · rename_i o E;split at h
      · rename_i B;simp only [ua] at h;obtain ⟨g,Z,rfl⟩:=h;obtain ⟨C,_⟩:=qcv m Z;have t:=qls B;have O:=qlh m B;simp only [wpOp,E,qac];simp only [St.wp] at k;by_cases j:gd ρ g=true
        · simp only [j,kk] at k;have p:vF ops o.guard a=true:=by rw [C];exact j
          simp only [p,kk];have b:=qwx k;unfold vK at b;have y:∀v F,K (qn ρ o.dst v) F->vG cx (a.put o.dst v)/\∃l,Agree cx.n cx.V l (a.put o.dst v)/\K l F:=
            fun v F Y=>⟨fun e=>(yT _ _ _).trans (A e),_,m.putO t v,Y⟩
          refine .inl ?_;simp only [Oper.wp,O];generalize (execOp (qe ρ) (qN o.dst o.op o.type)).run cx.P w=r at b;cases r with
          |ok x w'=>
            cases x<;>simp only [QN,Oper.upon] at b⊢ <;>first|exact y _ _ b|(cases b;done)|(exact absurd b.1 R)|skip
            · refine b.mono fun e F I=>?_;cases e with
              |returned v=>exact y _ _ I
              |panicked c=>exact ⟨A,ρ,m,I⟩
              |outgrown=>exact qfF I
            · exact ⟨fun e=>absurd e (L b.1),_,(m.defer _).putO t undef,b.2⟩
          |halt x w'=>
            cases x<;>simp only [QN,Oper.upon] at b⊢ <;>first|(cases b;done)|exact ⟨A,ρ,m,b⟩
        · simp only [j] at k;have p:vF ops o.guard a=false:=by rw [C];simpa using j
          simp only [p,uf,km];exact ⟨fun e=>(yT _ _ _).trans (A e),_,m.putO t undef,by simpa using k⟩
      · cases h
theorem qlQ {P:Program} {Q:Ks} {S:World->Prop} {K:qa->World->Prop} {ρ:qa} {w:World}:∀{l:List (Option OT)} {t:OT},y8 l=some t->t.wp P Q S K ρ w->∀x∈l,∃g,x=some g/\g.wp P Q S K ρ w
  |[],_,h,_,_,_=>by simp [y8] at h
  |[x],t,h,e,y,c=>by
    simp only [y8] at h;rw [uH] at c;subst c;exact ⟨t,h,e⟩
  | x :: z :: l, t, h, e, y, c => by
    simp only [y8] at h;split at h
    · rename_i a b i;cases h;rcases wh.1 c with rfl|c
      · exact ⟨a,rfl,e.1⟩
      · exact qlQ i e.2 y c
    · cases h
theorem qlR:∀{l:List (Option OT)} {t:OT},y8 l=some t->∀(e:OT),some e∈l->∀d∈e.takes,d∈t.takes
  |[],_,h,_,_,_,_=>by simp [y8] at h
  |[x],t,h,e,c,d,g=>by
    simp only [y8] at h;rw [uH] at c;subst c;cases h;exact g
  | x :: z :: l, t, h, e, c, d, g => by
    simp only [y8] at h;split at h
    · rename_i a b i;cases h;rcases wh.1 c with j|c
      · cases j;exact VI _ g
      · exact List.mem_append_right _ (qlR i e c d g)
    · cases h
theorem qoZ {Q:Ks} {K:qa->World->Prop} {o:Oper} {d:Nat} {v:Value} (j:o.dst=some d) (s:d∈cx.V) (hpn:∀ρ v c w,Q.pn (qw ρ d v) c w->Q.pn ρ c w) (c:List PanicEntry) (a:Act) (w:World)
    (h:kV cx K Q (.panic c) (a.put o.dst v) w):kV cx K Q (.panic c) a w:=by
  obtain ⟨m,ρ,b,k⟩:=h;have g:a.tmps.size=cx.n:=by have:=b.size;rw [j] at this;simpa [Act.put] using this
  have i:Agree cx.n cx.V (wU cx.V a) a:=⟨g,rfl,b.lt,b.big⟩;have p:=i.put s v;rw [j] at b;have l:ρ=qw (wU cx.V a) d v:=b.env.trans p.env.symm;subst l;exact ⟨fun e=>(yT a o.dst v).symm.trans (m e),_,i,hpn _ _ _ _ k⟩
theorem qi4 (Y : Region1 cx.n ops) (p : Region.noSelect ops = true) {n : Nat} (hn : n = ops.size \/ (n < ops.size /\ Region.sinkB .any ops n = true /\ Region.chainB .any ops n = true)) {S : World -> Prop} {K : qa -> World -> Prop} {Q : Ks} (E : ¬ Q.rd) (A : Q.df -> cx.D ≠ []) :
    ∀(f:Nat) (H:Bool) (listed:Array Bool) (t:OT),qcd cx.P ops cx.V n f H listed=some t->(∀d∈t.takes,∀ρ v c w,Q.pn (qw ρ d v) c w->Q.pn ρ c w)->(H=true->HeadInv .any ops n listed)->∀(ρ:qa) (a:Act) (w:World),Agree cx.n cx.V ρ a->vG cx a->(H=true->S w)->
      t.wp cx.P Q S K ρ w->qab cx.P .any ops (kV cx K Q) S n f listed a w
  |0,H,listed,t,h,_,_,ρ,a,w,F,O,_,j=>by
    simp only [qcd] at h;split at h
    · rename_i R;cases h;exact ⟨by simpa using R,O,ρ,F,j⟩
    · cases h
  | f + 1, H, listed, t, h, hpn, m, ρ, a, w, F, O, hS, j => by
    simp only [qcd] at h;split at h
    · rename_i R;cases h;have C:Region.ready .any ops listed=[]:=by simpa using R
      exact ⟨fun _=>⟨O,ρ,F,j⟩,by rw [C];simp⟩
    · rename_i R;have C:Region.ready .any ops listed≠[]:=by simpa using R
      split at h
      · rename_i i z;split at z
        · rename_i I;have y:=Vj z;have l:=List.find?_some z;simp only [j0,kr] at l;obtain ⟨⟨hin,B⟩,_⟩:=l;split at h
          · rename_i g d e L;simp only [ua] at h;obtain ⟨t',b,rfl⟩:=h;simp only [OT.wp] at j;have key:∀v,(if gd ρ g then (∀w',S w'->e.ev ρ w'=some v) else v=undef)->t'.wp cx.P Q S K (qw ρ d v) w->qab cx.P .any ops (kV cx K Q) S n (f+1) listed a w:=by
              intro v hv hk;obtain ⟨o,ho,J,hV,hy⟩:=qg5 Y L F hv;refine qmw ho (Region.noSelect_spec p) hn hin (fun c a w k=>?_) f listed a w (m I) (Region.free_spec ho B) y hy (hS I) ?_
              · exact qoZ J hV (hpn d (by simp [OT.takes])) c a w k
              · rw [J];exact qi4 Y p hn E A f H _ t' b (fun x hx=>hpn x (by simp [OT.takes,hx])) (fun k=>(m k).set y hin) _ _ w (F.put hV v) (fun e=>(yT _ _ _).trans (O e)) hS hk
            by_cases u:gd ρ g=true
            · rw [if_pos u] at j;unfold xp at j;split at j
              · obtain ⟨k,h2⟩:=j;exact key _ (by rw [if_pos u];exact k) h2
              · cases j
            · rw [if_neg u] at j;exact key undef (by rw [if_neg u]) j
          · cases h
        · cases z
      · refine ⟨fun h0=>absurd h0 C,fun i z=>?_⟩;obtain ⟨t',b,X⟩:=qlQ h j _ (un.2 ⟨i,z,rfl⟩);split at b
        · rename_i s hs;simp only [ua] at b;obtain ⟨t2,U,rfl⟩:=b;simp only [OT.wp] at X;refine wpOp_mono ?_ (qh4 Y hs F O E A X);rintro a' w' ⟨hD',Z,ha',W,hk'⟩;refine ⟨fun hlt=>W (by simpa using hlt),qi4 Y p hn E A f _ _ t2 U (fun x hx=>hpn x (qlR h (.step s (decide (i<n)) t2) (un.2 ⟨i,z,by simp only [hs,U,Option.map_some]⟩) x (by simpa [OT.takes] using hx))) (fun k=>?_) Z a' w' ha' hD' (fun k=>?_) hk'⟩
          · simp only [j0,kr] at k;exact (m k.1).set z k.2
          · simp only [j0,kr] at k;exact W (by simpa using k.2)
        · cases b
theorem qvZ {n:Nat}:HeadInv .any ops n (Array.replicate ops.size false):=
  ⟨by simp,fun j c _ a=>(by rw [getD_replicate_false] at a;cases a),fun t _ b=>getD_in (by simpa using b) (getD_replicate_false _ _)⟩
theorem vZ {c:Code} {n:Nat} {t:OT} (h:zj cx.P cx.n cx.V n c=some t) (S:World->Prop) {K:qa->World->Prop} {Q:Ks} {ρ:qa} {w:World}
    (i:∀w',qc w w'->w'.heap=w.heap->S w'/\t.wp cx.P Q.noRd S K ρ w') (hpn:∀d∈t.takes,∀ρ v c w,Q.pn (qw ρ d v) c w->Q.pn ρ c w:=by exact fun _ _ _ _ _ _ h=>h):(IR.raw c).wp cx K Q ρ w:=by
  intro a j o e;unfold zj at h;split at h
  · rename_i id ops;split at h
    · rename_i g;simp only [j0,uk,kr] at g;obtain ⟨⟨⟨s,k⟩,m⟩,b⟩:=g;obtain ⟨l,p⟩:=i {w with drawn:=w.drawn+1} ⟨rfl,rfl,rfl,j1 _,fun _ _=>rfl⟩ rfl;refine wp_region_any m (qhw _ _ _ _ (qi4 (qdn s) k (by rcases b with b|b;exact .inl b;exact .inr ⟨b.1.1,b.1.2,b.2⟩) (Q:=Q.noRd) (fun h=>h) e _ _ _ t h hpn (fun _=>qvZ) ρ a _ j o (fun _=>l) p))
    · cases h
  · cases h
end
section
variable {P:Program} {Q:Ks} {S:World->Prop} {K:qa->World->Prop} {ρ:qa} {w:World}
@[simp] theorem qLP:OT.wp P Q S K .done ρ w=K ρ w:=rfl
@[simp] theorem qLN {g:Option (Nat×Bool)} {d:Nat} {e:Ex} {t:OT}:OT.wp P Q S K (.take g d e t) ρ w=if gd ρ g then xp (e.ev ρ w) (fun v=>(∀w',S w'->e.ev ρ w'=some v)/\t.wp P Q S K (qw ρ d v) w) else t.wp P Q S K (qw ρ d undef) w:=rfl
@[simp] theorem qLO {b:Bool} {g:Option (Nat×Bool)} {d:Option Nat} {op:Op} {ty:TypeId} {t:OT}:OT.wp P Q S K (.step (.eff g d op ty) b t) ρ w=if gd ρ g then qx P Q d op ty (fun a w'=>(b=true->S w')/\t.wp P Q S K a w') ρ w else (b=true->S w)/\t.wp P Q S K (qn ρ d undef) w:=rfl
@[simp] theorem qLR {b:Bool} {g:Option (Nat×Bool)} {d:Nat} {e:Ex} {t:OT}:OT.wp P Q S K (.step (.asg g d e) b t) ρ w=if gd ρ g then xp (e.ev ρ w) (fun v=>(b=true->S w)/\t.wp P Q S K (qw ρ d v) w) else (b=true->S w)/\t.wp P Q S K (qw ρ d undef) w:=rfl
@[simp] theorem qLQ {x y:OT}:OT.wp P Q S K (.both x y) ρ w=(x.wp P Q S K ρ w/\y.wp P Q S K ρ w):=rfl
end
end Go.Eng
namespace Go.Eng
open Go.RowKit
section
variable {P:Program} {Q:Ks} {d:Option Nat} {ty:TypeId} {K:qa->World->Prop} {ρ:qa} {w:World}
theorem qfv {B:Nat} {w W:World} (h:Only B w W):w.grownBy W (some B):=
  ⟨h.os,h.tape,h.output,by rw [h.size];exact j1 _,fun k _ a=>h.block k (by simpa using a)⟩
end
end Go.Eng
namespace Go.Eng
open Go.RowKit
@[simp] theorem qLV (a:Option Addr) (n c:Nat):(Value.slice a n c).oneCell=true:=rfl
@[simp] theorem qLU (s:ByteArray):(Value.string s).oneCell=true:=rfl
@[simp] theorem qLX (k:IntKind) (n:Int):(Value.int k n).oneCell=true:=rfl
@[simp] theorem qLY (b:Bool):(Value.bool b).oneCell=true:=rfl
@[simp] theorem qLW (a:Option Addr):(Value.pointer a).oneCell=true:=rfl
@[simp] theorem qLM (B o n c:Nat):(Value.slice (some ⟨B,o,none⟩) n c).ownBlock=some B:=rfl
@[simp] theorem qLL (n c:Nat):(Value.slice none n c).ownBlock=none:=rfl
structure SlD where
  v:Value
  e:Nat
  sz:Nat
  xs:List Value
def qeo (a b:Value):Prop:=a.ownBlock=none\/a.ownBlock≠b.ownBlock
def qeo.symm {a b:Value} (h:qeo a b):qeo b a:=by
  unfold qeo at*;rcases h with h|h
  · cases c:b.ownBlock with
    |none=>exact .inl rfl
    |some x=>right;rw [h];simp
  · exact .inr (Ne.symm h)
def yq (base:Nat) (W:World):List SlD->Prop
  |[]=>True
  |d::l=>Own base d.e d.sz W d.v d.xs/\(∀x∈l,qeo d.v x.v)/\yq base W l
def yq.imp {base:Nat} {W W':World}:∀{l:List SlD},yq base W l->(∀x∈l,Own base x.e x.sz W x.v x.xs->Own base x.e x.sz W' x.v x.xs)->yq base W' l
  |[],_,_=>trivial
  |d::l,⟨c,g,b⟩,a=>⟨a d (by simp) c,g,yq.imp b fun x h=>a x (by simp [h])⟩
def yq.ext {base:Nat} {W W':World} {l:List SlD} (h:yq base W l) (a:qc W W'):yq base W' l:=h.imp fun _ _ h=>h.ext a
def yq.only {base B:Nat} {W W':World} {l:List SlD} (h:yq base W l) (b:Only B W W') (a:B<base):yq base W' l:=h.imp fun _ _ h=>h.only b a
def yq.head {base:Nat} {W:World} {a:SlD} {l:List SlD} (h:yq base W (a::l)):Own base a.e a.sz W a.v a.xs:=h.1
def Own.isl {base e sz:Nat} {w:World} {v:Value} {xs:List Value} (h:Own base e sz w v xs):qu v=true:=by
  rcases h with ⟨rfl,_⟩|⟨g,off,j,cap,cur,rfl,c,b,i,a,_⟩
  · rfl
  · simp [qu,a]
def qIC {B:Nat} {a b c:World} (h:a.grownBy b (some B)) (k:Below a.heap.size b c):a.grownBy c (some B):=
  ⟨k.os.trans h.os,k.tape.trans h.tape,k.output.trans h.output,Nat.le_trans h.size k.size,fun i g e=>(k.block i g).trans (h.block i g e)⟩
def qv3 {B:Nat} {a b c:World} (h:a.grownBy b (some B)) (k:qc b c):a.grownBy c (some B):=qIC h (k.mono h.size)
def qv2 {B:Nat} {a b c:World} (h:a.grownBy b (some B)) (k:Only B b c):a.grownBy c (some B):=
  ⟨k.os.trans h.os,k.tape.trans h.tape,k.output.trans h.output,by rw [k.size];exact h.size,fun i g e=>(k.block i (by simpa using e)).trans (h.block i g e)⟩
theorem qID (row:Option Nat) (a:World):a.grownBy a row:=⟨rfl,rfl,rfl,j1 _,fun _ _ _=>rfl⟩
def Blk.below {W W':World} {B base:Nat} {cs:Array Value} {t:TypeId} (h:Blk W B cs t) (k:Below base W W') (a:B<base):Blk W' B cs t:=⟨(k.block B a).trans h.heap⟩
def yh {B base:Nat} {W W':World} (h:Only B W W') (b:base<=B):Below base W W':=
  ⟨h.os,h.tape,h.output,by rw [h.size];exact j1 _,fun k a=>h.block k (by omega)⟩
section
variable {P:Program} {Q:Ks} {d:Option Nat} {ty:TypeId} {K:qa->World->Prop} {ρ:qa} {w:World}
theorem jx {t:TypeId} {p x:Operand} {B:Nat} {cs:Array Value} {T:TypeId} (g:qe ρ p=.pointer (some ⟨B,0,none⟩)) (e:Blk w B cs T) (a:(qe ρ x).cells.size=cs.size) (c:∀v∈(qe ρ x).cells.toList,v.oneCell=true)
    (i:jT P t cs.size=true) (h:∀W,Only B w W->Blk W B (qe ρ x).cells T->K (qn ρ d undef) W):qx P Q d (.store t p x) ty K ρ w:=by
  show jT P t (qe ρ x).cells.size=true/\Q0 (qe ρ p) _;rw [g,a];refine ⟨i, ?_⟩;show yx ⟨B,0,none⟩ _ 0 _ w;refine qc5 _ 0 w cs e (by rw [Array.length_toList,a];omega) c fun W' j b=>?_;refine h W' j ?_;have:(cs.toList.take 0++(qe ρ x).cells.toList++cs.toList.drop (0+(qe ρ x).cells.toList.length)).toArray=(qe ρ x).cells:=by
    have k:List.drop (0+(qe ρ x).cells.toList.length) cs.toList=[]:=uY (by rw [Array.length_toList,Array.length_toList,a];omega);rw [k];simp
  rw [this] at b;exact b
theorem yD {B:Nat} {cs:Array Value} {T:TypeId} (e:Blk w B cs T):jG w ⟨B,0,none⟩ 0 cs.size=some cs.toList:=by
  have:=qal (w:=w) (a:=⟨B,0,none⟩) (l:=cs.toList) (i:=0) fun j c=>by
    rw [kg,e.cell];have b:j<cs.size:=by simpa using c
    simp [b]
  simpa using this
theorem vN {v:Value} (h:qu v=true):v.cells=#[v]:=by
  rcases xT h with ⟨b,o,n,c,rfl,_⟩|rfl|⟨b,o,s,rfl⟩<;>rfl
theorem xS {v:Value} (h:qu v=true):v.oneCell=true:=by
  rcases xT h with ⟨b,o,n,c,rfl,_⟩|rfl|⟨b,o,s,rfl⟩<;>rfl
theorem qv1 {base:Nat} {W:World} {v:Value} (a:w.grownBy W v.ownBlock) (c:∀k,v.ownBlock=some k->base<=k) (b:base<=w.heap.size):Below base w W:=
  ⟨a.os,a.tape,a.output,a.size,fun k g=>a.block k (by omega) fun e=>by have:=c k e.symm;omega⟩
end
end Go.Eng
