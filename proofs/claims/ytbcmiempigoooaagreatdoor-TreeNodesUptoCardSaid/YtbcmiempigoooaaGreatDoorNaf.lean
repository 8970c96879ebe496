/- Lemmas for a claim about layer 2 (tree). No conditions but those they state. -/
import Derived.Test.YtbcmiempigoooaaGreatDoorNae
import Derived.OrdersHeld
import Derived.StillTail
set_option linter.all false
namespace Go.Eng
open Go.RowKit
inductive OT where
  |done
  |take (g:Option (Nat×Bool)) (d:Nat) (e:Ex) (t:OT)
  |step (s:St) (b:Bool) (t:OT)
  |both (x y:OT)
def OT.wp (P:Program) (Q:Ks) (S:World→Prop) (K:qa→World→Prop):OT→qa→World→Prop
  | .done,ρ,w=>K ρ w
  | .take g d e t,ρ,w=>if gd ρ g then vJ (e.ev ρ w) (fun v=>(∀w',S w'→e.ev ρ w'=some v)∧t.wp P Q S K (qu ρ d v) w) else t.wp P Q S K (qu ρ d undef) w
  | .step s b t,ρ,w=>s.wp P Q (fun ρ' w'=>(b=true→S w')∧t.wp P Q S K ρ' w') ρ w
  | .both x y,ρ,w=>x.wp P Q S K ρ w∧y.wp P Q S K ρ w
def OT.takes:OT→List Nat
  | .done=>[]
  | .take _ d _ t=>d::t.takes
  | .step _ _ t=>t.takes
  | .both x y=>x.takes++y.takes
section
variable (P:Program) (ops:Array Oper) (V:List Nat)
def Qj (i : Nat) : Option (Option (Nat × Bool) × Nat × Ex) :=
  match ops[i]? with
  |none=>none
  |some o=>match px P ops V (i+1) i,o.dst with
    |some (e,j),some d=>if V.contains d&&decide (j=i) then (tg ops V o.guard i).map fun g=>(g,d,e) else none
    |_,_=>none
def yc (i : Nat) : Option St :=
  match Qj P ops V i with
  |some (g,d,e)=>some (.asg g d e)
  |none=>match ops[i]? with
    |none=>none
    |some o=>if Qg V o then (tg ops V o.guard i).map fun g=> .eff g o.dst o.op o.type else none
def wq : List (Option OT) → Option OT
  |[]=>none
  |[x]=>x
  |x::y::l=>match x,wq (y::l) with
    |some a,some b=>some (.both a b)
    |_,_=>none
def qav (n : Nat) : Nat → Bool → Array Bool → Option OT
  |0,_,listed=>if (Region.ready .any ops listed).isEmpty then some .done else none
  | f + 1, hd, listed =>
    if (Region.ready .any ops listed).isEmpty then some .done else
    match (if hd then (Region.ready .any ops listed).find? (fun i=>decide (i<n)&&Region.free .any ops listed i&&(Qj P ops V i).isSome) else none) with
    |some i=>match Qj P ops V i with
      |some (g,d,e)=>(qav n f hd (listed.setIfInBounds i true)).map (.take g d e)
      |none=>none
    |none=>wq ((Region.ready .any ops listed).map fun i=>match yc P ops V i with
      |some s=>(qav n f (hd&&decide (i<n)) (listed.setIfInBounds i true)).map (.step s (decide (i<n)))
      |none=>none)
end
def vF (P : Program) (nt : Nat) (V : List Nat) (n : Nat) : Code → Option OT
  | .region _ ops true=>
    if QJ ops nt&&Region.noSelect ops&&P.follows .mixedOrders&&(decide (n=ops.size)||(decide (n<ops.size)&&Region.sinkB .any ops n&&Region.chainB .any ops n)) then qav P ops V n ops.size true (Array.replicate ops.size false) else none
  |_=>none
section
variable {P:Program} {ops:Array Oper} {Q:Exit→Act→World→Prop} {md:Region.Mode} {S:World→Prop} {n:Nat}
def yw (P : Program) (md : Region.Mode) (ops : Array Oper) (Q : Exit → Act → World → Prop) (S : World → Prop) (n : Nat) : Nat → Array Bool → Act → World → Prop
  |0,listed,a,w=>Region.ready md ops listed=[]∧Q .normal a w
  |f+1,listed,a,w=>(Region.ready md ops listed=[]→Q .normal a w)∧
    ∀i∈Region.ready md ops listed,wpOp P ops Q i (fun a' w'=>(i<n→S w')∧yw P md ops Q S n f (listed.setIfInBounds i true) a' w') a w
theorem qfo:∀(f:Nat) (listed:Array Bool) (a:Act) (w:World),yw P md ops Q S n f listed a w→wpAny P md ops Q f listed a w
  |0,_,_,_,h=>h
  |f+1,_,_,_,h=>⟨h.1,fun i c=>wpOp_mono (fun e w' b=>qfo f _ e w' b.2) (h.2 i c)⟩
theorem qjM {i : Nat} {B : Oper} {v : Value} (Z : ops[i]? = some B) (z : ∀ (j : Nat) (o : Oper) cs b, ops[j]? = some o → o.op ≠ .select cs b)
    (hn:n=ops.size∨(n<ops.size∧Region.sinkB md ops n=true∧Region.chainB md ops n=true)) (hin:i<n)
    (hQ:∀c a w,Q (.panic c) (a.put B.dst v) w→Q (.panic c) a w):
    ∀(f:Nat) (listed:Array Bool) (a:Act) (w:World),HeadInv md ops n listed→
      (∀j y,ops[j]? =some y→j≠i→listed.getD j true=false→(∀e∈y.after,Region.binds md e=true→e.on≠i)→B.apart ops y=true)→
      i∈Region.ready md ops listed→YieldsIf P ops S B v a→S w→
      yw P md ops Q S n f (listed.setIfInBounds i true) (a.put B.dst v) w→yw P md ops Q S n (f+1) listed a w:=by
  have J:∀{listed:Array Bool},HeadInv md ops n listed→i∈Region.ready md ops listed→∀j,j∈Region.ready md ops listed→j<n:=by
    intro listed l s j u;rcases hn with rfl|⟨ab,hs,hc⟩
    · obtain ⟨_,y,p,_⟩:=mem_ready.1 u;exact (Array.getElem?_eq_some_iff.1 p).1
    · rcases Nat.lt_or_ge j n with h|h
      · exact h
      · exact absurd u (tail_waits hs hc ab l _ i rfl hin (mem_ready.1 s).1 j h)
  intro f
  induction f with
  |zero=>
    intro listed a w l _ s U F H;refine ⟨fun h=>(by rw [h] at s;cases s),fun j u=> ?_⟩;by_cases g:j=i
    · subst g;exact U.wpOp Z F ⟨fun _=>F,H⟩
    · have:=ready_mono u g;rw [H.1] at this;cases this
  |succ f ih=>
    intro listed a w l m s U F H;refine ⟨fun h=>(by rw [h] at s;cases s),fun j u=> ?_⟩;by_cases g:j=i
    · subst g;exact U.wpOp Z F ⟨fun _=>F,H⟩
    · have R:=H.2 j (ready_mono u g);have E:=J l s j u;obtain ⟨A,y,p,I⟩:=mem_ready.1 u;have W:=(mem_ready.1 s).1;have C:∀e∈y.after,Region.binds md e=true→e.on≠i:=fun e he hb X=>by
        have R:=I e he hb;rw [X,getD_both W] at R;cases R
      have h2:=wpOp_putIf p (m j y p g A C) (fun cs b=>z i B cs b Z) (fun cs b=>z j y cs b p) hQ U R
      have t:∀k ok,ops[k]? =some ok→k≠i→(listed.setIfInBounds j true).getD k true=false→
          (∀e∈ok.after,Region.binds md e=true→e.on≠i)→B.apart ops ok=true:=fun k ok hk Y x aa=>by
        refine m k ok hk Y ?_ aa;by_cases L:j=k
        · subst L;exact A
        · rw [getD_set_ne true L] at x;exact x
      refine wpOp_mono (fun a' w' O=>⟨O.2.1,ih (listed.setIfInBounds j true) a' w' (l.set u E) t (ready_mono s (Ne.symm g)) O.1 (O.2.1 E) ?_⟩) h2;rw [Array.setIfInBounds_comm _ _ g];exact O.2.2
end
section
variable {ops:Array Oper} {cx:Cx}
theorem qGq {P : Program} {V : List Nat} {i : Nat} {g : Option (Nat × Bool)} {d : Nat} {e : Ex} (h : Qj P ops V i = some (g, d, e)) :
    ∃o,ops[i]? =some o∧px P ops V (i+1) i=some (e,i)∧o.dst=some d∧d∈V∧tg ops V o.guard i=some g:=by
  unfold Qj at h;split at h
  · cases h
  · rename_i o c;split at h
    · rename_i s j u a p;split at h
      · rename_i b;simp only [Bool.and_eq_true,decide_eq_true_eq] at b;obtain ⟨m,rfl⟩:=b;simp only [Option.map_eq_some_iff] at h;obtain ⟨t,l,k⟩:=h;cases k;exact ⟨o,c,a,p,by simpa using m,l⟩
      · cases h
    · cases h
theorem qe8 (s:Region1 cx.n ops) {i:Nat} {g:Option (Nat×Bool)} {d:Nat} {e:Ex} (h:Qj cx.P ops cx.V i=some (g,d,e)) {ρ:qa} {a:Act} (k:Agree cx.n cx.V ρ a) {S:World→Prop} {v:Value}
    (m:if gd ρ g then (∀w',S w'→e.ev ρ w'=some v) else v=undef):∃o,ops[i]? =some o∧o.dst=some d∧d∈cx.V∧YieldsIf cx.P ops S o v a:=by
  obtain ⟨o,j,t,l,E,C⟩:=qGq h;refine ⟨o,j,l,E, ?_⟩;obtain ⟨c,_⟩:=qaK k C;have J:=qdg s _ _ _ _ t;by_cases b:gd ρ g=true
  · rw [if_pos b] at m;refine .inl ⟨by rw [yx,c];exact b,fun w' A=> ?_⟩;have p:=J.yes o j ρ w' a v k (by rw [c];exact b) (m w' A) (fun y=>y.tmps[d]? =some v) fun y _ u=>u d l;rw [show i+1 - i=1 by omega] at p;simp only [List.range'_one,PS,j,yx,c,b,if_true] at p;obtain ⟨F,B,z⟩:=p;have H:=Qh s j k.size d l;have:=QN (a:=a) (o:=o) (v:=F) (fun x I=>Qh s j k.size x I) d l;rw [this] at z;cases z;exact B w' (qz _)
  · rw [if_neg b] at m;exact .inr ⟨by rw [yx,c];simpa using b,m⟩
theorem qfJ (X : Region1 cx.n ops) {K0 : qa → World → Prop} {Q : Ks} {i : Nat} {s : St} (h : yc cx.P ops cx.V i = some s) {K : qa → World → Prop} {ρ : qa} {a : Act} {w : World} (p : Agree cx.n cx.V ρ a) (A : jT cx a) (L : ¬ Q.rd) (O : Q.df → cx.D ≠ [])
    (k:s.wp cx.P Q K ρ w):wpOp cx.P ops (xw cx K0 Q) i (fun W w'=>jT cx W∧∃l,Agree cx.n cx.V l W∧K l w') a w:=by
  unfold yc at h;split at h
  · rename_i g d e y;cases h;simp only [St.wp] at k;by_cases j:gd ρ g=true
    · simp only [j,if_true,vJ] at k;cases z:e.ev ρ w with
      |none=>simp only [z] at k
      |some v=>
        simp only [z] at k;obtain ⟨o,B,R,I,U⟩:=qe8 X y p (S:=fun w'=>w'=w) (v:=v) (by rw [if_pos j];rintro _ rfl;exact z);refine U.wpOp B rfl ?_;rw [R];exact ⟨fun e=>(wg _ _ _).trans (A e),_,p.put I v,k⟩
    · simp only [j] at k;obtain ⟨o,B,R,I,U⟩:=qe8 X y p (S:=fun w'=>w'=w) (v:=undef) (by rw [if_neg j]);refine U.wpOp B rfl ?_;rw [R];exact ⟨fun e=>(wg _ _ _).trans (A e),_,p.put I undef,by simpa using k⟩
  · split at h
    · cases h
    · rename_i o B;split at h
      · rename_i C;simp only [Option.map_eq_some_iff] at h;obtain ⟨g,Z,rfl⟩:=h;obtain ⟨E,_⟩:=qaK p Z;have m:=qi0 C;have J:=qiP p C;simp only [wpOp,B,yx];simp only [St.wp] at k;by_cases j:gd ρ g=true
        · simp only [j,if_true] at k;have t:jX ops o.guard a=true:=by rw [E];exact j
          simp only [t,if_true];have b:=qtr k;unfold j9 at b;have u:∀v F,K (qm ρ o.dst v) F→jT cx (a.put o.dst v)∧∃l,Agree cx.n cx.V l (a.put o.dst v)∧K l F:=
            fun v F Y=>⟨fun e=>(wg _ _ _).trans (A e),_,p.putO m v,Y⟩
          refine .inl ?_;simp only [Oper.wp,J];generalize (execOp (qd ρ) (qA o.dst o.op o.type)).run cx.P w=r at b;cases r with
          |ok x w'=>
            cases x<;>simp only [wX,Oper.upon] at b⊢ <;>first|exact u _ _ b|(cases b;done)|(exact absurd b.1 L)|skip
            · refine b.mono fun e F H=> ?_;cases e with
              |returned v=>exact u _ _ H
              |panicked c=>exact ⟨A,ρ,p,H⟩
              |outgrown=>exact qbX H
            · exact ⟨fun e=>absurd e (O b.1),_,(p.defer _).putO m undef,b.2⟩
          |halt x w'=>
            cases x<;>simp only [wX,Oper.upon] at b⊢ <;>first|(cases b;done)|exact ⟨A,ρ,p,b⟩
        · simp only [j] at k;have t:jX ops o.guard a=false:=by rw [E];simpa using j
          simp only [t,Bool.false_eq_true,if_false];exact ⟨fun e=>(wg _ _ _).trans (A e),_,p.putO m undef,by simpa using k⟩
      · cases h
theorem qjj {P:Program} {Q:Ks} {S:World→Prop} {K:qa→World→Prop} {ρ:qa} {w:World}:∀{l:List (Option OT)} {t:OT},wq l=some t→t.wp P Q S K ρ w→∀x∈l,∃g,x=some g∧g.wp P Q S K ρ w
  |[],_,h,_,_,_=>by simp [wq] at h
  |[x],t,h,e,y,c=>by
    simp only [wq] at h;rw [List.mem_singleton] at c;subst c;exact ⟨t,h,e⟩
  | x :: z :: l, t, h, e, y, c => by
    simp only [wq] at h;split at h
    · rename_i a b i;cases h;rcases List.mem_cons.1 c with rfl|c
      · exact ⟨a,rfl,e.1⟩
      · exact qjj i e.2 y c
    · cases h
theorem qjk:∀{l:List (Option OT)} {t:OT},wq l=some t→∀(e:OT),some e∈l→∀d∈e.takes,d∈t.takes
  |[],_,h,_,_,_,_=>by simp [wq] at h
  |[x],t,h,e,c,d,g=>by
    simp only [wq] at h;rw [List.mem_singleton] at c;subst c;cases h;exact g
  | x :: z :: l, t, h, e, c, d, g => by
    simp only [wq] at h;split at h
    · rename_i a b i;cases h;rcases List.mem_cons.1 c with j|c
      · cases j;exact List.mem_append_left _ g
      · exact List.mem_append_right _ (qjk i e c d g)
    · cases h
theorem qlS {Q:Ks} {K:qa→World→Prop} {o:Oper} {d:Nat} {v:Value} (j:o.dst=some d) (s:d∈cx.V) (hpn:∀ρ v c w,Q.pn (qu ρ d v) c w→Q.pn ρ c w) (c:List PanicEntry) (a:Act) (w:World)
    (h:xw cx K Q (.panic c) (a.put o.dst v) w):xw cx K Q (.panic c) a w:=by
  obtain ⟨m,ρ,b,k⟩:=h;have g:a.tmps.size=cx.n:=by have:=b.size;rw [j] at this;simpa [Act.put] using this
  have i:Agree cx.n cx.V (ko cx.V a) a:=⟨g,rfl,b.lt,b.big⟩;have l:=i.put s v;rw [j] at b;have p:ρ=qu (ko cx.V a) d v:=b.env.trans l.env.symm;subst p;exact ⟨fun e=>(wg a o.dst v).symm.trans (m e),_,i,hpn _ _ _ _ k⟩
theorem qgJ (Y : Region1 cx.n ops) (l : Region.noSelect ops = true) {n : Nat} (hn : n = ops.size ∨ (n < ops.size ∧ Region.sinkB .any ops n = true ∧ Region.chainB .any ops n = true)) {S : World → Prop} {K : qa → World → Prop} {Q : Ks} (C : ¬ Q.rd) (E : Q.df → cx.D ≠ []) :
    ∀(f:Nat) (H:Bool) (listed:Array Bool) (t:OT),qav cx.P ops cx.V n f H listed=some t→(∀d∈t.takes,∀ρ v c w,Q.pn (qu ρ d v) c w→Q.pn ρ c w)→(H=true→HeadInv .any ops n listed)→∀(ρ:qa) (a:Act) (w:World),Agree cx.n cx.V ρ a→jT cx a→(H=true→S w)→
      t.wp cx.P Q S K ρ w→yw cx.P .any ops (xw cx K Q) S n f listed a w
  |0,H,listed,t,h,_,_,ρ,a,w,F,R,_,k=>by
    simp only [qav] at h;split at h
    · rename_i O;cases h;exact ⟨by simpa using O,R,ρ,F,k⟩
    · cases h
  | f + 1, H, listed, t, h, hpn, p, ρ, a, w, F, R, hS, k => by
    simp only [qav] at h;split at h
    · rename_i O;cases h;have A:Region.ready .any ops listed=[]:=by simpa using O
      exact ⟨fun _=>⟨R,ρ,F,k⟩,by rw [A];simp⟩
    · rename_i O;have A:Region.ready .any ops listed≠[]:=by simpa using O
      split at h
      · rename_i i y;split at y
        · rename_i I;have z:=List.mem_of_find?_eq_some y;have m:=List.find?_some y;simp only [Bool.and_eq_true,decide_eq_true_eq] at m;obtain ⟨⟨hin,B⟩,_⟩:=m;split at h
          · rename_i g d e J;simp only [Option.map_eq_some_iff] at h;obtain ⟨t',b,rfl⟩:=h;simp only [OT.wp] at k;have key:∀v,(if gd ρ g then (∀w',S w'→e.ev ρ w'=some v) else v=undef)→t'.wp cx.P Q S K (qu ρ d v) w→yw cx.P .any ops (xw cx K Q) S n (f+1) listed a w:=by
              intro v hv hk;obtain ⟨o,ho,W,hV,hy⟩:=qe8 Y J F hv;refine qjM ho (Region.noSelect_spec l) hn hin (fun c a w j=> ?_) f listed a w (p I) (Region.free_spec ho B) z hy (hS I) ?_
              · exact qlS W hV (hpn d (by simp [OT.takes])) c a w j
              · rw [W];exact qgJ Y l hn C E f H _ t' b (fun x hx=>hpn x (by simp [OT.takes,hx])) (fun j=>(p j).set z hin) _ _ w (F.put hV v) (fun e=>(wg _ _ _).trans (R e)) hS hk
            by_cases u:gd ρ g=true
            · rw [if_pos u] at k;unfold vJ at k;split at k
              · obtain ⟨j,h2⟩:=k;exact key _ (by rw [if_pos u];exact j) h2
              · cases k
            · rw [if_neg u] at k;exact key undef (by rw [if_neg u]) k
          · cases h
        · cases y
      · refine ⟨fun h0=>absurd h0 A,fun i y=> ?_⟩;obtain ⟨t',b,U⟩:=qjj h k _ (List.mem_map.2 ⟨i,y,rfl⟩);split at b
        · rename_i s hs;simp only [Option.map_eq_some_iff] at b;obtain ⟨t2,L,rfl⟩:=b;simp only [OT.wp] at U;refine wpOp_mono ?_ (qfJ Y hs F R C E U);rintro a' w' ⟨hD',Z,ha',X,hk'⟩;refine ⟨fun hlt=>X (by simpa using hlt),qgJ Y l hn C E f _ _ t2 L (fun x hx=>hpn x (qjk h (.step s (decide (i<n)) t2) (List.mem_map.2 ⟨i,y,by simp only [hs,L,Option.map_some]⟩) x (by simpa [OT.takes] using hx))) (fun j=> ?_) Z a' w' ha' hD' (fun j=> ?_) hk'⟩
          · simp only [Bool.and_eq_true,decide_eq_true_eq] at j;exact (p j.1).set y j.2
          · simp only [Bool.and_eq_true,decide_eq_true_eq] at j;exact X (by simpa using j.2)
        · cases b
theorem qsQ {n:Nat}:HeadInv .any ops n (Array.replicate ops.size false):=
  ⟨by simp,fun j c _ a=>(by rw [getD_replicate_false] at a;cases a),fun t _ b=>getD_in (by simpa using b) (getD_replicate_false _ _)⟩
theorem vH {c:Code} {n:Nat} {t:OT} (h:vF cx.P cx.n cx.V n c=some t) (S:World→Prop) {K:qa→World→Prop} {Q:Ks} {ρ:qa} {w:World}
    (m:∀w',qb w w'→w'.heap=w.heap→S w'∧t.wp cx.P Q.noRd S K ρ w') (hpn:∀d∈t.takes,∀ρ v c w,Q.pn (qu ρ d v) c w→Q.pn ρ c w:=by exact fun _ _ _ _ _ _ h=>h):(IR.raw c).wp cx K Q ρ w:=by
  intro a p o e;unfold vF at h;split at h
  · rename_i id ops;split at h
    · rename_i g;simp only [Bool.and_eq_true,Bool.or_eq_true,decide_eq_true_eq] at g;obtain ⟨⟨⟨k,s⟩,i⟩,b⟩:=g;obtain ⟨l,j⟩:=m {w with drawn:=w.drawn+1} ⟨rfl,rfl,rfl,Nat.le_refl _,fun _ _=>rfl⟩ rfl;refine wp_region_any i (qfo _ _ _ _ (qgJ (qbx k) s (by rcases b with b|b;exact .inl b;exact .inr ⟨b.1.1,b.1.2,b.2⟩) (Q:=Q.noRd) (fun h=>h) e _ _ _ t h hpn (fun _=>qsQ) ρ a _ p o (fun _=>l) j))
    · cases h
  · cases h
end
section
variable {P:Program} {Q:Ks} {S:World→Prop} {K:qa→World→Prop} {ρ:qa} {w:World}
@[simp] theorem qHB:OT.wp P Q S K .done ρ w=K ρ w:=rfl
@[simp] theorem qHz {g:Option (Nat×Bool)} {d:Nat} {e:Ex} {t:OT}:OT.wp P Q S K (.take g d e t) ρ w=if gd ρ g then vJ (e.ev ρ w) (fun v=>(∀w',S w'→e.ev ρ w'=some v)∧t.wp P Q S K (qu ρ d v) w) else t.wp P Q S K (qu ρ d undef) w:=rfl
@[simp] theorem qHA {b:Bool} {g:Option (Nat×Bool)} {d:Option Nat} {op:Op} {ty:TypeId} {t:OT}:OT.wp P Q S K (.step (.eff g d op ty) b t) ρ w=if gd ρ g then qr P Q d op ty (fun a w'=>(b=true→S w')∧t.wp P Q S K a w') ρ w else (b=true→S w)∧t.wp P Q S K (qm ρ d undef) w:=rfl
@[simp] theorem qHD {b:Bool} {g:Option (Nat×Bool)} {d:Nat} {e:Ex} {t:OT}:OT.wp P Q S K (.step (.asg g d e) b t) ρ w=if gd ρ g then vJ (e.ev ρ w) (fun v=>(b=true→S w)∧t.wp P Q S K (qu ρ d v) w) else (b=true→S w)∧t.wp P Q S K (qu ρ d undef) w:=rfl
@[simp] theorem qHC {x y:OT}:OT.wp P Q S K (.both x y) ρ w=(x.wp P Q S K ρ w∧y.wp P Q S K ρ w):=rfl
end
end Go.Eng
namespace Go.Eng
open Go.RowKit
section
variable {P:Program} {Q:Ks} {d:Option Nat} {ty:TypeId} {K:qa→World→Prop} {ρ:qa} {w:World}
theorem qdt {B:Nat} {w W:World} (h:Only B w W):w.grownBy W (some B):=
  ⟨h.os,h.tape,h.output,by rw [h.size];exact Nat.le_refl _,fun k _ a=>h.block k (by simpa using a)⟩
end
end Go.Eng
namespace Go.Eng
open Go.RowKit
@[simp] theorem qHH (a:Option Addr) (n c:Nat):(Value.slice a n c).oneCell=true:=rfl
@[simp] theorem qHG (s:ByteArray):(Value.string s).oneCell=true:=rfl
@[simp] theorem qHJ (k:IntKind) (n:Int):(Value.int k n).oneCell=true:=rfl
@[simp] theorem qHK (b:Bool):(Value.bool b).oneCell=true:=rfl
@[simp] theorem qHI (a:Option Addr):(Value.pointer a).oneCell=true:=rfl
@[simp] theorem qHy (B o n c:Nat):(Value.slice (some ⟨B,o,none⟩) n c).ownBlock=some B:=rfl
@[simp] theorem qHx (n c:Nat):(Value.slice none n c).ownBlock=none:=rfl
structure SlD where
  v:Value
  e:Nat
  sz:Nat
  xs:List Value
def qcD (a b:Value):Prop:=a.ownBlock=none∨a.ownBlock≠b.ownBlock
theorem qcD.symm {a b:Value} (h:qcD a b):qcD b a:=by
  unfold qcD at*;rcases h with h|h
  · cases c:b.ownBlock with
    |none=>exact .inl rfl
    |some x=>right;rw [h];simp
  · exact .inr (Ne.symm h)
def xD (base:Nat) (W:World):List SlD→Prop
  |[]=>True
  |d::l=>Own base d.e d.sz W d.v d.xs∧(∀x∈l,qcD d.v x.v)∧xD base W l
theorem xD.imp {base:Nat} {W W':World}:∀{l:List SlD},xD base W l→(∀x∈l,Own base x.e x.sz W x.v x.xs→Own base x.e x.sz W' x.v x.xs)→xD base W' l
  |[],_,_=>trivial
  |d::l,⟨g,h,b⟩,a=>⟨a d (by simp) g,h,xD.imp b fun x c=>a x (by simp [c])⟩
theorem xD.ext {base:Nat} {W W':World} {l:List SlD} (h:xD base W l) (a:qb W W'):xD base W' l:=h.imp fun _ _ h=>h.ext a
theorem xD.only {base B:Nat} {W W':World} {l:List SlD} (h:xD base W l) (a:Only B W W') (b:B<base):xD base W' l:=h.imp fun _ _ h=>h.only a b
theorem xD.tail {base:Nat} {W:World} {a:SlD} {l:List SlD} (h:xD base W (a::l)):xD base W l:=h.2.2
theorem xD.head {base:Nat} {W:World} {a:SlD} {l:List SlD} (h:xD base W (a::l)):Own base a.e a.sz W a.v a.xs:=h.1
theorem Own.isl {base e sz:Nat} {w:World} {v:Value} {xs:List Value} (h:Own base e sz w v xs):qo v=true:=by
  rcases h with ⟨rfl,_⟩|⟨g,off,i,cap,cur,rfl,c,b,j,a,_⟩
  · rfl
  · simp [qo,a]
theorem qEI {B:Nat} {a b c:World} (h:a.grownBy b (some B)) (k:Below a.heap.size b c):a.grownBy c (some B):=
  ⟨k.os.trans h.os,k.tape.trans h.tape,k.output.trans h.output,Nat.le_trans h.size k.size,fun i g e=>(k.block i g).trans (h.block i g e)⟩
theorem qsT {B:Nat} {a b c:World} (h:a.grownBy b (some B)) (k:qb b c):a.grownBy c (some B):=qEI h (k.mono h.size)
theorem qsS {B:Nat} {a b c:World} (h:a.grownBy b (some B)) (k:Only B b c):a.grownBy c (some B):=
  ⟨k.os.trans h.os,k.tape.trans h.tape,k.output.trans h.output,by rw [k.size];exact h.size,fun i g e=>(k.block i (by simpa using e)).trans (h.block i g e)⟩
theorem qEJ (row:Option Nat) (a:World):a.grownBy a row:=⟨rfl,rfl,rfl,Nat.le_refl _,fun _ _ _=>rfl⟩
theorem Blk.below {W W':World} {B base:Nat} {cs:Array Value} {t:TypeId} (h:Blk W B cs t) (k:Below base W W') (a:B<base):Blk W' B cs t:=⟨(k.block B a).trans h.heap⟩
theorem wj {B base:Nat} {W W':World} (h:Only B W W') (a:base≤B):Below base W W':=
  ⟨h.os,h.tape,h.output,by rw [h.size];exact Nat.le_refl _,fun k b=>h.block k (by omega)⟩
section
variable {P:Program} {Q:Ks} {d:Option Nat} {ty:TypeId} {K:qa→World→Prop} {ρ:qa} {w:World}
theorem jl {t:TypeId} {p x:Operand} {B:Nat} {cs:Array Value} {T:TypeId} (j:qd ρ p= .pointer (some ⟨B,0,none⟩)) (e:Blk w B cs T) (a:(qd ρ x).cells.size=cs.size) (i:∀v∈(qd ρ x).cells.toList,v.oneCell=true)
    (g:jA P t cs.size=true) (h:∀W,Only B w W→Blk W B (qd ρ x).cells T→K (qm ρ d undef) W):qr P Q d (.store t p x) ty K ρ w:=by
  show jA P t (qd ρ x).cells.size=true∧yR (qd ρ p) _;rw [j,a];refine ⟨g, ?_⟩;show wc ⟨B,0,none⟩ _ 0 _ w;refine qcS _ 0 w cs e (by rw [Array.length_toList,a];omega) i fun W' c b=> ?_;refine h W' c ?_;have:(cs.toList.take 0++(qd ρ x).cells.toList++cs.toList.drop (0+(qd ρ x).cells.toList.length)).toArray=(qd ρ x).cells:=by
    have k:List.drop (0+(qd ρ x).cells.toList.length) cs.toList=[]:=List.drop_eq_nil_of_le (by rw [Array.length_toList,Array.length_toList,a];omega);rw [k];simp
  rw [this] at b;exact b
theorem kT {B:Nat} {cs:Array Value} {T:TypeId} (c:Blk w B cs T):jq w ⟨B,0,none⟩ 0 cs.size=some cs.toList:=by
  have:=yM (w:=w) (a:=⟨B,0,none⟩) (l:=cs.toList) (i:=0) fun j e=>by
    rw [vM,c.cell];have b:j<cs.size:=by simpa using e
    simp [b]
  simpa using this
theorem vl {v:Value} (h:qo v=true):v.cells= #[v]:=by
  rcases zJ h with ⟨b,o,n,c,rfl,_⟩|rfl|⟨b,o,s,rfl⟩<;>rfl
theorem vU {v:Value} (h:qo v=true):v.oneCell=true:=by
  rcases zJ h with ⟨b,o,n,c,rfl,_⟩|rfl|⟨b,o,s,rfl⟩<;>rfl
theorem qEC {base:Nat} {W:World} {v:Value} (a:w.grownBy W v.ownBlock) (c:∀k,v.ownBlock=some k→base≤k) (b:base≤w.heap.size):Below base w W:=
  ⟨a.os,a.tape,a.output,a.size,fun k g=>a.block k (by omega) fun e=>by have:=c k e.symm;omega⟩
end
end Go.Eng
