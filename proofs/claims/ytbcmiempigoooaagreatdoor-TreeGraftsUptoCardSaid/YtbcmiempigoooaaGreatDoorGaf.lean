/- Lemmas for a claim about layer 2 (tree). No conditions but those they state. -/
import Derived.Test.YtbcmiempigoooaaGreatDoorGae
import Derived.OrdersHeld
import Derived.StillTail
set_option linter.all false
namespace Go.Eng
open Go.RowKit
inductive OT where
  |done
  |take (g:Option (Nat×Bool)) (d:Nat) (e:Ex) (t:OT)
  |step (s:St) (b:Bool) (t:OT)
  |both (x y:OT)
def OT.wp (P:Program) (Q:Ks) (S:World→Prop) (K:qa→World→Prop):OT→qa→World→Prop
  | .done,ρ,w=>K ρ w
  | .take g d e t,ρ,w=>if gd ρ g then vG (e.ev ρ w) (fun v=>(∀w',S w'→e.ev ρ w'=some v)∧t.wp P Q S K (qt ρ d v) w) else t.wp P Q S K (qt ρ d undef) w
  | .step s b t,ρ,w=>s.wp P Q (fun ρ' w'=>(b=true→S w')∧t.wp P Q S K ρ' w') ρ w
  | .both x y,ρ,w=>x.wp P Q S K ρ w∧y.wp P Q S K ρ w
def OT.takes:OT→List Nat
  | .done=>[]
  | .take _ d _ t=>d::t.takes
  | .step _ _ t=>t.takes
  | .both x y=>x.takes++y.takes
section
variable (P:Program) (ops:Array Oper) (V:List Nat)
def Qd (i : Nat) : Option (Option (Nat × Bool) × Nat × Ex) :=
  match ops[i]? with
  |none=>none
  |some o=>match px P ops V (i+1) i,o.dst with
    |some (e,j),some d=>if V.contains d&&decide (j=i) then (tg ops V o.guard i).map fun g=>(g,d,e) else none
    |_,_=>none
def wV (i : Nat) : Option St :=
  match Qd P ops V i with
  |some (g,d,e)=>some (.asg g d e)
  |none=>match ops[i]? with
    |none=>none
    |some o=>if Qa V o then (tg ops V o.guard i).map fun g=> .eff g o.dst o.op o.type else none
def wg : List (Option OT) → Option OT
  |[]=>none
  |[x]=>x
  |x::y::l=>match x,wg (y::l) with
    |some a,some b=>some (.both a b)
    |_,_=>none
def qad (n : Nat) : Nat → Bool → Array Bool → Option OT
  |0,_,listed=>if (Region.ready .any ops listed).isEmpty then some .done else none
  | f + 1, hd, listed =>
    if (Region.ready .any ops listed).isEmpty then some .done else
    match (if hd then (Region.ready .any ops listed).find? (fun i=>decide (i<n)&&Region.free .any ops listed i&&(Qd P ops V i).isSome) else none) with
    |some i=>match Qd P ops V i with
      |some (g,d,e)=>(qad n f hd (listed.setIfInBounds i true)).map (.take g d e)
      |none=>none
    |none=>wg ((Region.ready .any ops listed).map fun i=>match wV P ops V i with
      |some s=>(qad n f (hd&&decide (i<n)) (listed.setIfInBounds i true)).map (.step s (decide (i<n)))
      |none=>none)
end
def vD (P : Program) (nt : Nat) (V : List Nat) (n : Nat) : Code → Option OT
  | .region _ ops true=>
    if Qx ops nt&&Region.noSelect ops&&P.follows .mixedOrders&&(decide (n=ops.size)||(decide (n<ops.size)&&Region.sinkB .any ops n&&Region.chainB .any ops n)) then qad P ops V n ops.size true (Array.replicate ops.size false) else none
  |_=>none
section
variable {P:Program} {ops:Array Oper} {Q:Exit→Act→World→Prop} {md:Region.Mode} {S:World→Prop} {n:Nat}
def yo (P : Program) (md : Region.Mode) (ops : Array Oper) (Q : Exit → Act → World → Prop) (S : World → Prop) (n : Nat) : Nat → Array Bool → Act → World → Prop
  |0,listed,a,w=>Region.ready md ops listed=[]∧Q .normal a w
  |f+1,listed,a,w=>(Region.ready md ops listed=[]→Q .normal a w)∧
    ∀i∈Region.ready md ops listed,wpOp P ops Q i (fun a' w'=>(i<n→S w')∧yo P md ops Q S n f (listed.setIfInBounds i true) a' w') a w
theorem qeL:∀(f:Nat) (listed:Array Bool) (a:Act) (w:World),yo P md ops Q S n f listed a w→wpAny P md ops Q f listed a w
  |0,_,_,_,h=>h
  |f+1,_,_,_,h=>⟨h.1,fun i c=>wpOp_mono (fun b w' e=>qeL f _ b w' e.2) (h.2 i c)⟩
theorem qiO {i : Nat} {B : Oper} {v : Value} (hi : ops[i]? = some B) (A : ∀ (j : Nat) (o : Oper) cs b, ops[j]? = some o → o.op ≠ .select cs b)
    (hn:n=ops.size∨(n<ops.size∧Region.sinkB md ops n=true∧Region.chainB md ops n=true)) (hin:i<n)
    (hQ:∀c a w,Q (.panic c) (a.put B.dst v) w→Q (.panic c) a w):
    ∀(f:Nat) (listed:Array Bool) (a:Act) (w:World),HeadInv md ops n listed→
      (∀j z,ops[j]? =some z→j≠i→listed.getD j true=false→(∀e∈z.after,Region.binds md e=true→e.on≠i)→B.apart ops z=true)→
      i∈Region.ready md ops listed→YieldsIf P ops S B v a→S w→
      yo P md ops Q S n f (listed.setIfInBounds i true) (a.put B.dst v) w→yo P md ops Q S n (f+1) listed a w:=by
  have J:∀{listed:Array Bool},HeadInv md ops n listed→i∈Region.ready md ops listed→∀j,j∈Region.ready md ops listed→j<n:=by
    intro listed m s j t;rcases hn with rfl|⟨X,hs,hc⟩
    · obtain ⟨_,z,l,_⟩:=mem_ready.1 t;exact (Array.getElem?_eq_some_iff.1 l).1
    · rcases Nat.lt_or_ge j n with h|h
      · exact h
      · exact absurd t (tail_waits hs hc X m _ i rfl hin (mem_ready.1 s).1 j h)
  intro f
  induction f with
  |zero=>
    intro listed a w m _ s R L H;refine ⟨fun h=>(by rw [h] at s;cases s),fun j t=> ?_⟩;by_cases g:j=i
    · subst g;exact R.wpOp hi L ⟨fun _=>L,H⟩
    · have:=ready_mono t g;rw [H.1] at this;cases this
  |succ f ih=>
    intro listed a w m p s R L H;refine ⟨fun h=>(by rw [h] at s;cases s),fun j t=> ?_⟩;by_cases g:j=i
    · subst g;exact R.wpOp hi L ⟨fun _=>L,H⟩
    · have U:=H.2 j (ready_mono t g);have C:=J m s j t;obtain ⟨x,z,l,F⟩:=mem_ready.1 t;have Z:=(mem_ready.1 s).1;have E:∀e∈z.after,Region.binds md e=true→e.on≠i:=fun e he hb Y=>by
        have U:=F e he hb;rw [Y,getD_both Z] at U;cases U
      have h2:=wpOp_putIf l (p j z l g x E) (fun cs b=>A i B cs b hi) (fun cs b=>A j z cs b l) hQ R U
      have u:∀k ok,ops[k]? =some ok→k≠i→(listed.setIfInBounds j true).getD k true=false→
          (∀e∈ok.after,Region.binds md e=true→e.on≠i)→B.apart ops ok=true:=fun k ok hk W y hno=>by
        refine p k ok hk W ?_ hno;by_cases I:j=k
        · subst I;exact x
        · rw [getD_set_ne true I] at y;exact y
      refine wpOp_mono (fun a' w' O=>⟨O.2.1,ih (listed.setIfInBounds j true) a' w' (m.set t C) u (ready_mono s (Ne.symm g)) O.1 (O.2.1 C) ?_⟩) h2;rw [Array.setIfInBounds_comm _ _ g];exact O.2.2
end
section
variable {ops:Array Oper} {cx:Cx}
theorem qEj {P : Program} {V : List Nat} {i : Nat} {g : Option (Nat × Bool)} {d : Nat} {e : Ex} (h : Qd P ops V i = some (g, d, e)) :
    ∃o,ops[i]? =some o∧px P ops V (i+1) i=some (e,i)∧o.dst=some d∧d∈V∧tg ops V o.guard i=some g:=by
  unfold Qd at h;split at h
  · cases h
  · rename_i o p;split at h
    · rename_i t j u a l;split at h
      · rename_i b;simp only [Bool.and_eq_true,decide_eq_true_eq] at b;obtain ⟨c,rfl⟩:=b;simp only [Option.map_eq_some_iff] at h;obtain ⟨s,k,m⟩:=h;cases m;exact ⟨o,p,a,l,by simpa using c,k⟩
      · cases h
    · cases h
theorem qew (p:Region1 cx.n ops) {i:Nat} {g:Option (Nat×Bool)} {d:Nat} {e:Ex} (h:Qd cx.P ops cx.V i=some (g,d,e)) {ρ:qa} {a:Act} (m:Agree cx.n cx.V ρ a) {S:World→Prop} {v:Value}
    (l:if gd ρ g then (∀w',S w'→e.ev ρ w'=some v) else v=undef):∃o,ops[i]? =some o∧o.dst=some d∧d∈cx.V∧YieldsIf cx.P ops S o v a:=by
  obtain ⟨o,j,t,k,B,F⟩:=qEj h;refine ⟨o,j,k,B, ?_⟩;obtain ⟨c,_⟩:=qaq m F;have H:=qcP p _ _ _ _ t;by_cases b:gd ρ g=true
  · rw [if_pos b] at l;refine .inl ⟨by rw [yp,c];exact b,fun w' I=> ?_⟩;have u:=H.yes o j ρ w' a v m (by rw [c];exact b) (l w' I) (fun y=>y.tmps[d]? =some v) fun y _ s=>s d k;rw [show i+1 - i=1 by omega] at u;simp only [List.range'_one,PS,j,yp,c,b,if_true] at u;obtain ⟨C,E,z⟩:=u;have A:=Qb p j m.size d k;have:=QB (a:=a) (o:=o) (v:=C) (fun x J=>Qb p j m.size x J) d k;rw [this] at z;cases z;exact E w' (qA _)
  · rw [if_neg b] at l;exact .inr ⟨by rw [yp,c];simpa using b,l⟩
theorem qe6 (W : Region1 cx.n ops) {K0 : qa → World → Prop} {Q : Ks} {i : Nat} {s : St} (h : wV cx.P ops cx.V i = some s) {K : qa → World → Prop} {ρ : qa} {a : Act} {w : World} (t : Agree cx.n cx.V ρ a) (A : jT cx a) (I : ¬ Q.rd) (O : Q.df → cx.D ≠ [])
    (k:s.wp cx.P Q K ρ w):wpOp cx.P ops (xx cx K0 Q) i (fun X w'=>jT cx X∧∃m,Agree cx.n cx.V m X∧K m w') a w:=by
  unfold wV at h;split at h
  · rename_i g d e y;cases h;simp only [St.wp] at k;by_cases j:gd ρ g=true
    · simp only [j,if_true,vG] at k;cases z:e.ev ρ w with
      |none=>simp only [z] at k
      |some v=>
        simp only [z] at k;obtain ⟨o,E,U,L,R⟩:=qew W y t (S:=fun w'=>w'=w) (v:=v) (by rw [if_pos j];rintro _ rfl;exact z);refine R.wpOp E rfl ?_;rw [U];exact ⟨fun e=>(kY _ _ _).trans (A e),_,t.put L v,k⟩
    · simp only [j] at k;obtain ⟨o,E,U,L,R⟩:=qew W y t (S:=fun w'=>w'=w) (v:=undef) (by rw [if_neg j]);refine R.wpOp E rfl ?_;rw [U];exact ⟨fun e=>(kY _ _ _).trans (A e),_,t.put L undef,by simpa using k⟩
  · split at h
    · cases h
    · rename_i o E;split at h
      · rename_i C;simp only [Option.map_eq_some_iff] at h;obtain ⟨g,Z,rfl⟩:=h;obtain ⟨B,_⟩:=qaq t Z;have p:=qh3 C;have H:=qhS t C;simp only [wpOp,E,yp];simp only [St.wp] at k;by_cases j:gd ρ g=true
        · simp only [j,if_true] at k;have l:jS ops o.guard a=true:=by rw [B];exact j
          simp only [l,if_true];have b:=qr3 k;unfold jY at b;have u:∀v F,K (qm ρ o.dst v) F→jT cx (a.put o.dst v)∧∃m,Agree cx.n cx.V m (a.put o.dst v)∧K m F:=
            fun v F Y=>⟨fun e=>(kY _ _ _).trans (A e),_,t.putO p v,Y⟩
          refine .inl ?_;simp only [Oper.wp,H];generalize (execOp (qd ρ) (qD o.dst o.op o.type)).run cx.P w=r at b;cases r with
          |ok x w'=>
            cases x<;>simp only [wQ,Oper.upon] at b⊢ <;>first|exact u _ _ b|(cases b;done)|(exact absurd b.1 I)|skip
            · refine b.mono fun e F J=> ?_;cases e with
              |returned v=>exact u _ _ J
              |panicked c=>exact ⟨A,ρ,t,J⟩
              |outgrown=>exact qdf J
            · exact ⟨fun e=>absurd e (O b.1),_,(t.defer _).putO p undef,b.2⟩
          |halt x w'=>
            cases x<;>simp only [wQ,Oper.upon] at b⊢ <;>first|(cases b;done)|exact ⟨A,ρ,t,b⟩
        · simp only [j] at k;have l:jS ops o.guard a=false:=by rw [B];simpa using j
          simp only [l,Bool.false_eq_true,if_false];exact ⟨fun e=>(kY _ _ _).trans (A e),_,t.putO p undef,by simpa using k⟩
      · cases h
theorem qim {P:Program} {Q:Ks} {S:World→Prop} {K:qa→World→Prop} {ρ:qa} {w:World}:∀{l:List (Option OT)} {t:OT},wg l=some t→t.wp P Q S K ρ w→∀x∈l,∃g,x=some g∧g.wp P Q S K ρ w
  |[],_,h,_,_,_=>by simp [wg] at h
  |[x],t,h,e,y,c=>by
    simp only [wg] at h;rw [List.mem_singleton] at c;subst c;exact ⟨t,h,e⟩
  | x :: z :: l, t, h, e, y, c => by
    simp only [wg] at h;split at h
    · rename_i a b i;cases h;rcases List.mem_cons.1 c with rfl|c
      · exact ⟨a,rfl,e.1⟩
      · exact qim i e.2 y c
    · cases h
theorem qin:∀{l:List (Option OT)} {t:OT},wg l=some t→∀(e:OT),some e∈l→∀d∈e.takes,d∈t.takes
  |[],_,h,_,_,_,_=>by simp [wg] at h
  |[x],t,h,e,c,d,g=>by
    simp only [wg] at h;rw [List.mem_singleton] at c;subst c;cases h;exact g
  | x :: z :: l, t, h, e, c, d, g => by
    simp only [wg] at h;split at h
    · rename_i a b i;cases h;rcases List.mem_cons.1 c with j|c
      · cases j;exact List.mem_append_left _ g
      · exact List.mem_append_right _ (qin i e c d g)
    · cases h
theorem qk2 {Q:Ks} {K:qa→World→Prop} {o:Oper} {d:Nat} {v:Value} (i:o.dst=some d) (l:d∈cx.V) (hpn:∀ρ v c w,Q.pn (qt ρ d v) c w→Q.pn ρ c w) (c:List PanicEntry) (a:Act) (w:World)
    (h:xx cx K Q (.panic c) (a.put o.dst v) w):xx cx K Q (.panic c) a w:=by
  obtain ⟨s,ρ,b,m⟩:=h;have g:a.tmps.size=cx.n:=by have:=b.size;rw [i] at this;simpa [Act.put] using this
  have j:Agree cx.n cx.V (x8 cx.V a) a:=⟨g,rfl,b.lt,b.big⟩;have k:=j.put l v;rw [i] at b;have p:ρ=qt (x8 cx.V a) d v:=b.env.trans k.env.symm;subst p;exact ⟨fun e=>(kY a o.dst v).symm.trans (s e),_,j,hpn _ _ _ _ m⟩
theorem qfZ (Y : Region1 cx.n ops) (m : Region.noSelect ops = true) {n : Nat} (hn : n = ops.size ∨ (n < ops.size ∧ Region.sinkB .any ops n = true ∧ Region.chainB .any ops n = true)) {S : World → Prop} {K : qa → World → Prop} {Q : Ks} (B : ¬ Q.rd) (C : Q.df → cx.D ≠ []) :
    ∀(f:Nat) (F:Bool) (listed:Array Bool) (t:OT),qad cx.P ops cx.V n f F listed=some t→(∀d∈t.takes,∀ρ v c w,Q.pn (qt ρ d v) c w→Q.pn ρ c w)→(F=true→HeadInv .any ops n listed)→∀(ρ:qa) (a:Act) (w:World),Agree cx.n cx.V ρ a→jT cx a→(F=true→S w)→
      t.wp cx.P Q S K ρ w→yo cx.P .any ops (xx cx K Q) S n f listed a w
  |0,F,listed,t,h,_,_,ρ,a,w,H,I,_,j=>by
    simp only [qad] at h;split at h
    · rename_i O;cases h;exact ⟨by simpa using O,I,ρ,H,j⟩
    · cases h
  | f + 1, F, listed, t, h, hpn, p, ρ, a, w, H, I, hS, j => by
    simp only [qad] at h;split at h
    · rename_i O;cases h;have A:Region.ready .any ops listed=[]:=by simpa using O
      exact ⟨fun _=>⟨I,ρ,H,j⟩,by rw [A];simp⟩
    · rename_i O;have A:Region.ready .any ops listed≠[]:=by simpa using O
      split at h
      · rename_i i z;split at z
        · rename_i J;have y:=List.mem_of_find?_eq_some z;have l:=List.find?_some z;simp only [Bool.and_eq_true,decide_eq_true_eq] at l;obtain ⟨⟨hin,E⟩,_⟩:=l;split at h
          · rename_i g d e L;simp only [Option.map_eq_some_iff] at h;obtain ⟨t',b,rfl⟩:=h;simp only [OT.wp] at j;have key:∀v,(if gd ρ g then (∀w',S w'→e.ev ρ w'=some v) else v=undef)→t'.wp cx.P Q S K (qt ρ d v) w→yo cx.P .any ops (xx cx K Q) S n (f+1) listed a w:=by
              intro v hv hk;obtain ⟨o,ho,R,hV,hy⟩:=qew Y L H hv;refine qiO ho (Region.noSelect_spec m) hn hin (fun c a w k=> ?_) f listed a w (p J) (Region.free_spec ho E) y hy (hS J) ?_
              · exact qk2 R hV (hpn d (by simp [OT.takes])) c a w k
              · rw [R];exact qfZ Y m hn B C f F _ t' b (fun x hx=>hpn x (by simp [OT.takes,hx])) (fun k=>(p k).set y hin) _ _ w (H.put hV v) (fun e=>(kY _ _ _).trans (I e)) hS hk
            by_cases u:gd ρ g=true
            · rw [if_pos u] at j;unfold vG at j;split at j
              · obtain ⟨k,h2⟩:=j;exact key _ (by rw [if_pos u];exact k) h2
              · cases j
            · rw [if_neg u] at j;exact key undef (by rw [if_neg u]) j
          · cases h
        · cases z
      · refine ⟨fun h0=>absurd h0 A,fun i z=> ?_⟩;obtain ⟨t',b,U⟩:=qim h j _ (List.mem_map.2 ⟨i,z,rfl⟩);split at b
        · rename_i s hs;simp only [Option.map_eq_some_iff] at b;obtain ⟨t2,X,rfl⟩:=b;simp only [OT.wp] at U;refine wpOp_mono ?_ (qe6 Y hs H I B C U);rintro a' w' ⟨ab,ρ',aa,W,hk'⟩;refine ⟨fun Z=>W (by simpa using Z),qfZ Y m hn B C f _ _ t2 X (fun x hx=>hpn x (qin h (.step s (decide (i<n)) t2) (List.mem_map.2 ⟨i,z,by simp only [hs,X,Option.map_some]⟩) x (by simpa [OT.takes] using hx))) (fun k=> ?_) ρ' a' w' aa ab (fun k=> ?_) hk'⟩
          · simp only [Bool.and_eq_true,decide_eq_true_eq] at k;exact (p k.1).set z k.2
          · simp only [Bool.and_eq_true,decide_eq_true_eq] at k;exact W (by simpa using k.2)
        · cases b
theorem qru {n:Nat}:HeadInv .any ops n (Array.replicate ops.size false):=
  ⟨by simp,fun j c _ a=>(by rw [getD_replicate_false] at a;cases a),fun t _ b=>getD_in (by simpa using b) (getD_replicate_false _ _)⟩
theorem vF {c:Code} {n:Nat} {t:OT} (h:vD cx.P cx.n cx.V n c=some t) (S:World→Prop) {K:qa→World→Prop} {Q:Ks} {ρ:qa} {w:World}
    (p:∀w',qb w w'→w'.heap=w.heap→S w'∧t.wp cx.P Q.noRd S K ρ w') (hpn:∀d∈t.takes,∀ρ v c w,Q.pn (qt ρ d v) c w→Q.pn ρ c w:=by exact fun _ _ _ _ _ _ h=>h):(IR.raw c).wp cx K Q ρ w:=by
  intro a s i e;unfold vD at h;split at h
  · rename_i id ops;split at h
    · rename_i g;simp only [Bool.and_eq_true,Bool.or_eq_true,decide_eq_true_eq] at g;obtain ⟨⟨⟨m,l⟩,j⟩,b⟩:=g;obtain ⟨o,k⟩:=p {w with drawn:=w.drawn+1} ⟨rfl,rfl,rfl,Nat.le_refl _,fun _ _=>rfl⟩ rfl;refine wp_region_any j (qeL _ _ _ _ (qfZ (qbc m) l (by rcases b with b|b;exact .inl b;exact .inr ⟨b.1.1,b.1.2,b.2⟩) (Q:=Q.noRd) (fun h=>h) e _ _ _ t h hpn (fun _=>qru) ρ a _ s i (fun _=>o) k))
    · cases h
  · cases h
end
section
variable {P:Program} {Q:Ks} {S:World→Prop} {K:qa→World→Prop} {ρ:qa} {w:World}
@[simp] theorem qFs:OT.wp P Q S K .done ρ w=K ρ w:=rfl
@[simp] theorem qFq {g:Option (Nat×Bool)} {d:Nat} {e:Ex} {t:OT}:OT.wp P Q S K (.take g d e t) ρ w=if gd ρ g then vG (e.ev ρ w) (fun v=>(∀w',S w'→e.ev ρ w'=some v)∧t.wp P Q S K (qt ρ d v) w) else t.wp P Q S K (qt ρ d undef) w:=rfl
@[simp] theorem qFr {b:Bool} {g:Option (Nat×Bool)} {d:Option Nat} {op:Op} {ty:TypeId} {t:OT}:OT.wp P Q S K (.step (.eff g d op ty) b t) ρ w=if gd ρ g then qw P Q d op ty (fun a w'=>(b=true→S w')∧t.wp P Q S K a w') ρ w else (b=true→S w)∧t.wp P Q S K (qm ρ d undef) w:=rfl
@[simp] theorem qFu {b:Bool} {g:Option (Nat×Bool)} {d:Nat} {e:Ex} {t:OT}:OT.wp P Q S K (.step (.asg g d e) b t) ρ w=if gd ρ g then vG (e.ev ρ w) (fun v=>(b=true→S w)∧t.wp P Q S K (qt ρ d v) w) else (b=true→S w)∧t.wp P Q S K (qt ρ d undef) w:=rfl
@[simp] theorem qFt {x y:OT}:OT.wp P Q S K (.both x y) ρ w=(x.wp P Q S K ρ w∧y.wp P Q S K ρ w):=rfl
end
end Go.Eng
namespace Go.Eng
open Go.RowKit
section
variable {P:Program} {Q:Ks} {d:Option Nat} {ty:TypeId} {K:qa→World→Prop} {ρ:qa} {w:World}
theorem qc5 {B:Nat} {w W:World} (h:Only B w W):w.grownBy W (some B):=
  ⟨h.os,h.tape,h.output,by rw [h.size];exact Nat.le_refl _,fun k _ a=>h.block k (by simpa using a)⟩
end
end Go.Eng
namespace Go.Eng
open Go.RowKit
@[simp] theorem qFy (a:Option Addr) (n c:Nat):(Value.slice a n c).oneCell=true:=rfl
@[simp] theorem qFx (s:ByteArray):(Value.string s).oneCell=true:=rfl
@[simp] theorem qFA (k:IntKind) (n:Int):(Value.int k n).oneCell=true:=rfl
@[simp] theorem qFB (b:Bool):(Value.bool b).oneCell=true:=rfl
@[simp] theorem qFz (a:Option Addr):(Value.pointer a).oneCell=true:=rfl
@[simp] theorem qFp (B o n c:Nat):(Value.slice (some ⟨B,o,none⟩) n c).ownBlock=some B:=rfl
@[simp] theorem qFo (n c:Nat):(Value.slice none n c).ownBlock=none:=rfl
structure SlD where
  v:Value
  e:Nat
  sz:Nat
  xs:List Value
def qb6 (a b:Value):Prop:=a.ownBlock=none∨a.ownBlock≠b.ownBlock
theorem qb6.symm {a b:Value} (h:qb6 a b):qb6 b a:=by
  unfold qb6 at*;rcases h with h|h
  · cases c:b.ownBlock with
    |none=>exact .inl rfl
    |some x=>right;rw [h];simp
  · exact .inr (Ne.symm h)
def kF (base:Nat) (W:World):List SlD→Prop
  |[]=>True
  |d::l=>Own base d.e d.sz W d.v d.xs∧(∀x∈l,qb6 d.v x.v)∧kF base W l
theorem kF.imp {base:Nat} {W W':World}:∀{l:List SlD},kF base W l→(∀x∈l,Own base x.e x.sz W x.v x.xs→Own base x.e x.sz W' x.v x.xs)→kF base W' l
  |[],_,_=>trivial
  |d::l,⟨b,c,g⟩,a=>⟨a d (by simp) b,c,kF.imp g fun x h=>a x (by simp [h])⟩
theorem kF.ext {base:Nat} {W W':World} {l:List SlD} (h:kF base W l) (a:qb W W'):kF base W' l:=h.imp fun _ _ h=>h.ext a
theorem kF.only {base B:Nat} {W W':World} {l:List SlD} (h:kF base W l) (a:Only B W W') (b:B<base):kF base W' l:=h.imp fun _ _ h=>h.only a b
theorem kF.head {base:Nat} {W:World} {a:SlD} {l:List SlD} (h:kF base W (a::l)):Own base a.e a.sz W a.v a.xs:=h.1
theorem Own.isl {base e sz:Nat} {w:World} {v:Value} {xs:List Value} (h:Own base e sz w v xs):qn v=true:=by
  rcases h with ⟨rfl,_⟩|⟨g,off,b,cap,cur,rfl,c,j,i,a,_⟩
  · rfl
  · simp [qn,a]
theorem qCB {B:Nat} {a b c:World} (h:a.grownBy b (some B)) (k:Below a.heap.size b c):a.grownBy c (some B):=
  ⟨k.os.trans h.os,k.tape.trans h.tape,k.output.trans h.output,Nat.le_trans h.size k.size,fun i g e=>(k.block i g).trans (h.block i g e)⟩
theorem qrB {B:Nat} {a b c:World} (h:a.grownBy b (some B)) (k:qb b c):a.grownBy c (some B):=qCB h (k.mono h.size)
theorem qrA {B:Nat} {a b c:World} (h:a.grownBy b (some B)) (k:Only B b c):a.grownBy c (some B):=
  ⟨k.os.trans h.os,k.tape.trans h.tape,k.output.trans h.output,by rw [k.size];exact h.size,fun i g e=>(k.block i (by simpa using e)).trans (h.block i g e)⟩
theorem qCC (row:Option Nat) (a:World):a.grownBy a row:=⟨rfl,rfl,rfl,Nat.le_refl _,fun _ _ _=>rfl⟩
theorem Blk.below {W W':World} {B base:Nat} {cs:Array Value} {t:TypeId} (h:Blk W B cs t) (k:Below base W W') (a:B<base):Blk W' B cs t:=⟨(k.block B a).trans h.heap⟩
theorem k9 {B base:Nat} {W W':World} (h:Only B W W') (b:base≤B):Below base W W':=
  ⟨h.os,h.tape,h.output,by rw [h.size];exact Nat.le_refl _,fun k a=>h.block k (by omega)⟩
section
variable {P:Program} {Q:Ks} {d:Option Nat} {ty:TypeId} {K:qa→World→Prop} {ρ:qa} {w:World}
theorem jn {t:TypeId} {p x:Operand} {B:Nat} {cs:Array Value} {T:TypeId} (j:qd ρ p= .pointer (some ⟨B,0,none⟩)) (e:Blk w B cs T) (a:(qd ρ x).cells.size=cs.size) (c:∀v∈(qd ρ x).cells.toList,v.oneCell=true)
    (i:jG P t cs.size=true) (h:∀W,Only B w W→Blk W B (qd ρ x).cells T→K (qm ρ d undef) W):qw P Q d (.store t p x) ty K ρ w:=by
  show jG P t (qd ρ x).cells.size=true∧yL (qd ρ p) _;rw [j,a];refine ⟨i, ?_⟩;show kW ⟨B,0,none⟩ _ 0 _ w;refine qcn _ 0 w cs e (by rw [Array.length_toList,a];omega) c fun W' k b=> ?_;refine h W' k ?_;have:(cs.toList.take 0++(qd ρ x).cells.toList++cs.toList.drop (0+(qd ρ x).cells.toList.length)).toArray=(qd ρ x).cells:=by
    have g:List.drop (0+(qd ρ x).cells.toList.length) cs.toList=[]:=List.drop_eq_nil_of_le (by rw [Array.length_toList,Array.length_toList,a];omega);rw [g];simp
  rw [this] at b;exact b
theorem xr {B:Nat} {cs:Array Value} {T:TypeId} (c:Blk w B cs T):jk w ⟨B,0,none⟩ 0 cs.size=some cs.toList:=by
  have:=Qw (w:=w) (a:=⟨B,0,none⟩) (l:=cs.toList) (i:=0) fun j e=>by
    rw [zF,c.cell];have b:j<cs.size:=by simpa using e
    simp [b]
  simpa using this
theorem jR {v:Value} (h:qn v=true):v.cells= #[v]:=by
  rcases zz h with ⟨b,o,n,c,rfl,_⟩|rfl|⟨b,o,s,rfl⟩<;>rfl
theorem vI {v:Value} (h:qn v=true):v.oneCell=true:=by
  rcases zz h with ⟨b,o,n,c,rfl,_⟩|rfl|⟨b,o,s,rfl⟩<;>rfl
theorem qCu {base:Nat} {W:World} {v:Value} (a:w.grownBy W v.ownBlock) (c:∀k,v.ownBlock=some k→base≤k) (b:base≤w.heap.size):Below base w W:=
  ⟨a.os,a.tape,a.output,a.size,fun k g=>a.block k (by omega) fun e=>by have:=c k e.symm;omega⟩
end
end Go.Eng
