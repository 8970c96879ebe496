/- Lemmas for a claim about layer 2 (tree). No conditions but those they state. -/
import Derived.Test.YtbcmiempigoooaaGreatDoorBae
import Derived.OrdersHeld
import Derived.StillTail
set_option linter.all false
namespace Go.Eng
open Go.RowKit
inductive OT where
  |done
  |take (g:Option (Nat×Bool)) (d:Nat) (e:Ex) (t:OT)
  |step (s:St) (b:Bool) (t:OT)
  |both (x y:OT)
def OT.wp (P:Program) (Q:Ks) (S:World→Prop) (K:qa→World→Prop):OT→qa→World→Prop
  | .done,ρ,w=>K ρ w
  | .take g d e t,ρ,w=>if gd ρ g then z7 (e.ev ρ w) (fun v=>(∀w',S w'→e.ev ρ w'=some v)∧t.wp P Q S K (qn ρ d v) w) else t.wp P Q S K (qn ρ d undef) w
  | .step s b t,ρ,w=>s.wp P Q (fun ρ' w'=>(b=true→S w')∧t.wp P Q S K ρ' w') ρ w
  | .both x y,ρ,w=>x.wp P Q S K ρ w∧y.wp P Q S K ρ w
def OT.takes:OT→List Nat
  | .done=>[]
  | .take _ d _ t=>d::t.takes
  | .step _ _ t=>t.takes
  | .both x y=>x.takes++y.takes
section
variable (P:Program) (ops:Array Oper) (V:List Nat)
def y7 (i : Nat) : Option (Option (Nat × Bool) × Nat × Ex) :=
  match ops[i]? with
  |none=>none
  |some o=>match px P ops V (i+1) i,o.dst with
    |some (e,j),some d=>if V.contains d&&decide (j=i) then (tg ops V o.guard i).map fun g=>(g,d,e) else none
    |_,_=>none
def yl (i : Nat) : Option St :=
  match y7 P ops V i with
  |some (g,d,e)=>some (.asg g d e)
  |none=>match ops[i]? with
    |none=>none
    |some o=>if y3 V o then (tg ops V o.guard i).map fun g=> .eff g o.dst o.op o.type else none
def wy : List (Option OT) → Option OT
  |[]=>none
  |[x]=>x
  |x::y::l=>match x,wy (y::l) with
    |some a,some b=>some (.both a b)
    |_,_=>none
def qat (n : Nat) : Nat → Bool → Array Bool → Option OT
  |0,_,listed=>if (Region.ready .any ops listed).isEmpty then some .done else none
  | f + 1, hd, listed =>
    if (Region.ready .any ops listed).isEmpty then some .done else
    match (if hd then (Region.ready .any ops listed).find? (fun i=>decide (i<n)&&Region.free .any ops listed i&&(y7 P ops V i).isSome) else none) with
    |some i=>match y7 P ops V i with
      |some (g,d,e)=>(qat n f hd (listed.setIfInBounds i true)).map (.take g d e)
      |none=>none
    |none=>wy ((Region.ready .any ops listed).map fun i=>match yl P ops V i with
      |some s=>(qat n f (hd&&decide (i<n)) (listed.setIfInBounds i true)).map (.step s (decide (i<n)))
      |none=>none)
end
def vT (P : Program) (nt : Nat) (V : List Nat) (n : Nat) : Code → Option OT
  | .region _ ops true=>
    if Qm ops nt&&Region.noSelect ops&&P.follows .mixedOrders&&(decide (n=ops.size)||(decide (n<ops.size)&&Region.sinkB .any ops n&&Region.chainB .any ops n)) then qat P ops V n ops.size true (Array.replicate ops.size false) else none
  |_=>none
section
variable {P:Program} {ops:Array Oper} {Q:Exit→Act→World→Prop} {md:Region.Mode} {S:World→Prop} {n:Nat}
def yz (P : Program) (md : Region.Mode) (ops : Array Oper) (Q : Exit → Act → World → Prop) (S : World → Prop) (n : Nat) : Nat → Array Bool → Act → World → Prop
  |0,listed,a,w=>Region.ready md ops listed=[]∧Q .normal a w
  |f+1,listed,a,w=>(Region.ready md ops listed=[]→Q .normal a w)∧
    ∀i∈Region.ready md ops listed,wpOp P ops Q i (fun a' w'=>(i<n→S w')∧yz P md ops Q S n f (listed.setIfInBounds i true) a' w') a w
theorem qeI:∀(f:Nat) (listed:Array Bool) (a:Act) (w:World),yz P md ops Q S n f listed a w→wpAny P md ops Q f listed a w
  |0,_,_,_,h=>h
  |f+1,_,_,_,h=>⟨h.1,fun i e=>wpOp_mono (fun c w' b=>qeI f _ c w' b.2) (h.2 i e)⟩
theorem qiO {i : Nat} {B : Oper} {v : Value} (hi : ops[i]? = some B) (y : ∀ (j : Nat) (o : Oper) cs b, ops[j]? = some o → o.op ≠ .select cs b)
    (hn:n=ops.size∨(n<ops.size∧Region.sinkB md ops n=true∧Region.chainB md ops n=true)) (hin:i<n)
    (hQ:∀c a w,Q (.panic c) (a.put B.dst v) w→Q (.panic c) a w):
    ∀(f:Nat) (listed:Array Bool) (a:Act) (w:World),HeadInv md ops n listed→
      (∀j z,ops[j]? =some z→j≠i→listed.getD j true=false→(∀e∈z.after,Region.binds md e=true→e.on≠i)→B.apart ops z=true)→
      i∈Region.ready md ops listed→YieldsIf P ops S B v a→S w→
      yz P md ops Q S n f (listed.setIfInBounds i true) (a.put B.dst v) w→yz P md ops Q S n (f+1) listed a w:=by
  have F:∀{listed:Array Bool},HeadInv md ops n listed→i∈Region.ready md ops listed→∀j,j∈Region.ready md ops listed→j<n:=by
    intro listed q s j t;rcases hn with rfl|⟨W,hs,hc⟩
    · obtain ⟨_,z,l,_⟩:=mem_ready.1 t;exact (Array.getElem?_eq_some_iff.1 l).1
    · rcases Nat.lt_or_ge j n with h|h
      · exact h
      · exact absurd t (tail_waits hs hc W q _ i rfl hin (mem_ready.1 s).1 j h)
  intro f
  induction f with
  |zero=>
    intro listed a w q _ s R J H;refine ⟨fun h=>(by rw [h] at s;cases s),fun j t=> ?_⟩;by_cases g:j=i
    · subst g;exact R.wpOp hi J ⟨fun _=>J,H⟩
    · have:=ready_mono t g;rw [H.1] at this;cases this
  |succ f ih=>
    intro listed a w q m s R J H;refine ⟨fun h=>(by rw [h] at s;cases s),fun j t=> ?_⟩;by_cases g:j=i
    · subst g;exact R.wpOp hi J ⟨fun _=>J,H⟩
    · have U:=H.2 j (ready_mono t g);have L:=F q s j t;obtain ⟨A,z,l,I⟩:=mem_ready.1 t;have X:=(mem_ready.1 s).1;have C:∀e∈z.after,Region.binds md e=true→e.on≠i:=fun e he hb Z=>by
        have U:=I e he hb;rw [Z,getD_both X] at U;cases U
      have h2:=wpOp_putIf l (m j z l g A C) (fun cs b=>y i B cs b hi) (fun cs b=>y j z cs b l) hQ R U
      have u:∀k ok,ops[k]? =some ok→k≠i→(listed.setIfInBounds j true).getD k true=false→
          (∀e∈ok.after,Region.binds md e=true→e.on≠i)→B.apart ops ok=true:=fun k ok hk hki x Y=>by
        refine m k ok hk hki ?_ Y;by_cases E:j=k
        · subst E;exact A
        · rw [getD_set_ne true E] at x;exact x
      refine wpOp_mono (fun a' w' O=>⟨O.2.1,ih (listed.setIfInBounds j true) a' w' (q.set t L) u (ready_mono s (Ne.symm g)) O.1 (O.2.1 L) ?_⟩) h2;rw [Array.setIfInBounds_comm _ _ g];exact O.2.2
end
section
variable {ops:Array Oper} {cx:Cx}
theorem qBs {P : Program} {V : List Nat} {i : Nat} {g : Option (Nat × Bool)} {d : Nat} {e : Ex} (h : y7 P ops V i = some (g, d, e)) :
    ∃o,ops[i]? =some o∧px P ops V (i+1) i=some (e,i)∧o.dst=some d∧d∈V∧tg ops V o.guard i=some g:=by
  unfold y7 at h;split at h
  · cases h
  · rename_i o l;split at h
    · rename_i u j s a m;split at h
      · rename_i b;simp only [Bool.and_eq_true,decide_eq_true_eq] at b;obtain ⟨k,rfl⟩:=b;simp only [Option.map_eq_some_iff] at h;obtain ⟨t,c,q⟩:=h;cases q;exact ⟨o,l,a,m,by simpa using k,c⟩
      · cases h
    · cases h
theorem qeq (q:Region1 cx.n ops) {i:Nat} {g:Option (Nat×Bool)} {d:Nat} {e:Ex} (h:y7 cx.P ops cx.V i=some (g,d,e)) {ρ:qa} {a:Act} (l:Agree cx.n cx.V ρ a) {S:World→Prop} {v:Value}
    (m:if gd ρ g then (∀w',S w'→e.ev ρ w'=some v) else v=undef):∃o,ops[i]? =some o∧o.dst=some d∧d∈cx.V∧YieldsIf cx.P ops S o v a:=by
  obtain ⟨o,j,s,k,B,A⟩:=qBs h;refine ⟨o,j,k,B, ?_⟩;obtain ⟨c,_⟩:=qaK l A;have F:=qc6 q _ _ _ _ s;by_cases b:gd ρ g=true
  · rw [if_pos b] at m;refine .inl ⟨by rw [yA,c];exact b,fun w' H=> ?_⟩;have u:=F.yes o j ρ w' a v l (by rw [c];exact b) (m w' H) (fun z=>z.tmps[d]? =some v) fun z _ t=>t d k;rw [show i+1 - i=1 by omega] at u;simp only [List.range'_one,PS,j,yA,c,b,if_true] at u;obtain ⟨I,J,y⟩:=u;have C:=y5 q j l.size d k;have:=Qr (a:=a) (o:=o) (v:=I) (fun x E=>y5 q j l.size x E) d k;rw [this] at y;cases y;exact J w' (qV _)
  · rw [if_neg b] at m;exact .inr ⟨by rw [yA,c];simpa using b,m⟩
theorem qfg (W : Region1 cx.n ops) {K0 : qa → World → Prop} {Q : Ks} {i : Nat} {s : St} (h : yl cx.P ops cx.V i = some s) {K : qa → World → Prop} {ρ : qa} {a : Act} {w : World} (t : Agree cx.n cx.V ρ a) (A : jQ cx a) (R : ¬ Q.rd) (I : Q.df → cx.D ≠ [])
    (k:s.wp cx.P Q K ρ w):wpOp cx.P ops (xJ cx K0 Q) i (fun X w'=>jQ cx X∧∃m,Agree cx.n cx.V m X∧K m w') a w:=by
  unfold yl at h;split at h
  · rename_i g d e y;cases h;simp only [St.wp] at k;by_cases j:gd ρ g=true
    · simp only [j,if_true,z7] at k;cases z:e.ev ρ w with
      |none=>simp only [z] at k
      |some v=>
        simp only [z] at k;obtain ⟨o,B,L,H,U⟩:=qeq W y t (S:=fun w'=>w'=w) (v:=v) (by rw [if_pos j];rintro _ rfl;exact z);refine U.wpOp B rfl ?_;rw [L];exact ⟨fun e=>(wr _ _ _).trans (A e),_,t.put H v,k⟩
    · simp only [j] at k;obtain ⟨o,B,L,H,U⟩:=qeq W y t (S:=fun w'=>w'=w) (v:=undef) (by rw [if_neg j]);refine U.wpOp B rfl ?_;rw [L];exact ⟨fun e=>(wr _ _ _).trans (A e),_,t.put H undef,by simpa using k⟩
  · split at h
    · cases h
    · rename_i o B;split at h
      · rename_i C;simp only [Option.map_eq_some_iff] at h;obtain ⟨g,Y,rfl⟩:=h;obtain ⟨E,_⟩:=qaK t Y;have q:=qhG C;have J:=qht t C;simp only [wpOp,B,yA];simp only [St.wp] at k;by_cases j:gd ρ g=true
        · simp only [j,if_true] at k;have l:jP ops o.guard a=true:=by rw [E];exact j
          simp only [l,if_true];have b:=qp1 k;unfold jV at b;have u:∀v F,K (qk ρ o.dst v) F→jQ cx (a.put o.dst v)∧∃m,Agree cx.n cx.V m (a.put o.dst v)∧K m F:=
            fun v F Z=>⟨fun e=>(wr _ _ _).trans (A e),_,t.putO q v,Z⟩
          refine .inl ?_;simp only [Oper.wp,J];generalize (execOp (qd ρ) (qA o.dst o.op o.type)).run cx.P w=r at b;cases r with
          |ok x w'=>
            cases x<;>simp only [ye,Oper.upon] at b⊢ <;>first|exact u _ _ b|(cases b;done)|(exact absurd b.1 R)|skip
            · refine b.mono fun e F O=> ?_;cases e with
              |returned v=>exact u _ _ O
              |panicked c=>exact ⟨A,ρ,t,O⟩
              |outgrown=>exact qdt O
            · exact ⟨fun e=>absurd e (I b.1),_,(t.defer _).putO q undef,b.2⟩
          |halt x w'=>
            cases x<;>simp only [ye,Oper.upon] at b⊢ <;>first|(cases b;done)|exact ⟨A,ρ,t,b⟩
        · simp only [j] at k;have l:jP ops o.guard a=false:=by rw [E];simpa using j
          simp only [l,Bool.false_eq_true,if_false];exact ⟨fun e=>(wr _ _ _).trans (A e),_,t.putO q undef,by simpa using k⟩
      · cases h
theorem qib {P:Program} {Q:Ks} {S:World→Prop} {K:qa→World→Prop} {ρ:qa} {w:World}:∀{l:List (Option OT)} {t:OT},wy l=some t→t.wp P Q S K ρ w→∀x∈l,∃g,x=some g∧g.wp P Q S K ρ w
  |[],_,h,_,_,_=>by simp [wy] at h
  |[x],t,h,e,y,c=>by
    simp only [wy] at h;rw [List.mem_singleton] at c;subst c;exact ⟨t,h,e⟩
  | x :: z :: l, t, h, e, y, c => by
    simp only [wy] at h;split at h
    · rename_i a b i;cases h;rcases List.mem_cons.1 c with rfl|c
      · exact ⟨a,rfl,e.1⟩
      · exact qib i e.2 y c
    · cases h
theorem qic:∀{l:List (Option OT)} {t:OT},wy l=some t→∀(e:OT),some e∈l→∀d∈e.takes,d∈t.takes
  |[],_,h,_,_,_,_=>by simp [wy] at h
  |[x],t,h,e,c,d,g=>by
    simp only [wy] at h;rw [List.mem_singleton] at c;subst c;cases h;exact g
  | x :: z :: l, t, h, e, c, d, g => by
    simp only [wy] at h;split at h
    · rename_i a b j;cases h;rcases List.mem_cons.1 c with i|c
      · cases i;exact List.mem_append_left _ g
      · exact List.mem_append_right _ (qic j e c d g)
    · cases h
theorem qkR {Q:Ks} {K:qa→World→Prop} {o:Oper} {d:Nat} {v:Value} (i:o.dst=some d) (m:d∈cx.V) (hpn:∀ρ v c w,Q.pn (qn ρ d v) c w→Q.pn ρ c w) (c:List PanicEntry) (a:Act) (w:World)
    (h:xJ cx K Q (.panic c) (a.put o.dst v) w):xJ cx K Q (.panic c) a w:=by
  obtain ⟨s,ρ,b,k⟩:=h;have g:a.tmps.size=cx.n:=by have:=b.size;rw [i] at this;simpa [Act.put] using this
  have j:Agree cx.n cx.V (kp cx.V a) a:=⟨g,rfl,b.lt,b.big⟩;have l:=j.put m v;rw [i] at b;have q:ρ=qn (kp cx.V a) d v:=b.env.trans l.env.symm;subst q;exact ⟨fun e=>(wr a o.dst v).symm.trans (s e),_,j,hpn _ _ _ _ k⟩
theorem qf7 (Y : Region1 cx.n ops) (m : Region.noSelect ops = true) {n : Nat} (hn : n = ops.size ∨ (n < ops.size ∧ Region.sinkB .any ops n = true ∧ Region.chainB .any ops n = true)) {S : World → Prop} {K : qa → World → Prop} {Q : Ks} (E : ¬ Q.rd) (B : Q.df → cx.D ≠ []) :
    ∀(f:Nat) (F:Bool) (listed:Array Bool) (t:OT),qat cx.P ops cx.V n f F listed=some t→(∀d∈t.takes,∀ρ v c w,Q.pn (qn ρ d v) c w→Q.pn ρ c w)→(F=true→HeadInv .any ops n listed)→∀(ρ:qa) (a:Act) (w:World),Agree cx.n cx.V ρ a→jQ cx a→(F=true→S w)→
      t.wp cx.P Q S K ρ w→yz cx.P .any ops (xJ cx K Q) S n f listed a w
  |0,F,listed,t,h,_,_,ρ,a,w,H,U,_,j=>by
    simp only [qat] at h;split at h
    · rename_i O;cases h;exact ⟨by simpa using O,U,ρ,H,j⟩
    · cases h
  | f + 1, F, listed, t, h, hpn, l, ρ, a, w, H, U, hS, j => by
    simp only [qat] at h;split at h
    · rename_i O;cases h;have A:Region.ready .any ops listed=[]:=by simpa using O
      exact ⟨fun _=>⟨U,ρ,H,j⟩,by rw [A];simp⟩
    · rename_i O;have A:Region.ready .any ops listed≠[]:=by simpa using O
      split at h
      · rename_i i z;split at z
        · rename_i I;have y:=List.mem_of_find?_eq_some z;have q:=List.find?_some z;simp only [Bool.and_eq_true,decide_eq_true_eq] at q;obtain ⟨⟨hin,C⟩,_⟩:=q;split at h
          · rename_i g d e J;simp only [Option.map_eq_some_iff] at h;obtain ⟨t',b,rfl⟩:=h;simp only [OT.wp] at j;have key:∀v,(if gd ρ g then (∀w',S w'→e.ev ρ w'=some v) else v=undef)→t'.wp cx.P Q S K (qn ρ d v) w→yz cx.P .any ops (xJ cx K Q) S n (f+1) listed a w:=by
              intro v hv hk;obtain ⟨o,ho,R,hV,hy⟩:=qeq Y J H hv;refine qiO ho (Region.noSelect_spec m) hn hin (fun c a w k=> ?_) f listed a w (l I) (Region.free_spec ho C) y hy (hS I) ?_
              · exact qkR R hV (hpn d (by simp [OT.takes])) c a w k
              · rw [R];exact qf7 Y m hn E B f F _ t' b (fun x hx=>hpn x (by simp [OT.takes,hx])) (fun k=>(l k).set y hin) _ _ w (H.put hV v) (fun e=>(wr _ _ _).trans (U e)) hS hk
            by_cases u:gd ρ g=true
            · rw [if_pos u] at j;unfold z7 at j;split at j
              · obtain ⟨k,h2⟩:=j;exact key _ (by rw [if_pos u];exact k) h2
              · cases j
            · rw [if_neg u] at j;exact key undef (by rw [if_neg u]) j
          · cases h
        · cases z
      · refine ⟨fun h0=>absurd h0 A,fun i z=> ?_⟩;obtain ⟨t',b,X⟩:=qib h j _ (List.mem_map.2 ⟨i,z,rfl⟩);split at b
        · rename_i s hs;simp only [Option.map_eq_some_iff] at b;obtain ⟨t2,L,rfl⟩:=b;simp only [OT.wp] at X;refine wpOp_mono ?_ (qfg Y hs H U E B X);rintro a' w' ⟨ac,Z,ad,W,aa⟩;refine ⟨fun ab=>W (by simpa using ab),qf7 Y m hn E B f _ _ t2 L (fun x hx=>hpn x (qic h (.step s (decide (i<n)) t2) (List.mem_map.2 ⟨i,z,by simp only [hs,L,Option.map_some]⟩) x (by simpa [OT.takes] using hx))) (fun k=> ?_) Z a' w' ad ac (fun k=> ?_) aa⟩
          · simp only [Bool.and_eq_true,decide_eq_true_eq] at k;exact (l k.1).set z k.2
          · simp only [Bool.and_eq_true,decide_eq_true_eq] at k;exact W (by simpa using k.2)
        · cases b
theorem qpu {n:Nat}:HeadInv .any ops n (Array.replicate ops.size false):=
  ⟨by simp,fun j c _ a=>(by rw [getD_replicate_false] at a;cases a),fun t _ b=>getD_in (by simpa using b) (getD_replicate_false _ _)⟩
theorem vS {c:Code} {n:Nat} {t:OT} (h:vT cx.P cx.n cx.V n c=some t) (S:World→Prop) {K:qa→World→Prop} {Q:Ks} {ρ:qa} {w:World}
    (o:∀w',qc w w'→w'.heap=w.heap→S w'∧t.wp cx.P Q.noRd S K ρ w') (hpn:∀d∈t.takes,∀ρ v c w,Q.pn (qn ρ d v) c w→Q.pn ρ c w:=by exact fun _ _ _ _ _ _ h=>h):(IR.raw c).wp cx K Q ρ w:=by
  intro a l m e;unfold vT at h;split at h
  · rename_i id ops;split at h
    · rename_i g;simp only [Bool.and_eq_true,Bool.or_eq_true,decide_eq_true_eq] at g;obtain ⟨⟨⟨s,j⟩,i⟩,b⟩:=g;obtain ⟨q,k⟩:=o {w with drawn:=w.drawn+1} ⟨rfl,rfl,rfl,Nat.le_refl _,fun _ _=>rfl⟩ rfl;refine wp_region_any i (qeI _ _ _ _ (qf7 (qbx s) j (by rcases b with b|b;exact .inl b;exact .inr ⟨b.1.1,b.1.2,b.2⟩) (Q:=Q.noRd) (fun h=>h) e _ _ _ t h hpn (fun _=>qpu) ρ a _ l m (fun _=>q) k))
    · cases h
  · cases h
end
section
variable {P:Program} {Q:Ks} {S:World→Prop} {K:qa→World→Prop} {ρ:qa} {w:World}
@[simp] theorem qCD:OT.wp P Q S K .done ρ w=K ρ w:=rfl
@[simp] theorem qCB {g:Option (Nat×Bool)} {d:Nat} {e:Ex} {t:OT}:OT.wp P Q S K (.take g d e t) ρ w=if gd ρ g then z7 (e.ev ρ w) (fun v=>(∀w',S w'→e.ev ρ w'=some v)∧t.wp P Q S K (qn ρ d v) w) else t.wp P Q S K (qn ρ d undef) w:=rfl
@[simp] theorem qCC {b:Bool} {g:Option (Nat×Bool)} {d:Option Nat} {op:Op} {ty:TypeId} {t:OT}:OT.wp P Q S K (.step (.eff g d op ty) b t) ρ w=if gd ρ g then qm P Q d op ty (fun a w'=>(b=true→S w')∧t.wp P Q S K a w') ρ w else (b=true→S w)∧t.wp P Q S K (qk ρ d undef) w:=rfl
@[simp] theorem qCF {b:Bool} {g:Option (Nat×Bool)} {d:Nat} {e:Ex} {t:OT}:OT.wp P Q S K (.step (.asg g d e) b t) ρ w=if gd ρ g then z7 (e.ev ρ w) (fun v=>(b=true→S w)∧t.wp P Q S K (qn ρ d v) w) else (b=true→S w)∧t.wp P Q S K (qn ρ d undef) w:=rfl
@[simp] theorem qCE {x y:OT}:OT.wp P Q S K (.both x y) ρ w=(x.wp P Q S K ρ w∧y.wp P Q S K ρ w):=rfl
end
end Go.Eng
namespace Go.Eng
open Go.RowKit
section
variable {P:Program} {Q:Ks} {d:Option Nat} {ty:TypeId} {K:qa→World→Prop} {ρ:qa} {w:World}
theorem qdk {B:Nat} {w W:World} (h:Only B w W):w.grownBy W (some B):=
  ⟨h.os,h.tape,h.output,by rw [h.size];exact Nat.le_refl _,fun k _ a=>h.block k (by simpa using a)⟩
end
end Go.Eng
namespace Go.Eng
open Go.RowKit
@[simp] theorem qCJ (a:Option Addr) (n c:Nat):(Value.slice a n c).oneCell=true:=rfl
@[simp] theorem qCI (s:ByteArray):(Value.string s).oneCell=true:=rfl
@[simp] theorem qCL (k:IntKind) (n:Int):(Value.int k n).oneCell=true:=rfl
@[simp] theorem qCM (b:Bool):(Value.bool b).oneCell=true:=rfl
@[simp] theorem qCK (a:Option Addr):(Value.pointer a).oneCell=true:=rfl
@[simp] theorem qCA (B o n c:Nat):(Value.slice (some ⟨B,o,none⟩) n c).ownBlock=some B:=rfl
@[simp] theorem qCz (n c:Nat):(Value.slice none n c).ownBlock=none:=rfl
structure SlD where
  v:Value
  e:Nat
  sz:Nat
  xs:List Value
def qco (a b:Value):Prop:=a.ownBlock=none∨a.ownBlock≠b.ownBlock
theorem qco.symm {a b:Value} (h:qco a b):qco b a:=by
  unfold qco at*;rcases h with h|h
  · cases c:b.ownBlock with
    |none=>exact .inl rfl
    |some x=>right;rw [h];simp
  · exact .inr (Ne.symm h)
def kO (base:Nat) (W:World):List SlD→Prop
  |[]=>True
  |d::l=>Own base d.e d.sz W d.v d.xs∧(∀x∈l,qco d.v x.v)∧kO base W l
theorem kO.imp {base:Nat} {W W':World}:∀{l:List SlD},kO base W l→(∀x∈l,Own base x.e x.sz W x.v x.xs→Own base x.e x.sz W' x.v x.xs)→kO base W' l
  |[],_,_=>trivial
  |d::l,⟨h,g,b⟩,a=>⟨a d (by simp) h,g,kO.imp b fun x c=>a x (by simp [c])⟩
theorem kO.ext {base:Nat} {W W':World} {l:List SlD} (h:kO base W l) (a:qc W W'):kO base W' l:=h.imp fun _ _ h=>h.ext a
theorem kO.only {base B:Nat} {W W':World} {l:List SlD} (h:kO base W l) (a:Only B W W') (b:B<base):kO base W' l:=h.imp fun _ _ h=>h.only a b
theorem kO.head {base:Nat} {W:World} {a:SlD} {l:List SlD} (h:kO base W (a::l)):Own base a.e a.sz W a.v a.xs:=h.1
theorem Own.isl {base e sz:Nat} {w:World} {v:Value} {xs:List Value} (h:Own base e sz w v xs):qt v=true:=by
  rcases h with ⟨rfl,_⟩|⟨g,off,i,cap,cur,rfl,j,b,c,a,_⟩
  · rfl
  · simp [qt,a]
theorem qzt {B:Nat} {a b c:World} (h:a.grownBy b (some B)) (k:Below a.heap.size b c):a.grownBy c (some B):=
  ⟨k.os.trans h.os,k.tape.trans h.tape,k.output.trans h.output,Nat.le_trans h.size k.size,fun i g e=>(k.block i g).trans (h.block i g e)⟩
theorem qpy {B:Nat} {a b c:World} (h:a.grownBy b (some B)) (k:qc b c):a.grownBy c (some B):=qzt h (k.mono h.size)
theorem qpx {B:Nat} {a b c:World} (h:a.grownBy b (some B)) (k:Only B b c):a.grownBy c (some B):=
  ⟨k.os.trans h.os,k.tape.trans h.tape,k.output.trans h.output,by rw [k.size];exact h.size,fun i g e=>(k.block i (by simpa using e)).trans (h.block i g e)⟩
theorem qzu (row:Option Nat) (a:World):a.grownBy a row:=⟨rfl,rfl,rfl,Nat.le_refl _,fun _ _ _=>rfl⟩
theorem Blk.below {W W':World} {B base:Nat} {cs:Array Value} {t:TypeId} (h:Blk W B cs t) (k:Below base W W') (a:B<base):Blk W' B cs t:=⟨(k.block B a).trans h.heap⟩
theorem kY {B base:Nat} {W W':World} (h:Only B W W') (a:base≤B):Below base W W':=
  ⟨h.os,h.tape,h.output,by rw [h.size];exact Nat.le_refl _,fun k b=>h.block k (by omega)⟩
section
variable {P:Program} {Q:Ks} {d:Option Nat} {ty:TypeId} {K:qa→World→Prop} {ρ:qa} {w:World}
theorem jg {t:TypeId} {p x:Operand} {B:Nat} {cs:Array Value} {T:TypeId} (i:qd ρ p= .pointer (some ⟨B,0,none⟩)) (j:Blk w B cs T) (a:(qd ρ x).cells.size=cs.size) (k:∀v∈(qd ρ x).cells.toList,v.oneCell=true)
    (g:jo P t cs.size=true) (h:∀W,Only B w W→Blk W B (qd ρ x).cells T→K (qk ρ d undef) W):qm P Q d (.store t p x) ty K ρ w:=by
  show jo P t (qd ρ x).cells.size=true∧yn (qd ρ p) _;rw [i,a];refine ⟨g, ?_⟩;show kS ⟨B,0,none⟩ _ 0 _ w;refine qbh _ 0 w cs j (by rw [Array.length_toList,a];omega) k fun W' e b=> ?_;refine h W' e ?_;have:(cs.toList.take 0++(qd ρ x).cells.toList++cs.toList.drop (0+(qd ρ x).cells.toList.length)).toArray=(qd ρ x).cells:=by
    have c:List.drop (0+(qd ρ x).cells.toList.length) cs.toList=[]:=List.drop_eq_nil_of_le (by rw [Array.length_toList,Array.length_toList,a];omega);rw [c];simp
  rw [this] at b;exact b
theorem kW {B:Nat} {cs:Array Value} {T:TypeId} (e:Blk w B cs T):jq w ⟨B,0,none⟩ 0 cs.size=some cs.toList:=by
  have:=qal (w:=w) (a:=⟨B,0,none⟩) (l:=cs.toList) (i:=0) fun j c=>by
    rw [xp,e.cell];have b:j<cs.size:=by simpa using c
    simp [b]
  simpa using this
theorem zH {v:Value} (h:qt v=true):v.cells= #[v]:=by
  rcases xy h with ⟨b,o,n,c,rfl,_⟩|rfl|⟨b,o,s,rfl⟩<;>rfl
theorem xO {v:Value} (h:qt v=true):v.oneCell=true:=by
  rcases xy h with ⟨b,o,n,c,rfl,_⟩|rfl|⟨b,o,s,rfl⟩<;>rfl
theorem qpw {base:Nat} {W:World} {v:Value} (a:w.grownBy W v.ownBlock) (c:∀k,v.ownBlock=some k→base≤k) (b:base≤w.heap.size):Below base w W:=
  ⟨a.os,a.tape,a.output,a.size,fun k g=>a.block k (by omega) fun e=>by have:=c k e.symm;omega⟩
end
end Go.Eng
