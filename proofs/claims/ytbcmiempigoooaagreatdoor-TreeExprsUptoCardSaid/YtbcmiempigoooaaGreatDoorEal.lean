/- Lemmas for a claim about layer 2 (tree). No conditions but those they state. -/
import Derived.Test.YtbcmiempigoooaaGreatDoorEak
import Derived.Laws.MakeOwn
set_option linter.all false
namespace Go.Eng
open Go.RowKit
def qji (P:Program) (t:TypeId):Option (TypeId×Value×Nat):=
  match P.underlying t with
  |some (.slice e)=>(P.info? e).bind fun i=>i.zero.bind fun z=>if i.size=1 then some (e,z.cells[0]!,i.bytes) else none
  |_=>none
section
variable {P:Program} {Q:Ks} {d:Option Nat} {ty:TypeId} {K:qa->World->Prop} {ρ:qa} {w:World}
theorem qI9 {t e : TypeId} {zc : Value} {bytes n : Nat} {kl kc : IntKind} {x y : Operand} (c : qji P t = some (e, zc, bytes)) (S : qe ρ x =.int kl n) (R : qe ρ y =.int kc n) (Y : bytes * n <= 281474976710656) (X : n <= 1099511627776)
    (E:∀i z,P.info? e=some i->i.zero=some z->z.cells.size=1)
    (h:∀(B:Nat) (W:World),w.heap.size<=B->qc w W->Blk W B (List.replicate n zc).toArray e->K (qn ρ d (.slice (some ⟨B,0,none⟩) n n)) W):qx P Q d (.makeSlice t x y) ty K ρ w:=by
  unfold qji at c;split at c
  · rename_i Z O;simp only [uc] at c;obtain ⟨i,b,z,J,p⟩:=c;split at p
    · rename_i A;cases p;have m:(i.bytes:Int)*(n:Int)<=281474976710656:=by
        have h:((i.bytes*n:Nat):Int)<=281474976710656:=by omega
        rwa [Int.natCast_mul] at h
      have l:=run_make (P:=P) w t e i z O b J kl kc n n (by omega) (Int.le_refl _) m (by omega);simp only [Int.toNat_natCast,A,y0] at l;have u:=E i z b J;have a:madeCells z.cells n=(List.replicate n z.cells[0]!).toArray:=by
        apply y5.1;apply Vd;intro j;by_cases I:j<n
        · simp [madeCells,I,u,Nat.mod_one]
        · simp [madeCells,I]
      rw [a] at l;refine jQ (v:=.slice (some ⟨w.heap.size,0,none⟩) n n) (w':=w.alloc (.cells (List.replicate n z.cells[0]!).toArray e)) ?_ (h w.heap.size _ (j1 _) (QD w _) (qeg w _ _));simp only [execOp,qN,S,R,Sem.run_bind,l,Result.andThen_ok,Sem.run_pure]
    · cases p
  · cases c
end
end Go.Eng
namespace Go.Eng
open Go.RowKit
section
variable {ops:Array Oper} {cx:Cx}
end
section
variable {P:Program} {Q:Ks} {K:qa->World->Prop} {F:OT->qa->World->Prop} {ρ:qa} {w:World}
end
def qbE {P:Program} {f:FuncId} {fn:Func} {V a:List Nat} {ir:IR} {rs:List RV} {args:Array Value} {w:World} {R:Ending->World->Prop} (n:P.funcs[f]? =some fn) (m:fn.body=some (fn.body.getD .skip)) (b:(jo P fn.ntmps V a (fn.body.getD .skip)).map IR.norm=some ir)
    (u:kU fn V=true) (c:zX P V fn.results.toList=some rs) (j:args.size<=fn.ntmps) (h:ir.wp ⟨P,fn.ntmps,V,[]⟩ (qB rs R) (ji rs R) (wH V args) w):Calls P f args w R:=by
  obtain ⟨p,t,l⟩:=ua.1 b;exact qw0 n m t l u c j h
abbrev zv (n:Nat):Ex:=.var n
abbrev zl (e:Ex):Ex:=.op1 .load1 e
abbrev zo (n:Nat) (e:Ex):Ex:=.op1 .load1 (.op1 (.fadr n) e)
abbrev zf (n:Nat) (e:Ex):Ex:=.op1 (.fadr n) e
abbrev zx (n:Nat) (a b:Ex):Ex:=.op2 (.ixa n) a b
abbrev zL (e:Ex):Ex:=.op1 .lenS e
abbrev zT (e:Ex):Ex:=.op1 .lenT e
abbrev zN (e:Ex):Ex:=.op1 .nilc e
abbrev zn (e:Ex):Ex:=.op1 .not e
abbrev ze (n:Nat) (e:Ex):Ex:=.op1 (.ext n) e
abbrev zM (n:Nat) (e:Ex):Ex:=.op1 (.loadN n) e
abbrev zI (o:BinOp) (a b:Ex):Ex:=.op2 (.ibin o .i64) a b
abbrev zB (o:BinOp) (a b:Ex):Ex:=.op2 (.ibin o .u8) a b
abbrev zS (o:BinOp) (a b:Ex):Ex:=.op2 (.sbin o) a b
abbrev zk (n:Int):Value:=.int .i64 n
abbrev zu (n:Int):Value:=.int .u8 n
abbrev zb (b:Bool):Value:=.bool b
abbrev zs (l:Array UInt8):Value:=.string ⟨l⟩
abbrev zt (n:Nat):Operand:=.tmp n
abbrev za (d:Nat) (e:Ex):St:=.asg none d e
abbrev zg (g:Nat) (b:Bool) (d:Nat) (e:Ex):St:=.asg (some (g,b)) d e
abbrev zc (d f:Nat) (a:Array Operand) (t:Array TypeId) (y:TypeId):St:=.eff none (some d) (.call {callee:=.value (.func f),args:=a,argTypes:=t}) y
abbrev zd (f:Nat) (a:Array Operand) (t:Array TypeId) (y:TypeId):St:=.eff none none (.call {callee:=.value (.func f),args:=a,argTypes:=t}) y
abbrev zh (g:Nat) (b:Bool) (d f:Nat) (a:Array Operand) (t:Array TypeId) (y:TypeId):St:=.eff (some (g,b)) (some d) (.call {callee:=.value (.func f),args:=a,argTypes:=t}) y
abbrev zp (d:Nat) (a:Array Operand) (t:Array TypeId) (y:TypeId):St:=.eff none (some d) (.call {callee:=.builtin .append,args:=a,argTypes:=t}) y
abbrev zw (t:TypeId) (p x:Operand):St:=.eff none none (.store t p x) 0
abbrev zE (d:Nat) (o:Op) (y:TypeId):St:=.eff none (some d) o y
abbrev zq (l:List St) (b:IR):IR:=.seq (.reg l) b
abbrev zy (d:Nat) (e:Ex) (o:OT):OT:=.take none d e o
abbrev zm (d n:Nat):St:=.asg none d (.var n)
abbrev zK (n:Int):Ex:=.const (.int .i64 n)
abbrev zQ (b:Bool):Ex:=.const (.bool b)
abbrev zO (n:Int):Operand:=.const (.int .i64 n)
abbrev zY (l:Array UInt8):Operand:=.const (.string ⟨l⟩)
abbrev zA (d:Nat) (t:TypeId):St:=.eff none (some d) (.alloc t) 0
abbrev zV (n:Nat) (g:List Nat):List Nat:=(List.range n).filter fun i=> !g.contains i
end Go.Eng
namespace Go.Eng
open Go.RowKit
section
variable (P:Program) (ops:Array Oper) (V:List Nat)
def qcc (sk : List Nat) (n : Nat) : Nat -> Bool -> Array Bool -> Option OT
  |0,_,listed=>if (Region.ready .any ops listed).isEmpty then some .done else none
  | f + 1, hd, listed =>
    if (Region.ready .any ops listed).isEmpty then some .done else
    match (if hd then (Region.ready .any ops listed).find? (fun i=>decide (i<n)&& !sk.contains i&&Region.free .any ops listed i&&(qaR P ops V i).isSome) else none) with
    |some i=>match qaR P ops V i with
      |some (g,d,e)=>(qcc sk n f hd (listed.setIfInBounds i true)).map (.take g d e)
      |none=>none
    |none=>y8 ((Region.ready .any ops listed).map fun i=>match QT P ops V i with
      |some s=>(qcc sk n f (hd&&decide (i<n)) (listed.setIfInBounds i true)).map (.step s (decide (i<n)))
      |none=>none)
end
def qdD (P : Program) (nt : Nat) (V : List Nat) (sk : List Nat) (n : Nat) : Code -> Option OT
  | .region _ ops true=>
    if qbc ops nt&&Region.noSelect ops&&P.follows .mixedOrders&&(decide (n=ops.size)||(decide (n<ops.size)&&Region.sinkB .any ops n&&Region.chainB .any ops n)) then qcc P ops V sk n ops.size true (Array.replicate ops.size false) else none
  |_=>none
section
variable {cx:Cx} {ops:Array Oper}
theorem qi3 (hr : Region1 cx.n ops) (u : Region.noSelect ops = true) {sk : List Nat} {n : Nat} (hn : n = ops.size \/ (n < ops.size /\ Region.sinkB .any ops n = true /\ Region.chainB .any ops n = true)) {S : World -> Prop} {K : qa -> World -> Prop} {Q : Ks} (J : ¬ Q.rd) (B : Q.df -> cx.D ≠ []) :
    ∀(f:Nat) (R:Bool) (listed:Array Bool) (t:OT),qcc cx.P ops cx.V sk n f R listed=some t->(∀d∈t.takes,∀ρ v c w,Q.pn (qw ρ d v) c w->Q.pn ρ c w)->(R=true->HeadInv .any ops n listed)->∀(ρ:qa) (a:Act) (w:World),Agree cx.n cx.V ρ a->vG cx a->(R=true->S w)->
      t.wp cx.P Q S K ρ w->qab cx.P .any ops (kV cx K Q) S n f listed a w
  |0,R,listed,t,h,_,_,ρ,a,w,O,Z,_,j=>by
    simp only [qcc] at h;split at h
    · rename_i he;cases h;exact ⟨by simpa using he,Z,ρ,O,j⟩
    · cases h
  | f + 1, R, listed, t, h, hpn, p, ρ, a, w, O, Z, hS, j => by
    simp only [qcc] at h;split at h
    · rename_i he;cases h;have I:Region.ready .any ops listed=[]:=by simpa using he
      exact ⟨fun _=>⟨Z,ρ,O,j⟩,by rw [I];simp⟩
    · rename_i he;have I:Region.ready .any ops listed≠[]:=by simpa using he
      split at h
      · rename_i i A;split at A
        · rename_i W;have z:=Vj A;have m:=List.find?_some A;simp only [j0,kr] at m;obtain ⟨⟨⟨hin,_⟩,E⟩,_⟩:=m;split at h
          · rename_i g d e Y;simp only [ua] at h;obtain ⟨t',b,rfl⟩:=h;simp only [OT.wp] at j;have key:∀v,(if gd ρ g then (∀w',S w'->e.ev ρ w'=some v) else v=undef)->t'.wp cx.P Q S K (qw ρ d v) w->qab cx.P .any ops (kV cx K Q) S n (f+1) listed a w:=by
              intro v hv hk;obtain ⟨o,ho,X,hV,hy⟩:=qg5 hr Y O hv;refine qmw ho (Region.noSelect_spec u) hn hin (fun c a w l=>?_) f listed a w (p W) (Region.free_spec ho E) z hy (hS W) ?_
              · exact qoZ X hV (hpn d (by simp [OT.takes])) c a w l
              · rw [X];exact qi3 hr u hn J B f R _ t' b (fun x hx=>hpn x (by simp [OT.takes,hx])) (fun l=>(p l).set z hin) _ _ w (O.put hV v) (fun e=>(yT _ _ _).trans (Z e)) hS hk
            by_cases y:gd ρ g=true
            · rw [if_pos y] at j;unfold xp at j;split at j
              · obtain ⟨l,h2⟩:=j;exact key _ (by rw [if_pos y];exact l) h2
              · cases j
            · rw [if_neg y] at j;exact key undef (by rw [if_neg y]) j
          · cases h
        · cases A
      · refine ⟨fun h0=>absurd h0 I,fun i A=>?_⟩;obtain ⟨t',b,hw'⟩:=qlQ h j _ (un.2 ⟨i,A,rfl⟩);split at b
        · rename_i s hs;simp only [ua] at b;obtain ⟨t2,ht2,rfl⟩:=b;simp only [OT.wp] at hw';refine wpOp_mono ?_ (qh4 hr hs O Z J B hw');rintro a' w' ⟨hD',ρ',ha',hS',hk'⟩;refine ⟨fun hlt=>hS' (by simpa using hlt),qi3 hr u hn J B f _ _ t2 ht2 (fun x hx=>hpn x (qlR h (.step s (decide (i<n)) t2) (un.2 ⟨i,A,by simp only [hs,ht2,Option.map_some]⟩) x (by simpa [OT.takes] using hx))) (fun l=>?_) ρ' a' w' ha' hD' (fun l=>?_) hk'⟩
          · simp only [j0,kr] at l;exact (p l.1).set A l.2
          · simp only [j0,kr] at l;exact hS' (by simpa using l.2)
        · cases b
theorem qow {c:Code} {sk:List Nat} {n:Nat} {t:OT} (h:qdD cx.P cx.n cx.V sk n c=some t) (S:World->Prop) {K:qa->World->Prop} {Q:Ks} {ρ:qa} {w:World}
    (m:∀w',qc w w'->w'.heap=w.heap->S w'/\t.wp cx.P Q.noRd S K ρ w') (hpn:∀d∈t.takes,∀ρ v c w,Q.pn (qw ρ d v) c w->Q.pn ρ c w:=by exact fun _ _ _ _ _ _ h=>h):(IR.raw c).wp cx K Q ρ w:=by
  intro a p z j;unfold qdD at h;split at h
  · rename_i id ops;split at h
    · rename_i l;simp only [j0,uk,kr] at l;obtain ⟨⟨⟨B,u⟩,y⟩,b⟩:=l;obtain ⟨x,A⟩:=m {w with drawn:=w.drawn+1} ⟨rfl,rfl,rfl,j1 _,fun _ _=>rfl⟩ rfl;refine wp_region_any y (qhw _ _ _ _ (qi3 (qdn B) u (by rcases b with b|b;exact .inl b;exact .inr ⟨b.1.1,b.1.2,b.2⟩) (Q:=Q.noRd) (fun h=>h) j _ _ _ t h hpn (fun _=>qvZ) ρ a _ p z (fun _=>x) A))
    · cases h
  · cases h
end
end Go.Eng
namespace Go.Eng
open Go.RowKit
def qc2 (P:Program) (nt:Nat) (V:List Nat):Code->Option (List (Option St))
  | .region _ ops true=>if qbc ops nt&&P.follows .mixedOrders then some ((List.range ops.size).map (QT P ops V)) else none
  |_=>none
def qlJ:Code->List (List Nat)
  | .region _ ops _=>ops.toList.map fun o=>(o.after.toList.filter fun e=>Region.binds .any e).map (·.on)
  |_=>[]
def qwF (l:List (List Nat)):Bool:=l.zipIdx.all fun p=>p.1.all fun d=>decide (d<p.2)
section
variable {ops:Array Oper} {cx:Cx}
theorem qmH {listed : Array Bool} (t : listed.size = ops.size) (n : Region.ready .any ops listed = []) (p : ∀ i o, ops[i]? = some o -> ∀ e ∈ o.after, Region.binds .any e = true -> e.on < i) : ∀ i, i < ops.size -> listed.getD i false = true := by
  intro i
  induction i using Nat.strongRecOn with
  | _ i l =>
    intro j;cases h:listed.getD i false with
    |true=>rfl
    |false=>
      exfalso;have a:i∈Region.ready .any ops listed:=mem_ready.2 ⟨by
        rw [Array.getD_eq_getD_getElem?,uT (by omega)] at h⊢;simpa using h,ops[i],uT j,fun e b m=>?_⟩
      · rw [n] at a;cases a
      · have c:=p i _ (uT j) e b m;exact l e.on c (by omega)
theorem qmv (hr : Region1 cx.n ops) {J : (Nat -> Bool) -> qa -> World -> Prop} {K : qa -> World -> Prop} {Q : Ks} (z : ¬ Q.rd) (y : Q.df -> cx.D ≠ []) (Y : ∀ i o, ops[i]? = some o -> ∀ e ∈ o.after, Region.binds .any e = true -> e.on < i)
    (c:∀(L:Nat->Bool) (i:Nat) (o:Oper),ops[i]? =some o->L i=false->(∀e∈o.after,Region.binds .any e=true->L e.on=true)->∃s,QT cx.P ops cx.V i=some s/\∀ρ w,J L ρ w->s.wp cx.P Q (J (fun k=>if k=i then true else L k)) ρ w)
    (j:∀L ρ w,(∀i,i<ops.size->L i=true)->J L ρ w->K ρ w):
    ∀(f:Nat) (listed:Array Bool),listed.size=ops.size->listed.toList.count false<=f->∀(ρ:qa) (a:Act) (w:World),Agree cx.n cx.V ρ a->vG cx a->J (fun k=>listed.getD k false) ρ w->wpAny cx.P .any ops (kV cx K Q) f listed a w
  |0,listed,t,hc,ρ,a,w,A,I,E=>by
    have B : Region.ready .any ops listed = [] := by
      cases h:Region.ready .any ops listed with
      |nil=>rfl
      |cons x l=>
        exfalso;have O:=(mem_ready.1 (show x∈Region.ready .any ops listed by rw [h];simp)).1;have b:x<listed.size:=by
          rcases JM x listed.size with u|u
          · exact u
          · rw [Array.getD_eq_getD_getElem?,Vs u] at O;simp at O
        rw [Array.getD_eq_getD_getElem?,uT b] at O;have:false∈listed.toList:=by
          have S:listed[x]=false:=by simpa using O
          rw [<-S];exact Array.getElem_mem_toList b
        have:=List.count_pos_iff.2 this;omega
    exact ⟨B,I,ρ,A,j _ ρ w (qmH t B Y) E⟩
  | f + 1, listed, t, hc, ρ, a, w, A, I, E => by
    refine ⟨fun B=>⟨I,ρ,A,j _ ρ w (qmH t B Y) E⟩,fun i hi=>?_⟩;obtain ⟨hf,o,ho,p⟩:=mem_ready.1 hi;have b:i<listed.size:=by rw [t];exact (uq.1 ho).1
    have m:listed.getD i false=false:=by
      rw [Array.getD_eq_getD_getElem?,uT b] at hf⊢;simpa using hf
    obtain ⟨s,Z,hw⟩:=c (fun k=>listed.getD k false) i o ho m p;refine wpOp_mono (fun a' w' h=>?_) (qh4 hr (K0:=K) Z A I z y (hw ρ w E));obtain ⟨X,R,ha',W⟩:=h;refine qmv hr z y Y c j f (listed.setIfInBounds i true) (by simpa using t) ?_ R a' w' ha' X ?_
    · have u:listed[i]=false:=by
       rw [Array.getD_eq_getD_getElem?,uT b] at m;simpa using m
      have S:(listed.setIfInBounds i true).toList=listed.toList.set i true:=by simp
      rw [S,List.count_set (by simpa using b)];have h3:listed.toList[i]'(by simpa using b)=false:=by simpa using u
      have hp:0<listed.toList.count false:=List.count_pos_iff.2 (h3▸wz _);rw [h3];simp;simp at hc;omega
    · have:(fun k=>(listed.setIfInBounds i true).getD k false)=fun k=>if k=i then true else listed.getD k false:=by
       funext k;by_cases hk:k=i
       · subst hk;rw [if_pos rfl,Array.getD_eq_getD_getElem?,V0 b];rfl
       · rw [if_neg hk,Array.getD_eq_getD_getElem?,Array.getD_eq_getD_getElem?,VZ (Ne.symm hk)]
      rw [this];exact W
theorem qBg {c : Code} {sts : List (Option St)} {b : List (List Nat)} (h : qc2 cx.P cx.n cx.V c = some sts) (hd : qlJ c = b) (m : sts.all Option.isSome = true) (x : qwF b = true) (J : (Nat -> Bool) -> qa -> World -> Prop) {K : qa -> World -> Prop} {Q : Ks} {ρ : qa} {w : World}
    (h0:∀w',qc w w'->w'.heap=w.heap->J (fun _=>false) ρ w')
    (j:∀(L:Nat->Bool) (i:Nat) (s:St) (ds:List Nat),sts[i]? =some (some s)->b[i]? =some ds->L i=false->(∀d∈ds,L d=true)->∀ρ w,J L ρ w->s.wp cx.P Q.noRd (J (fun k=>if k=i then true else L k)) ρ w)
    (y:∀L ρ w,(∀i,i<sts.length->L i=true)->J L ρ w->K ρ w):(IR.raw c).wp cx K Q ρ w:=by
  intro a ha hD Z;unfold qc2 at h;split at h
  · rename_i id ops;split at h
    · rename_i hc;simp only [j0] at hc;obtain ⟨h1,h3⟩:=hc;cases h;have u:((List.range ops.size).map (QT cx.P ops cx.V)).length=ops.size:=by simp
      have z:∀(i:Nat) (o:Oper),ops[i]? =some o->b[i]? =some ((o.after.toList.filter fun e=>Region.binds .any e).map (·.on)):=fun i o l=>by
        rw [<-hd];simp [qlJ,l]
      have p:∀(o:Oper) e,e∈o.after->Region.binds .any e=true->e.on∈(o.after.toList.filter fun e=>Region.binds .any e).map (·.on):=fun o e t Y=>un.2 ⟨e,List.mem_filter.2 ⟨by simpa using t,Y⟩,rfl⟩;refine wp_region_any h3 (qmv (qdn h1) (Q:=Q.noRd) (J:=J) (fun h=>h) Z ?_ ?_ ?_ _ _ (by simp) (by simp) ρ a _ ha hD ?_)
      · intro i o l e t Y;have A:=z i o l;unfold qwF at x;have W:=um.1 x (_,i) (List.mem_zipIdx_iff_getElem?.2 A);exact Vr (um.1 W e.on (p o e t Y))
      · intro L i o l S X;have B:=(uq.1 l).1;have A:((List.range ops.size).map (QT cx.P ops cx.V))[i]? =some (QT cx.P ops cx.V i):=by simp [B]
        have W:=um.1 m _ (JD A);obtain ⟨s,hs⟩:=VW.1 W;rw [hs] at A;refine ⟨s,hs,fun ρ w O=>j L i s _ A (z i o l) S (fun d R=>?_) ρ w O⟩;obtain ⟨e,t,rfl⟩:=un.1 R;obtain ⟨E,I⟩:=List.mem_filter.1 t;exact X e (by simpa using E) I
      · intro L ρ w S O;exact y L ρ w (fun i B=>S i (by rw [u] at B;exact B)) O
      · have:(fun k=>(Array.replicate ops.size false).getD k false)=fun _=>false:=by
          funext k;rw [Array.getD_eq_getD_getElem?,Array.getElem?_replicate];split<;>rfl
        rw [this];exact h0 _ ⟨rfl,rfl,rfl,j1 _,fun _ _=>rfl⟩ rfl
    · cases h
  · cases h
end
end Go.Eng
namespace Go.Eng
open Go.RowKit
inductive Tr (α:Type) where
  |lf
  |nd (v:Option α) (l r:Tr α)
noncomputable def Tr.get {α:Type} (t:Tr α):Nat->Option α:=
  Tr.rec (motive:=fun _=>Nat->Option α) (fun _=>none) (fun v _ _ l r k=>Bool.rec (motive:=fun _=>Option α) (Bool.rec (motive:=fun _=>Option α) (r (Nat.sub (Nat.div k 2) 1)) (l (Nat.div k 2)) (Nat.beq (Nat.mod k 2) 1)) v (Nat.beq k 0)) t
noncomputable def Tr.putS {α:Type} (x:Option α) (ih:Tr α->Nat->Tr α) (v:Option α) (l r:Tr α) (k:Nat):Tr α:=
  Bool.rec (motive:=fun _=>Tr α) (Bool.rec (motive:=fun _=>Tr α) (.nd v l (ih r (Nat.sub (Nat.div k 2) 1))) (.nd v (ih l (Nat.div k 2)) r) (Nat.beq (Nat.mod k 2) 1)) (.nd x l r) (Nat.beq k 0)
noncomputable def Tr.put {α:Type} (f:Nat) (t:Tr α) (k:Nat) (x:Option α):Tr α:=
  Nat.rec (motive:=fun _=>Tr α->Nat->Tr α) (fun t _=>t) (fun _ ih t k=>Tr.rec (motive:=fun _=>Tr α) (Tr.putS x ih none .lf .lf k) (fun v l r _ _=>Tr.putS x ih v l r k) t) f t k
def qfc {β:Type} (a b:Nat) (x y:β):(Bool.rec (motive:=fun _=>β) y x (Nat.beq a b):β)=if a=b then x else y:=by
  by_cases h:a=b
  · subst h;simp
  · rw [if_neg h,show Nat.beq a b=false from by
      cases e:Nat.beq a b
      · rfl
      · exact absurd (uo e) h]
def qxm {α:Type} (a b:Nat) (x y:α):(bif Nat.beq a b then x else y)=if a=b then x else y:=by
  by_cases h:a=b
  · subst h;simp
  · rw [if_neg h,show Nat.beq a b=false from by
      cases e:Nat.beq a b
      · rfl
      · exact absurd (uo e) h];rfl
@[simp] theorem Tr.get_lf {α:Type} (k:Nat):(Tr.lf:Tr α).get k=none:=rfl
def Tr.get_nd {α:Type} (v:Option α) (l r:Tr α) (k:Nat):(Tr.nd v l r).get k=if k=0 then v else if k%2=1 then l.get (k / 2) else r.get (k / 2 - 1):=by
  show (Bool.rec (motive:=fun _=>Option α) (Bool.rec (motive:=fun _=>Option α) (r.get (k / 2 - 1)) (l.get (k / 2)) (Nat.beq (k%2) 1)) v (Nat.beq k 0))=_;rw [qfc,qfc]
def Tr.putS_eq {α:Type} (x:Option α) (a:Tr α->Nat->Tr α) (v:Option α) (l r:Tr α) (k:Nat):Tr.putS x a v l r k=if k=0 then .nd x l r else if k%2=1 then .nd v (a l (k / 2)) r else .nd v l (a r (k / 2 - 1)):=by
  show (Bool.rec (motive:=fun _=>Tr α) (Bool.rec (motive:=fun _=>Tr α) (.nd v l (a r (k / 2 - 1))) (.nd v (a l (k / 2)) r) (Nat.beq (k%2) 1)) (.nd x l r) (Nat.beq k 0))=_;rw [qfc,qfc]
def Tr.put_lf {α:Type} (f k:Nat) (x:Option α):Tr.put (f+1) .lf k x=if k=0 then .nd x .lf .lf else if k%2=1 then .nd none (Tr.put f .lf (k / 2) x) .lf else .nd none .lf (Tr.put f .lf (k / 2 - 1) x):=
  Tr.putS_eq x (fun t k=>Tr.put f t k x) none .lf .lf k
def Tr.put_nd {α:Type} (f k:Nat) (x v:Option α) (l r:Tr α):Tr.put (f+1) (.nd v l r) k x=if k=0 then .nd x l r else if k%2=1 then .nd v (Tr.put f l (k / 2) x) r else .nd v l (Tr.put f r (k / 2 - 1) x):=
  Tr.putS_eq x (fun t k=>Tr.put f t k x) v l r k
def Tr.get_put {α : Type} : ∀ (f : Nat) (t : Tr α) (k : Nat) (x : Option α), k + 1 < 2 ^ f -> ∀ j, (Tr.put f t k x).get j = if j = k then x else t.get j
  |0,t,k,x,h,j=>by simp at h
  | f + 1, t, k, x, h, j => by
    have e:2^(f+1)=2*2^f:=by rw [Nat.pow_succ];omega
    rw [e] at h;have key:∀(v:Option α) (l r:Tr α),(if k=0 then Tr.nd x l r else if k%2=1 then .nd v (Tr.put f l (k / 2) x) r else .nd v l (Tr.put f r (k / 2 - 1) x)).get j=if j=k then x else (Tr.nd v l r).get j:=by
      intro v l r;by_cases m:k=0
      · subst m;by_cases a:j=0
        · subst a;simp [Tr.get_nd]
        · simp [Tr.get_nd,a]
      · rw [if_neg m];by_cases k1:k%2=1
        · rw [if_pos k1];have n:=Tr.get_put f l (k / 2) x (by omega);by_cases a:j=0
          · subst a;rw [if_neg (fun e=>m e.symm)];simp [Tr.get_nd]
          · by_cases b:j%2=1
            · simp only [Tr.get_nd,if_neg a,if_pos b,n];by_cases c:j=k
              · subst c;simp
              · rw [if_neg (by omega),if_neg c]
            · simp only [Tr.get_nd,if_neg a,if_neg b];rw [if_neg (by omega)]
        · rw [if_neg k1];have n:=Tr.get_put f r (k / 2 - 1) x (by omega);by_cases a:j=0
          · subst a;rw [if_neg (fun e=>m e.symm)];simp [Tr.get_nd]
          · by_cases b:j%2=1
            · simp only [Tr.get_nd,if_neg a,if_pos b];rw [if_neg (by omega)]
            · simp only [Tr.get_nd,if_neg a,if_neg b,n];by_cases c:j=k
              · subst c;simp
              · rw [if_neg (by omega),if_neg c]
    cases t with
    |lf=>
      have:=key none .lf .lf;have p:(Tr.nd none .lf .lf:Tr α).get j=(Tr.lf:Tr α).get j:=by
        simp only [Tr.get_nd,Tr.get_lf];split
        · rfl
        · split<;>rfl
      rw [p] at this;rw [Tr.put_lf];exact this
    |nd v l r=>rw [Tr.put_nd];exact key v l r
def vV:Nat:=1048570
noncomputable def Tr.set {α:Type} (t:Tr α) (k:Nat) (x:α):Tr α:=Tr.put 20 t k (some x)
noncomputable def Tr.del {α:Type} (t:Tr α) (k:Nat):Tr α:=Tr.put 20 t k none
def Tr.get_set {α:Type} (t:Tr α) {k:Nat} (x:α) (h:k<vV) (j:Nat):(t.set k x).get j=if j=k then some x else t.get j:=Tr.get_put 20 t k _ (by unfold vV at h;simp only [Nat.reducePow];omega) j
def Tr.get_del {α:Type} (t:Tr α) {k:Nat} (h:k<vV) (j:Nat):(t.del k).get j=if j=k then none else t.get j:=Tr.get_put 20 t k _ (by unfold vV at h;simp only [Nat.reducePow];omega) j
structure Ob where
  cells:List Value
  ty:TypeId
  sz:Nat
  whole:Bool
  ex:Bool
abbrev vR:=Tr Ob
abbrev Sg:=Nat->Option (Nat×Nat×Nat)
def Sg.le (σ τ:Sg):Prop:=∀k p,σ k=some p->τ k=some p
def Sg.le_refl (σ:Sg):σ.le σ:=fun _ _ h=>h
def Sg.le_trans {a b c:Sg} (h:a.le b) (k:b.le c):a.le c:=fun i p j=>k i p (h i p j)
def xP:Value->Bool
  | .bool _| .int _ _| .string _| .nilFunc| .nilIface| .pointer none=>true
  | .slice none 0 0=>true
  |_=>false
inductive VR (σ:Sg):Value->Value->Prop
  |pln {v:Value} (h:xP v=true):VR σ v v
  |ptr {i b f x o:Nat} (h:σ i=some (b,f,x)):VR σ (.pointer (some ⟨i,o,none⟩)) (.pointer (some ⟨b,f+o,none⟩))
  |slc {i b f x o n c:Nat} (h:σ i=some (b,f,x)) (hn:n<=c):VR σ (.slice (some ⟨i,o,none⟩) n c) (.slice (some ⟨b,f+o,none⟩) n (c+x))
  |fnc {g:Fn} {fs gs cs ds:Array Value} (h1:fs.size=gs.size) (h2:∀(i:Nat) (x y:Value),fs[i]? =some x->gs[i]? =some y->VR σ x y) (h3:cs.size=ds.size) (h4:∀(i:Nat) (x y:Value),cs[i]? =some x->ds[i]? =some y->VR σ x y):VR σ (.func g fs cs) (.func g gs ds)
  |mp {i b:Nat} (h:σ i=some (b,0,0)):VR σ (.map (some i)) (.map (some b))
  |ifc {t:TypeId} {v v':Value} (h:VR σ v v'):VR σ (.iface t v) (.iface t v')
  |agg {cs ds:Array Value} (h1:cs.size=ds.size) (h2:∀(i:Nat) (x y:Value),cs[i]? =some x->ds[i]? =some y->VR σ x y):VR σ (.agg cs) (.agg ds)
  |tup {cs ds:Array Value} (h1:cs.size=ds.size) (h2:∀(i:Nat) (x y:Value),cs[i]? =some x->ds[i]? =some y->VR σ x y):VR σ (.tuple cs) (.tuple ds)
def VR.mono {σ l:Sg} (c:σ.le l) {v j:Value} (h:VR σ v j):VR l v j:=by
  induction h with
  |pln h=>exact .pln h
  |ptr h=>exact .ptr (c _ _ h)
  |slc h m=>exact .slc (c _ _ h) m
  |mp h=>exact .mp (c _ _ h)
  |fnc a _ n _ p i4=>exact .fnc a p n i4
  |ifc _ b=>exact .ifc b
  |agg a _ b=>exact .agg a b
  |tup a _ b=>exact .tup a b
def qg6 {cs ds es:Array Value} {σ:Sg} (j:cs.size=ds.size) (h:∀(i:Nat) (x y:Value),cs[i]? =some x->ds[i]? =some y->∀z,VR σ x z->y=z) (k1:cs.size=es.size) (k2:∀(i:Nat) (x y:Value),cs[i]? =some x->es[i]? =some y->VR σ x y):ds=es:=by
  apply Array.ext
  · omega
  · intro i b c;have a:i<cs.size:=by omega
    exact h i cs[i] ds[i] (uT a) (uT b) es[i] (k2 i cs[i] es[i] (uT a) (uT c))
theorem VR.uniq {σ:Sg} {v a:Value} (h:VR σ v a):∀{b:Value},VR σ v b->a=b:=by
  induction h with
  |pln h=>
    intro b j;cases j with
    |pln _=>rfl
    |ptr _=>cases h
    |slc _ _=>cases h
    |mp _=>cases h
    |fnc _ _ _ _=>cases h
    |ifc _=>cases h
    |agg _ _=>cases h
    |tup _ _=>cases h
  |ptr h=>
    intro b j;cases j with
    |pln c=>cases c
    |ptr c=>rw [h] at c;cases c;rfl
  |slc h B=>
    intro b j;cases j with
    |pln c=>cases c
    |slc c _=>rw [h] at c;cases c;rfl
  |mp h=>
    intro b j;cases j with
    |pln c=>cases c
    |mp c=>rw [h] at c;cases c;rfl
  |fnc p _ u _ A i4=>
    intro b j;cases j with
    |pln c=>cases c
    |fnc k1 k2 k3 k4=>rw [qg6 p (fun i x y n l z m=>A i x y n l m) k1 k2,qg6 u (fun i x y n l z m=>i4 i x y n l m) k3 k4]
  |ifc _ t=>
    intro b j;cases j with
    |pln c=>cases c
    |ifc c=>rw [t c]
  |agg p _ t=>
    intro b j;cases j with
    |pln c=>cases c
    |agg k1 k2=>rw [qg6 p (fun i x y n l z m=>t i x y n l m) k1 k2]
  |tup p _ t=>
    intro b j;cases j with
    |pln c=>cases c
    |tup k1 k2=>rw [qg6 p (fun i x y n l z m=>t i x y n l m) k1 k2]
def qr (σ:Sg):List Value->List Value->Prop
  |[],[]=>True
  |a::l,b::m=>VR σ a b/\qr σ l m
  |_,_=>False
def qr.len {σ:Sg}:∀{l m:List Value},qr σ l m->l.length=m.length
  |[],[],_=>rfl
  |_::l,_::m,h=>by simp [qr.len h.2]
def qr.mono {σ b:Sg} (a:σ.le b):∀{l m:List Value},qr σ l m->qr b l m
  |[],[],_=>trivial
  |_::_,_::_,h=>⟨h.1.mono a,qr.mono a h.2⟩
def qr.get {σ:Sg}:∀{l m:List Value},qr σ l m->∀(j:Nat) (v:Value),l[j]? =some v->∃n,m[j]? =some n/\VR σ v n
  |[],[],_,j,v,c=>by simp at c
  |a::l,b::m,h,0,v,c=>by simp at c;subst c;exact ⟨b,rfl,h.1⟩
  |a::l,b::m,h,j+1,v,c=>by simpa using qr.get h.2 j v (by simpa using c)
def qr.uniq {σ:Sg}:∀{l a b:List Value},qr σ l a->qr σ l b->a=b
  |[],[],[],_,_=>rfl
  |_::_,_::_,_::_,h,k=>by rw [h.1.uniq k.1,qr.uniq h.2 k.2]
def qr.app {σ:Sg}:∀{a b c d:List Value},qr σ a b->qr σ c d->qr σ (a++c) (b++d)
  |[],[],_,_,_,k=>k
  |_::_,_::_,_,_,h,k=>⟨h.1,qr.app h.2 k⟩
def qr.take {σ:Sg}:∀{a b:List Value} (n:Nat),qr σ a b->qr σ (a.take n) (b.take n)
  |[],[],_,_=>by simp [qr]
  |_::_,_::_,0,_=>by simp [qr]
  |_::_,_::_,n+1,h=>⟨h.1,qr.take n h.2⟩
def qr.drop {σ:Sg}:∀{a b:List Value} (n:Nat),qr σ a b->qr σ (a.drop n) (b.drop n)
  |[],[],_,_=>by simp [qr]
  |_::_,_::_,0,h=>h
  |_::_,_::_,n+1,h=>qr.drop n h.2
def qr.set {σ:Sg} {v j:Value} (c:VR σ v j):∀{a b:List Value} (n:Nat),qr σ a b->qr σ (a.set n v) (b.set n j)
  |[],[],_,_=>trivial
  |_::_,_::_,0,h=>⟨c,h.2⟩
  |_::_,_::_,n+1,h=>⟨h.1,qr.set c n h.2⟩
def qr.of {σ:Sg}:∀{l m:List Value},l.length=m.length->(∀(j:Nat) (x y:Value),l[j]? =some x->m[j]? =some y->VR σ x y)->qr σ l m
  |[],[],_,_=>trivial
  |a::l,b::m,h,c=>⟨c 0 a b rfl rfl,qr.of (by simpa using h) fun j x y n p=>c (j+1) x y (by simpa using n) (by simpa using p)⟩
def qr.arr {σ:Sg} {cs ds:Array Value} (h:qr σ cs.toList ds.toList):cs.size=ds.size/\∀(i:Nat) (x y:Value),cs[i]? =some x->ds[i]? =some y->VR σ x y:=by
  refine ⟨by simpa using h.len,fun i x y j a=>?_⟩;obtain ⟨l,b,c⟩:=h.get i x (by rw [<-j];simp);rw [<-Array.getElem?_toList,b] at a;cases a;exact c
structure RO (σ:Sg) (w:World) (i:Nat) (o:Ob) (b f x:Nat) (cur:Array Value):Prop where
  at':σ i=some (b,f,x)
  heap:w.heap[b]? =some (.cells cur o.ty (0,0))
  cs:qr σ o.cells ((cur.toList.drop f).take o.cells.length)
  room:f+o.cells.length+x*o.sz<=cur.size
  whole:o.whole=true->f=0/\x=0/\cur.size=o.cells.length
  most:o.whole=false->∃n,o.cells.length=n*o.sz/\n+x<=maxLen
  exact:o.ex=true->f=0/\cur.size=o.cells.length+x*o.sz
def qbj (ps:List (ByteArray×Value)):List Value:=ps.flatMap fun p=>[.string p.1,p.2]
def MO (σ:Sg) (w:World) (i:Nat) (o:Ob):Prop:=∃b ps,σ i=some (b,0,0)/\MapB w b ps/\o.cells=qbj ps/\∀p∈ps,xP p.2=true
def MR (σ:Sg) (H:vR) (w:World):Prop:=∀i o,H.get i=some o->(o.sz=0->MO σ w i o)/\(o.sz≠0->∃b f x cur,RO σ w i o b f x cur)
def MO.mono {σ a:Sg} (c:σ.le a) {w:World} {i:Nat} {o:Ob} (h:MO σ w i o):MO a w i o:=by
  obtain ⟨b,ps,j,l⟩:=h;exact ⟨b,ps,c _ _ j,l⟩
def RO.mono {σ c:Sg} (a:σ.le c) {w:World} {i:Nat} {o:Ob} {b f x:Nat} {cur:Array Value} (h:RO σ w i o b f x cur):RO c w i o b f x cur:=
  ⟨a _ _ h.at',h.heap,h.cs.mono a,h.room,h.whole,h.most,h.exact⟩
def RO.keep {σ:Sg} {w w':World} {i:Nat} {o:Ob} {b f x:Nat} {cur:Array Value} (h:RO σ w i o b f x cur) (a:w'.heap[b]? =w.heap[b]?):RO σ w' i o b f x cur:=
  ⟨h.at',a.trans h.heap,h.cs,h.room,h.whole,h.most,h.exact⟩
def RO.lt {σ:Sg} {w:World} {i:Nat} {o:Ob} {b f x:Nat} {cur:Array Value} (h:RO σ w i o b f x cur):b<w.heap.size:=(uq.1 h.heap).1
def MR.ext {σ:Sg} {H:vR} {w w':World} (h:MR σ H w) (c:qc w w'):MR σ H w':=fun i o l=>by
  refine ⟨fun a=>?_,fun a=>?_⟩
  · obtain ⟨b,ps,p,m,n⟩:=(h i o l).1 a;exact ⟨b,ps,p,m.ext c,n⟩
  · obtain ⟨b,f,x,cur,j⟩:=(h i o l).2 a;exact ⟨b,f,x,cur,j.keep (c.block b j.lt)⟩
def MR.mono {σ l:Sg} {H:vR} {w:World} (h:MR σ H w) (c:σ.le l):MR l H w:=fun i o j=>by
  refine ⟨fun a=>((h i o j).1 a).mono c,fun a=>?_⟩;obtain ⟨b,f,x,cur,m⟩:=(h i o j).2 a;exact ⟨b,f,x,cur,m.mono c⟩
def RO.cell {σ:Sg} {w:World} {i:Nat} {o:Ob} {b f x:Nat} {cur:Array Value} (h:RO σ w i o b f x cur) {j:Nat} {v:Value} (l:o.cells[j]? =some v):∃a,w.cell? ⟨b,f+j,none⟩=some a/\VR σ v a:=by
  obtain ⟨a,m,n⟩:=h.cs.get j v l;refine ⟨a, ?_,n⟩;have c:j<o.cells.length:=(Jv.1 l).1;rw [JV c,Jm] at m;simpa [World.cell?,h.heap] using m
noncomputable def qgV (H:vR) (a:Addr):Option Value:=
  match a.spot with
  |none=>match H.get a.block with|some o=>bif Nat.beq o.sz 0 then none else o.cells[a.off]? |none=>none
  |some _=>none
noncomputable def qdj (H:vR) (a:Addr) (n:Nat):Option (List Value):=
  match a.spot with
  |none=>match H.get a.block with
    |some o=>bif Nat.beq o.sz 0 then none else if ((o.cells.drop a.off).take n).length=n then some ((o.cells.drop a.off).take n) else none
    |none=>none
  |some _=>none
def qc0 (sz:Nat) (v:Value) (l h:Int):Option Value:=
  match v with
  | .slice (some ⟨i,o,none⟩) _ c=>if 0<=l/\l<=h/\h<=c/\(l<c\/l=0) then some (.slice (some ⟨i,o+l.toNat*sz,none⟩) (h.toNat - l.toNat) (c - l.toNat)) else none
  | .slice none 0 0=>if l=0/\h=0 then some (.slice none 0 0) else none
  |_=>none
noncomputable def x1 (H:vR):K1->Value->Option Value
  | .same,v=>some v
  | .load1,.pointer (some a)=>qgV H a
  | .loadN n,.pointer (some a)=>match qdj H a n with|some l=>some (.agg l.toArray)|none=>none
  | .fadr off,.pointer (some ⟨i,o,none⟩)=>some (.pointer (some ⟨i,o+off,none⟩))
  | .fld off,.agg cs=>cs[off]?
  | .lenS,.slice _ n _=>some (.int .i64 n)
  | .lenT,.string s=>some (.int .i64 s.size)
  | .not,.bool b=>some (.bool !b)
  | .neg,.int k n=>some (.int k (k.wrap (0 - n)))
  | .conv k,.int _ n=>some (.int k (k.wrap n))
  | .ext i,.tuple vs=>vs[i]?
  | .mkif t,v=>some (.iface t v)
  | .nilc,.pointer (some a)=>some (.pointer (some a))
  | .nilc,.iface t v=>some (.iface t v)
  | .strid,.string s=>some (.string s)
  | .b2s,.slice none 0 0=>some (.string (Jf []))
  | .b2s,.slice (some a) n _=>match qdj H a n with
    |some l=>(match wc l with|some ns=>some (.string (Jf ns))|none=>none)
    |none=>none
  |_,_=>none
def x2:K2->Value->Value->Option Value
  | .ibin op _,.int k a,.int k' b=>if k=k' then (match qcu op k a b with|some (.int k n)=>some (.int k n)|some (.bool b)=>some (.bool b)|_=>none) else none
  | .sbin op,.string x,.string y=>match qY op x y with|some (.string s)=>some (.string s)|some (.bool b)=>some (.bool b)|_=>none
  | .bbin .eql,.bool a,.bool b=>some (.bool (a==b))
  | .bbin .neq,.bool a,.bool b=>some (.bool (!(a==b)))
  | .ixa sz,.slice (some ⟨i,o,none⟩) n _,.int _ j=>if 0<=j/\j<n then some (.pointer (some ⟨i,o+j.toNat*sz,none⟩)) else none
  | .ixs,.string s,.int _ i=>if 0<=i then (match s[i.toNat]? with|some b=>some (.int .u8 b.toNat)|none=>none) else none
  | .slLo sz,.slice a n c,.int _ l=>qc0 sz (.slice a n c) l n
  | .stLo,.string s,.int _ l=>if 0<=l/\l<=s.size then some (.string (s.extract l.toNat s.size)) else none
  |_,_,_=>none
def x3:K3->Value->Value->Value->Option Value
  | .slLoHi sz,v,.int _ l,.int _ h=>qc0 sz v l h
  | .stLoHi,.string s,.int _ l,.int _ h=>if 0<=l/\l<=h/\h<=s.size then some (.string (s.extract l.toNat h.toNat)) else none
  |_,_,_,_=>none
def qcD:Value->Bool
  | .func _ fs cs=>fs.isEmpty&&cs.isEmpty
  | .agg cs=>cs.toList.all xP
  | .tuple cs=>cs.toList.all xP
  | .iface _ (.agg cs)=>cs.toList.all xP
  | .iface _ v=>xP v
  |v=>xP v
noncomputable def xu (H:vR) (e:Tr Value):Ex->Option Value
  | .var i=>e.get i
  | .const v=>if qcD v then some v else none
  | .op1 k x=>match xu H e x with|some a=>x1 H k a|none=>none
  | .op2 k x y=>match xu H e x,xu H e y with|some a,some b=>x2 k a b|_,_=>none
  | .op3 k x y z=>match xu H e x,xu H e y,xu H e z with|some a,some b,some c=>x3 k a b c|_,_,_=>none
  | .op4 .. =>none
  | .ite c x y=>match xu H e c with|some (.bool true)=>xu H e x|some (.bool false)=>xu H e y|_=>none
section
variable {σ:Sg} {H:vR} {w:World}
theorem qiU {cs:Array Value} (h:cs.toList.all xP=true):∀(i:Nat) (x y:Value),cs[i]? =some x->cs[i]? =some y->VR σ x y:=fun i x y a b=>by
  rw [a] at b;cases b;exact .pln (um.1 h x (by rw [Vu];exact Vt a))
theorem QE {v:Value} (h:qcD v=true):VR σ v v:=by
  unfold qcD at h;split at h
  · simp only [j0,J9] at h;obtain ⟨rfl,rfl⟩:=h;exact .fnc rfl (fun i x y a=>by simp at a) rfl (fun i x y a=>by simp at a)
  · exact .agg rfl (qiU h)
  · exact .tup rfl (qiU h)
  · exact .ifc (.agg rfl (qiU h))
  · exact .ifc (.pln h)
  · exact .pln h
theorem qwU (A:MR σ H w) {a:Addr} {v l:Value} (m:VR σ (.pointer (some a)) l) (h:qgV H a=some v):∃u,jd w .load1 l=some u/\VR σ v u:=by
  cases m with
  |pln n=>cases n
  |ptr y=>
    simp only [qgV] at h;split at h
    · rename_i o z;rw [qxm] at h;by_cases c:o.sz=0
      · rw [if_pos c] at h;cases h
      rw [if_neg c] at h;obtain ⟨b,f,x,cur,j⟩:=(A _ o z).2 c;have:=j.at';rw [y] at this;cases this;obtain ⟨u,t,p⟩:=j.cell h;exact ⟨u,t,p⟩
    · cases h
theorem qiy (R : MR σ H w) {i o : Nat} {b f x : Nat} (O : σ i = some (b, f, x)) {n : Nat} {l : List Value} (h : qdj H ⟨i, o, none⟩ n = some l) : ∃ B, jG w ⟨b, f + o, none⟩ 0 n = some B /\ qr σ l B /\ l.length = n := by
  simp only [qdj] at h;split at h
  · rename_i ob p;rw [qxm] at h;by_cases z:ob.sz=0
    · rw [if_pos z] at h;cases h
    rw [if_neg z] at h;split at h
    · rename_i A;cases h;obtain ⟨S,W,x',cur,u⟩:=(R _ ob p).2 z;have:=u.at';rw [O] at this;cases this;have E:=(u.cs.drop o).take n;have c:=E.len;rw [A] at c;refine ⟨_, ?_,E,A⟩;have I:=qal (w:=w) (a:=⟨b,f+o,none⟩) (l:=(((cur.toList.drop f).take ob.cells.length).drop o).take n) (i:=0) fun j J=>by
        have t:j<n:=by omega
        have m:(((cur.toList.drop f).take ob.cells.length).drop o)[j]? =some ((((cur.toList.drop f).take ob.cells.length).drop o).take n)[j]:=by
          rw [<-JV t,ug J]
        rw [Jm] at m;have y:o+j<ob.cells.length:=by
          have:=(Jv.1 m).1;simp at this;omega
        rw [JV y,Jm] at m;simp only [kg,ut];simpa [World.cell?,u.heap,uN] using m
      rw [<-c] at I;exact I
    · cases h
  · cases h
theorem qw4 : ∀ {l p : List Value} {c : List Int}, qr σ l p -> wc l = some c -> wc p = some c
  |[],[],c,_,h=>h
  | a :: l, b :: m, c, u, h => by
    unfold wc at h;split at h
    · rename_i e;cases e
    · rename_i n z e;cases e;obtain ⟨t,x⟩:=u;cases t with
      |pln _=>
        simp only [ua] at h;obtain ⟨y,j,rfl⟩:=h;simp [wc,qw4 x j]
    · cases h
theorem qeS {a:Option Addr} {n c:Nat} {b:Value} (h:VR σ (.slice a n c) b):qu b=true/\ql b=n:=by
  cases h with
  |pln h=>
    unfold xP at h;split at h<;>simp_all [qu,ql]
  |slc _ j=>exact ⟨by simp [qu];omega,rfl⟩
theorem qcQ (J : MR σ H w) {k : K1} {v A u : Value} (j : VR σ v A) (h : x1 H k v = some u) : ∃ R, jd w k A = some R /\ VR σ u R := by
  unfold x1 at h;split at h
  · cases h;exact ⟨A,rfl,j⟩
  · exact qwU J j h
  · rename_i n a;split at h
    · rename_i l B;cases h;cases j with
      |pln m=>cases m
      |ptr t=>
        obtain ⟨E,y,p,_⟩:=qiy J t B;refine ⟨.agg E.toArray,by simp only [jd,y];rfl, ?_⟩;obtain ⟨k1,k2⟩:=qr.arr (cs:=l.toArray) (ds:=E.toArray) (by simpa using p);exact .agg k1 k2
    · cases h
  · cases h;cases j with
    |pln m=>cases m
    |ptr t=>exact ⟨_,rfl,by rw [kg,uN];exact .ptr t⟩
  · rename_i off cs;cases j with
    |pln m=>cases m
    |agg y p=>
      rename_i ds;have I:off<cs.size:=(uq.1 h).1;have z:ds[off]? =some ds[off]:=uT (by omega);exact ⟨ds[off],z,p off u _ h z⟩
  · cases h;obtain ⟨y,p⟩:=qeS j;refine ⟨_, ?_,.pln rfl⟩;show (if qu A=true then some (Value.int .i64 (ql A)) else none)=_;rw [if_pos y,p]
  · cases h;cases j with|pln _=>exact ⟨_,rfl,.pln rfl⟩
  · cases h;cases j with|pln _=>exact ⟨_,rfl,.pln rfl⟩
  · cases h;cases j with|pln _=>exact ⟨_,rfl,.pln rfl⟩
  · cases h;cases j with|pln _=>exact ⟨_,rfl,.pln rfl⟩
  · rename_i i vs;cases j with
    |pln m=>cases m
    |tup y p=>
      rename_i ds;have I:i<vs.size:=(uq.1 h).1;have z:ds[i]? =some ds[i]:=uT (by omega);exact ⟨ds[i],z,p i u _ h z⟩
  · cases h;exact ⟨_,rfl,.ifc j⟩
  · cases h;cases j with
    |pln m=>cases m
    |ptr t=>exact ⟨_,rfl,.ptr t⟩
  · cases h;cases j with
    |pln m=>cases m
    |ifc W=>exact ⟨_,rfl,.ifc W⟩
  · cases h;cases j with|pln _=>exact ⟨_,rfl,.pln rfl⟩
  · cases h;cases j with|pln _=>exact ⟨_,rfl,.pln rfl⟩
  · rename_i a n c;split at h
    · rename_i l B;split at h
      · rename_i S O;cases h;cases j with
        |pln m=>cases m
        |slc t X=>
          rename_i b f x o;obtain ⟨E,y,p,_⟩:=qiy J t B;refine ⟨.string (Jf S), ?_,.pln rfl⟩;have g:qu (.slice (some ⟨b,f+o,none⟩) n (c+x))=true:=by simp [qu];omega
          show (if qu (.slice (some ⟨b,f+o,none⟩) n (c+x))=true then (jG w (qQ (.slice (some ⟨b,f+o,none⟩) n (c+x)) 0) 0 (ql (.slice (some ⟨b,f+o,none⟩) n (c+x)))).bind _ else none)=_;rw [if_pos g];simp [qQ,ql,y,qw4 p O]
      · cases h
    · cases h
  · cases h
theorem qzD (b o n c sz l h:Nat) (a:l<c\/l=0):qZ (.slice (some ⟨b,o,none⟩) n c) sz l h c=.slice (some ⟨b,o+l*sz,none⟩) (h - l) (c - l):=by
  unfold qZ;by_cases e:c=l
  · have:l=0:=by omega
    subst this;subst e;simp
  · simp [e]
theorem qh0 {sz : Nat} {v j u : Value} {l h : Int} (p : VR σ v j) (a : qc0 sz v l h = some u) :
    qu j=true/\0<=l/\l<=h/\h<=qy j/\∃t,qZ j sz l.toNat h.toNat (qy j)=t/\VR σ u t:=by
  unfold qc0 at a;split at a
  · rename_i i o n c;split at a
    · rename_i m;cases a;obtain ⟨B,y,I,J⟩:=m;cases p with
      |pln z=>cases z
      |slc A E=>
        rename_i b f x;refine ⟨by simp [qu];omega,B,y,by simp only [qy];omega,_,rfl, ?_⟩;rw [show qy (.slice (some ⟨b,f+o,none⟩) n (c+x))=c+x from rfl,qzD _ _ _ _ _ _ _ (by omega)];have e:c+x - l.toNat=(c - l.toNat)+x:=by omega
        rw [e,uN];exact .slc A (by omega)
    · cases a
  · split at a
    · rename_i m;cases a;obtain ⟨rfl,rfl⟩:=m;cases p with
      |pln _=>exact ⟨rfl,by simp,by simp,by simp [qy],_,rfl,.pln rfl⟩
    · cases a
  · cases a
theorem qx9 {k : K2} {a b z J u : Value} (m : VR σ a z) (t : VR σ b J) (h : x2 k a b = some u) : ∃ B, vl w k z J = some B /\ VR σ u B := by
  unfold x2 at h;split at h
  · rename_i op k1 x k2 y;cases m with
    | pln _ => cases t with
      |pln _=>
        simp only [vl];split at h
        · rename_i Y;rw [if_pos Y];split at h
          · rename_i k3 n p;cases h;exact ⟨_,p,.pln rfl⟩
          · rename_i I p;cases h;exact ⟨_,p,.pln rfl⟩
          · cases h
        · cases h
  · rename_i op x y;cases m with
    |pln _=>cases t with
      |pln _=>
        simp only [vl];split at h
        · rename_i s p;cases h;exact ⟨_,p,.pln rfl⟩
        · rename_i I p;cases h;exact ⟨_,p,.pln rfl⟩
        · cases h
  · cases h;cases m with|pln _=>cases t with|pln _=>exact ⟨_,rfl,.pln rfl⟩
  · cases h;cases m with|pln _=>cases t with|pln _=>exact ⟨_,rfl,.pln rfl⟩
  · rename_i sz i o n c k2 j;split at h
    · rename_i A;cases h;cases m with
      |pln W=>cases W
      |slc X p=>
        rename_i b f x;cases t with
        |pln _=>
          refine ⟨.pointer (some ⟨b,f+o+j.toNat*sz,none⟩), ?_,by rw [uN];exact .ptr X⟩;show (if qu (.slice (some ⟨b,f+o,none⟩) n (c+x))=true/\0<=j/\j<ql (.slice (some ⟨b,f+o,none⟩) n (c+x)) then some (Value.pointer (some (qQ (.slice (some ⟨b,f+o,none⟩) n (c+x)) (j.toNat*sz)))) else none)=_;rw [if_pos ⟨by simp [qu];omega,A.1,A.2⟩];rfl
    · cases h
  · split at h
    · rename_i A;split at h
      · rename_i I E;cases h;cases m with
        |pln _=>cases t with
          |pln _=>exact ⟨_,by simp only [vl];rw [if_pos A,E];rfl,.pln rfl⟩
      · cases h
    · cases h
  · rename_i sz a0 n c k2 l;obtain ⟨Z,S,h3,h4,B,h5,O⟩:=qh0 m h;obtain ⟨g1,R⟩:=qeS m;cases t with
    |pln _=>
      refine ⟨B, ?_,O⟩;show (if qu z=true/\0<=l/\l<=ql z then some (qZ z sz l.toNat (ql z) (qy z)) else none)=_;rw [if_pos ⟨Z,S,by omega⟩,<-h5,R];rfl
  · split at h
    · rename_i A;cases h;cases m with
      |pln _=>cases t with
        |pln _=>exact ⟨_,by simp only [vl];rw [if_pos A],.pln rfl⟩
    · cases h
  · cases h
theorem qx8 {k : K3} {a b c j y z u : Value} (p : VR σ a j) (t : VR σ b y) (x : VR σ c z) (h : x3 k a b c = some u) : ∃ n, yS w k j y z = some n /\ VR σ u n := by
  unfold x3 at h;split at h
  · rename_i sz k1 l k2 m;obtain ⟨I,B,E,O,n,R,A⟩:=qh0 p h;cases t with
    |pln _=>cases x with
      |pln _=>
        refine ⟨n, ?_,A⟩;have e:yS w (.slLoHi sz) j (.int k1 l) (.int k2 m)=if qu j=true/\0<=l/\l<=m/\m<=qy j then some (qZ j sz l.toNat m.toNat (qy j)) else none:=by cases j<;>rfl
        rw [e,if_pos ⟨I,B,E,O⟩,R]
  · split at h
    · rename_i J;cases h;cases p with
      |pln _=>cases t with
        |pln _=>cases x with
          |pln _=>exact ⟨_,by simp only [yS];rw [if_pos J],.pln rfl⟩
    · cases h
  · cases h
def ER (σ:Sg) (e:Tr Value) (ρ:qa):Prop:=∀i v,e.get i=some v->VR σ v (ρ i)
theorem wb (m : MR σ H w) {e : Tr Value} {ρ : qa} (l : ER σ e ρ) : ∀ {ex : Ex} {u : Value}, xu H e ex = some u -> ∃ j, ex.ev ρ w = some j /\ VR σ u j
  | .var i,u,h=>⟨ρ i,rfl,l i u h⟩
  | .const v,u,h=>by
    simp only [xu] at h;split at h
    · rename_i B;cases h;exact ⟨_,rfl,QE B⟩
    · cases h
  | .op1 k x,u,h=>by
    simp only [xu] at h;split at h
    · rename_i a E;obtain ⟨R,t,n⟩:=wb m l E;obtain ⟨j,p,A⟩:=qcQ m n h;exact ⟨j,by simp only [Ex.ev,t,Option.bind_some,p],A⟩
    · cases h
  | .op2 k x y,u,h=>by
    simp only [xu] at h;split at h
    · rename_i a b E J;obtain ⟨R,t,n⟩:=wb m l E;obtain ⟨Y,p,A⟩:=wb m l J;obtain ⟨j,O,I⟩:=qx9 (w:=w) n A h;exact ⟨j,by simp only [Ex.ev,t,p,Option.bind_some,O],I⟩
    · cases h
  | .op3 k x y z,u,h=>by
    simp only [xu] at h;split at h
    · rename_i a b c E J B;obtain ⟨R,t,n⟩:=wb m l E;obtain ⟨Y,p,A⟩:=wb m l J;obtain ⟨S,O,I⟩:=wb m l B;obtain ⟨j,X,W⟩:=qx8 (w:=w) n A I h;exact ⟨j,by simp only [Ex.ev,t,p,O,Option.bind_some,X],W⟩
    · cases h
  | .op4 ..,u,h=>by simp [xu] at h
  | .ite c x y,u,h=>by
    simp only [xu] at h;split at h
    · rename_i B;obtain ⟨S,t,n⟩:=wb m l B;cases n with
      |pln _=>
        obtain ⟨j,p,A⟩:=wb m l h;exact ⟨j,by simp only [Ex.ev,t,Option.bind_some,qbi,p],A⟩
    · rename_i B;obtain ⟨S,t,n⟩:=wb m l B;cases n with
      |pln _=>
        obtain ⟨j,p,A⟩:=wb m l h;exact ⟨j,by simp only [Ex.ev,t,Option.bind_some,qbi,p],A⟩
    · cases h
end
end Go.Eng
namespace Go.Eng
open Go.RowKit
section
variable (V:Nat->Bool)
def Q8:Operand->Bool
  | .tmp t=> !V t
  |_=>false
def qiV:Op->Option (Operand×Operand×Value×Bool)
  | .pick c (.const va) b=>if Q8 V b then some (c,b,va,false) else none
  | .pick c a (.const vb)=>if Q8 V a then some (c,a,vb,true) else none
  |_=>none
variable (P:Program) (ops:Array Oper)
def qds (rec : Nat -> Option (Ex × Nat)) (g : Option (Nat × Bool)) (x : Operand) (pos : Nat) : Option (Ex × Nat) :=
  if Q8 V x then
    match x,pos with
    | .tmp t,p+1=>if vP ops p=some t/\(ops[p]?).map (·.guard)=some g then rec p else none
    |_,_=>none
  else some (kW x,pos)
def qdr (rec:Nat->Option (Ex×Nat)) (g:Option (Nat×Bool)):List Operand->Nat->Option (List Ex×Nat)
  |[],pos=>some ([],pos)
  |x::xs,pos=>(qdr rec g xs pos).bind fun (es,j)=>(qds V ops rec g x j).bind fun (e,j')=>some (e::es,j')
def qiP (rec : Nat -> Option (Ex × Nat)) (o : Oper) (k : Nat) : Option (Ex × Nat) :=
  match qiV V o.op with
  | some (c, y, cv, want) =>
    match k,c,y with
    | p + 1,.tmp tc,.tmp ty =>
      match (ops[p]?).bind (·.guard) with
      |some (i,want')=>
        if want'=want/\vP ops p=some ty/\vP ops i=some tc/\(o.guard=none\/Q8 V c=true) then
          (rec p).bind fun (ey,jy)=>(qds V ops rec o.guard c jy).bind fun (ec,jc)=>some (if want then .ite ec ey (.const cv) else .ite ec (.const cv) ey,jc)
        else none
      |none=>none
    |_,_,_=>none
  |none=>
    match o.op with
    | .pick c a b=>if Q8 V a||Q8 V b then none else (qds V ops rec o.guard c k).bind fun (ec,jc)=>some (.ite ec (kW a) (kW b),jc)
    |op=>(qeE P op).bind fun p=>(qdr V ops rec o.guard p.opds k).bind fun (es,j)=>(p.mk es).map fun e=>(e,j)
def pxQ:Nat->Nat->Option (Ex×Nat)
  |0,_=>none
  |fuel+1,k=>(ops[k]?).bind fun o=>(qiP V P ops (pxQ fuel) o k).bind fun (e,j)=>if xF o.guard j then some (e,j) else none
def tgQ (g : Option (Nat × Bool)) (j : Nat) : Option (Option (Nat × Bool)) :=
  match g with
  |none=>some none
  |some (i,want)=>match vP ops i with
    |some t=>if V t=true/\i<j then some (some (t,want)) else none
    |none=>none
def qlt (o:Oper):Bool:=
  (o.op.operands.toList.all fun x=> !Q8 V x)&&(match o.op with| .select .. =>false|_=>true)&&(match o.dst with|some d=>V d|none=>true)
def qbY : Nat -> Nat -> Option (List St)
  |_,0=>some []
  |0,_+1=>none
  |fuel+1,k+1=>
    match ops[k]? with
    |none=>none
    |some o=>
      match pxQ V P ops (k+1) k,o.dst with
      |some (e,j),some d=>if V d then (tgQ V ops o.guard j).bind fun g=>(qbY fuel j).map (· ++[.asg g d e]) else none
      |_,_=>if qlt V o then (tgQ V ops o.guard k).bind fun g=>(qbY fuel k).map (· ++[.eff g o.dst o.op o.type]) else none
end
def wV (V : Nat -> Bool) (P : Program) (n : Nat) (rawIds : List Nat) : Code -> Option IR
  | .skip=>some .skip
  | .region id ops draw=>
    if rawIds.contains id then some (.raw (.region id ops draw)) else
    if qbc ops n then
      match qbY V P ops ops.size ops.size with
      |none=>none
      |some l=>if draw then (if Region.lexB .any ops&&P.follows .mixedOrders then some (.drw l) else none) else some (.reg l)
    else none
  | .seq a b=>match wV V P n rawIds a,wV V P n rawIds b with
    |some x,some y=>some (.seq x y)
    |_,_=>none
  | .cond c a b=>if Q8 V c then none else match wV V P n rawIds a,wV V P n rawIds b with
    |some x,some y=>some (.cond (kW c) x y)
    |_,_=>none
  | .block id a=>match wV V P n rawIds a with
    |some x=>some (.block id x)
    |none=>none
  | .loop a=>match wV V P n rawIds a with
    |some x=>some (.loop x)
    |none=>none
  | .exit id=>some (.exit id)
  | .ret=>some .ret
  |c=>some (.raw c)
section
variable (V:List Nat) (P:Program) (ops:Array Oper)
theorem qd3:Q8 (fun t=>V.contains t)=xl V:=by funext x;cases x<;>rfl
theorem qBW:qiV (fun t=>V.contains t)=qdy V:=by
  funext o;unfold qiV qdy;rw [qd3];rfl
theorem qoI:qds (fun t=>V.contains t) ops=pxo ops V:=by
  funext rec g x pos;unfold qds pxo;rw [qd3];rfl
theorem qoH (rec:Nat->Option (Ex×Nat)) (g:Option (Nat×Bool)):∀(l:List Operand) (pos:Nat),qdr (fun t=>V.contains t) ops rec g l pos=qap ops V rec g l pos
  |[],_=>rfl
  |x::xs,pos=>by
    unfold qdr qap;rw [qoH rec g xs pos,qoI]
theorem qBK:qiP (fun t=>V.contains t) P ops=qdt P ops V:=by
  funext rec o k;unfold qiP qdt;rw [qBW,qoI,qd3];have:∀g l pos,qdr (fun t=>V.contains t) ops rec g l pos=qap ops V rec g l pos:=fun g l pos=>qoH V ops rec g l pos;simp only [this];rfl
theorem qoJ:∀(a k:Nat),pxQ (fun t=>V.contains t) P ops a k=px P ops V a k
  |0,_=>rfl
  |a+1,k=>by
    unfold pxQ px;have:pxQ (fun t=>V.contains t) P ops a=px P ops V a:=by funext k;exact qoJ a k
    rw [this,qBK]
theorem qyQ:tgQ (fun t=>V.contains t) ops=tg ops V:=by
  funext g j;unfold tgQ tg;rfl
theorem qJh:qlt (fun t=>V.contains t)=qaM V:=by
  funext o;unfold qlt qaM;rw [qd3];rfl
theorem qnu:∀(a k:Nat),qbY (fun t=>V.contains t) P ops a k=wG P ops V a k
  |0,0=>rfl
  |_+1,0=>rfl
  |0,_+1=>rfl
  |a+1,k+1=>by
    unfold qbY wG;have:qbY (fun t=>V.contains t) P ops a=wG P ops V a:=by funext k;exact qnu a k
    rw [this,qyQ,qJh,qoJ];rfl
end
def qbD (V:List Nat) (P:Program) (n:Nat) (h:List Nat):∀c:Code,wV (fun t=>V.contains t) P n h c=jo P n V h c
  | .skip=>rfl
  | .region id ops draw=>by
    unfold wV jo;rw [qnu];rfl
  | .seq a b=>by
    unfold wV jo;rw [qbD V P n h a,qbD V P n h b];rfl
  | .cond c a b=>by
    unfold wV jo;rw [qbD V P n h a,qbD V P n h b,qd3];rfl
  | .block id a=>by
    unfold wV jo;rw [qbD V P n h a];rfl
  | .loop a=>by
    unfold wV jo;rw [qbD V P n h a];rfl
  | .exit id=>rfl
  | .ret=>rfl
  | .scope _| .rangeFunc .. | .label _| .refuse _| .goto _=>rfl
def qJE (P:Program) (n:Nat) (a:List Nat) (c:Code):wV (fun t=>Nat.blt t n) P n a c=jo P n (List.range n) a c:=by
  rw [<-qbD];congr 1;funext t;cases h:Nat.blt t n with
  |true=>symm;simpa [Jo] using h
  |false=>
    symm
    have:¬t<n:=fun e=>by rw [<-Jo,h] at e;cases e
    simpa using this
end Go.Eng
namespace Go.Eng
open Go.RowKit
noncomputable section All
structure Sx where
  H:vR
  nx:Nat
  rs:List Nat
def qwP (v:Value):Option Value:=bif qcD v then some v else none
def z8 (e:Tr Value):Operand->Option Value
  | .tmp t=>e.get t
  |x=>qwP (qbC x)
def qas (e:Tr Value):List Operand->Option (List Value)
  |[]=>some []
  |x::l=>match z8 e x,qas e l with|some v,some vs=>some (v::vs)|_,_=>none
def qdd (e:Tr Value) (d:Nat) (v:Value):Option (Tr Value):=bif Nat.blt d vV then some (e.set d v) else none
def qoN (e:Tr Value) (d:Option Nat) (v:Value):Option (Tr Value):=
  match d with
  |none=>some e
  |some d=>qdd e d v
def gdX (e:Tr Value):Option (Nat×Bool)->Option Bool
  |none=>some true
  |some (t,want)=>match e.get t with|some (.bool b)=>some (b==want)|some (.tuple _)=>some false|_=>none
def kq (s:Sx) (k:Option Nat) (o:Ob):Option (Nat×Sx):=
  match k with
  |none=>bif Nat.blt s.nx vV then some (s.nx,⟨s.H.set s.nx o,Nat.succ s.nx,s.rs⟩) else none
  |some k=>bif s.rs.contains k&&Nat.blt k vV then some (k,⟨s.H.set k o,s.nx,s.rs.filter fun i=> !(i==k)⟩) else none
def Qr (v:Value):Bool:=match v with| .agg _| .tuple _=>false|_=>true
def qiQ (cs:List Value) (o:Nat) (vs:List Value):List Value:=cs.take o++vs++cs.drop (o+vs.length)
def qai (H:vR) (sz:Nat):Value->Option (List Value)
  | .slice none 0 0=>some []
  | .slice (some a) n _=>qdj H a (n*sz)
  |_=>none
def qdz (e:Tr Value):List (Nat×Operand)->Option (List (Nat×Value))
  |[]=>some []
  |(k,x)::l=>match z8 e x,qdz e l with|some v,some vs=>some ((k,v)::vs)|_,_=>none
def qfj (p:Option (Nat×Sx)):Option (Value×Sx):=match p with|some (i,s)=>some (.pointer (some ⟨i,0,none⟩),s)|none=>none
def qdk (n:Nat) (p:Option (Nat×Sx)):Option (Value×Sx):=match p with|some (i,s)=>some (.slice (some ⟨i,0,none⟩) n n,s)|none=>none
def qlC (e:Tr Value) (s:Sx) (k:Option Nat) (t:TypeId) (x:Operand):Option (Value×Sx):=
  match z8 e x with
  |some v=>qfj (kq s k ⟨v.cells.toList,t,1,true,false⟩)
  |none=>none
def qlF (P:Program) (s:Sx) (k:Option Nat) (t:TypeId):Option (Value×Sx):=
  match zR P t with
  |some z=>bif z.toList.all xP then qfj (kq s k ⟨z.toList,t,1,true,false⟩) else none
  |none=>none
def qh3 (s:Sx) (i o:Nat) (vs:List Value):Option (Value×Sx):=
  match s.H.get i with
  |some ob=>bif Nat.ble (Nat.add o vs.length) ob.cells.length&&Nat.blt i vV&& !(Nat.beq ob.sz 0) then some (undef,⟨s.H.set i ⟨qiQ ob.cells o vs,ob.ty,ob.sz,ob.whole,ob.ex⟩,s.nx,s.rs⟩) else none
  |none=>none
def qlr (P:Program) (e:Tr Value) (s:Sx) (t:TypeId) (p x:Operand):Option (Value×Sx):=
  match z8 e p,z8 e x with
  |some (.pointer (some ⟨i,o,none⟩)),some v=>bif jT P t v.cells.size&&v.cells.toList.all Qr then qh3 s i o v.cells.toList else none
  |_,_=>none
def qlz (e:Tr Value) (s:Sx) (fn:Fn) (fs cs:List Operand):Option (Value×Sx):=
  match qas e fs,qas e cs with
  |some a,some b=>some (.func fn a.toArray b.toArray,s)
  |_,_=>none
def qml (P:Program) (t:TypeId):Bool:=
  match P.info? t with
  |some it=>match it.zero with|some z=>z.cells.toList.all xP|none=>true
  |none=>true
def qlB (P:Program) (e:Tr Value) (s:Sx) (t:TypeId) (ps:List (Nat×Operand)):Option (Value×Sx):=
  match qdz e ps with
  |some l=>bif qml P t then (match P.built t l with|some cs=>some (.agg cs,s)|none=>none) else none
  |none=>none
def qly (P : Program) (e : Tr Value) (s : Sx) (k : Option Nat) (t : TypeId) (n : Nat) (ps : List (Nat × Operand)) : Option (Value × Sx) :=
  match qdz e ps,wI P t with
  |some l,some (ty,sz)=>
    bif Nat.ble (n*sz) 1000&&(l.map (·.1)==List.range n)&&l.all (fun p=>p.2.cells.size==sz)&&Nat.ble 1 sz then
      qdk n (kq s k ⟨l.flatMap (fun p=>p.2.cells.toList),ty,sz,false,false⟩)
    else none
  |_,_=>none
def qlI (H : vR) (ty : TypeId) (sz : Nat) : Value -> Option vR
  | .slice (some a) _ c=>match H.get a.block with
    |some ob=>bif ob.ty==ty&&ob.sz==sz&& !ob.whole&&Nat.blt a.block vV&&Nat.ble (a.off+c*sz) ob.cells.length then some (H.del a.block) else none
    |none=>none
  | .slice none 0 0=>some H
  |_=>none
def qxH (s : Sx) (k : Option Nat) (ty : TypeId) (sz bytes : Nat) (av : Value) (xs ys : List Value) : Option (Value × Sx) :=
  bif Nat.ble 1 (xs.length+ys.length)&&Nat.blt (xs.length+ys.length) 4611686018427387904&&Nat.ble ((xs.length+ys.length)*bytes) (140737488355328*sz)&&ys.all Qr&&Nat.ble 1 sz then
    match qlI s.H ty sz av with
    |some H=>qdk ((xs.length+ys.length) / sz) (kq ⟨H,s.nx,s.rs⟩ k ⟨xs++ys,ty,sz,false,false⟩)
    |none=>none
  else none
def qlE (P : Program) (e : Tr Value) (s : Sx) (k : Option Nat) (t : TypeId) (a b : Operand) : Option (Value × Sx) :=
  match ye P t,z8 e a,z8 e b with
  |some (ty,sz,bytes),some av,some bv=>
    match qai s.H sz av,qai s.H sz bv with
    |some xs,some ys=>qxH s k ty sz bytes av xs ys
    |_,_=>none
  |_,_,_=>none
def qgN (e:Tr Value) (s:Sx) (mx:Bool) (a b:Operand):Option (Value×Sx):=
  match z8 e a,z8 e b with
  |some (.int k x),some (.int k' y)=>bif k==k' then some (.int k (bif mx then (if y>x then y else x) else (if y<x then y else x)),s) else none
  |_,_=>none
def qlA (P:Program) (e:Tr Value) (s:Sx) (k:Option Nat):Callee->List Operand->List TypeId->Option (Value×Sx)
  | .builtin .append,[a,b],[t,t']=>bif t==t' then qlE P e s k t a b else none
  | .builtin .max,[a,b],[t,t']=>bif t==t' then qgN e s true a b else none
  | .builtin .min,[a,b],_=>qgN e s false a b
  |_,_,_=>none
def qlw (P : Program) (e : Tr Value) (s : Sx) (k : Option Nat) (t : TypeId) (x y : Operand) : Option (Value × Sx) :=
  match qji P t,z8 e x,z8 e y with
  |some (ty,z,bytes),some (.int _ n),some (.int _ m)=>
    bif n==m&&decide (0<=n)&&decide (n<=100000)&&Nat.ble bytes 1000&&xP z&&Qr z&&(match P.info? ty with|some i=>(match i.zero with|some z=>z.cells.size==1|none=>false)|none=>false) then
      qdk n.toNat (kq s k ⟨List.replicate n.toNat z,ty,1,false,false⟩)
    else none
  |_,_,_=>none
def qlv (s:Sx) (k:Option Nat):Option (Nat)->Option (Value×Sx)
  |none=>match kq s k ⟨[],0,0,true,false⟩ with|some (i,s')=>some (.map (some i),s')|none=>none
  |some _=>none
def yb (a b:ByteArray):Bool:=a.data.toList.map (·.toNat)==b.data.toList.map (·.toNat)
def qfE:List Value->ByteArray->Option Value
  | .string a::v::l,k=>bif yb a k then some v else qfE l k
  |_,_=>none
def qlx (P : Program) (e : Tr Value) (s : Sx) (t : TypeId) (m x : Operand) : Option (Value × Sx) :=
  match z8 e m,z8 e x,P.underlying t with
  |some (.map (some i)),some (.string b),some (.map kt et)=>
    match s.H.get i,P.underlying kt,(P.info? et).bind fun i=>i.zero with
    |some ob,some .string,some z=>bif Nat.beq ob.sz 0&&xP z then some ((qfE ob.cells b).getD z,s) else none
    |_,_,_=>none
  |_,_,_=>none
def qfC:List Value->ByteArray->Value->List Value
  | .string a::v::l,k,x=>bif yb a k then .string k::x::l else .string a::v::qfC l k x
  |_,k,x=>[.string k,x]
def qlp (P : Program) (e : Tr Value) (s : Sx) (t : TypeId) (m x y : Operand) : Option (Value × Sx) :=
  match z8 e m,z8 e x,z8 e y with
  |some (.map (some i)),some (.string b),some v=>
    match P.underlying t with
    |some (.map kt _)=>match s.H.get i,P.underlying kt with
      |some ob,some .string=>bif Nat.beq ob.sz 0&&xP v&&Nat.blt i vV then some (undef,⟨s.H.set i ⟨qfC ob.cells b v,ob.ty,ob.sz,ob.whole,ob.ex⟩,s.nx,s.rs⟩) else none
      |_,_=>none
    |_=>none
  |_,_,_=>none
def qeB (eq : Bool) (s : Sx) : Value -> Value -> Option (Value × Sx)
  | .agg xs,.agg ys=>match xs.toList,ys.toList with
    |[.int .i64 a,.int .i64 b],[.int .i64 c,.int .i64 d]=>some (.bool (bif eq then (a==c&&b==d) else !(a==c&&b==d)),s)
    |_,_=>none
  |_,_=>none
def qpC:Value->Option Bool
  | .slice (some _) _ _=>some false
  | .slice none 0 0=>some true
  |_=>none
def qnB (P:Program) (t:TypeId):Bool:=match P.underlying t with|some (.slice _)=>true|_=>false
def qlu (P : Program) (e : Tr Value) (s : Sx) (op : BinOp) (t : TypeId) (x : Operand) : Option (Value × Sx) :=
  match z8 e x with
  |some v=>match qpC v,op with
    |some b,.eql=>bif qnB P t then some (.bool b,s) else none
    |_,_=>none
  |none=>none
def qjd:Operand->Bool
  | .const (.slice none 0 0)=>true
  |_=>false
def qlq (pr : TypeId -> Bool) (e : Tr Value) (s : Sx) (op : BinOp) (t : TypeId) (x y : Operand) : Option (Value × Sx) :=
  match z8 e x,z8 e y with
  |some v,some u=>bif pr t then (match op with
    | .eql=>qeB true s v u
    | .neq=>qeB false s v u
    |_=>none) else none
  |_,_=>none
def qlD (P:Program) (pr:TypeId->Bool) (e:Tr Value) (s:Sx) (op:BinOp) (t u:TypeId) (x y:Operand):Option (Value×Sx):=
  bif qjd y then (bif t==u then qlu P e s op t x else none) else qlq pr e s op t x y
def qea (P:Program) (pr:TypeId->Bool) (e:Tr Value) (s:Sx) (k:Option Nat):Op->Option (Value×Sx)
  | .box t x=>qlC e s k t x
  | .alloc t=>qlF P s k t
  | .store t p x=>qlr P e s t p x
  | .makeFunc fn fs cs=>qlz e s fn fs.toList cs.toList
  | .build t ps=>qlB P e s t ps.toList
  | .buildSlice t n ps=>qly P e s k t n ps.toList
  | .call c=>qlA P e s k c.callee c.args.toList c.argTypes.toList
  | .makeSlice t x y=>qlw P e s k t x y
  | .makeMap _ r=>qlv s k (r.map fun _=>0)
  | .lookup t m x ok=>bif ok then none else qlx P e s t m x
  | .mapUpdate t m x y=>qlp P e s t m x y
  | .binOp op t x y u=>qlD P pr e s op t u x y
  |_=>none
inductive Ou where
  |go (e:Tr Value) (s:Sx)
  |ex (i:Nat) (e:Tr Value) (s:Sx)
  |rt (e:Tr Value) (s:Sx)
  |pn (c:List PanicEntry) (s:Sx)
  |ret (v:Value) (s:Sx)
structure Fx where
  f:FuncId
  nt:Nat
  V:List Nat
  ir:IR
  rs:List RV
structure Fa where
  k:K1
  a:Value
  v:Value
inductive Tk where
  |ir (F:Fx) (a:IR) (e:Tr Value)
  |sts (l:List St) (e:Tr Value)
  |ord (L:Option (List Fa)) (bs:Option Nat) (t:OT) (e:Tr Value)
  |call (f:FuncId) (args:List Value)
def qaP:Code->List Nat
  | .region id _ true=>[id]
  | .seq a b=>qaP a++qaP b
  | .cond _ a b=>qaP a++qaP b
  | .block _ a=>qaP a
  | .loop a=>qaP a
  | .scope a=>qaP a
  |_=>[]
def qm5 (ops:Array Oper):Nat:=((List.range ops.size).find? fun n=>Region.sinkB .any ops n&&Region.chainB .any ops n).getD ops.size
def qKs (c:Code):Code:=match c with| .scope c=>c|c=>c
def fnX (P : Program) (f : FuncId) : Option Fx :=
  match P.funcs[f]? with
  |none=>none
  |some fn=>match fn.body with
    |none=>none
    |some c=>
      match wV (fun t=>Nat.blt t fn.ntmps) P fn.ntmps (qaP c) (qKs c),zX P (List.range fn.ntmps) fn.results.toList with
      |some ir,some rs=>bif Nat.ble fn.ntmps 1000000000 then some ⟨f,fn.ntmps,List.range fn.ntmps,ir,rs⟩ else none
      |_,_=>none
def wE (H : vR) : OT -> Tr Value -> List Fa
  | .take g d ex t, e => match gdX e g with
    |some true=>match xu H e ex with
      |some v=>(match ex with
        | .op1 k x=>(match xu .lf e x with
          |some a=>(match x1 .lf k a with|some _=>[] |none=>[⟨k,a,v⟩])
          |none=>[])
        |_=>[])++(match qdd e d v with|some e'=>wE H t e'|none=>[])
      |none=>[]
    |some false=>(match qdd e d undef with|some e'=>wE H t e'|none=>[])
    |none=>[]
  |_,_=>[]
def xL : Nat -> Value -> Value -> Bool
  |0,_,_=>false
  |n+1,a,b=>match a,b with
    | .bool a,.bool b=>a==b
    | .int k a,.int l b=>k==l&&a==b
    | .string a,.string b=>yb a b
    | .pointer none,.pointer none=>true
    | .pointer (some ⟨i,o,none⟩),.pointer (some ⟨j,p,none⟩)=>i==j&&o==p
    | .slice none n c,.slice none m d=>n==m&&c==d
    | .slice (some ⟨i,o,none⟩) n c,.slice (some ⟨j,p,none⟩) m d=>i==j&&o==p&&n==m&&c==d
    | .map (some i),.map (some j)=>i==j
    | .nilFunc,.nilFunc=>true
    | .nilIface,.nilIface=>true
    | .func (.func f) as bs,.func (.func g) cs ds=>f==g&&all2 (xL n) as.toList cs.toList&&all2 (xL n) bs.toList ds.toList
    | .agg as,.agg bs=>all2 (xL n) as.toList bs.toList
    | .tuple as,.tuple bs=>all2 (xL n) as.toList bs.toList
    | .iface t a,.iface u b=>t==u&&xL n a b
    |_,_=>false
where all2 (f:Value->Value->Bool):List Value->List Value->Bool
  |[],[]=>true
  |a::l,b::m=>f a b&&all2 f l m
  |_,_=>false
def qbl (a b:Ob):Bool:=xL.all2 (xL 4) a.cells b.cells&&a.ty==b.ty&&a.sz==b.sz&&a.whole==b.whole&&a.ex==b.ex
def qfP:K1->K1->Bool
  | .load1,.load1=>true
  | .loadN n,.loadN m=>n==m
  | .b2s,.b2s=>true
  |_,_=>false
def qim (H:vR) (L:List Fa):Bool:=L.all fun f=>match x1 H f.k f.a with|some u=>xL 4 u f.v|none=>false
def qgF:List Fa->K1->Value->Option Value
  |[],_,_=>none
  |f::l,k,a=>bif qfP f.k k&&xL 4 f.a a then some f.v else qgF l k a
def evF (L : List Fa) (e : Tr Value) : Ex -> Option Value
  | .op1 k x=>match xu .lf e x with
    |some a=>(match x1 .lf k a with|some v=>some v|none=>qgF L k a)
    |none=>none
  |ex=>xu .lf e ex
def qpj {α:Type} (f:α->α->Bool):Option α->Option α->Bool
  |none,none=>true
  |some a,some b=>f a b
  |_,_=>false
def Tr.noneB {α:Type}:Tr α->Bool
  | .lf=>true
  | .nd none l r=>l.noneB&&r.noneB
  | .nd (some _) _ _=>false
def Tr.eqB {α:Type} (f:α->α->Bool):Tr α->Tr α->Bool
  | .nd v l r,.nd u m q=>qpj f v u&&l.eqB f m&&r.eqB f q
  | .lf,t=>t.noneB
  |t,.lf=>t.noneB
def qg0:OT->Bool
  | .both .. =>true
  | .take _ _ _ t=>qg0 t
  | .step _ _ t=>qg0 t
  | .done=>false
def qaL:OT->List Nat
  | .both x _=>qaL x
  | .take _ _ _ t=>qaL t
  | .step (.eff _ (some d) _ _) _ t=>d::qaL t
  | .step _ _ t=>qaL t
  | .done=>[]
def qi9 (H:vR) (e:Tr Value):RV->Option Value
  | .tmp t=>e.get t
  | .cell1 t=>match e.get t with|some v=>x1 H .load1 v|none=>none
  | .cellN t n=>match e.get t with|some v=>x1 H (.loadN n) v|none=>none
def qfb (H : vR) (e : Tr Value) : List RV -> Option (List Value)
  |[]=>some []
  |r::rs=>match qi9 H e r,qfb H e rs with
    |some v,some vs=>some (v::vs)
    |_,_=>none
def qbF:List Value->Nat->Tr Value->Tr Value
  |[],_,e=>e
  |v::l,k,e=>qbF l (Nat.succ k) (e.set k v)
structure TrP where
  f:FuncId
  tp:TypeId
  tb:TypeId
  ti:TypeId
  tt:TypeId
  tx:TypeId
abbrev qcO:=FuncId->List Value->Sx->Option (Value×Sx)
section
variable (P:Program) (prim:qcO) (tr:Option TrP) (sk:FuncId->Nat->List Nat) (pr:TypeId->Bool)
variable (r:Sx->Tk->Option Ou) (s:Sx)
def qgI (rs:List RV) (e:Tr Value) (s:Sx):Option Ou:=
  match qfb s.H e rs with
  |some vs=>some (.ret (yu vs) s)
  |none=>none
def qjm (F:Fx):Option Ou->Option Ou
  |some (.go e s)=>qgI F.rs e s
  |some (.rt e s)=>qgI F.rs e s
  |some (.pn c s)=>some (.pn c s)
  |_=>none
def qg1 (args:List Value):Option Fx->Option Ou
  |some F=>bif Nat.ble args.length F.nt&&Nat.blt args.length vV then qjm F (r s (.ir F F.ir (qbF args 0 .lf))) else none
  |none=>none
def qxv (q : TrP) (b iY : Nat) (at0 : Int) (n : Nat) (s : Sx) : Option Ou :=
  match s.H.get b with
  |some ob=>match ob.cells with
    |[tv,.int .i64 i,.int .i64 far,.slice a m c]=>match qc0 6 (.slice a m c) 0 n with
      |some nv2=>bif decide (0<=i)&&decide (0<=far)&&Nat.ble n m&&Nat.blt b vV&&Nat.blt iY vV&&qbl ob ⟨[tv,.int .i64 i,.int .i64 far,.slice a m c],q.tt,1,true,false⟩ then
          some (.ret (.bool false) ⟨(s.H.set b ⟨[tv,.int .i64 at0,.int .i64 far,nv2],q.tt,1,true,false⟩).del iY,s.nx,s.rs⟩) else none
      |none=>none
    |_=>none
  |none=>none
def qbq (s:Sx) (i:Nat) (o:Ob):Bool:=match s.H.get i with|some p=>qbl p o|none=>false
def chainB (q:TrP):List PanicEntry->Bool
  |[p]=>(match p.v with| .iface t (.agg cs)=>t==q.tx&&cs.isEmpty|_=>false)&& !p.recovered&& !p.goexit
  |_=>false
def qyB (q : TrP) (b iA iY iN iM : Nat) (at0 : Int) (n : Nat) : Option Ou -> Option Ou
  |some (.ret v s)=>bif qbq s iY ⟨[.bool false],q.tb,1,true,false⟩&&Nat.blt iY vV&&(match v with| .tuple cs=>cs.isEmpty|_=>false) then some (.ret (.bool true) ⟨s.H.del iY,s.nx,s.rs⟩) else none
  |some (.pn c s)=>
    bif chainB q c&&qbq s iA ⟨[.pointer (some ⟨b,0,none⟩)],q.tp,1,true,false⟩&&qbq s iY ⟨[.bool false],q.tb,1,true,false⟩&&qbq s iN ⟨[.int .i64 at0],q.ti,1,true,false⟩&&qbq s iM ⟨[.int .i64 n],q.ti,1,true,false⟩&& !(Nat.beq b iY) then
      qxv q b iY at0 n s else none
  |_=>none
def qhD (q : TrP) (b g : Nat) (cs : List Value) (at0 : Int) (n : Nat) : Option Ou :=
  match kq s none ⟨[.pointer (some ⟨b,0,none⟩)],q.tp,1,true,false⟩ with
  |none=>none
  |some (iA,s1)=>match kq s1 none ⟨[.bool false],q.tb,1,true,false⟩ with
    |none=>none
    |some (iY,s2)=>match kq s2 none ⟨[.int .i64 at0],q.ti,1,true,false⟩ with
      |none=>none
      |some (iN,s3)=>match kq s3 none ⟨[.int .i64 n],q.ti,1,true,false⟩ with
        |none=>none
        |some (iM,s4)=>qyB q b iA iY iN iM at0 n (r s4 (.call g cs))
def qmP (P:Program) (q:TrP) (b:Nat) (ob:Ob) (g:FuncId) (fs cs:Array Value):Option Ou:=
  match ob.cells with
  |[tv,.int .i64 at0,.int .i64 far,.slice a n c]=>bif fs.isEmpty&&decide (0<=at0)&&decide (0<=far)&&qh P g&&qbl ob ⟨[tv,.int .i64 at0,.int .i64 far,.slice a n c],q.tt,1,true,false⟩ then qhD r s q b g cs.toList at0 n else none
  |_=>none
def qhC (q : TrP) : List Value -> Option Ou
  |[.pointer (some ⟨b,0,none⟩),.func (.func g) fs cs]=>match s.H.get b with
    |some ob=>qmP r s P q b ob g fs cs
    |none=>none
  |_=>none
def qlW (f : FuncId) (args : List Value) : Option Ou :=
  match prim f args s with
  |some (v,s')=>some (.ret v s')
  |none=>match tr with
    |some q=>bif Nat.beq q.f f then qhC P r s q args else qg1 r s args (fnX P f)
    |none=>qg1 r s args (fnX P f)
def qcC (l:List St) (d:Option Nat) (e:Tr Value) (v:Value) (s:Sx):Option Ou:=
  match qoN e d v with|some e'=>r s (.sts l e')|none=>none
def qxw (l:List St) (d:Option Nat) (e:Tr Value):Option Ou->Option Ou
  |some (.ret v s)=>qcC r l d e v s
  |some (.pn c s)=>some (.pn c s)
  |_=>none
def qh6 (l:List St) (d:Option Nat) (e:Tr Value):Option Value->Option (List Value)->Option Ou
  |some (.func (.func f) fs cs),some vs=>bif qh P f then qxw r l d e (r s (.call f (fs.toList++(vs++cs.toList)))) else none
  |_,_=>none
def qnA:Option Value->Option Ou
  |some v=>match v with| .iface .. =>bif qcD v then some (.pn [{v:=v,recovered:=false}] s) else none|_=>none
  |none=>none
def qgS (l:List St) (d:Option Nat) (e:Tr Value):Option (Value×Sx)->Option Ou
  |some (v,s)=>qcC r l d e v s
  |none=>none
def qh5 (k : Option Nat) (l : List St) (d : Option Nat) (e : Tr Value) : Op -> Option Ou
  | .panic x=>qnA s (z8 e x)
  | .call c=>match c.callee with
    | .value f=>qh6 P r s l d e (z8 e f) (qas e c.args.toList)
    |_=>qgS r l d e (qea P pr e s k (.call c))
  |op=>qgS r l d e (qea P pr e s k op)
def qh7 (l:List St) (d:Nat) (e:Tr Value):Option Value->Option Ou
  |some v=>qcC r l (some d) e v s
  |none=>none
def qc1 (k : Option Nat) (e : Tr Value) : List St -> Option Ou
  |[]=>some (.go e s)
  | .asg g d x::l=>match gdX e g with
    |some true=>qh7 r s l d e (xu s.H e x)
    |some false=>qh7 r s l d e (some undef)
    |none=>none
  | .eff g d op _::l=>match gdX e g with
    |some true=>qh5 P pr r s k l d e op
    |some false=>qcC r l d e undef s
    |none=>none
def qfs (L:Option (List Fa)) (bs:Option Nat) (t:OT) (e:Tr Value) (d:Nat):Option Value->Option Ou
  |some v=>match qdd e d v with|some e'=>r s (.ord L bs t e')|none=>none
  |none=>none
def qph (L : Option (List Fa)) (bs : Option Nat) (t : OT) (b : Bool) : Option Ou -> Option Ou
  |some (.go e' s')=>
    bif b then (match L with
      |some l=>bif qim s'.H l then r s' (.ord L bs t e') else none
      |none=>none)
    else r s' (.ord none bs t e')
  |some (.pn c s')=>some (.pn c s')
  |_=>none
def qxg:Option Ou->Option Ou->Option Ou
  |some (.go e1 s1),some (.go e2 s2)=>bif e1.eqB (xL 4) e2&&s1.H.eqB qbl s2.H&&Nat.beq s1.nx s2.nx&&s1.rs==s2.rs then some (.go e1 s1) else none
  |_,_=>none
def qpv (bs:Option Nat):St->Option Nat
  | .eff _ (some d) _ _=>bs.map (· +d)
  |_=>none
def qi2 (L : Option (List Fa)) (bs : Option Nat) (e : Tr Value) : OT -> Option Ou
  | .done=>some (.go e s)
  | .take g d x t=>match L with
    |none=>none
    |some l=>match gdX e g with
      |some true=>qfs r s L bs t e d (evF l e x)
      |some false=>qfs r s L bs t e d (some undef)
      |none=>none
  | .step x b t=>qph r L bs t b (qc1 P pr r s (qpv bs x) e [x])
  | .both x y=>qxg (r s (.ord L bs x e)) (r s (.ord L bs y e))
def qiJ (F:Fx) (e:Tr Value):Option OT->Option Ou
  |some t=>bif qg0 t&&(qaL t).all (fun d=>Nat.blt d F.nt) then r ⟨s.H,s.nx+F.nt,s.rs++(qaL t).map (s.nx+ ·)⟩ (.ord (some (wE s.H t e)) (some s.nx) t e)
      else r s (.ord (some (wE s.H t e)) none t e)
  |none=>none
def qie (F:Fx) (b:IR):Option Ou->Option Ou
  |some (.go e' s')=>r s' (.ir F b e')
  |o=>o
def qKu (i:Nat):Option Ou->Option Ou
  |some (.ex j e' s')=>bif Nat.beq j i then some (.go e' s') else some (.ex j e' s')
  |o=>o
def qwR (F:Fx) (e:Tr Value) (a b:IR):Option Value->Option Ou
  |some (.bool c)=>bif c then r s (.ir F a e) else r s (.ir F b e)
  |_=>none
def irX (F : Fx) (e : Tr Value) : IR -> Option Ou
  | .skip=>some (.go e s)
  | .reg l=>r s (.sts l e)
  | .drw _=>none
  | .seq a b=>qie r F b (r s (.ir F a e))
  | .cond c a b=>qwR r s F e a b (xu s.H e c)
  | .block i a=>qKu i (r s (.ir F a e))
  | .loop a=>qie r F (.loop a) (r s (.ir F a e))
  | .exit i=>some (.ex i e s)
  | .ret=>some (.rt e s)
  | .raw c=>match c with
    | .label _=>some (.go e s)
    | .region id ops true=>qiJ r s F e (qdD P F.nt F.V (sk F.f id) (qm5 ops) (.region id ops true))
    |_=>none
def qnv:Tk->Option Ou
  | .ir F a e=>irX P sk r s F e a
  | .sts l e=>qc1 P pr r s none e l
  | .ord L bs t e=>qi2 P pr r s L bs e t
  | .call f args=>qlW P prim tr r s f args
end
def yd (P:Program) (prim:qcO) (tr:Option TrP) (sk:FuncId->Nat->List Nat) (pr:TypeId->Bool):Nat->Sx->Tk->Option Ou
  |0,_,_=>none
  |n+1,s,t=>qnv P prim tr sk pr (yd P prim tr sk pr n) s t
end All
end Go.Eng
namespace Go.Eng
open Go.RowKit
def ju {α:Type} {b:Bool} {x:Option α} {v:α} (h:(bif b then x else none)=some v):b=true/\x=some v:=by
  cases b
  · cases h
  · exact ⟨rfl,h⟩
def ym {n:Nat} (h:Nat.blt n vV=true):n<vV:=by simpa [Jo] using h
section
variable {σ:Sg} {e:Tr Value} {ρ:qa}
theorem qJA {v u:Value} (h:qwP v=some u):VR σ u v:=by
  obtain ⟨a,b⟩:=ju h;cases b;exact QE a
theorem xD (a:ER σ e ρ) {x:Operand} {v:Value} (h:z8 e x=some v):VR σ v (qe ρ x):=by
  unfold z8 at h;split at h
  · exact a _ _ h
  · cases x with
    |tmp t=>rename_i b;exact absurd rfl (b t)
    |_=>exact qJA h
theorem qi5 (b:ER σ e ρ):∀{l:List Operand} {vs:List Value},qas e l=some vs->qr σ vs (l.map (qe ρ))
  |[],vs,h=>by cases h;trivial
  | x :: l, vs, h => by
    unfold qas at h;split at h
    · rename_i v j c a;cases h;exact ⟨xD b c,qi5 b a⟩
    · cases h
theorem qeZ (n:ER σ e ρ) {d:Nat} {v c:Value} (m:VR σ v c) {j:Tr Value} (h:qdd e d v=some j):ER σ j (qw ρ d c):=by
  obtain ⟨l,p⟩:=ju h;cases p;intro i u a;rw [Tr.get_set _ _ (ym l)] at a;unfold qw;split at a
  · rename_i b;cases a;rw [if_pos b];exact m
  · rename_i b;rw [if_neg b];exact n i u a
theorem qBM (b:ER σ e ρ) {d:Option Nat} {v a:Value} (j:VR σ v a) {c:Tr Value} (h:qoN e d v=some c):ER σ c (qn ρ d a):=by
  cases d with
  |none=>cases h;exact b
  |some d=>exact qeZ b j h
theorem ER.mono {a:Sg} (c:ER σ e ρ) (b:σ.le a):ER a e ρ:=fun i v h=>(c i v h).mono b
theorem qcw (j:ER σ e ρ) {g:Option (Nat×Bool)} {b:Bool} (h:gdX e g=some b):gd ρ g=b:=by
  cases g with
  |none=>cases h;rfl
  |some p=>
    obtain ⟨t,l⟩:=p;simp only [gdX] at h;split at h
    · rename_i m a;cases h;have:=j _ _ a;generalize c:ρ t=r at this;cases this;simp [gd,c]
    · rename_i cs a;cases h;have:=j _ _ a;generalize c:ρ t=r at this;cases this with
      |pln h=>cases h
      |tup _ _=>simp [gd,c]
    · cases h
theorem qbT:VR σ undef undef:=QE (v:=undef) rfl
theorem qcG {v c:Value} (h:VR σ v c):qr σ v.cells.toList c.cells.toList:=by
  cases h with
  |pln h=>
    have:v.cells=#[v]:=by
      unfold xP at h;split at h<;>first|rfl|cases h
    rw [this];exact ⟨.pln h,trivial⟩
  |ptr h=>exact ⟨.ptr h,trivial⟩
  |slc h l=>exact ⟨.slc h l,trivial⟩
  |mp h=>exact ⟨.mp h,trivial⟩
  |fnc b a m t=>exact ⟨.fnc b a m t,trivial⟩
  |ifc h=>exact ⟨.ifc h,trivial⟩
  | @agg cs ds b a=>
    show qr σ cs.toList ds.toList;exact qr.of (by simpa using b) fun j x y p n=>a j x y (by simpa using p) (by simpa using n)
  |tup b a=>exact ⟨.tup b a,trivial⟩
theorem qlS {v a:Value} (h:VR σ v a):a.cells.size=v.cells.size:=by
  have:=(qcG h).len;simpa using this.symm
theorem qDa {v a:Value} (h:VR σ v a) (b:Qr v=true):a.oneCell=true:=by
  cases h with
  |pln h=>
    unfold xP at h;split at h<;>first|rfl|cases h
  |agg _ _=>cases b
  |tup _ _=>cases b
  |_=>rfl
theorem qi8:∀{l m:List Value},qr σ l m->l.all Qr=true->∀v∈m,v.oneCell=true
  |[],[],_,_,v,c=>by simp at c
  |a::l,b::m,h,j,v,c=>by
    simp only [List.all_cons,j0] at j;rcases wh.1 c with rfl|c
    · exact qDa h.1 j.1
    · exact qi8 h.2 j.2 v c
theorem qbh:∀{l:List Value},l.all xP=true->qr σ l l
  |[],_=>trivial
  |a::l,h=>by
    simp only [List.all_cons,j0] at h;exact ⟨.pln h.1,qbh h.2⟩
end
structure Iv (σ:Sg) (w0:World) (s:Sx) (w:World):Prop where
  mr:MR σ s.H w
  dom:∀i p,σ i=some p->i<s.nx/\i∉s.rs
  res:∀i∈s.rs,i<s.nx
  ap:∀i j oi oj pi pj,s.H.get i=some oi->s.H.get j=some oj->σ i=some pi->σ j=some pj->pi.1=pj.1->i=j
  ext:qc w0 w
  own:∀i o p,s.H.get i=some o->σ i=some p->w0.heap.size<=p.1
section
variable {σ:Sg} {w0 w:World} {s:Sx}
theorem Iv.toExt (h:Iv σ w0 s w) {w':World} (a:qc w w'):Iv σ w0 s w':=⟨h.mr.ext a,h.dom,h.res,h.ap,h.ext.trans' a,h.own⟩
theorem MR.at' {H:vR} (h:MR σ H w) {i:Nat} {o:Ob} (a:H.get i=some o):∃p,σ i=some p/\p.1<w.heap.size:=by
  by_cases j:o.sz=0
  · obtain ⟨b,ps,l,m,_⟩:=(h i o a).1 j;exact ⟨_,l,m.lt⟩
  · obtain ⟨b,f,x,cur,c⟩:=(h i o a).2 j;exact ⟨_,c.at',c.lt⟩
theorem MR.keep {H H':vR} (h:MR σ H w) {w':World} (l:∀i o,H'.get i=some o->H.get i=some o) (m:∀i o p,H'.get i=some o->σ i=some p->w'.heap[p.1]? =w.heap[p.1]?):MR σ H' w':=fun i o a=>by
  refine ⟨fun c=>?_,fun c=>?_⟩
  · obtain ⟨b,ps,n,t,u⟩:=(h i o (l i o a)).1 c;exact ⟨b,ps,n,t.block (m i o _ a n),u⟩
  · obtain ⟨b,f,x,cur,j⟩:=(h i o (l i o a)).2 c;exact ⟨b,f,x,cur,j.keep (m i o _ a j.at')⟩
theorem qje (t : Iv σ w0 s w) {k : Option Nat} {o : Ob} {i : Nat} {s' : Sx} (h : kq s k o = some (i, s')) {b f x : Nat} {W : World} (hW : MR σ s.H W) (hE : qc w0 W) (hb0 : w0.heap.size <= b)
    (R:∀j z I,s.H.get j=some z->σ j=some I->I.1≠b) (ho:∀n,σ.le n->n i=some (b,f,x)->(o.sz=0->MO n W i o)/\(o.sz≠0->∃cur,RO n W i o b f x cur)):
    ∃n,σ.le n/\n i=some (b,f,x)/\Iv n w0 s' W/\s'.H=s.H.set i o/\i<vV/\∀j p,n j=some p->j≠i->σ j=some p:=by
  have key:i<vV/\s'.H=s.H.set i o/\σ i=none/\i<s'.nx/\i∉s'.rs/\s.nx<=s'.nx/\(∀j∈s'.rs,j∈s.rs):=by
    unfold kq at h;split at h
    · obtain ⟨S,X⟩:=ju h;cases X;refine ⟨ym S,rfl, ?_,VT _,fun J=>?_,Nat.le_succ _,fun j c=>c⟩
      · cases Z:σ s.nx with
        |none=>rfl
        |some p=>exact absurd (t.dom _ _ Z).1 (Nat.lt_irrefl _)
      · exact absurd (t.res _ J) (Nat.lt_irrefl _)
    · rename_i k;obtain ⟨S,X⟩:=ju h;cases X;simp only [j0] at S;have J:i∈s.rs:=by simpa using S.1
      refine ⟨ym S.2,rfl, ?_,t.res _ J,by simp,j1 _,fun j c=>(List.mem_filter.1 c).1⟩;cases Z:σ i with
      |none=>rfl
      |some p=>exact absurd J (t.dom _ _ Z).2
  obtain ⟨k1,k2,k3,k4,k5,k6,k7⟩:=key;have B:σ.le (fun j=>if j=i then some (b,f,x) else σ j):=fun j p u=>by
    have:j≠i:=fun e=>by rw [e,k3] at u;cases u
    simp [this,u]
  have E:∀j,s'.H.get j=if j=i then some o else s.H.get j:=fun j=>by rw [k2,Tr.get_set _ _ k1]
  refine ⟨_,B,by simp,⟨?_, ?_,fun j c=>Jy (t.res j (k7 j c)) k6, ?_,hE, ?_⟩,k2,k1,fun j p u Y=>by simpa [Y] using u⟩
  · intro j z c;rw [E] at c;split at c
    · rename_i e;cases c;subst e;obtain ⟨a1,a2⟩:=ho _ B (by simp);exact ⟨a1,fun hz=>let ⟨cur,hc⟩:=a2 hz;⟨b,f,x,cur,hc⟩⟩
    · exact (hW.mono B) j z c
  · intro j p u;split at u
    · rename_i e;subst e;exact ⟨k4,k5⟩
    · have:=t.dom j p u;exact ⟨Jy this.1 k6,fun J=>this.2 (k7 j J)⟩
  · intro j l z ol I pl c O a m he;rw [E] at c O;split at c
    · rename_i y;rw [if_pos y] at a;cases a;split at O
      · rename_i A;rw [y,A]
      · rename_i A;rw [if_neg A] at m;exact absurd he.symm (R l ol pl O m)
    · rename_i y;rw [if_neg y] at a;split at O
      · rename_i A;rw [if_pos A] at m;cases m;exact absurd he (R j z I c a)
      · rename_i A;rw [if_neg A] at m;exact t.ap j l z ol I pl c O a m he
  · intro j z I c a;rw [E] at c;split at c
    · rename_i y;rw [if_pos y] at a;cases a;exact hb0
    · rename_i y;rw [if_neg y] at a;exact t.own j z I c a
theorem qfA (t:Iv σ w0 s w) {k:Option Nat} {o:Ob} {i:Nat} {s':Sx} (h:kq s k o=some (i,s')) {b f x:Nat} {W:World} (u:MR σ s.H W) (n:qc w0 W) (l:w0.heap.size<=b)
    (c:∀j B m,s.H.get j=some B->σ j=some m->m.1≠b) (A:∀a,σ.le a->a i=some (b,f,x)->(o.sz=0->MO a W i o)/\(o.sz≠0->∃cur,RO a W i o b f x cur)):
    ∃a,σ.le a/\a i=some (b,f,x)/\Iv a w0 s' W:=by
  obtain ⟨a,z,p,y,_⟩:=qje t h u n l c A;exact ⟨a,z,p,y⟩
theorem qfi (l:Iv σ w0 s w) {cs cs':List Value} {t:TypeId} {i:Nat} {s':Sx} (h:kq s none ⟨cs,t,1,true,false⟩=some (i,s')) {b:Nat} (y:w0.heap.size<=b) (n:∀j Z A,s.H.get j=some Z->σ j=some A->A.1≠b) (S:Blk w b cs'.toArray t) (c:qr σ cs cs'):
    ∃a,σ.le a/\a i=some (b,0,0)/\Iv a w0 s' w/\∀j o p,s'.H.get j=some o->a j=some p->p.1=b\/(s.H.get j=some o/\σ j=some p):=by
  obtain ⟨a,R,z,J,Y,h5,I⟩:=qje l h (b:=b) (f:=0) (x:=0) l.mr l.ext y n fun a E O=>⟨(fun W=>by cases W),fun _=>⟨cs'.toArray,O,S.heap,by
    simp only [List.drop_zero];rw [ul (by rw [c.len];exact j1 _)];exact c.mono E,by simp [c.len],fun _=>⟨rfl,rfl,by simp [c.len]⟩,(fun B=>by cases B),(fun X=>by cases X)⟩⟩
  refine ⟨a,R,z,J,fun j o p m u=>?_⟩;rw [Y,Tr.get_set _ _ h5] at m;split at m
  · rename_i e;subst e;rw [z] at u;cases u;exact .inl rfl
  · rename_i e;exact .inr ⟨m,I j p u e⟩
theorem qef (m:Iv σ w0 s w) {i:Nat} {ob:Ob} (h:s.H.get i=some ob) (c:ob.whole=true) (j:ob.sz≠0):∃b cs',σ i=some (b,0,0)/\qr σ ob.cells cs'/\Blk w b cs'.toArray ob.ty:=by
  obtain ⟨b,f,x,cur,a⟩:=(m.mr i ob h).2 j;obtain ⟨rfl,rfl,l⟩:=a.whole c;refine ⟨b,cur.toList,a.at', ?_,⟨by simpa using a.heap⟩⟩;have:=a.cs;simp only [List.drop_zero] at this
  rwa [ul (by simp [l])] at this
theorem qwI (c:Iv σ w0 s w) {i:Nat} {ob:Ob} (t:s.H.get i=some ob) (m:i<vV) {b f x:Nat} (n:σ i=some (b,f,x)) {W:World} (u:Only b w W):Iv σ w0 ⟨s.H.del i,s.nx,s.rs⟩ W:=by
  have h:∀j o,(s.H.del i).get j=some o->j≠i/\s.H.get j=some o:=fun j o a=>by
    rw [Tr.get_del _ m] at a;split at a
    · cases a
    · rename_i e;exact ⟨e,a⟩
  exact ⟨c.mr.keep (fun j o a=>(h j o a).2) fun j o p a A=>u.block _ fun e=>(h j o a).1 (c.ap j i o ob p _ (h j o a).2 t A n e),c.dom,c.res,fun j l y ol B pl a z=>c.ap j l y ol B pl (h j y a).2 (h l ol z).2,u.ext c.ext (c.own i ob _ t n),fun j o p a=>c.own j o p (h j o a).2⟩
theorem qg8 (c:Iv σ w0 s w) {k:Option Nat} {cs cs':List Value} {t:TypeId} {sz:Nat} {y:Bool} {i:Nat} {s':Sx} (h:kq s k ⟨cs,t,sz,y,false⟩=some (i,s')) (l:qr σ cs cs') (u:sz≠0) {W:World} (x:qc w W) {b:Nat} (J:w.heap.size<=b) (Y:Blk W b cs'.toArray t) (B:y=false->∃n,cs.length=n*sz/\n<=maxLen):
    ∃m,σ.le m/\m i=some (b,0,0)/\Iv m w0 s' W:=by
  refine qfA c h (c.mr.ext x) (c.ext.trans' x) (Nat.le_trans c.ext.size J) (fun j oj pj I O he=>?_) fun m A S=>⟨fun Z=>absurd Z u,fun _=>⟨cs'.toArray,S,Y.heap, ?_, ?_,fun _=>⟨rfl,rfl, ?_⟩,fun z=>?_,(fun h=>by cases h)⟩⟩
  · obtain ⟨p,a,R⟩:=c.mr.at' I;rw [O] at a;cases a;omega
  · simp only [List.drop_zero];have:(cs'.take cs.length)=cs':=ul (by rw [l.len];exact j1 _);rw [this];exact l.mono A
  · simp [l.len]
  · simp [l.len]
  · obtain ⟨n,X,E⟩:=B z;exact ⟨n,X,by simpa using E⟩
theorem qlT (h : Iv σ w0 s w) {i : Nat} {ob : Ob} (S : s.H.get i = some ob) {a : Ob} (z : i < vV) {b f x : Nat} (A : σ i = some (b, f, x)) {W : World} (hO : Only b w W) (ho : (a.sz = 0 -> MO σ W i a) /\ (a.sz ≠ 0 -> ∃ cur, RO σ W i a b f x cur)) :
    Iv σ w0 ⟨s.H.set i a,s.nx,s.rs⟩ W:=by
  have I:∀j,(s.H.set i a).get j=if j=i then some a else s.H.get j:=fun j=>Tr.get_set _ _ z j
  have t:∀j o,(s.H.set i a).get j=some o->∃o',s.H.get j=some o':=fun j o m=>by
    rw [I] at m;split at m
    · rename_i e;rw [e];exact ⟨_,S⟩
    · exact ⟨_,m⟩
  refine ⟨fun j u m=>?_,h.dom,h.res,fun j l u ol Y pl m hl n X O=>?_,hO.ext h.ext (h.own i ob _ S A),fun j u Y m n=>?_⟩
  · have c:=m;dsimp only at c;rw [I] at c;split at c
    · rename_i e;cases c;subst e;exact ⟨ho.1,fun E=>let ⟨cur,hc⟩:=ho.2 E;⟨b,f,x,cur,hc⟩⟩
    · rename_i e;have B:∀p,σ j=some p->W.heap[p.1]? =w.heap[p.1]? :=fun p hp=>hO.block _ fun O=>e (h.ap j i u ob p _ c S hp A O);refine ⟨fun E=>?_,fun E=>?_⟩
      · obtain ⟨R,ps,y,J,h3⟩:=(h.mr j u c).1 E;exact ⟨R,ps,y,J.block (B _ y),h3⟩
      · obtain ⟨R,f1,x1,cur,Z⟩:=(h.mr j u c).2 E;exact ⟨R,f1,x1,cur,Z.keep (B _ Z.at')⟩
  · obtain ⟨o1,y⟩:=t j u m;obtain ⟨o2,J⟩:=t l ol hl;exact h.ap j l o1 o2 Y pl y J n X O
  · obtain ⟨o1,y⟩:=t j u m;exact h.own j o1 Y y n
end
end Go.Eng
namespace Go.Eng
open Go.RowKit
def qyh {α:Type} {C vs:List α} {f m o:Nat} (j:o+vs.length<=m) (c:f+m<=C.length):
    ((C.take (f+o)++vs++C.drop (f+o+vs.length)).drop f).take m=((C.drop f).take m).take o++vs++((C.drop f).take m).drop (o+vs.length):=by
  obtain ⟨A,D,rfl,rfl⟩:∃A D,C=A++D/\A.length=f:=⟨C.take f,C.drop f,by simp,by rw [uF];omega⟩;have h:m<=D.length:=by rw [kh] at c;omega
  have a:(A++D).take (A.length+o)=A++D.take o:=by rw [JZ,ul (by omega),VN]
  have b:(A++D).drop (A.length+o+vs.length)=D.drop (o+vs.length):=by
    rw [JQ,uY (by omega),List.nil_append,show A.length+o+vs.length - A.length=o+vs.length by omega]
  have l1:(D.take o).length=o:=by rw [uF];omega
  rw [a,b,JR,uB,uB,JR,JZ,ul (l:=D.take o) (by omega),l1,JZ,ul (l:=vs) (by omega),
    Vm,J1 (by omega),uB,List.drop_take,Nat.sub_sub]
section
variable {P:Program} {Q:Ks} {K:qa->World->Prop} {ρ:qa} {w w0:World} {σ:Sg} {e:Tr Value} {s s':Sx} {k:Option Nat} {d:Option Nat} {ty:TypeId} {v:Value}
def Kn (σ:Sg) (w0:World) (s':Sx) (v:Value) (d:Option Nat) (K:qa->World->Prop) (ρ:qa):Prop:=∀τ v' W,σ.le τ->Iv τ w0 s' W->VR τ v v'->K (qn ρ d v') W
theorem qoP {p:Option (Nat×Sx)} (h:qfj p=some (v,s')):∃i,p=some (i,s')/\v=.pointer (some ⟨i,0,none⟩):=by
  unfold qfj at h;split at h
  · cases h;exact ⟨_,rfl,rfl⟩
  · cases h
theorem qiz {n:Nat} {p:Option (Nat×Sx)} (h:qdk n p=some (v,s')):∃i,p=some (i,s')/\v=.slice (some ⟨i,0,none⟩) n n:=by
  unfold qdk at h;split at h
  · cases h;exact ⟨_,rfl,rfl⟩
  · cases h
theorem qaq {a:Sg} {i b:Nat} (h:a i=some (b,0,0)):VR a (.pointer (some ⟨i,0,none⟩)) (.pointer (some ⟨b,0,none⟩)):=.ptr (o:=0) h
theorem qnC {a:Sg} {i b n:Nat} (h:a i=some (b,0,0)):VR a (.slice (some ⟨i,0,none⟩) n n) (.slice (some ⟨b,0,none⟩) n n):=.slc (o:=0) h (j1 _)
theorem qKr (j:Iv σ w0 s w) (n:ER σ e ρ) {t:TypeId} {x:Operand} (h:qlC e s k t x=some (v,s')) (A:Kn σ w0 s' v d K ρ):qx P Q d (.box t x) ty K ρ w:=by
  unfold qlC at h;split at h
  · rename_i u m;obtain ⟨i,y,rfl⟩:=qoP h;refine vO fun B W z c l _=>?_;obtain ⟨E,b,p,a⟩:=qg8 j y (qcG (xD n m)) (by decide) c z (by simpa using l) (by simp);exact A E _ W b a (qaq p)
  · cases h
theorem qDv (j:Iv σ w0 s w) {t:TypeId} (h:qlF P s k t=some (v,s')) (y:Kn σ w0 s' v d K ρ):qx P Q d (.alloc t) ty K ρ w:=by
  unfold qlF at h;split at h
  · rename_i z x;obtain ⟨m,h⟩:=ju h;obtain ⟨i,p,rfl⟩:=qoP h;refine qX x fun B W u c l _=>?_;obtain ⟨A,b,n,a⟩:=qg8 j p (qbh m) (by decide) c u (by simpa using l) (by simp);exact y A _ W b a (qaq n)
  · cases h
theorem qzr (B:Iv σ w0 s w) {i o b f x:Nat} {vs a:List Value} (E:qr σ vs a) (S:∀u∈a,u.oneCell=true) (l:σ i=some (b,f,x)) (h:qh3 s i o vs=some (v,s')) {K:World->Prop} (Z:v=undef->∀W,Iv σ w0 s' W->K W):yx ⟨b,f+o,none⟩ a 0 K w:=by
  unfold qh3 at h;split at h
  · rename_i ob p;obtain ⟨I,h⟩:=ju h;cases h;simp only [j0,uZ,uE,Nat.add_eq] at I;obtain ⟨⟨h2,R⟩,O⟩:=I;have J:ob.sz≠0:=fun e=>by rw [e] at O;cases O
    obtain ⟨b1,f1,x1,cur,j⟩:=(B.mr i ob p).2 J;have y:=j.at';rw [l] at y;cases y;have t:=E.len;have A:=j.room;refine qh2 _ _ _ ?_;refine qc5 _ _ w cur ⟨j.heap⟩ (by omega) S fun W hO X=>Z rfl W ?_;have n:(cur.toList.take (f+o)++a++cur.toList.drop (f+o+a.length)).toArray.size=cur.size:=by simp;omega
    have c:(qiQ ob.cells o vs).length=ob.cells.length:=by simp [qiQ];omega
    refine qlT B p (ym R) l hO ⟨fun e=>absurd e J,fun _=>⟨_,l,X.heap, ?_, ?_,fun z=>?_, ?_,fun Y=>?_⟩⟩
    · rw [c];have:=qyh (C:=cur.toList) (vs:=a) (f:=f) (m:=ob.cells.length) (o:=o) (by omega) (by simp;omega);simp only [Nat.add_zero];rw [this];rw [<-t];exact ((j.cs.take o).app E).app (j.cs.drop _)
    · simp only [Nat.add_zero];rw [n,c];exact j.room
    · simp only [Nat.add_zero];rw [n];rw [c];exact j.whole z
    · intro z;rw [c];exact j.most z
    · simp only [Nat.add_zero];rw [n,c];exact j.exact Y
  · cases h
theorem qzq (n:Iv σ w0 s w) (m:ER σ e ρ) {t:TypeId} {p x:Operand} (h:qlr P e s t p x=some (v,s')) (E:Kn σ w0 s' v d K ρ):qx P Q d (.store t p x) ty K ρ w:=by
  unfold qlr at h;split at h
  · rename_i i o u A B;obtain ⟨j,h⟩:=ju h;simp only [j0] at j;have b:=xD m A;have a:=xD m B;show jT P t (qe ρ x).cells.size=true/\Q0 (qe ρ p) _;rw [qlS a];refine ⟨j.1, ?_⟩;generalize qe ρ p=q at b;cases b with
    |pln y=>cases y
    |ptr c=>exact qzr n (qcG a) (qi8 (qcG a) j.2) c h fun z W l=>by subst z;exact E σ _ W (Sg.le_refl σ) l qbT
  · cases h
theorem qpk (a:ER σ e ρ) {l:Array Operand} {vs:List Value} (h:qas e l.toList=some vs):vs.toArray.size=(l.map (qe ρ)).size/\∀(i:Nat) (x y:Value),vs.toArray[i]? =some x->(l.map (qe ρ))[i]? =some y->VR σ x y:=
  qr.arr (by simpa using qi5 a h)
theorem qIE (p:Iv σ w0 s w) (c:ER σ e ρ) {fn:Fn} {fs cs:Array Operand} (h:qlz e s fn fs.toList cs.toList=some (v,s')) (t:Kn σ w0 s' v d K ρ):qx P Q d (.makeFunc fn fs cs) ty K ρ w:=by
  unfold qlz at h;split at h
  · rename_i a b m n;cases h;obtain ⟨l,u⟩:=qpk c m;obtain ⟨j,x⟩:=qpk c n;exact t σ _ w (Sg.le_refl σ) p (.fnc l u j x)
  · cases h
def PRs (σ:Sg):List (Nat×Value)->List (Nat×Value)->Prop
  |[],[]=>True
  |a::l,b::m=>(a.1=b.1/\VR σ a.2 b.2)/\PRs σ l m
  |_,_=>False
theorem qiW (b:ER σ e ρ):∀{l:List (Nat×Operand)} {vs:List (Nat×Value)},qdz e l=some vs->PRs σ vs (l.map fun p=>(p.1,qe ρ p.2))
  |[],vs,h=>by cases h;trivial
  |(k,x)::l,vs,h=>by
    unfold qdz at h;split at h
    · rename_i u j c a;cases h;exact ⟨⟨rfl,xD b c⟩,qiW b a⟩
    · cases h
theorem qnQ:∀{vs c:List Value} {o off:Nat} {cs ds:Array Value},qr σ vs c->qr σ cs.toList ds.toList->
    qr σ ((vs.zipIdx o).foldl (fun (cs:Array Value) (x:Value×Nat)=>cs.setIfInBounds (off+x.2) x.1) cs).toList ((c.zipIdx o).foldl (fun (cs:Array Value) (x:Value×Nat)=>cs.setIfInBounds (off+x.2) x.1) ds).toList
  |[],[],_,_,_,_,_,h=>h
  |a::l,b::m,o,off,cs,ds,j,h=>by
    simp only [List.zipIdx_cons,List.foldl_cons];exact qnQ j.2 (by simp only [Array.toList_setIfInBounds];exact h.set j.1 _)
theorem qld {c : Nat -> Option (Nat × Nat)} : ∀ {l x : List (Nat × Value)} {cs ds t : Array Value}, PRs σ l x -> qr σ cs.toList ds.toList -> Instr.fill c cs l = some t -> ∃ p, Instr.fill c ds x = some p /\ qr σ t.toList p.toList
  |[],[],cs,ds,t,_,h,n=>by simp only [Instr.fill] at n⊢;cases n;exact ⟨_,rfl,h⟩
  | (i, a) :: l, (j, b) :: m, cs, ds, t, u, h, n => by
    obtain ⟨⟨rfl,y⟩,u⟩:=u;simp only [Instr.fill] at n⊢;split at n
    · cases n
    · rename_i off size E;split at n
      · cases n
      · rename_i z;have I:=qlS y;have A:ds.size=cs.size:=by have:=h.len;simpa using this.symm
        have B:=qnQ (o:=0) (off:=off) (qcG y) h;rw [if_neg (by rw [I,A];exact z)];refine qld u ?_ n;rw [<-J6,<-J6];simpa using B
theorem qJ2 {t:TypeId} {l m:List (Nat×Value)} {cs:Array Value} (u:∀b z,P.info? t=some b->b.zero=some z->z.cells.toList.all xP=true) (p:PRs σ l m) (h:P.built t l=some cs):∃cs',P.built t m=some cs'/\qr σ cs.toList cs'.toList:=by
  unfold Program.built at h⊢;split at h
  · rename_i b n B hit j;split at h
    · rename_i z A a x;exact qld p (qbh (u b z hit a)) h
    · cases h
  · rename_i b fields hit j;split at h
    · rename_i z c a y;exact qld p (qbh (u b z hit a)) h
    · cases h
  · cases h
theorem qpH (p:Iv σ w0 s w) (u:ER σ e ρ) {mx:Bool} {a b:Operand} {t:TypeId} {B:Array TypeId} (m:mx=true->B=#[t,t]) (h:qgN e s mx a b=some (v,s')) (A:Kn σ w0 s' v d K ρ):qx P Q d (.call {callee:=.builtin (if mx then .max else .min),args:=#[a,b],argTypes:=B}) ty K ρ w:=by
  unfold qgN at h;split at h
  · rename_i k1 x k2 y I E;have l:k1=k2:=by
      cases l:(k1==k2) with
      |false=>rw [l] at h;cases h
      |true=>simpa using l
    subst l;rw [show (k1==k1)=true by simp] at h;cases h;have z:=xD u I;have n:=xD u E;generalize c:qe ρ a=J at z;generalize j:qe ρ b=O at n;cases z;cases n;cases mx with
    |true=>
      obtain rfl:=m rfl;exact qgJ c j (A σ _ w (Sg.le_refl σ) p (.pln rfl))
    |false=>
      show vK P Q d _ ty K ρ w;refine jQ (v:=.int k1 (if y<x then y else x)) (w':=w) ?_ (A σ _ w (Sg.le_refl σ) p (.pln rfl));simp [execOp,qN,resolve,invoke,builtin,c,j,Builtin.min_,Builtin.min2]
  · cases h
theorem qJ5 (n:Iv σ w0 s w) (y:ER σ e ρ) {t:TypeId} {ps:Array (Nat×Operand)} (h:qlB P e s t ps.toList=some (v,s')) (A:Kn σ w0 s' v d K ρ):qx P Q d (.build t ps) ty K ρ w:=by
  unfold qlB at h;split at h
  · rename_i l m;obtain ⟨j,h⟩:=ju h;split at h
    · rename_i cs a;cases h;have x:=qiW y m;obtain ⟨cs',c,b⟩:=qJ2 (fun E z c b=>by unfold qml at j;simpa only [c,b] using j) x a;show vt (P.built t (ps.map fun p=>(p.1,qe ρ p.2)).toList) _;rw [Jz,c];obtain ⟨u,B⟩:=qr.arr b;exact A σ _ w (Sg.le_refl σ) n (.agg u B)
    · cases h
  · cases h
theorem qoQ:∀{l m:List (Nat×Value)},PRs σ l m->l.map (·.1)=m.map (·.1)
  |[],[],_=>rfl
  |_::_,_::_,h=>by simp only [List.map_cons];rw [h.1.1,qoQ h.2]
theorem qoT {sz:Nat}:∀{l m:List (Nat×Value)},PRs σ l m->(l.all fun p=>p.2.cells.size==sz)=true->∀p∈m,p.2.cells.size=sz
  |[],[],_,_,p,c=>by simp at c
  |a::l,b::m,h,j,p,c=>by
    simp only [List.all_cons,j0,ur] at j;rcases wh.1 c with rfl|c
    · rw [qlS h.1.2];exact j.1
    · exact qoT h.2 j.2 p c
theorem qoS:∀{l m:List (Nat×Value)},PRs σ l m->qr σ (l.flatMap fun p=>p.2.cells.toList) (m.flatMap fun p=>p.2.cells.toList)
  |[],[],_=>trivial
  |_::_,_::_,h=>(qcG h.1.2).app (qoS h.2)
theorem qoR {sz:Nat}:∀{l:List (Nat×Value)},(l.all fun p=>p.2.cells.size==sz)=true->(l.flatMap fun p=>p.2.cells.toList).length=l.length*sz
  |[],_=>by simp
  |a::l,b=>by
    simp only [List.all_cons,j0,ur] at b;rw [JB,kh,qoR b.2,Array.length_toList,b.1,List.length_cons,Nat.succ_mul];omega
theorem qDR (J:Iv σ w0 s w) (R:ER σ e ρ) {t:TypeId} {n:Nat} {ps:Array (Nat×Operand)} (h:qly P e s k t n ps.toList=some (v,s')) (Y:Kn σ w0 s' v d K ρ):qx P Q d (.buildSlice t n ps) ty K ρ w:=by
  unfold qly at h;split at h
  · rename_i l t1 sz E u;obtain ⟨z,h⟩:=ju h;simp only [j0,uZ,ur] at z;obtain ⟨⟨⟨A,x⟩,y⟩,h4⟩:=z;obtain ⟨i,h5,rfl⟩:=qiz h;have b:=qiW R E;have Z:=qoQ b;have m:l.length=n:=by have:=congrArg List.length x;simpa using this
    refine jV u A ?_ ?_ fun B W X I O _=>?_
    · rw [<-x,Z,JC];rfl
    · intro p a;exact qoT b y (p.1,qe ρ p.2) (un.2 ⟨p,a,rfl⟩)
    · obtain ⟨τ,c,S,j⟩:=qg8 (cs':=ps.toList.flatMap fun p=>(qe ρ p.2).cells.toList) J h5 (by have:=qoS b;rwa [List.flatMap_map] at this) (by omega) I X O fun _=>⟨n,by rw [qoR y,m],Nat.le_trans (Nat.le_trans (Nat.le_mul_of_pos_right n (by omega)) A) (by decide)⟩;exact Y τ _ W c j (qnC S)
  · cases h
theorem qoi {a:Addr}:∀{n i:Nat} {l:List Value},jG w a i n=some l->∀j (h:j<l.length),w.cell? (a.add (i+j))=some l[j]
  |0,i,l,h,j,b=>by simp only [jG,ub] at h;subst h;simp at b
  | n + 1, i, l, h, j, b => by
    simp only [jG,uc,ua] at h;obtain ⟨u,m,r,c,h⟩:=h;cases h;cases j with
    |zero=>exact m
    |succ j=>
      have:=qoi c j (by simpa using b);rw [show i+(j+1)=i+1+j by omega];exact this
theorem qc8 (x : Iv σ w0 s w) {sz : Nat} {v u : Value} (t : VR σ v u) {l : List Value} (h : qai s.H sz v = some l) : ∃ b, Cells w u sz b /\ qr σ l b := by
  unfold qai at h;split at h
  · cases h;cases t with
    |pln _=>exact ⟨[],⟨rfl,by simp [ql],fun j m=>by simp at m⟩,trivial⟩
  · rename_i a n c;cases t with
    |pln y=>cases y
    |slc A E=>
      obtain ⟨b,B,p,z⟩:=qiy x.mr A h;refine ⟨b,⟨by simp [qu];omega, ?_,fun j m=>?_⟩,p⟩
      · rw [<-p.len,z];rfl
      · have:=qoi B j m;rw [ut,kg] at this;exact this
  · cases h
theorem qC9:∀{l m:List Value},qr σ l m->l.all Qr=true->∀v∈m,v.oneCell'=true:=fun h b v a=>by
  have:=qi8 h b v a;cases v<;>first|rfl|(exfalso;simp [Value.oneCell] at this)
theorem get_del {H:vR} {i:Nat} (h:i<vV) {j:Nat} {o:Ob} (a:(H.del i).get j=some o):j≠i/\H.get j=some o:=by
  rw [Tr.get_del _ h] at a;split at a
  · cases a
  · rename_i e;exact ⟨e,a⟩
theorem qJc {t e sz bytes:Nat} (A:ye P t=some (e,sz,bytes)) {base:Nat} (c:base<=w.heap.size) {s x:Operand} {sv xv:Value} (z:qe ρ s=sv) (B:qe ρ x=xv) {xs news:List Value}
    (l:Own base e sz w sv xs) (m:Cells w xv sz news) (n:∀u∈news,u.oneCell'=true)
    (j:xs.length+news.length<4611686018427387904) (a:(xs.length+news.length)*bytes<=140737488355328*sz)
    (h:∀b W,Own base e sz W b (xs++news)->w.grownBy W sv.ownBlock->(b.ownBlock=sv.ownBlock\/b.ownBlock=some w.heap.size)->K (qn ρ d b) W):qx P Q d (.call {callee:=.builtin .append,args:=#[s,x],argTypes:=#[t,t]}) ty K ρ w:=by
  obtain ⟨b,W,n,p,y,E⟩:=qe4 (ty:=ty) A l m n j a c;refine jQ (v:=b) (w':=W) ?_ (h b W p y E);simp [execOp,qN,resolve,invoke,builtin,z,B,n]
theorem qJo (W : Iv σ w0 s w) {t : TypeId} {sz : Nat} (I : sz ≠ 0) {v O : Value} {H : vR} (hv : VR σ v O) (h : qlI s.H t sz v = some H) {xs m : List Value} (hx : qai s.H sz v = some xs) (hc : Cells w O sz m) (hvs : qr σ xs m) :
    Own w0.heap.size t sz w O m/\(∀j o,H.get j=some o->s.H.get j=some o)/\(∀j o p,H.get j=some o->σ j=some p->some p.1≠O.ownBlock):=by
  unfold qlI at h;split at h
  · rename_i a n c;split at h
    · rename_i ob z;obtain ⟨hb,h⟩:=ju h;cases h;simp only [j0,ur,uE,uZ] at hb;obtain ⟨⟨⟨⟨h1,X⟩,h3⟩,R⟩,h5⟩:=hb;have R:=ym R;cases hv with
      |pln h'=>cases h'
      | slc Z hn =>
        rename_i i b f x o hq;obtain ⟨b1,f1,x1,cur,E⟩:=(W.mr i ob z).2 (by rw [X];exact I);have J:=E.at';rw [Z] at J;cases J;have A:=E.room;rw [X] at A;obtain ⟨n0,hn0,hm0⟩:=E.most h3;rw [X] at hn0;have y:=hc.len;have hcn:c<=n0:=by
          have:c*sz<=n0*sz:=by dsimp only at h5;omega
          exact VS this (Nat.pos_of_ne_zero I)
        refine ⟨.inr ⟨b,f+o,n,c+x,cur,rfl,W.own i ob _ z Z,by rw [<-h1];exact E.heap,y,by omega,by omega, ?_, ?_⟩,fun j oj B=>(get_del R B).2,fun j oj p B hp he=>?_⟩
        · dsimp only at h5;rw [uX];omega
        · have hxl:m.length=n*sz:=y;dsimp only at h5;have hnc:n*sz<=c*sz:=Vn _ hn;refine Vd fun j=>?_;by_cases B:j<n*sz
          · have u:=hc.cell j (by omega);simp only [qQ,World.cell?,E.heap] at u;rw [JV B,Jm,ug (l:=m) (by omega)];simpa using u
          · rw [u4 (by simp;omega),u4 (by omega)]
        · obtain ⟨Y,S⟩:=get_del R B;refine Y (W.ap j i oj ob p _ S z hp Z ?_);simpa [Value.ownBlock] using he
    · cases h
  · cases h;cases hv with
    |pln _=>
      have:m=[]:=uU.1 (by rw [hc.len];simp [ql]);subst this;exact ⟨Own.nil _ _ _ _,fun _ _ h=>h,fun _ _ _ _ _=>by simp [Value.ownBlock]⟩
  · cases h
theorem qKF (m : Iv σ w0 s w) (he : ER σ e ρ) {t : TypeId} {a b : Operand} (h : qlE P e s k t a b = some (v, s')) (hK : Kn σ w0 s' v d K ρ) : qx P Q d (.call { callee :=.builtin .append, args :=#[a, b], argTypes :=#[t, t] }) ty K ρ w := by
  unfold qlE at h;split at h
  · rename_i t1 sz bytes av bv hri ha hb;split at h
    · rename_i xs ys hxs hys;unfold qxH at h;obtain ⟨hc,h⟩:=ju h;simp only [j0,uZ,Jo] at hc;obtain ⟨⟨⟨⟨h1,h2⟩,h3⟩,h4⟩,h5⟩:=hc;split at h
      · rename_i H hH;obtain ⟨i,h6,rfl⟩:=qiz h;have hva:=xD he ha;have hvb:=xD he hb;obtain ⟨xs',hcx,S⟩:=qc8 m hva hxs;obtain ⟨ys',hcy,X⟩:=qc8 m hvb hys;obtain ⟨J,u,hne⟩:=qJo m (by omega) hva hH hxs hcx S;have lx:=S.len;have ly:=X.len;refine qJc hri m.ext.size rfl rfl J hcy (qC9 X h4) (by omega) (by rw [<-lx,<-ly];exact h3) fun v' W ho Z hr=>?_;have Y:Iv σ w0 ⟨H,s.nx,s.rs⟩ w:=⟨m.mr.keep u fun _ _ _ _ _=>rfl,m.dom,m.res,fun j l oj ol pj pl z hl=>m.ap j l oj ol pj pl (u j oj z) (u l ol hl),m.ext,fun j o p z=>m.own j o p (u j o z)⟩;rcases ho with ⟨_,aa⟩|⟨g,off,y,cap,cur,rfl,hgb,hgh,hl,hnc,hcm,hroom,O⟩
        · have:=congrArg List.length aa;rw [kh,List.length_nil] at this;omega
        · have I:xs.length+ys.length=y*sz:=by rw [kh] at hl;omega
          have hn':(xs.length+ys.length) / sz=y:=by rw [I,Nat.mul_div_cancel _ (by omega)]
          rw [hn'] at hK;have E:∀j o p,H.get j=some o->σ j=some p->p.1<w.heap.size:=fun j o p z R=>by
            obtain ⟨q,hq,E⟩:=Y.mr.at' z;rw [R] at hq;cases hq;exact E
          have hW:MR σ H W:=Y.mr.keep (fun _ _ h=>h) fun j o p z R=>Z.block _ (E j o p z R) (hne j o p z R);have hE:qc w0 W:=⟨Z.os.trans m.ext.os,Z.tape.trans m.ext.tape,Z.output.trans m.ext.output,Nat.le_trans m.ext.size Z.size,fun q hq=>by
            refine (Z.block q (Jy hq m.ext.size) fun e=>?_).trans (m.ext.block q hq);have:=(J.blk q e.symm).1;omega⟩
          have hro:∀B:Sg,σ.le B->B i=some (g,off,cap - y)->RO B W i ⟨xs++ys,t1,sz,false,false⟩ g off (cap - y) cur:=fun B A hi=>by
            refine ⟨hi,hgh, ?_, ?_,(fun hw=>by cases hw),fun _=>⟨y,by rw [kh];exact I,by omega⟩,(fun hx=>by cases hx)⟩
            · rw [kh,I,O];exact (S.app X).mono A
            · rw [kh,I];have:y*sz+(cap - y)*sz=cap*sz:=by rw [<-uX];congr 1;omega
              dsimp only;omega
          obtain ⟨B,A,hi,hI'⟩:=qfA Y h6 (b:=g) (f:=off) (x:=cap - y) (W:=W) hW hE hgb (fun j oj pj z R e=>by
            rcases hr with hr|hr
            · exact hne j oj pj z R (by rw [<-hr,e];rfl)
            · have:=E j oj pj z R;simp [Value.ownBlock] at hr;omega) fun B A hi=>⟨fun hz=>absurd hz (by dsimp only;omega),fun _=>⟨cur,hro B A hi⟩⟩
          refine hK B _ W A hI' ?_;have:=VR.slc (σ:=B) (o:=0) (n:=y) (c:=y) hi (j1 _)
          rwa [show y+(cap - y)=cap by omega] at this
      · cases h
    · cases h
  · cases h
theorem qDH (hI:Iv σ w0 s w) (S:ER σ e ρ) {t:TypeId} {x y:Operand} (h:qlw P e s k t x y=some (v,s')) (hK:Kn σ w0 s' v d K ρ):qx P Q d (.makeSlice t x y) ty K ρ w:=by
  unfold qlw at h;split at h
  · rename_i t1 z bytes kx n ky m j hx hy
    replace h:=ju h
    obtain ⟨X,h0⟩:=h;simp only [j0,uZ,ur,kr] at X;obtain ⟨⟨⟨⟨⟨⟨A,l⟩,h3⟩,h4⟩,h5⟩,h6⟩,c⟩:=X;subst A;obtain ⟨i,Y,rfl⟩:=qiz h0;have b:=xD S hx;have a:=xD S hy;generalize p:qe ρ x=q1 at b;generalize J:qe ρ y=q2 at a;cases b;cases a;have O:((n.toNat:Nat):Int)=n:=Jt l;have R:bytes*n.toNat<=1000*100000:=Nat.mul_le_mul h4 (by omega);refine qI9 (n:=n.toNat) (kl:=kx) (kc:=ky) j (by rw [p,O]) (by rw [J,O]) (by omega) (by omega) (fun i z A l=>?_) fun B W hB Z R=>?_
    · rw [A] at c;simp only [l,ur] at c;exact c
    · obtain ⟨τ,E,hi,I⟩:=qg8 (cs':=List.replicate n.toNat z) hI Y (qbh (by rw [um];intro u hu;rw [(List.mem_replicate.1 hu).2];exact h5)) (by decide) Z hB R fun _=>⟨n.toNat,by simp,Nat.le_trans (show n.toNat<=100000 by omega) (by decide)⟩;exact hK τ _ W E I (qnC hi)
  · cases h
theorem qDG (c : Iv σ w0 s w) {t : TypeId} {r : Option Operand} (h : qlv s k (r.map fun _ => 0) = some (v, s')) (S : Kn σ w0 s' v d K ρ) : qx P Q d (.makeMap t r) ty K ρ w := by
  cases r with
  |some _=>cases h
  |none=>
    unfold qlv at h;dsimp only [Option.map_none] at h;split at h
    · rename_i i Z J;cases h;refine qlm fun B W O y E _=>?_;obtain ⟨z,l,n,u⟩:=qfA c J (b:=B) (f:=0) (x:=0) (c.mr.ext y) (c.ext.trans' y) (Nat.le_trans c.ext.size O) (fun j oj Y A m X=>by
        obtain ⟨p,a,I⟩:=c.mr.at' A;rw [m] at a;cases a;omega) fun z l n=>⟨fun _=>⟨B,[],n,E,rfl,fun p m=>by simp at m⟩,fun R=>absurd rfl R⟩
      exact S z _ W l u (.mp n)
    · cases h
theorem qa4 {a b:ByteArray}:yb a b=true↔a=b:=by
  unfold yb;rw [ur];constructor
  · intro h;have j:a.data.toList=b.data.toList:=List.map_inj_right (fun x y c=>JN.1 c)|>.1 h
    cases a;cases b;congr 1;exact y5.1 j
  · rintro rfl;rfl
theorem qpO (b:ByteArray):∀ps:List (ByteArray×Value),qfE (qbj ps) b=vE ps b
  |[]=>rfl
  | p :: ps => by
    rw [ku];show (bif yb p.1 b then some p.2 else qfE (qbj ps) b)=_;by_cases a:p.1=b
    · rw [if_pos a,qa4.2 a];rfl
    · rw [if_neg a,<-qpO b ps];cases c:yb p.1 b with
      |true=>exact absurd (qa4.1 c) a
      |false=>rfl
theorem qoL (b:ByteArray) (x:Value):∀ps:List (ByteArray×Value),qfC (qbj ps) b x=qbj (vL ps b x)
  |[]=>rfl
  | p :: ps => by
    show (bif yb p.1 b then .string b::x::qbj ps else .string p.1::p.2::qfC (qbj ps) b x)=_;unfold vL;by_cases a:p.1=b
    · rw [if_pos a,qa4.2 a];rfl
    · rw [if_neg a,qoL b x ps];cases c:yb p.1 b with
      |true=>exact absurd (qa4.1 c) a
      |false=>rfl
theorem qnP {b : ByteArray} {x : Value} : ∀ {ps : List (ByteArray × Value)} {p : ByteArray × Value}, p ∈ vL ps b x -> p ∈ ps \/ p.2 = x
  |[],p,h=>by simp [vL] at h;exact .inr (by rw [h])
  | q :: ps, p, h => by
    unfold vL at h;split at h
    · rcases wh.1 h with rfl|h
      · exact .inr rfl
      · exact .inl (Vg _ h)
    · rcases wh.1 h with rfl|h
      · exact .inl (by simp)
      · rcases qnP h with h|h
        · exact .inl (Vg _ h)
        · exact .inr h
theorem qDN {b:ByteArray} {x:Value} {ps:List (ByteArray×Value)} (h:vE ps b=some x):∃p∈ps,p.2=x:=by
  unfold vE at h;simp only [ua] at h;obtain ⟨p,a,rfl⟩:=h;exact ⟨p,Vj a,rfl⟩
theorem qDL (J : Iv σ w0 s w) (R : ER σ e ρ) {t : TypeId} {m x : Operand} (h : qlx P e s t m x = some (v, s')) (S : Kn σ w0 s' v d K ρ) : qx P Q d (.lookup t m x false) ty K ρ w := by
  unfold qlx at h;split at h
  · rename_i i b kt et hm hx l;split at h
    · rename_i ob z j I hz;obtain ⟨n,h⟩:=ju h;cases h;simp only [j0] at n;have E:=uo n.1;obtain ⟨B,ps,h1,X,Z,h4⟩:=(J.mr i ob j).1 E;have c:=xD R hm;have a:=xD R hx;generalize y:qe ρ m=q1 at c;generalize A:qe ρ x=q2 at a;cases c with
      |pln Y=>cases Y
      |mp O=>
        rw [h1] at O;cases O;cases a;refine qln l I hz y A X false ?_;rw [Z,qpO] at S;refine S σ _ w (Sg.le_refl σ) J (.pln ?_);cases W:vE ps b with
        |none=>exact n.2
        |some u=>
          obtain ⟨p,hp,rfl⟩:=qDN W;exact h4 p hp
    · cases h
  · cases h
theorem qym (X : Iv σ w0 s w) (I : ER σ e ρ) {t : TypeId} {m x y : Operand} (h : qlp P e s t m x y = some (v, s')) (hK : Kn σ w0 s' v d K ρ) : qx P Q d (.mapUpdate t m x y) ty K ρ w := by
  unfold qlp at h;split at h
  · rename_i i b u hm hx hy;split at h
    · rename_i kt et A;split at h
      · rename_i ob a S;obtain ⟨n,h⟩:=ju h;cases h;simp only [j0] at n;have z:=uo n.1.1;obtain ⟨B,ps,O,Z,h3,h4⟩:=(X.mr i ob a).1 z;have j:=xD I hm;have c:=xD I hx;have E:=xD I hy;generalize J:qe ρ m=q1 at j;generalize R:qe ρ x=q2 at c;cases j with
        |pln h'=>cases h'
        |mp Y=>
          rw [O] at Y;cases Y;cases c;have hu:qe ρ y=u:=E.uniq (.pln n.1.2);refine qll A S J R Z fun W hO hb=>hK σ _ W (Sg.le_refl σ) ?_ qbT;refine qlT X a (ym n.2) O hO ⟨fun _=>⟨B,vL ps b u,O,by rw [<-hu];exact hb, ?_,fun p l=>?_⟩,fun hz=>absurd z hz⟩
          · rw [h3,qoL]
          · rcases qnP l with l|l
            · exact h4 p l
            · rw [l];exact n.1.2
      · cases h
    · cases h
  · cases h
end
end Go.Eng
namespace Go.Eng
open Go.RowKit
def Jg (P:Program) (pr:TypeId->Bool):Prop:=∀t,pr t=true->P.eqGuardType P.depth t=false/\∀(a b c d:Int) (w:World),(Op.equalIn 10000 t (.agg #[.int .i64 a,.int .i64 b]) (.agg #[.int .i64 c,.int .i64 d])).run P w=.ok (decide (a=c)&&decide (b=d)) w
section
variable {P:Program} {Q:Ks} {K:qa->World->Prop} {ρ:qa} {w w0:World} {σ:Sg} {e:Tr Value} {s s':Sx} {k:Option Nat} {d:Option Nat} {ty:TypeId} {v:Value} {pr:TypeId->Bool}
theorem qDu (m : Iv σ w0 s w) (y : ER σ e ρ) {op : BinOp} {t : TypeId} {x : Operand} (h : qlu P e s op t x = some (v, s')) (z : Kn σ w0 s' v d K ρ) : qx P Q d (.binOp op t x (.const (.slice none 0 0)) t) ty K ρ w := by
  unfold qlu at h;split at h
  · rename_i u p;split at h
    · rename_i b a;obtain ⟨l,h⟩:=ju h;cases h;have j:=xD y p;unfold qnB at l;split at l
      · rename_i E c;have key:qu (qe ρ x)=true/\qcn (qe ρ x)=b:=by
          generalize qe ρ x=q at j;unfold qpC at a;split at a
          · cases a;cases j with
            |pln n=>cases n
            |slc B A=>exact ⟨by simp [qu];omega,rfl⟩
          · cases a;cases j with
            |pln _=>exact ⟨rfl,rfl⟩
          · cases a
        refine qJb c key.1 ?_;rw [key.2];exact z σ _ w (Sg.le_refl σ) m (.pln rfl)
      · cases l
    · cases h
  · cases h
theorem qmN {b:Bool} {u j:Value} (h:qeB b s u j=some (v,s')):∃a c c1 c2,u=.agg #[.int .i64 a,.int .i64 c]/\j=.agg #[.int .i64 c1,.int .i64 c2]/\v=.bool (if b then (decide (a=c1)&&decide (c=c2)) else !(decide (a=c1)&&decide (c=c2)))/\s'=s:=by
  unfold qeB at h;split at h
  · rename_i xs ys;split at h
    · rename_i a c c1 c2 l m;cases h;refine ⟨a,c,c1,c2,by rw [<-y5.1 (show xs.toList=(#[.int .i64 a,.int .i64 c]:Array Value).toList from l)],by rw [<-y5.1 (show ys.toList=(#[.int .i64 c1,.int .i64 c2]:Array Value).toList from m)], ?_,rfl⟩;cases b<;>rfl
    · cases h
  · cases h
theorem qeC {a b:Int} {q:Value} (h:VR σ (.agg #[.int .i64 a,.int .i64 b]) q):q=.agg #[.int .i64 a,.int .i64 b]:=h.uniq (QE (v:=.agg #[.int .i64 a,.int .i64 b]) rfl)
theorem qKv (z : Jg P pr) (l : Iv σ w0 s w) (m : ER σ e ρ) {op : BinOp} {t u : TypeId} {x y : Operand} (h : qlD P pr e s op t u x y = some (v, s')) (A : Kn σ w0 s' v d K ρ) : qx P Q d (.binOp op t x y u) ty K ρ w := by
  unfold qlD at h;cases j:qjd y with
  |true=>
    rw [j] at h;obtain ⟨c,W⟩:=ju (b:=t==u) h;have c:t=u:=by simpa using c
    subst c;have:y=.const (.slice none 0 0):=by
      unfold qjd at j;split at j
      · rfl
      · cases j
    subst this;exact qDu l m W A
  |false=>
    rw [j] at h
    replace h:qlq pr e s op t x y=some (v,s'):=h
    unfold qlq at h;split at h
    · rename_i a b O R;obtain ⟨S,h⟩:=ju h;obtain ⟨J,E⟩:=z t S;have I:=xD m O;have B:=xD m R;split at h
      · obtain ⟨n,p,c1,c2,rfl,rfl,rfl,rfl⟩:=qmN h;exact qwr (qeC I) (qeC B) J (E n p c1 c2 w) (A σ _ w (Sg.le_refl σ) l (.pln rfl))
      · obtain ⟨n,p,c1,c2,rfl,rfl,rfl,rfl⟩:=qmN h;exact qI6 (qeC I) (qeC B) J (E n p c1 c2 w) (A σ _ w (Sg.le_refl σ) l (.pln rfl))
      · cases h
    · cases h
theorem qei {α:Type} {xs:Array α} {a b:α} (h:xs.toList=[a,b]):xs=#[a,b]:=y5.1 h
theorem qJV (x:Iv σ w0 s w) (u:ER σ e ρ) {c:Call} (h:qlA P e s k c.callee c.args.toList c.argTypes.toList=some (v,s')) (y:Kn σ w0 s' v d K ρ):qx P Q d (.call c) ty K ρ w:=by
  obtain ⟨A,as,B⟩:=c;unfold qlA at h;split at h
  · rename_i a b t z j l n;obtain ⟨m,p⟩:=ju h;have m:t=z:=by simpa using m
    subst m;dsimp only at j l n;subst j;rw [qei l,qei n];exact qKF x u p y
  · rename_i a b t z j l n;obtain ⟨m,p⟩:=ju h;have m:t=z:=by simpa using m
    subst m;dsimp only at j l n;subst j;rw [qei l,qei n];exact qpH (mx:=true) x u (fun _=>rfl) p y
  · rename_i a b j l;dsimp only at j l;subst j;rw [qei l];exact qpH (mx:=false) (t:=0) x u (fun h=>by cases h) h y
  · cases h
theorem qJd (j:Jg P pr) (a:Iv σ w0 s w) (c:ER σ e ρ) {op:Op} (h:qea P pr e s k op=some (v,s')) (b:Kn σ w0 s' v d K ρ):qx P Q d op ty K ρ w:=by
  unfold qea at h;split at h
  · exact qKr a c h b
  · exact qDv a h b
  · exact qzq a c h b
  · exact qIE a c h b
  · exact qJ5 a c h b
  · exact qDR a c h b
  · exact qJV a c h b
  · exact qDH a c h b
  · exact qDG a h b
  · rename_i t m x ok;cases ok with
    |true=>cases h
    |false=>exact qDL a c h b
  · exact qym a c h b
  · exact qKv j a c h b
  · cases h
end
end Go.Eng
namespace Go.Eng
open Go.RowKit
def ql7 {f:Value->Value->Bool} (c:∀a b,f a b=true->a=b):∀{l m:List Value},xL.all2 f l m=true->l=m
  |[],[],_=>rfl
  |a::l,b::m,h=>by
    simp only [xL.all2,j0] at h;rw [c a b h.1,ql7 c h.2]
  |[],_::_,h=>by simp [xL.all2] at h
  |_::_,[],h=>by simp [xL.all2] at h
def qha {f:Value->Value->Bool} (c:∀a b,f a b=true->a=b) {a b:Array Value} (h:xL.all2 f a.toList b.toList=true):a=b:=y5.1 (ql7 c h)
def Qe:∀(n:Nat) (a b:Value),xL n a b=true->a=b
  |0,_,_,h=>by simp [xL] at h
  | n + 1, a, b, h => by
    unfold xL at h;split at h
    · simpa using h
    · simpa using h
    · rw [qa4.1 h]
    · rfl
    · simpa using h
    · simpa using h
    · simpa [and_assoc] using h
    · simpa using h
    · rfl
    · rfl
    · simp only [j0,ur] at h;rw [h.1.1,qha (Qe n) h.1.2,qha (Qe n) h.2]
    · rw [qha (Qe n) h]
    · rw [qha (Qe n) h]
    · simp only [j0,ur] at h;rw [h.1,Qe n _ _ h.2]
    · cases h
def qdG {a b:Ob} (h:qbl a b=true):a=b:=by
  unfold qbl at h;simp only [j0,ur] at h;cases a;cases b;simp only [Ob.mk.injEq];exact ⟨ql7 (Qe 4) h.1.1.1.1,h.1.1.1.2,h.1.1.2,h.1.2,h.2⟩
def Tr.noneB_ok {α:Type}:∀{t:Tr α},t.noneB=true->∀k,t.get k=none
  | .lf,_,_=>rfl
  | .nd none l r,h,k=>by
    simp only [Tr.noneB,j0] at h;rw [Tr.get_nd,Tr.noneB_ok h.1,Tr.noneB_ok h.2];simp
  | .nd (some _) _ _,h,k=>by simp [Tr.noneB] at h
def Tr.eqB_ok {α:Type} {f:α->α->Bool} (c:∀a b,f a b=true->a=b):∀{t u:Tr α},t.eqB f u=true->∀k,t.get k=u.get k
  | .nd v l r,.nd u m q,h,k=>by
    simp only [Tr.eqB,j0] at h;rw [Tr.get_nd,Tr.get_nd,Tr.eqB_ok c h.1.2,Tr.eqB_ok c h.2];have:v=u:=by
      have:=h.1.1;unfold qpj at this;split at this
      · rfl
      · rw [c _ _ this]
      · cases this
    rw [this]
  | .lf,t,h,k=>by
    have j:t.noneB=true:=by cases t<;>exact h
    rw [Tr.noneB_ok j k];rfl
  | .nd v l r,.lf,h,k=>by
    have j:(Tr.nd v l r).noneB=true:=h;rw [Tr.noneB_ok j k];rfl
def zP (σ:Sg) (w0:World) (K:qa->World->Prop) (Q:Ks):Ou->Prop
  | .go e s=>∀τ ρ w,σ.le τ->Iv τ w0 s w->ER τ e ρ->K ρ w
  | .ex i e s=>∀τ ρ w,σ.le τ->Iv τ w0 s w->ER τ e ρ->Q.ex i ρ w
  | .rt e s=>∀τ ρ w,σ.le τ->Iv τ w0 s w->ER τ e ρ->Q.rt ρ w
  | .pn c s=>∀τ ρ w,σ.le τ->Iv τ w0 s w->Q.pn ρ c w
  | .ret _ _=>False
def zP.le {σ l:Sg} {w0:World} {K:qa->World->Prop} {Q:Ks} {o:Ou} (h:zP σ w0 K Q o) (j:σ.le l):zP l w0 K Q o:=by
  cases o with
  |go e s=>exact fun b ρ w a=>h b ρ w (Sg.le_trans j a)
  |ex i e s=>exact fun b ρ w a=>h b ρ w (Sg.le_trans j a)
  |rt e s=>exact fun b ρ w a=>h b ρ w (Sg.le_trans j a)
  |pn c s=>exact fun b ρ w a=>h b ρ w (Sg.le_trans j a)
  |ret v s=>exact h
def xz (σ:Sg) (w0:World):Ou->Ending->World->Prop
  | .ret v s=>fun e w=>∃τ v',σ.le τ/\Iv τ w0 s w/\VR τ v v'/\e=.returned v'
  | .pn c s=>fun e w=>∃τ,σ.le τ/\Iv τ w0 s w/\e=.panicked c
  |_=>fun _ _=>False
def Qn (Q:Ks):Prop:=∀ρ ρ' c w,Q.pn ρ c w->Q.pn ρ' c w
def wX (σ:Sg) (L:List Fa) (w:World):Prop:=∀f∈L,∀a',VR σ f.a a'->∃v',jd w f.k a'=some v'/\VR σ f.v v'
def Grd (σ:Sg) (L:List Fa):Prop:=∀f∈L,(∃a',VR σ f.a a')/\∃v',VR σ f.v v'
structure Sound (P:Program) (G0:World->Prop) (r:Sx->Tk->Option Ou):Prop where
  ir:∀F a e s o,r s (.ir F a e)=some o->∀(σ:Sg) (w0:World) (ρ:qa) (w:World) (K:qa->World->Prop) (Q:Ks),G0 w0->Iv σ w0 s w->ER σ e ρ->Qn Q->zP σ w0 K Q o->a.wp ⟨P,F.nt,F.V,[]⟩ K Q ρ w
  sts:∀l e s o,r s (.sts l e)=some o->∀(σ:Sg) (w0:World) (ρ:qa) (w:World) (K:qa->World->Prop) (Q:Ks),G0 w0->Iv σ w0 s w->ER σ e ρ->Qn Q->zP σ w0 K Q o->je P Q l K ρ w
  ord:∀L bs t e s o,r s (.ord L bs t e)=some o->∀(σ0 σ:Sg) (w0:World) (ρ:qa) (w:World) (K:qa->World->Prop) (Q:Ks) (S:World->Prop),G0 w0->Iv σ w0 s w->ER σ e ρ->Qn Q->zP σ w0 K Q o->σ0.le σ->
    (∀l,L=some l->Grd σ0 l/\wX σ0 l w/\S=wX σ0 l)->t.wp P Q S K ρ w
  call:∀f args s o,r s (.call f args)=some o->∀(σ:Sg) (w0 w:World) (args':List Value),G0 w0->Iv σ w0 s w->qr σ args args'->Calls P f args'.toArray w (xz σ w0 o)
section
variable {P:Program} {G0:World->Prop} {r:Sx->Tk->Option Ou} {σ:Sg} {w0 w:World} {ρ:qa} {e:Tr Value} {s:Sx} {K:qa->World->Prop} {Q:Ks} {o:Ou} {pr:TypeId->Bool}
theorem qec (p:Sound P G0 r) (c:G0 w0) (m:Qn Q) {l:List St} {d:Option Nat} {v b:Value} (t:ER σ e ρ) (u:Iv σ w0 s w) (j:VR σ v b) (h:qcC r l d e v s=some o) (n:zP σ w0 K Q o):je P Q l K (qn ρ d b) w:=by
  unfold qcC at h;split at h
  · rename_i x a;exact p.sts l x s o h σ w0 _ w K Q c u (qBM t j a) m n
  · cases h
theorem qJf {d:Option Nat} {ty:TypeId} {c:Operand} {args:Array Operand} {a:Array TypeId} {f:FuncId} {fs cs:Array Value} (h:qh P f=true) (j:qe ρ c=.func (.func f) fs cs) (l:Calls P f (fs++args.map (qe ρ)++cs) w (zD Q d K ρ)):
    qx P Q d (.call {callee:=.value c,args:=args,argTypes:=a}) ty K ρ w:=by
  have key:vK P Q d (.call {callee:=.value c,args:=args,argTypes:=a}) ty K ρ w:=by
    unfold vK;rw [qn9 (P:=P) h j];exact l.mono fun e w' m=>by cases e<;>exact m
  cases c with
  |func g=>
    have b:Value.func (.func g) #[] #[]=.func (.func f) fs cs:=j;cases b;refine ⟨h, ?_⟩;simpa using l
  |_=>exact key
theorem qzz (hr : Sound P G0 r) (hg : G0 w0) (hq : Qn Q) {l : List St} {d : Option Nat} {ty : TypeId} {c : Operand} {args : Array Operand} {t : Array TypeId} (R : ER σ e ρ) (hI : Iv σ w0 s w) (h : qh6 P r s l d e (z8 e c) (qas e args.toList) = some o) (ha : zP σ w0 K Q o) :
    qx P Q d (.call {callee:=.value c,args:=args,argTypes:=t}) ty (je P Q l K) ρ w:=by
  unfold qh6 at h;split at h
  · rename_i f fs cs vs hc O;obtain ⟨J,h⟩:=ju h;have u:=xD R hc;have E:=qi5 R O;generalize S:qe ρ c=q at u;cases u with
    |pln h'=>cases h'
    | fnc h1 h2 h3 h4 =>
      rename_i b cs';have Z:qr σ fs.toList b.toList:=qr.of (by simpa using h1) fun j x y Y W=>h2 j x y (by simpa using Y) (by simpa using W);have I:qr σ cs.toList cs'.toList:=qr.of (by simpa using h3) fun j x y Y W=>h4 j x y (by simpa using Y) (by simpa using W);unfold qxw at h;have key:∀o1,r s (.call f (fs.toList++(vs++cs.toList)))=some o1->(∀A w',xz σ w0 o1 A w'->zD Q d (je P Q l K) ρ A w')->qx P Q d (.call {callee:=.value c,args:=args,argTypes:=t}) ty (je P Q l K) ρ w:=by
        intro o1 B hk;have a:=hr.call _ _ _ _ B σ w0 w (b.toList++(args.toList.map (qe ρ)++cs'.toList)) hg hI (Z.app (E.app I));have p:(b.toList++(args.toList.map (qe ρ)++cs'.toList)).toArray=b++args.map (qe ρ)++cs':=by
          apply y5.1;simp
        rw [p] at a;exact qJf J S (a.mono hk)
      split at h
      · rename_i v s' n;refine key _ n ?_;rintro A w' ⟨τ,v',z,m,X,rfl⟩;exact qec hr hg hq (R.mono z) m X h (ha.le z)
      · rename_i c1 s' n;cases h;refine key _ n ?_;rintro A w' ⟨τ,z,m,rfl⟩;exact ha τ ρ w' z m
      · cases h
  · cases h
theorem qzy (y : Jg P pr) (B : Sound P G0 r) (E : G0 w0) (I : Qn Q) {k : Option Nat} {l : List St} {d : Option Nat} {ty : TypeId} {op : Op} (b : ER σ e ρ) (m : Iv σ w0 s w) (h : qh5 P pr r s k l d e op = some o) (j : zP σ w0 K Q o) : qx P Q d op ty (je P Q l K) ρ w := by
  have eff:∀x,qgS r l d e x=some o->(∀v s',x=some (v,s')->qea P pr e s k op=some (v,s'))->qx P Q d op ty (je P Q l K) ρ w:=by
    intro x a z;unfold qgS at a;split at a
    · rename_i v s';exact qJd y m b (z v s' rfl) fun X R W A p n=>qec B E I (b.mono A) p n a (j.le A)
    · cases a
  unfold qh5 at h;split at h
  · rename_i x;unfold qnA at h;split at h
    · rename_i v n;split at h
      · rename_i t u;obtain ⟨J,h⟩:=ju h;cases h;have a:=(xD b n).uniq (QE J);exact qlk a (j σ ρ w (Sg.le_refl σ) m)
      · cases h
    · cases h
  · rename_i c;obtain ⟨O,as,S⟩:=c;dsimp only at h;split at h
    · rename_i f;exact qzz B E I b m h j
    · exact eff _ h fun v s' a=>a
  · exact eff _ h fun v s' a=>a
theorem qnp (t : Jg P pr) (m : Sound P G0 r) (n : G0 w0) (p : Qn Q) {k : Option Nat} {l : List St} (b : ER σ e ρ) (c : Iv σ w0 s w) (h : qc1 P pr r s k e l = some o) (j : zP σ w0 K Q o) : je P Q l K ρ w := by
  unfold qc1 at h;split at h
  · cases h;exact j σ ρ w (Sg.le_refl σ) c b
  · rename_i g d x l;show (if gd ρ g=true then xp (x.ev ρ w) (fun v=>je P Q l K (qw ρ d v) w) else je P Q l K (qw ρ d undef) w);split at h
    · rename_i a;rw [if_pos (qcw b a)];unfold qh7 at h;split at h
      · rename_i v y;obtain ⟨A,z,u⟩:=wb c.mr b y;rw [z];exact qec (d:=some d) m n p b c u h j
      · cases h
    · rename_i a;rw [if_neg (by rw [qcw b a];decide)];exact qec (d:=some d) m n p b c qbT h j
    · cases h
  · rename_i g d op ty l;show (if gd ρ g=true then qx P Q d op ty (je P Q l K) ρ w else je P Q l K (qn ρ d undef) w);split at h
    · rename_i a;rw [if_pos (qcw b a)];exact qzy t m n p b c h j
    · rename_i a;rw [if_neg (by rw [qcw b a];decide)];exact qec m n p b c qbT h j
    · cases h
theorem wX.up {l:Sg} {L:List Fa} (h:wX σ L w) (n:Grd σ L) (b:σ.le l):wX l L w:=fun f a j p=>by
  obtain ⟨⟨a0,c⟩,_⟩:=n f a;have:j=a0:=p.uniq (c.mono b);subst this;obtain ⟨t,m,u⟩:=h f a j c;exact ⟨t,m,u.mono b⟩
theorem qdM:MR σ .lf w:=fun i o h=>by cases h
theorem qEb {a b:K1} (h:qfP a b=true):a=b:=by
  unfold qfP at h;split at h
  · rfl
  · simpa using h
  · rfl
  · cases h
theorem qwc:∀{L:List Fa} {k:K1} {a v:Value},qgF L k a=some v->∃f∈L,f.k=k/\f.a=a/\f.v=v
  |[],_,_,_,h=>by cases h
  | f :: l, k, a, v, h => by
    unfold qgF at h;cases b:(qfP f.k k&&xL 4 f.a a) with
    |true=>
      rw [b] at h;cases h;simp only [j0] at b;exact ⟨f,by simp,qEb b.1,Qe 4 _ _ b.2,rfl⟩
    |false=>
      rw [b] at h;obtain ⟨g,c,j⟩:=qwc h;exact ⟨g,Vg _ c,j⟩
theorem qwm {L : List Fa} (A : wX σ L w) (n : ER σ e ρ) {x : Ex} {v : Value} (h : evF L e x = some v) : ∃ b, x.ev ρ w = some b /\ VR σ v b := by
  unfold evF at h;split at h
  · rename_i k x;split at h
    · rename_i a t;obtain ⟨B,p,m⟩:=wb (qdM (w:=w)) n t;split at h
      · rename_i u y;cases h;obtain ⟨z,c,l⟩:=qcQ (qdM (w:=w)) m y;exact ⟨z,by simp only [Ex.ev,p,Option.bind_some,c],l⟩
      · obtain ⟨f,j,rfl,rfl,rfl⟩:=qwc h;obtain ⟨b,c,l⟩:=A f j B m;exact ⟨b,by simp only [Ex.ev,p,Option.bind_some,c],l⟩
    · cases h
  · exact wb qdM n h
theorem qhN {H : vR} (p : MR σ H w) : ∀ {t : OT} {e : Tr Value} {ρ : qa}, ER σ e ρ -> ∀ f ∈ wE H t e, ((∃ h, VR σ f.a h) /\ ∃ c, VR σ f.v c) /\ ∀ h, VR σ f.a h -> ∃ c, jd w f.k h = some c /\ VR σ f.v c
  | .take g d ex t, e, ρ, l, f, b => by
    unfold wE at b;split at b
    · split at b
      · rename_i v A;obtain ⟨c,B,m⟩:=wb p l A;rcases uC.1 b with b|b
        · split at b
          · rename_i k x;split at b
            · rename_i a y;obtain ⟨h,z,u⟩:=wb (qdM (w:=w)) l y;split at b
              · simp at b
              · simp only [uH] at b;subst b;refine ⟨⟨⟨h,u⟩,⟨c,m⟩⟩,fun E n=>?_⟩;have:E=h:=n.uniq u;subst this;refine ⟨c, ?_,m⟩;simpa only [Ex.ev,z,Option.bind_some] using B
            · simp at b
          · simp at b
        · split at b
          · rename_i I j;exact qhN p (qeZ l m j) f b
          · simp at b
      · simp at b
    · split at b
      · rename_i I j;exact qhN p (qeZ l qbT j) f b
      · simp at b
    · simp at b
  | .done,_,_,_,f,b=>by simp [wE] at b
  | .step ..,_,_,_,f,b=>by simp [wE] at b
  | .both ..,_,_,_,f,b=>by simp [wE] at b
theorem qzR {m:Sg} {L:List Fa} {H:vR} (y:Grd σ L) (c:σ.le m) (z:MR m H w) (h:qim H L=true):wX σ L w:=fun f l A n=>by
  have b:=um.1 h f l;split at b
  · rename_i u x;have:=Qe 4 _ _ b;subst this;obtain ⟨j,p,t⟩:=qcQ z (n.mono c) x;obtain ⟨_,v0,a⟩:=y f l;have:j=v0:=t.uniq (a.mono c);subst this;exact ⟨j,p,a⟩
  · cases b
theorem qI0 {l c:Sx} (h:∀k,l.H.get k=c.H.get k) (m:l.nx=c.nx) (n:l.rs=c.rs) (a:Iv σ w0 c w):Iv σ w0 l w:=
  ⟨fun i o b=>a.mr i o (by rw [<-h];exact b),by rw [m,n];exact a.dom,by rw [m,n];exact a.res,fun i j y z u x b t=>a.ap i j y z u x (by rw [<-h];exact b) (by rw [<-h];exact t),a.ext,fun i o p b=>a.own i o p (by rw [<-h];exact b)⟩
theorem qCW (hpr : Jg P pr) (X : Sound P G0 r) (Y : G0 w0) (Z : Qn Q) {L : Option (List Fa)} {bs : Option Nat} {t : OT} {j : Sg} {S : World -> Prop} (z : ER σ e ρ) (hI : Iv σ w0 s w) (h : qi2 P pr r s L bs e t = some o) (J : zP σ w0 K Q o) (I : j.le σ)
    (hS:∀l,L=some l->Grd j l/\wX j l w/\S=wX j l):t.wp P Q S K ρ w:=by
  unfold qi2 at h;split at h
  · cases h;exact J σ ρ w (Sg.le_refl σ) hI z
  · rename_i g d x t;split at h
    · cases h
    · rename_i l;obtain ⟨p,hfa,A⟩:=hS l rfl;have E:∀v v',VR σ v v'->qfs r s (some l) bs t e d (some v)=some o->t.wp P Q S K (qw ρ d v') w:=by
        intro v v' B hk;unfold qfs at hk;dsimp only at hk;split at hk
        · rename_i e' n;exact X.ord _ _ _ _ _ _ hk j σ w0 _ w K Q S Y hI (qeZ z B n) Z J I hS
        · cases hk
      show (if gd ρ g=true then xp (x.ev ρ w) (fun v=>(∀w',S w'->x.ev ρ w'=some v)/\t.wp P Q S K (qw ρ d v) w) else t.wp P Q S K (qw ρ d undef) w);split at h
      · rename_i O;rw [if_pos (qcw z O)];cases B:evF l e x with
        |none=>rw [B] at h;cases h
        |some v=>
          rw [B] at h;obtain ⟨v',R,h2⟩:=qwm (hfa.up p I) z B;rw [R];refine ⟨fun w' hw'=>?_,E v v' h2 h⟩;rw [A] at hw';obtain ⟨u',h3,h4⟩:=qwm (hw'.up p I) z B;rw [h3,h4.uniq h2]
      · rename_i O;rw [if_neg (by rw [qcw z O];decide)];exact E undef undef qbT h
      · cases h
  · rename_i x b t;show x.wp P Q (fun a w'=>(b=true->S w')/\t.wp P Q S K a w') ρ w;have go:∀o1,qc1 P pr r s (qpv bs x) e [x]=some o1->zP σ w0 (fun a w'=>(b=true->S w')/\t.wp P Q S K a w') Q o1->x.wp P Q (fun a w'=>(b=true->S w')/\t.wp P Q S K a w') ρ w:=fun o1 R h2=>qnp hpr X Y Z z hI R h2;unfold qph at h;split at h
    · rename_i e' s' R;refine go _ R fun τ a w' u m n=>?_;cases b with
      |true=>
        cases L with
        |none=>cases h
        |some l=>
          obtain ⟨p,hfa,A⟩:=hS l rfl;obtain ⟨hsm,h⟩:=ju (b:=qim s'.H l) h;have hf2:=qzR p (Sg.le_trans I u) m.mr hsm;exact ⟨fun _=>by rw [A];exact hf2,X.ord _ _ _ _ _ _ h j τ w0 _ w' K Q S Y m n Z (J.le u) (Sg.le_trans I u) fun l' W=>by cases W;exact ⟨p,hf2,A⟩⟩
      |false=>
        exact ⟨(fun hb=>by cases hb),X.ord _ _ _ _ _ _ h j τ w0 _ w' K Q S Y m n Z (J.le u) (Sg.le_trans I u) (fun l' W=>by cases W)⟩
    · rename_i c s' R;cases h;exact go _ R fun τ a w' u m=>J τ a w' u m
    · cases h
  · rename_i x y;unfold qxg at h;split at h
    · rename_i e1 s1 e2 s2 hx hy;obtain ⟨hc,h⟩:=ju h;cases h;simp only [j0,ur] at hc;obtain ⟨⟨⟨c1,c2⟩,c3⟩,c4⟩:=hc;have g1:=Tr.eqB_ok (Qe 4) c1;have g2:=Tr.eqB_ok (fun _ _ h=>qdG h) c2;refine ⟨X.ord _ _ _ _ _ _ hx j σ w0 ρ w K Q S Y hI z Z J I hS,X.ord _ _ _ _ _ _ hy j σ w0 ρ w K Q S Y hI z Z ?_ I hS⟩;exact fun τ a w' u m n=>J τ a w' u (qI0 g2 (uo c3) c4 m) fun i v B=>n i v (by rw [<-g1];exact B)
    · cases h
end
end Go.Eng
namespace Go.Eng
open Go.RowKit
def qDU {p:Nat->Prop}:∀n,p n->∃m,p m/\∀k,p k->m<=k:=by
  intro n
  induction n using Nat.strongRecOn with
  | _ n c =>
    intro j;by_cases h:∃k,k<n/\p k
    · obtain ⟨k,a,l⟩:=h;exact c k a l
    · exact ⟨n,j,fun k a=>Nat.le_of_not_lt fun b=>h ⟨k,b,a⟩⟩
section
variable {cx:Cx} {K:qa->World->Prop} {Q:Ks} {ρ:qa} {w:World}
theorem qpN (I:Nat->qa->World->Prop) (z:Nat) {a:IR} (R:I z ρ w) (h:∀m b w',I m b w'->a.wp cx (fun c l=>∃n,n<m/\I n c l) Q b w'):(IR.loop a).wp cx K Q ρ w:=by
  have A:∀b w',∃m,(∃k,I k b w')->I m b w'/\∀k,I k b w'->m<=k:=fun b w'=>by
    by_cases y:∃k,I k b w'
    · obtain ⟨k,J⟩:=y;obtain ⟨m,u⟩:=qDU (p:=fun k=>I k b w') k J;exact ⟨m,fun _=>u⟩
    · exact ⟨0,fun h=>absurd h y⟩
  obtain ⟨μ,t⟩:∃μ:qa->World->Nat,∀b w',(∃k,I k b w')->I (μ b w') b w'/\∀k,I k b w'->μ b w'<=k:=by
    obtain ⟨f,E⟩:=Classical.axiomOfChoice (r:=fun (x:qa×World) m=>(∃k,I k x.1 x.2)->I m x.1 x.2/\∀k,I k x.1 x.2->m<=k) fun x=>A x.1 x.2;exact ⟨fun b w'=>f (b,w'),fun b w'=>E (b,w')⟩
  refine Q4 (fun b w'=>∃k,I k b w') μ ⟨z,R⟩ fun b w' B=>?_;obtain ⟨O,_⟩:=t b w' B;refine IR.wp_mono (h _ b w' O) ?_ (fun _ _ _ h=>h) (fun _ _ h=>h) (fun _ _ _ h=>h) (fun h=>h) ⟨fun h=>h,fun h=>h⟩;rintro c l ⟨n,u,j⟩;exact ⟨⟨n,j⟩,Nat.lt_of_le_of_lt ((t c l ⟨n,j⟩).2 n j) u⟩
end
end Go.Eng
namespace Go.Eng
open Go.RowKit
def qhg (P:Program) (G0:World->Prop) (prim:qcO):Prop:=∀f args s v s',prim f args s=some (v,s')->∀(σ:Sg) (w0 w:World) (args':List Value),G0 w0->Iv σ w0 s w->qr σ args args'->Calls P f args'.toArray w (xz σ w0 (.ret v s'))
def qmd (P:Program) (G0:World->Prop) (tr:Option TrP):Prop:=∀q,tr=some q->∀r,Sound P G0 r->∀s args o,qhC P r s q args=some o->∀(σ:Sg) (w0 w:World) (args':List Value),G0 w0->Iv σ w0 s w->qr σ args args'->Calls P q.f args'.toArray w (xz σ w0 o)
section
variable {P:Program} {G0:World->Prop} {r:Sx->Tk->Option Ou} {σ:Sg} {w0 w:World} {ρ:qa} {e:Tr Value} {s:Sx} {K:qa->World->Prop} {Q:Ks} {o:Ou} {pr:TypeId->Bool} {prim:qcO} {tr:Option TrP} {sk:FuncId->Nat->List Nat}
theorem qDb (j:Iv σ w0 s w) (b:ER σ e ρ) {rv:RV} {v:Value} (h:qi9 s.H e rv=some v):∃c,rv.val ρ w=some c/\VR σ v c:=by
  unfold qi9 at h;split at h
  · exact ⟨_,rfl,b _ _ h⟩
  · split at h
    · rename_i u a;exact qcQ j.mr (b _ _ a) h
    · cases h
  · split at h
    · rename_i u a;exact qcQ j.mr (b _ _ a) h
    · cases h
theorem qou (l:Iv σ w0 s w) (j:ER σ e ρ):∀{rs:List RV} {vs:List Value},qfb s.H e rs=some vs->∃a,vY ρ w rs=some a/\qr σ vs a
  |[],vs,h=>by cases h;exact ⟨[],rfl,trivial⟩
  | r :: rs, vs, h => by
    unfold qfb at h;split at h
    · rename_i v y t b;cases h;obtain ⟨u,n,x⟩:=qDb l j t;obtain ⟨c,m,p⟩:=qou l j b;exact ⟨u::c,by simp only [vY,n,Option.bind_some,m,Option.map_some],x,p⟩
    · cases h
theorem qyz:∀{vs j:List Value},qr σ vs j->VR σ (yu vs) (yu j)
  |[],[],_=> .tup rfl fun i x y h=>by simp at h
  |[_],[_],h=>h.1
  |a::b::l,c::d::m,h=>by
    obtain ⟨n,p⟩:=qr.arr (cs:=(a::b::l).toArray) (ds:=(c::d::m).toArray) (by simpa using h);exact .tup n p
  |[],_::_,h=>h.elim
  |_::_,[],h=>h.elim
  |[_],_::_::_,h=>h.2.elim
  |_::_::_,[_],h=>h.2.elim
theorem qxF:∀(l:List Value) (k:Nat) (e:Tr Value),k+l.length<=vV->∀i,(qbF l k e).get i=if k<=i/\i<k+l.length then l[i - k]? else e.get i
  |[],k,e,_,i=>by
    rw [if_neg (by simp only [List.length_nil];omega)];rfl
  | v :: l, k, e, h, i => by
    simp only [List.length_cons] at h;show (qbF l (k+1) (e.set k v)).get i=_;rw [qxF l (k+1) _ (by omega) i,Tr.get_set _ _ (by omega)];by_cases a:k+1<=i/\i<k+1+l.length
    · rw [if_pos a,if_pos (by simp;omega),show i - k=(i - (k+1))+1 by omega];simp
    · rw [if_neg a];by_cases b:i=k
      · subst b;simp
      · rw [if_neg b,if_neg (by simp;omega)]
theorem qxh (hr : Sound P G0 r) (hg : G0 w0) {f : FuncId} {args a : List Value} (hI : Iv σ w0 s w) (Y : qr σ args a) (h : qg1 r s args (fnX P f) = some o) : Calls P f a.toArray w (xz σ w0 o) := by
  unfold qg1 at h;split at h
  · rename_i F j;obtain ⟨hc,h⟩:=ju h;simp only [j0,uZ,Jo] at hc;unfold fnX at j;split at j
    · cases j
    · rename_i fn B;split at j
      · cases j
      · rename_i c Z;split at j
        · rename_i ir rs b t;rw [qJE] at b;obtain ⟨y,j⟩:=ju j;cases j;simp only [uZ] at y;dsimp only at hc;have hV:kU fn (List.range fn.ntmps)=true:=by
            simp only [kU,j0,kr,um];exact ⟨y,fun x hx=>JJ.1 hx⟩
          have hlen:=Y.len;have z:a.toArray.size<=fn.ntmps:=by simp;omega
          have W:ER σ (qbF args 0 .lf) (wH (List.range fn.ntmps) a.toArray):=by
            intro i v u;rw [qxF args 0 _ (by omega)] at u;split at u
            · rename_i hi2;rw [Nat.sub_zero] at u;obtain ⟨v',X,O⟩:=Y.get i v u;have:wH (List.range fn.ntmps) a.toArray i=v':=by
                unfold wH;rw [if_neg (by unfold gS;omega),if_pos (JJ.2 (by omega))];simp [X]
              rw [this];exact O
            · cases u
          have hQ:∀R:Ending->World->Prop,Qn (ji rs R):=fun R _ _ _ _ h=>h;have E:∀(R:Ending->World->Prop),(∀o1,r s (.ir ⟨f,fn.ntmps,List.range fn.ntmps,ir,rs⟩ ir (qbF args 0 .lf))=some o1->zP σ w0 (qB rs R) (ji rs R) o1)->ir.norm.wp ⟨P,fn.ntmps,List.range fn.ntmps,[]⟩ (qB rs R) (ji rs R) (wH (List.range fn.ntmps) a.toArray) w:=by
            intro R hR;rw [IR.norm_wp];cases A:r s (.ir ⟨f,fn.ntmps,List.range fn.ntmps,ir,rs⟩ ir (qbF args 0 .lf)) with
            |none=>unfold qjm at h;rw [A] at h;cases h
            |some o1=>exact hr.ir _ _ _ _ _ A σ w0 _ w _ _ hg hI W (hQ R) (hR o1 A)
          have fin:ir.norm.wp ⟨P,fn.ntmps,List.range fn.ntmps,[]⟩ (qB rs (xz σ w0 o)) (ji rs (xz σ w0 o)) (wH (List.range fn.ntmps) a.toArray) w:=by
            refine E _ fun o1 A=>?_;unfold qjm at h;rw [A] at h;have p:∀e s',qgI rs e s'=some o->∀m ρ w,σ.le m->Iv m w0 s' w->ER m e ρ->qB rs (xz σ w0 o) ρ w:=by
              intro e s' I m ρ w J l n;unfold qgI at I;split at I
              · rename_i vs S;cases I;obtain ⟨vs',X,O⟩:=qou l n S;unfold qB;rw [X];exact ⟨m,_,J,l,qyz O,rfl⟩
              · cases I
            cases o1 with
            |go e s'=>exact p e s' h
            |rt e s'=>exact p e s' h
            |pn c s'=>
              cases h;exact fun m ρ w J l=>⟨m,J,l,rfl⟩
            |ex i e s'=>cases h
            |ret v s'=>cases h
          cases c with
          |scope c'=>exact qwY B Z b rfl hV t z fin
          |_=>exact qw0 B Z b rfl hV t z fin
        · cases j
  · cases h
theorem qJW (t : qhg P G0 prim) (p : qmd P G0 tr) (l : Sound P G0 r) (b : G0 w0) {f : FuncId} {args a : List Value} (j : Iv σ w0 s w) (c : qr σ args a) (h : qlW P prim tr r s f args = some o) : Calls P f a.toArray w (xz σ w0 o) := by
  unfold qlW at h;split at h
  · rename_i v s' n;cases h;exact t f args s v s' n σ w0 w a b j c
  · split at h
    · rename_i q;cases m:Nat.beq q.f f with
      |true=>
        rw [m] at h;have:=p q rfl r l s args o h σ w0 w a b j c
        rwa [uo m] at this
      |false=>
        rw [m] at h;exact qxh l b j c h
    · exact qxh l b j c h
theorem qBh (hpr : Jg P pr) (O : Sound P G0 r) (R : G0 w0) (S : Qn Q) {F : Fx} {id : Nat} {ops : Array Oper} (A : ER σ e ρ) (Z : Iv σ w0 s w) (h : qiJ r s F e (qdD P F.nt F.V (sk F.f id) (qm5 ops) (.region id ops true)) = some o) (X : zP σ w0 K Q o) :
    (IR.raw (.region id ops true)).wp ⟨P,F.nt,F.V,[]⟩ K Q ρ w:=by
  unfold qiJ at h;split at h
  · rename_i t ht;have hpn:∀d∈t.takes,∀(ρ:qa) v c w,Q.pn (qw ρ d v) c w->Q.pn ρ c w:=fun _ _ _ _ _ _ h=>S _ _ _ _ h;have u:Qn Q.noRd:=S;have x:zP σ w0 K Q.noRd o:=by cases o<;>exact X
    refine qow (cx:=⟨P,F.nt,F.V,[]⟩) ht (wX σ (wE s.H t e)) (fun w' Y hh=>?_) hpn;have a:=Z.toExt Y;have n:=qhN (H:=s.H) a.mr (t:=t) A;have J:Grd σ (wE s.H t e):=fun f E=>(n f E).1;have j:wX σ (wE s.H t e) w':=fun f E=>(n f E).2;refine ⟨j, ?_⟩;have m:∀l,some (wE s.H t e)=some l->Grd σ l/\wX σ l w'/\wX σ (wE s.H t e)=wX σ l:=fun l W=>by cases W;exact ⟨J,j,rfl⟩
    cases z:(qg0 t&&(qaL t).all (fun d=>Nat.blt d F.nt)) with
    |true=>
      rw [z] at h;simp only [j0] at z;have B:∀d∈qaL t,d<F.nt:=fun d y=>by simpa [Jo] using um.1 z.2 d y
      refine O.ord _ _ _ _ _ _ h σ σ w0 ρ w' K Q.noRd _ R ?_ A u x (Sg.le_refl σ) m;refine ⟨a.mr,fun i p I=>?_,fun i I=>?_,a.ap,a.ext,a.own⟩
      · have:=a.dom i p I;refine ⟨by dsimp only;omega,fun b=>?_⟩;rcases uC.1 b with b|b
        · exact this.2 b
        · obtain ⟨d,_,y⟩:=un.1 b;omega
      · rcases uC.1 I with b|b
        · have:=a.res i b;dsimp only;omega
        · obtain ⟨d,y,rfl⟩:=un.1 b;have:=B d y;dsimp only;omega
    |false=>
      rw [z] at h;exact O.ord _ _ _ _ _ _ h σ σ w0 ρ w' K Q.noRd _ R a A u x (Sg.le_refl σ) m
  · cases h
theorem qEq (W : Jg P pr) (y : Sound P G0 r) (z : G0 w0) (E : Qn Q) {F : Fx} {a : IR} (x : ∀ b, a =.loop b -> (IR.loop b).wp ⟨P, F.nt, F.V, []⟩ K Q ρ w) (p : ER σ e ρ) (n : Iv σ w0 s w) (h : irX P sk r s F e a = some o) (l : zP σ w0 K Q o) : a.wp ⟨P, F.nt, F.V, []⟩ K Q ρ w := by
  unfold irX at h;split at h
  · cases h;exact l σ ρ w (Sg.le_refl σ) n p
  · exact y.sts _ _ _ _ h σ w0 ρ w K Q z n p E l
  · cases h
  · rename_i a b;have go:∀o1,r s (.ir F a e)=some o1->zP σ w0 (fun m w'=>b.wp ⟨P,F.nt,F.V,[]⟩ K Q m w') Q o1->(IR.seq a b).wp ⟨P,F.nt,F.V,[]⟩ K Q ρ w:=fun o1 S R=>y.ir _ _ _ _ _ S σ w0 ρ w _ Q z n p E R;cases A:r s (.ir F a e) with
    |none=>rw [A] at h;cases h
    |some o1=>
      rw [A] at h;refine go o1 A ?_;cases o1 with
      |go B s'=>exact fun O m w' I t u=>y.ir _ _ _ _ _ h O w0 m w' K Q z t u E (l.le I)
      |ex i B s'=>cases h;exact l
      |rt B s'=>cases h;exact l
      |pn c s'=>cases h;exact l
      |ret v s'=>cases h;exact l
  · rename_i c a b;show Je (c.ev ρ w) _ _;unfold qwR at h;split at h
    · rename_i Y X;obtain ⟨Z,S,R⟩:=wb n.mr p X;rw [S];cases R;cases Y with
      |true=>exact y.ir _ _ _ _ _ h σ w0 ρ w K Q z n p E l
      |false=>exact y.ir _ _ _ _ _ h σ w0 ρ w K Q z n p E l
    · cases h
  · rename_i i a;cases A:r s (.ir F a e) with
    |none=>rw [A] at h;cases h
    |some o1=>
      rw [A] at h;refine y.ir _ _ _ _ _ A σ w0 ρ w K _ z n p (fun ρ m c w=>E ρ m c w) ?_;cases o1 with
      |go B s'=>cases h;exact l
      |ex j B s'=>
        intro O m w' I t u;dsimp only
        replace h:(bif Nat.beq j i then some (Ou.go B s') else some (Ou.ex j B s'))=some o:=h
        cases J:Nat.beq j i with
        |true=>
          rw [J] at h;cases h;rw [if_pos (uo J)];exact l O m w' I t u
        |false=>
          rw [J] at h;cases h;rw [if_neg (fun e=>by subst e;simp at J)];exact l O m w' I t u
      |rt B s'=>cases h;exact l
      |pn c s'=>cases h;exact l
      |ret v s'=>cases h;exact l
  · exact x _ rfl
  · cases h;exact l σ ρ w (Sg.le_refl σ) n p
  · cases h;exact l σ ρ w (Sg.le_refl σ) n p
  · split at h
    · cases h;exact qox (l σ ρ w (Sg.le_refl σ) n p)
    · exact qBh W y z E p n h l
    · cases h
theorem qnY (A : Jg P pr) (hp : qhg P G0 prim) (ht : qmd P G0 tr) : ∀ n, Sound P G0 (yd P prim tr sk pr n) := by
  intro n
  induction n using Nat.strongRecOn with
  | _ n ih =>
    cases n with
    |zero=>exact ⟨fun _ _ _ _ _ h=>by simp [yd] at h,fun _ _ _ _ h=>by simp [yd] at h,fun _ _ _ _ _ _ h=>by simp [yd] at h,fun _ _ _ _ h=>by simp [yd] at h⟩
    |succ n=>
      have W:=ih n (VT n);refine ⟨fun F a e s o h σ w0 ρ w K Q x u E I B=>?_,fun l e s o h σ w0 ρ w K Q x u E I B=>qnp A W x I E u h B,fun L bs t e s o h σ0 σ w0 ρ w K Q S x u E I B h0 hS=>qCW A W x I E u h B h0 hS,fun f args s o h σ w0 w Y x u hv=>qJW hp ht W x u hv h⟩;refine qEq (sk:=sk) A W x I (fun b hb=>?_) E u h B;subst hb;refine qpN (fun m z w'=>m<=n+1/\∃R O s',yd P prim tr sk pr m s' (.ir F (.loop b) O)=some o/\σ.le R/\Iv R w0 s' w'/\ER R O z) (n+1) ⟨j1 _,σ,e,s,h,Sg.le_refl σ,u,E⟩ fun m z w' hm=>?_;obtain ⟨hmn,R,O,s',y,hl,ab,he'⟩:=hm;cases m with
      |zero=>simp [yd] at y
      |succ m=>
        have aa:=ih m (by omega);have j:qie (yd P prim tr sk pr m) F (.loop b) (yd P prim tr sk pr m s' (.ir F b O))=some o:=y;cases ho:yd P prim tr sk pr m s' (.ir F b O) with
        |none=>rw [ho] at j;cases j
        |some o1=>
          rw [ho] at j;refine aa.ir _ _ _ _ _ ho R w0 z w' _ Q x ab he' I ?_;have p:=B.le hl;cases o1 with
          |go Z J=>exact fun υ ρ2 w2 hl2 ac X=>⟨m,VT m,by omega,υ,Z,J,j,Sg.le_trans hl hl2,ac,X⟩
          |ex i Z J=>cases j;exact p
          |rt Z J=>cases j;exact p
          |pn c J=>cases j;exact p
          |ret v J=>cases j;exact p
end
end Go.Eng
namespace Go.Eng
open Go.RowKit
def Ex.ev_ext {w w':World} (h:qc w w') {ρ:qa}:∀(e:Ex) {v:Value},e.ev ρ w=some v->e.ev ρ w'=some v
  | .var _,_,j=>j
  | .const _,_,j=>j
  | .op1 k x,v,j=>by
    simp only [Ex.ev,uc] at j⊢;obtain ⟨a,m,l⟩:=j;exact ⟨a,Ex.ev_ext h x m,qoK h l⟩
  | .op2 k x y,v,j=>by
    simp only [Ex.ev,uc] at j⊢;obtain ⟨a,m,b,n,l⟩:=j;exact ⟨a,Ex.ev_ext h x m,b,Ex.ev_ext h y n,l⟩
  | .op3 k x y z,v,j=>by
    simp only [Ex.ev,uc] at j⊢;obtain ⟨a,m,b,n,c,p,l⟩:=j;exact ⟨a,Ex.ev_ext h x m,b,Ex.ev_ext h y n,c,Ex.ev_ext h z p,l⟩
  | .op4 k x y z u,v,j=>by
    simp only [Ex.ev,uc] at j⊢;obtain ⟨a,m,b,n,c,p,d,t,l⟩:=j;exact ⟨a,Ex.ev_ext h x m,b,Ex.ev_ext h y n,c,Ex.ev_ext h z p,d,Ex.ev_ext h u t,l⟩
  | .ite c x y,v,j=>by
    simp only [Ex.ev,uc] at j⊢;obtain ⟨a,m,l⟩:=j;refine ⟨a,Ex.ev_ext h c m, ?_⟩;unfold qbi at l⊢;split at l
    · exact Ex.ev_ext h x l
    · exact Ex.ev_ext h y l
    · cases l
def Pu (P:Program) (w0:World) (f:FuncId) (args:Array Value) (v:Value):Prop:=qh P f=true/\∀w,qc w0 w->Calls P f args w fun e w'=>e=.returned v/\qc w w'
abbrev wx:=FuncId->List Value->Option Value
def qdE (C:wx) (ρ:qa):Op->Option Value
  | .call {callee:=.value (.func f),args,.. }=>C f (args.toList.map (qe ρ))
  |_=>none
def mst (C:wx) (w0:World):St->(qa->Prop)->qa->Prop
  | .asg g d e,K,ρ=>if gd ρ g then xp (e.ev ρ w0) (fun v=>K (qw ρ d v)) else K (qw ρ d undef)
  | .eff g dst op _,K,ρ=>if gd ρ g then xp (qdE C ρ op) (fun v=>K (qn ρ dst v)) else K (qn ρ dst undef)
def mw (C:wx) (w0:World):List St->(qa->Prop)->qa->Prop
  |[],K,ρ=>K ρ
  |s::r,K,ρ=>mst C w0 s (mw C w0 r K) ρ
structure Kp where
  ex:Nat->qa->Prop
  rt:qa->Prop
def Kp.blk (Q:Kp) (i:Nat) (K:qa->Prop):Kp:={Q with ex:=fun j=>if j=i then K else Q.ex j}
def IR.mi (C:wx) (w0:World):IR->(qa->Prop)->Kp->qa->Prop
  | .skip,K,_,ρ=>K ρ
  | .reg l,K,_,ρ=>mw C w0 l K ρ
  | .drw l,K,_,ρ=>mw C w0 l K ρ
  | .seq a b,K,Q,ρ=>a.mi C w0 (fun ρ'=>b.mi C w0 K Q ρ') Q ρ
  | .cond c a b,K,Q,ρ=>Je (c.ev ρ w0) (a.mi C w0 K Q ρ) (b.mi C w0 K Q ρ)
  | .block id a,K,Q,ρ=>a.mi C w0 K (Q.blk id K) ρ
  | .loop a,_,Q,ρ=>∃(I:qa->Prop) (μ:qa->Nat),I ρ/\∀ρ',I ρ'->a.mi C w0 (fun ρ''=>I ρ''/\μ ρ''<μ ρ') Q ρ'
  | .exit id,_,Q,ρ=>Q.ex id ρ
  | .ret,_,Q,ρ=>Q.rt ρ
  | .raw _,_,_,_=>False
section
variable {P:Program} {C:wx} {w0:World}
def qaV (P:Program) (C:wx) (w0:World):Prop:=∀f l v,C f l=some v->Pu P w0 f l.toArray v
theorem qdK (n : qaV P C w0) {Q : Ks} : ∀ (l : List St) {K : qa -> Prop} {K' : qa -> World -> Prop} {ρ : qa} {w : World}, qc w0 w -> (∀ m w', qc w0 w' -> K m -> K' m w') -> mw C w0 l K ρ -> je P Q l K' ρ w
  |[],_,_,_,_,b,j,h=>j _ _ b h
  | .asg g d e::r,K,K',ρ,w,b,j,h=>by
    simp only [je,St.wp,mw,mst] at h⊢;split
    · rename_i c;rw [if_pos c] at h;cases a:e.ev ρ w0 with
      |none=>rw [a] at h;exact h.elim
      |some v=>
        rw [a] at h;rw [Ex.ev_ext b e a];exact qdK n r b j h
    · rename_i c;rw [if_neg c] at h;exact qdK n r b j h
  | .eff g dst op ty::r,K,K',ρ,w,b,j,h=>by
    simp only [je,St.wp,mw,mst] at h⊢;split
    · rename_i c;rw [if_pos c] at h;cases a:qdE C ρ op with
      |none=>rw [a] at h;exact h.elim
      |some v=>
        rw [a] at h;unfold qdE at a;split at a
        · rename_i f args x;obtain ⟨t,u⟩:=n _ _ _ a;simp only [qJg];refine ⟨t, ?_⟩;have y:(args.toList.map (qe ρ)).toArray=args.map (qe ρ):=JF (by rw [Jz]);rw [<-y];refine (u w b).mono ?_;rintro _ w' ⟨rfl,p⟩;exact qdK n r (b.trans' p) j h
        · cases a
    · rename_i c;rw [if_neg c] at h;exact qdK n r b j h
theorem qdL (p : qaV P C w0) : ∀ (l : List St) {K K' : qa -> Prop} {ρ : qa} {w : World}, qc w0 w -> (∀ m, K m -> K' m) -> mw C w0 l K ρ -> qM P w l K' ρ
  |[],_,_,_,_,b,j,h=>j _ h
  | .asg g d e::r,K,K',ρ,w,b,j,h=>by
    simp only [qM,mw,mst] at h⊢;split
    · rename_i c;rw [if_pos c] at h;cases a:e.ev ρ w0 with
      |none=>rw [a] at h;exact h.elim
      |some v=>
        rw [a] at h;rw [Ex.ev_ext b e a];exact qdL p r b j h
    · rename_i c;rw [if_neg c] at h;exact qdL p r b j h
  | .eff g dst op ty::r,K,K',ρ,w,b,j,h=>by
    simp only [qM,mw,mst] at h⊢;split
    · rename_i c;rw [if_pos c] at h;cases a:qdE C ρ op with
      |none=>rw [a] at h;exact h.elim
      |some v=>
        rw [a] at h;refine ⟨v, ?_,qdL p r b j h⟩;unfold qdE at a;split at a
        · rename_i f args y;obtain ⟨u,x⟩:=p _ _ _ a;refine ⟨u,fun A n=>?_⟩;have z:(args.toList.map (qe ρ)).toArray=args.map (qe ρ):=JF (by rw [Jz]);rw [<-z];refine (x A (b.trans' n)).mono ?_;rintro _ w' ⟨rfl,t⟩;exact ⟨rfl,n.trans' t⟩
        · cases a
    · rename_i c;rw [if_neg c] at h;exact qdL p r b j h
theorem qaw {cx:Cx} (x:qaV cx.P C w0):∀(a:IR) {K:qa->Prop} {K':qa->World->Prop} {Q:Kp} {Q':Ks} {ρ:qa} {w:World},qc w0 w->(∀j w',qc w0 w'->K j->K' j w')->
    (∀i j w',qc w0 w'->Q.ex i j->Q'.ex i j w')->(∀j w',qc w0 w'->Q.rt j->Q'.rt j w')->a.mi C w0 K Q ρ->a.wp cx K' Q' ρ w
  | .skip,_,_,_,_,_,_,m,p,_,_,h=>p _ _ m h
  | .reg l,_,_,_,_,_,_,m,p,_,_,h=>qdK x l m p h
  | .drw l,_,_,_,_,_,_,m,p,_,_,h=>qdL x l m (fun j B w' n=>p _ _ (m.trans' n) B) h
  | .seq a b,_,_,_,_,_,_,m,p,u,t,h=>qaw x a m (fun _ _ n B=>qaw x b n p u t B) u t h
  | .cond c a b,K,K',Q,Q',ρ,w,m,p,u,t,h=>by
    simp only [IR.mi] at h;simp only [IR.wp];cases A:c.ev ρ w0 with
    |none=>rw [A] at h;exact h.elim
    |some v=>
      rw [A] at h;rw [Ex.ev_ext m c A];exact qlO (fun h=>qaw x a m p u t h) (fun h=>qaw x b m p u t h) h
  | .block id a,K,K',Q,Q',ρ,w,m,p,u,t,h=>by
    simp only [IR.mi] at h;simp only [IR.wp];refine qaw x a (Q:=Q.blk id K) m p (fun i j w' n y=>?_) t h;simp only [Kp.blk] at y;show (if i=id then K' else Q'.ex i) j w';split
    · rename_i e;rw [if_pos e] at y;exact p _ _ n y
    · rename_i e;rw [if_neg e] at y;exact u _ _ _ n y
  | .loop a,K,K',Q,Q',ρ,w,m,p,u,t,h=>by
    obtain ⟨I,μ,X,R⟩:=h;exact ⟨fun j w'=>I j/\qc w0 w',fun j _=>μ j,⟨X,m⟩,fun j w' ⟨O,n⟩=>qaw x a n (fun E W z ⟨S,J⟩=>⟨⟨S,z⟩,J⟩) u t (R j O)⟩
  | .exit id,_,_,_,_,_,_,m,_,u,_,h=>u _ _ _ m h
  | .ret,_,_,_,_,_,_,m,_,_,t,h=>t _ _ m h
end
section
variable {C:wx} {w0:World} {K:qa->Prop} {Q:Kp} {ρ:qa}
@[simp] theorem qMa {a b:IR}:(IR.seq a b).mi C w0 K Q ρ=a.mi C w0 (b.mi C w0 K Q) Q ρ:=rfl
@[simp] theorem qMc {l:List St}:(IR.reg l).mi C w0 K Q ρ=mw C w0 l K ρ:=rfl
@[simp] theorem qMe {l:List St}:(IR.drw l).mi C w0 K Q ρ=mw C w0 l K ρ:=rfl
@[simp] theorem qL9:IR.skip.mi C w0 K Q ρ=K ρ:=rfl
@[simp] theorem qMd {i:Nat}:(IR.exit i).mi C w0 K Q ρ=Q.ex i ρ:=rfl
@[simp] theorem qMb:IR.ret.mi C w0 K Q ρ=Q.rt ρ:=rfl
@[simp] theorem qMg {i:Nat} {a:IR}:(IR.block i a).mi C w0 K Q ρ=a.mi C w0 K (Q.blk i K) ρ:=rfl
def mA (g:Bool) (o:Option Value) (d:Option Nat) (C:wx) (w0:World) (r:List St) (K:qa->Prop) (ρ:qa):Prop:=if g then xp o (fun v=>mw C w0 r K (qn ρ d v)) else mw C w0 r K (qn ρ d undef)
def mC (o:Option Value) (a b:IR) (C:wx) (w0:World) (K:qa->Prop) (Q:Kp) (ρ:qa):Prop:=Je o (a.mi C w0 K Q ρ) (b.mi C w0 K Q ρ)
@[simp] theorem qMj {d:Option Nat} {v:Value} {r:List St}:mA true (some v) d C w0 r K ρ=mw C w0 r K (qn ρ d v):=rfl
@[simp] theorem qMk {d:Option Nat} {o:Option Value} {r:List St}:mA false o d C w0 r K ρ=mw C w0 r K (qn ρ d undef):=rfl
theorem qDJ {b:Bool} {d:Option Nat} {o:Option Value} {r:List St} (a:b=true->mA true o d C w0 r K ρ) (c:b=false->mw C w0 r K (qn ρ d undef)):mA b o d C w0 r K ρ:=by
  cases b
  · exact c rfl
  · exact a rfl
theorem qjk {b:Bool} {d:Option Nat} {v:Value} {r:List St} (a:b=true->mw C w0 r K (qn ρ d v)) (c:b=false->mw C w0 r K (qn ρ d undef)):mA b (some v) d C w0 r K ρ:=qDJ a c
theorem qjj {c:Bool} {a b:IR} (h:c=true->a.mi C w0 K Q ρ) (j:c=false->b.mi C w0 K Q ρ):mC (some (.bool c)) a b C w0 K Q ρ:=by
  cases c
  · exact j rfl
  · exact h rfl
@[simp] theorem qMh {a b:IR}:mC (some (.bool true)) a b C w0 K Q ρ=a.mi C w0 K Q ρ:=rfl
@[simp] theorem qMi {a b:IR}:mC (some (.bool false)) a b C w0 K Q ρ=b.mi C w0 K Q ρ:=rfl
theorem qDI {a b:IR} {c:Bool}:mC (some (.bool c)) a b C w0 K Q ρ=if c then a.mi C w0 K Q ρ else b.mi C w0 K Q ρ:=by cases c<;>rfl
@[simp] theorem qMf {c:Ex} {a b:IR}:(IR.cond c a b).mi C w0 K Q ρ=mC (c.ev ρ w0) a b C w0 K Q ρ:=rfl
@[simp] theorem qL5:mw C w0 [] K ρ=K ρ:=rfl
@[simp] theorem qL7 {g:Option (Nat×Bool)} {d:Nat} {e:Ex} {r:List St}:mw C w0 (.asg g d e::r) K ρ=mA (gd ρ g) (e.ev ρ w0) (some d) C w0 r K ρ:=rfl
@[simp] theorem qL6 {g:Option (Nat×Bool)} {d:Option Nat} {f:FuncId} {args:Array Operand} {a:Array TypeId} {ty:TypeId} {r:List St}:
    mw C w0 (.eff g d (.call {callee:=.value (.func f),args:=args,argTypes:=a}) ty::r) K ρ=mA (gd ρ g) (C f (args.toList.map (qe ρ))) d C w0 r K ρ:=rfl
@[simp] theorem qMw (Q:Kp) (i:Nat) (K:qa->Prop):(Q.blk i K).rt=Q.rt:=rfl
@[simp] theorem qMx (Q:Kp) (i j:Nat) (K:qa->Prop) (ρ:qa):(Q.blk i K).ex j ρ=if j=i then K ρ else Q.ex j ρ:=by simp only [Kp.blk];split<;>rfl
theorem IR.mi_mono : ∀ {a : IR} {K K' : qa -> Prop} {Q : Kp} {ρ : qa}, (∀ ρ, K ρ -> K' ρ) -> a.mi C w0 K Q ρ -> a.mi C w0 K' Q ρ := by
  intro a;have x:∀(l:List St) {K K':qa->Prop} {ρ:qa},(∀ρ,K ρ->K' ρ)->mw C w0 l K ρ->mw C w0 l K' ρ:=by
    intro l
    induction l with
    |nil=>intro K K' ρ j h;exact j _ h
    |cons s r y=>
      intro K K' ρ j h;cases s with
      |asg g d e=>
        simp only [mw,mst] at h⊢;split
        · rename_i t;rw [if_pos t] at h;exact qfx (fun _ h=>y j h) h
        · rename_i t;rw [if_neg t] at h;exact y j h
      |eff g d op ty=>
        simp only [mw,mst] at h⊢;split
        · rename_i t;rw [if_pos t] at h;exact qfx (fun _ h=>y j h) h
        · rename_i t;rw [if_neg t] at h;exact y j h
  have key:∀(a:IR) {K K':qa->Prop} {Q Q':Kp} {ρ:qa},(∀ρ,K ρ->K' ρ)->(∀i ρ,Q.ex i ρ->Q'.ex i ρ)->(∀ρ,Q.rt ρ->Q'.rt ρ)->a.mi C w0 K Q ρ->a.mi C w0 K' Q' ρ:=by
    intro a
    induction a with
    |skip=>intro K K' Q Q' ρ j _ _ h;exact j _ h
    |reg l=>intro K K' Q Q' ρ j _ _ h;exact x l j h
    |drw l=>intro K K' Q Q' ρ j _ _ h;exact x l j h
    |seq a b m u=>intro K K' Q Q' ρ j p n h;exact m (fun _ h=>u j p n h) p n h
    |cond c a b m u=>intro K K' Q Q' ρ j p n h;exact qlO (fun h=>m j p n h) (fun h=>u j p n h) h
    |block id a m=>
      intro K K' Q Q' ρ j p n h;refine m (Q:=Q.blk id K) (Q':=Q'.blk id K') j (fun i ρ h=>?_) n h;simp only [Kp.blk] at h⊢;split
      · rename_i e;rw [if_pos e] at h;exact j _ h
      · rename_i e;rw [if_neg e] at h;exact p _ _ h
    |loop a m=>intro K K' Q Q' ρ j p n ⟨I,μ,B,h⟩;exact ⟨I,μ,B,fun z A=>m (fun _ h=>h) p n (h z A)⟩
    |exit id=>intro K K' Q Q' ρ j p n h;exact p _ _ h
    |ret=>intro K K' Q Q' ρ j p n h;exact n _ h
    |raw c=>intro K K' Q Q' ρ j p n h;exact h.elim
  intro K K' Q ρ j h;exact key a j (fun _ _ h=>h) (fun _ h=>h) h
theorem qpI (s n:Nat) (I:Nat->qa->Prop) {a:IR} (m:ρ s=.int .i64 0) (u:I 0 ρ)
    (h:∀(k:Nat) (b:qa),k<=n->b s=.int .i64 k->I k b->a.mi C w0 (fun c=>k<n/\c s=.int .i64 ((k:Int)+1)/\I (k+1) c) Q b):(IR.loop a).mi C w0 K Q ρ:=by
  refine ⟨fun b=>∃k:Nat,k<=n/\b s=.int .i64 k/\I k b,fun b=>n - (RowKit.intOf (b s)).toNat,⟨0,uz _,m,u⟩, ?_⟩;rintro b ⟨k,t,p,x⟩;refine IR.mi_mono ?_ (h k b t p x);rintro c ⟨y,j,l⟩;refine ⟨⟨k+1,by omega,by rw [j];simp,l⟩, ?_⟩;show n - (intOf (c s)).toNat<n - (intOf (b s)).toNat;rw [j,p];simp;omega
end
section
variable {C:wx} {w0:World} {K:qa->Prop} {Q:Kp} {ρ:qa}
theorem qDD (s b n:Nat) (I:Nat->qa->Prop) {a:IR} (t:ρ s=.int .i64 b) (y:b<=n) (B:I b ρ)
    (h:∀(k:Nat) (c:qa),b<=k->k<=n->c s=.int .i64 k->I k c->a.mi C w0 (fun j=>k<n/\j s=.int .i64 ((k:Int)+1)/\I (k+1) j) Q c):(IR.loop a).mi C w0 K Q ρ:=by
  refine ⟨fun c=>∃k:Nat,b<=k/\k<=n/\c s=.int .i64 k/\I k c,fun c=>n - (RowKit.intOf (c s)).toNat,⟨b,j1 _,y,t,B⟩, ?_⟩;rintro c ⟨k,p,A,u,x⟩;refine IR.mi_mono ?_ (h k c p A u x);rintro j ⟨z,l,m⟩;refine ⟨⟨k+1,by omega,by omega,by rw [l];simp,m⟩, ?_⟩;show n - (intOf (j s)).toNat<n - (intOf (c s)).toNat;rw [l,u];simp;omega
end
section
variable {cx:Cx} {K:qa->World->Prop} {Q:Ks} {ρ:qa} {w:World}
end
def qpi:wx:=fun _ _=>none
def qCX (P:Program) (w0:World):qaV P qpi w0:=fun _ _ _ h=>by cases h
def qBN {cx:Cx} {C:wx} {w0 w:World} (j:qaV cx.P C w0) (c:qc w0 w) {ir:IR} {rs:List RV} {R:Ending->World->Prop} {ρ:qa} (T:qa->Prop) (b:∀a w',qc w0 w'->T a->qB rs R a w')
    (h:ir.mi C w0 T ⟨fun _ _=>False,T⟩ ρ):ir.wp cx (qB rs R) (ji rs R) ρ w:=
  qaw j ir c b (fun _ _ _ _ (h:False)=>h.elim) b h
def qoO {cx:Cx} {C:wx} {w0 w:World} {l:List St} {a:IR} (m:qaV cx.P C w0) (j:qc w0 w) {rs:List RV} {R:Ending->World->Prop} {ρ:qa} (T:qa->Prop) (c:∀b w',qc w0 w'->T b->qB rs R b w')
    (h:(IR.seq (.reg l) a).mi C w0 T ⟨fun _ _=>False,T⟩ ρ):je cx.P (ji rs R) l (a.wp cx (qB rs R) (ji rs R)) ρ w:=qBN (ir:=.seq (.reg l) a) m j T c h
end Go.Eng
namespace Go.L01
open Go.Eng
abbrev Bs:=List UInt8
structure Tok where
 kind:Nat
 text:Bs
 line:Int
 deriving DecidableEq
def jI (c:UInt8):Bool:=decide (97<=c.toNat)&&decide (c.toNat<=122)
def qD (c:UInt8):Bool:=decide (48<=c.toNat)&&decide (c.toNat<=57)
def part (c:UInt8):Bool:=jI c||qD c
def ke (c:UInt8):Bool:=decide (c=32)||decide (c=9)||decide (c=10)
def xA:List Bs:=
 [[97,110,100],[97,114,114,97,121],[98,101,103,105,110],[98,111,111,108],[98,114,101,97,107],[99,108,117,115,116,101,114],[100,111],[100,111,119,110],[101,108,115,101],[101,108,115,101,105,102],[101,110,100],[101,120,99,101,112,116],[102,97,108,115,101],[102,111,114],[104,97,115],[105,102],[105,110],[105,110,116],[105,115],[105,116,101,114],[109,111,100],[110,105,108],[110,111,116],[110,117,108,108],[111,110,101,111,102],[111,114],[111,116,104,101,114,115],[112,114,111,99],[112,117,116],[114,101,99,111,114,100],[114,101,112],[114,101,116,117,114,110],[114,101,116,117,114,110,115],[115,105,103,110,97,108],[115,105,103,110,97,108,115],[116,97,103],[116,97,103,99,97,115,101],[116,104,101,110],[116,114,117,101],[117,112],[118,97,114],[119,104,101,110],[119,104,101,114,101],[119,104,105,108,101],[121,105,101,108,100],[121,105,101,108,100,115]]
def jf:List Bs:=
 [[36],[40],[41],[42],[43],[44],[45],[46],[47],[58],[58,61],[59],[60],[60,61],[61],[63],[91],[93],[95],[123],[125]]
def qL (s:Bs):Nat:=(s.takeWhile part).length
def jz (s:Bs):Nat:=(s.takeWhile qD).length
def jw (s:Bs):Bool:=xA.contains s
def qg (s:Bs):Bool:=decide (0<s.length)&&decide (s.length<=12)&&jI (s.getD 0 0)&&decide (qL s=s.length)&& !jw s
def most:Bs:=[49,48,48,48,48,48,48,48,48,48]
def jm (s:Bs):Bool:=
 !(decide (s.length=0)||decide (10<s.length)||decide (jz s≠s.length)||(decide (1<s.length)&&decide (s.getD 0 0=48)))&&(decide (s.length<10)||decide (s=most))
def qG (s:Bs):Bool:=jf.contains s
def right (k:Nat) (s:Bs):Bool:=
 if k=1 then qg s else if k=2 then jw s else if k=3 then jm s else if k=4 then qG s else false
def first (s:Bs):Nat×Nat×Int:=
 if jI (s.getD 0 0) then (if jw (s.take (qL s)) then (2,qL s,0) else if 12<qL s then (0,0,12) else (1,qL s,0))
 else if qD (s.getD 0 0) then (if jm (s.take (jz s)) then (3,jz s,0) else (0,0,11))
 else if 1<s.length/\qG (s.take 2)=true then (4,2,0) else if qG (s.take 1) then (4,1,0) else (0,0,10)
def jr (s:Bs):Nat:=(s.takeWhile fun c=>decide (c≠10)).length
inductive Res where
 |bad (e line:Int)
 |ok (ts:List Tok) (cs:List Bs)
 deriving DecidableEq
def Res.add (out:List Tok) (com:List Bs):Res->Res
 | .bad e l=> .bad e l
 | .ok ts cs=> .ok (out++ts) (com++cs)
def yA:Nat->Bs->Int->Res
 |0,_,_=> .ok [] []
 |_+1,[],_=> .ok [] []
 |f+1,c::r,l=>
  if c=10 then yA f r (l+1)
  else if c=32\/c=9 then yA f r l
  else if c=37 then (yA f ((c::r).drop (jr (c::r))) l).add [] [(c::r).take (jr (c::r))]
  else if (first (c::r)).2.2≠0 then .bad (first (c::r)).2.2 l
  else (yA f ((c::r).drop (first (c::r)).2.1) l).add [⟨(first (c::r)).1,(c::r).take (first (c::r)).2.1,l⟩] []
def qK (s:Bs) (l:Int):Res:=yA s.length s l
def qp (s:Bs):Res:=if 20000<s.length then .bad 2 0 else qK s 1
def Res.toks:Res->List Tok| .ok ts _=>ts|_=>[]
def Res.coms:Res->List Bs| .ok _ cs=>cs|_=>[]
def Res.err:Res->Int| .bad e _=>e|_=>0
def Res.at:Res->Int| .bad _ l=>l|_=>0
def qob {s:Bs} (h:jI (s.getD 0 0)=true):0<qL s:=by
 cases s with
 |nil=>simp [jI] at h
 |cons c r=>
  have a:part c=true:=by simp [part];exact .inl (by simpa using h)
  simp [qL,List.takeWhile_cons,a]
def qJp {s:Bs} (h:qD (s.getD 0 0)=true):0<jz s:=by
 cases s with
 |nil=>simp [qD] at h
 |cons c r=>
  have a:qD c=true:=by simpa using h
  simp [jz,List.takeWhile_cons,a]
def qaf {α:Type} (p:α->Bool) (s:List α):(s.takeWhile p).length<=s.length:=(List.takeWhile_sublist p).length_le
def qaH {s:Bs} (h:(first s).2.2=0) (n:s≠[]):0<(first s).2.1/\(first s).2.1<=s.length:=by
 have t:0<s.length:=Jn.2 n;unfold first at h⊢
 split
 ·rename_i c;rw [if_pos c] at h;have b:=qob c;have a:qL s<=s.length:=qaf _ _;split
  ·exact ⟨b,a⟩
  ·rename_i m;rw [if_neg m] at h;split
   ·rename_i l;rw [if_pos l] at h;cases h
   ·exact ⟨b,a⟩
 ·rename_i c;rw [if_neg c] at h;split
  ·rename_i j;rw [if_pos j] at h;have b:=qJp j;have a:jz s<=s.length:=qaf _ _;split
   ·exact ⟨b,a⟩
   ·rename_i p;rw [if_neg p] at h;cases h
  ·rename_i j;rw [if_neg j] at h;split
   ·rename_i a;exact ⟨by simp,by simp;omega⟩
   ·rename_i a;rw [if_neg a] at h;split
    ·exact ⟨by simp,by simp;omega⟩
    ·rename_i b;rw [if_neg b] at h;cases h
def qgU (r:Bs):0<jr (37::r):=by simp [jr,List.takeWhile_cons]
def qwT (s:Bs):jr s<=s.length:=qaf _ _
theorem qb2:∀(f g:Nat) (s:Bs) (l:Int),s.length<=f->s.length<=g->yA f s l=yA g s l
 |0,g,s,l,a,_=>by
  have:s=[]:=uU.1 (by omega);subst this;cases g<;>rfl
 |f+1,0,s,l,_,b=>by
  have:s=[]:=uU.1 (by omega);subst this;rfl
 |f+1,g+1,[],l,_,_=>rfl
 |f+1,g+1,c::r,l,a,b=>by
  simp only [List.length_cons] at a b;unfold yA;split
  ·exact qb2 f g r _ (by omega) (by omega)
  ·split
   ·exact qb2 f g r _ (by omega) (by omega)
   ·split
    ·rename_i j;subst j;have h:=qgU r;rw [qb2 f g _ _ (by simp only [uR,List.length_cons];omega) (by simp only [uR,List.length_cons];omega)]
    ·split
     ·rfl
     ·rename_i m;have h:=qaH (s:=c::r) (by simpa using m) (by simp);rw [qb2 f g _ _ (by simp only [uR,List.length_cons];omega) (by simp only [uR,List.length_cons];omega)]
theorem qdh (l:Int):qK [] l=.ok [] []:=rfl
def Qp (c:UInt8) (r:Bs) (l:Int):qK (c::r) l=
  if c=10 then qK r (l+1)
  else if c=32\/c=9 then qK r l
  else if c=37 then (qK ((c::r).drop (jr (c::r))) l).add [] [(c::r).take (jr (c::r))]
  else if (first (c::r)).2.2≠0 then .bad (first (c::r)).2.2 l
  else (qK ((c::r).drop (first (c::r)).2.1) l).add [⟨(first (c::r)).1,(c::r).take (first (c::r)).2.1,l⟩] []:=by
 show yA (r.length+1) (c::r) l=_;rw [yA];split
 ·rfl
 ·split
  ·rfl
  ·split
   ·rename_i h;subst h;have a:=qgU r;rw [qK,qb2 r.length _ _ _ (by simp only [uR,List.length_cons];omega) (j1 _)]
   ·split
    ·rfl
    ·rename_i b;have a:=qaH (s:=c::r) (by simpa using b) (by simp);rw [qK,qb2 r.length _ _ _ (by simp only [uR,List.length_cons];omega) (j1 _)]
def Res.add_add (a b:List Tok) (c d:List Bs) (r:Res):(r.add b d).add a c=r.add (a++b) (c++d):=by
 cases r<;>simp [Res.add]
@[simp] theorem Res.add_nil (r:Res):r.add [] []=r:=by cases r<;>rfl
end Go.L01
namespace Go.L02
open Go.Eng
open Go.L01 (Bs Tok)
structure D where
 kind:Nat
 name:Bs:=[]
 vr:Bs:=[]
 typ:Bs:=[]
 n:Int:=0
 deriving DecidableEq
inductive T where
 |mk (d:D) (kids:List T)
def T.d:T->D| .mk d _=>d
def T.kids:T->List T| .mk _ ks=>ks
structure Nd where
 d:D
 kids:List Int
 deriving DecidableEq
mutual
def T.size:T->Nat| .mk _ ks=>sizes ks+1
def sizes:List T->Nat|[]=>0|t::ts=>t.size+sizes ts
end
def qt:Nat->List T->List Int
 |_,[]=>[]
 |b,t::ts=>((b:Int)+t.size - 1)::qt (b+t.size) ts
mutual
def T.flat:Nat->T->List Nd|b,.mk d ks=>flats b ks++[⟨d,qt b ks⟩]
def flats:Nat->List T->List Nd|_,[]=>[] |b,t::ts=>t.flat b++flats (b+t.size) ts
end
structure Sig where
 iter:Bool:=false
 args:List Bs:=[]
 result:Bs:=[]
 signals:List Bs:=[]
 deriving DecidableEq
structure Rout where
 name:Bs
 sig:Sig
 params:List Bs
 nodes:List Nd
 deriving DecidableEq
structure Need where
 op:Bs
 sig:Sig
 deriving DecidableEq
structure Opn where
 name:Bs
 sig:Sig:={}
 deriving DecidableEq
structure Face where
 name:Bs
 kind:Nat
 param:Bool
 needs:List Need
 ops:List Opn
 deriving DecidableEq
structure Mod where
 face:Face
 rep:Bs
 routs:List Rout
 deriving DecidableEq
inductive Rs (α:Type) where
 |ok (a:α) (i f:Nat)
 |no (f:Nat)
 |oof
def Rs.andThen {α β:Type} (r:Rs α) (k:α->Nat->Nat->Rs β):Rs β:=match r with| .ok a i f=>k a i f| .no f=> .no f| .oof=> .oof
abbrev M (α:Type):=Nat->Nat->Rs α
def ret {α:Type} (a:α):M α:=fun i f=> .ok a i f
def oof {α:Type}:M α:=fun _ _=> .oof
def qaJ {α:Type}:M α:=fun i f=> .no (max f i)
def bnd {α β:Type} (m:M α) (k:α->M β):M β:=fun i f=>(m i f).andThen k
def sq {α β:Type} (m:M α) (k:M β):M β:=bnd m fun _=>k
section
variable (L:List Tok)
def tk (i:Nat):Tok:=L.getD i ⟨0,[],0⟩
def qo (i:Nat) (ss:List Bs):Bool:=(decide ((tk L i).kind=2)||decide ((tk L i).kind=4))&&ss.contains (tk L i).text
def qm {α:Type} (s:Bs) (x y:M α):M α:=fun i f=>if qo L i [s] then x (i+1) f else y i f
def needs:List Bs->M Unit
 |[]=>ret ()
 |s::ss=>qm L s (needs ss) qaJ
def name:M Bs:=fun i f=>if (tk L i).kind=1 then .ok (tk L i).text (i+1) f else .no (max f i)
def param:M Unit:=fun i f=>if (tk L i).kind=1/\(tk L i).text=[116] then .ok () (i+1) f else .no (max f i)
def fin:M Unit:=fun i f=>if i<L.length then .no (max f i) else .ok () i f
def more {α:Type} (one:M α):Nat->M (List α)
 |0=>oof
 |n+1=>qm L [44] (bnd one fun x=>bnd (more one n) fun xs=>ret (x::xs)) (ret [])
def listed {α:Type} (n:Nat) (one:M α):M (List α):=bnd one fun x=>bnd (more L one n) fun xs=>ret (x::xs)
def xW {α:Type} (n:Nat) (one:M α):M (List α):=
 sq (needs L [[40]]) (qm L [41] (ret []) (bnd (listed L n one) fun xs=>sq (needs L [[41]]) (ret xs)))
def zi (k:M Unit):M Bs:=sq (name L) (sq (needs L [[58]]) (sq k (ret [])))
def kind:Nat->M Unit
 |0=>oof
 |n+1=>
  qm L [105,110,116] (ret ()) (qm L [98,111,111,108] (ret ()) (qm L [110,117,108,108] (ret ()) (qm L [97,114,114,97,121] (sq (needs L [[91]]) (sq (kind n) (needs L [[93]])))
  (qm L [114,101,99,111,114,100] (sq (needs L [[91]]) (sq (listed L n (zi L (kind n))) (needs L [[93]])))
  (qm L [111,110,101,111,102] (sq (needs L [[91]]) (sq (listed L n (zi L (kind n))) (needs L [[93]])))
  (qm L [63] (param L) (sq (name L) (qm L [91] (sq (kind n) (needs L [[93]])) (ret ())))))))))
def ja (l:List Tok):Bs:=(l.map (·.text)).flatten
def jW (i j:Nat):List Tok:=(L.take j).drop i
def xh (n:Nat):M Bs:=fun i f=>(kind L n i f).andThen fun _ j g=> .ok (ja (jW L i j)) j g
def jL:List Bs:=[[109,111,100],[97,110,100],[111,114],[110,111,116]]
def op:M Bs:=fun i f=>if (tk L i).kind=2/\jL.contains (tk L i).text then .ok (tk L i).text (i+1) f
 else (bnd (name L) fun s=>qm L [95] (bnd (name L) fun u=>ret (s++([95]++u))) (ret s)) i f
def jF (n:Nat):M Bs:=bnd (xh L n) fun s=>sq (needs L [[36]]) (ret s)
def jU:List Bs:=[[43],[45],[42],[47],[109,111,100],[60],[60,61],[61],[97,110,100],[111,114]]
def yW (s:Bs):Int:=s.foldl (fun n c=>10*n+((c.toNat:Int) - 48)) 0
def Qf (e:M T):M T:=fun i f=>
 (sq (needs L [[40]]) (bnd e fun t=>sq (needs L [[41]]) (ret (T.mk {kind:=if qo L i [[100,111,119,110]] then 10 else 9} [t])))) (i+1) f
def qb9 (e:M T):M T:=bnd e fun t=>sq (needs L [[41]]) (ret t)
def wM (n:Nat) (e:M T):M T:=bnd (name L) fun nm=>
 qm L [123] (bnd (xh L n) fun t=>sq (needs L [[125]]) (bnd (xW L n e) fun ks=>ret (T.mk {kind:=5,name:=nm,typ:=t} ks)))
  (bnd (xW L n e) fun ks=>ret (T.mk {kind:=5,name:=nm} ks))
def z7 (n:Nat) (e:M T) (o:Bs):M T:=bnd (op L) fun nm=>bnd (xW L n e) fun ks=>ret (T.mk {kind:=5,vr:=o,name:=nm} ks)
def qJX (n:Nat) (e:M T):M T:=fun i f=>
 if (tk L i).kind=1/\((tk L (i+1)).text=[40]\/(tk L (i+1)).text=[123]) then wM L n e i f else (bnd (jF L n) (z7 L n e)) i f
def vS {α:Type} (b:Bool) (m:M α):M (α×Bool):=bnd m fun x=>ret (x,b)
def xq (n:Nat) (e:M T):M (T×Bool):=fun i f=>
 if (tk L i).kind=1/\((tk L (i+1)).text=[40]\/(tk L (i+1)).text=[123]) then vS true (wM L n e) i f
 else if (tk L i).kind=1/\(tk L (i+1)).text=[91] then
  match jF L n i f with
  | .ok s j g=>vS true (z7 L n e s) j g
  | .no g=> .ok (T.mk {kind:=4,name:=(tk L i).text} [],false) (i+1) g
  | .oof=> .oof
 else if (tk L i).kind=1/\(tk L (i+1)).text≠[36] then .ok (T.mk {kind:=4,name:=(tk L i).text} [],false) (i+1) f
 else vS true (bnd (jF L n) (z7 L n e)) i f
def xi (n:Nat) (e:M T):M (T×Bool):=fun i f=>
 if (tk L i).kind=3 then .ok (T.mk {kind:=1,n:=yW (tk L i).text} [],false) (i+1) f
 else (qm L [116,114,117,101] (ret (T.mk {kind:=2,n:=1} [],false)) (qm L [102,97,108,115,101] (ret (T.mk {kind:=2} [],false)) (qm L [110,105,108] (ret (T.mk {kind:=3} [],false))
  fun i f=>if qo L i [[117,112],[100,111,119,110]] then vS false (Qf L e) i f else qm L [40] (vS false (qb9 L e)) (xq L n e) i f))) i f
def ya (e:M T):Nat->T->Nat->M (T×Nat)
 |0,_,_=>oof
 |n+1,t,fm=>qm L [91] (bnd e fun k=>sq (needs L [[93]]) (ya e n (T.mk {kind:=7} [t,k]) 2))
   (qm L [46] (bnd (name L) fun s=>ya e n (T.mk {kind:=8,name:=s} [t]) 3) (ret (t,fm)))
def wK (n:Nat) (e:M T):M (T×Nat):=bnd (xi L n e) fun p=>ya L e n p.1 (if p.2 then 1 else 0)
def wu (p:M (T×Nat)):M T:=
 qm L [110,111,116] (bnd p fun x=>ret (T.mk {kind:=6,name:=[110,111,116]} [x.1]))
  (bnd p fun x=>fun i f=>if qo L i jU then (bnd p fun y=>ret (T.mk {kind:=6,name:=(tk L i).text} [x.1,y.1])) (i+1) f else .ok x.1 i f)
def jj:Nat->M T
 |0=>oof
 |n+1=>wu L (wK L n (jj n))
def qxo (i:Nat):Bool:=decide ((tk L i).kind=1)||decide ((tk L i).kind=3)||
 qo L i [[116,114,117,101],[102,97,108,115,101],[110,105,108],[117,112],[100,111,119,110],[40],[110,111,116],[105,110,116],[98,111,111,108],[110,117,108,108],[97,114,114,97,121],[114,101,99,111,114,100],[111,110,101,111,102],[63]]
def qzx (i:Nat):Bool:=qo L i [[118,97,114],[112,117,116],[105,102],[119,104,105,108,101],[102,111,114],[114,101,116,117,114,110],[121,105,101,108,100],[115,105,103,110,97,108],[98,114,101,97,107],[98,101,103,105,110],[116,97,103,99,97,115,101]] ||(qxo L i&& !qo L i [[110,111,116]])
def qnt (s:M T):Nat->M (List T)
 |0=>oof
 |n+1=>qm L [59] (bnd s fun x=>bnd (qnt s n) fun xs=>ret (x::xs)) (ret [])
def qxl (n:Nat) (s:M T):M T:=fun i f=>
 if qzx L i then (bnd s fun x=>bnd (qnt L s n) fun xs=>ret (T.mk {kind:=20} (x::xs))) i f else .ok (T.mk {kind:=20} []) i f
def qlK (n:Nat):M (Bs×Bs):=bnd (name L) fun nm=>sq (needs L [[58]]) (bnd (xh L n) fun t=>ret (nm,t))
def qwQ (e b:M T):Nat->M T
 |0=>oof
 |n+1=>bnd e fun x=>sq (needs L [[116,104,101,110]]) (bnd b fun q=>
   qm L [101,108,115,101,105,102] (bnd (qwQ e b n) fun c=>ret (T.mk {kind:=26} [x,q,T.mk {kind:=20} [c]]))
    (qm L [101,108,115,101] (bnd b fun r=>sq (needs L [[101,110,100]]) (ret (T.mk {kind:=26} [x,q,r]))) (sq (needs L [[101,110,100]]) (ret (T.mk {kind:=26} [x,q])))))
def qv0 (b:M T):Nat->Bool->M (List T)
 |0,_=>oof
 |n+1,first=>fun i f=>if qo L i [[119,104,101,110]] ||first then
   (sq (needs L [[119,104,101,110]]) (qm L [111,116,104,101,114,115] (sq (needs L [[58]]) (bnd b fun q=>ret [T.mk {kind:=33} [q]]))
    (bnd (name L) fun s=>sq (needs L [[58]]) (bnd b fun q=>bnd (qv0 b n false) fun ws=>ret (T.mk {kind:=33,name:=s} [q]::ws))))) i f
  else .ok [] i f
def qIw (n:Nat) (b:M T):M T:=bnd b fun q=>sq (needs L [[101,120,99,101,112,116]]) (bnd (qv0 L b n true) fun ws=>sq (needs L [[101,110,100]]) (ret (T.mk {kind:=32} (q::ws))))
def qxD (k:Nat) (b:M T):Nat->Bool->M (List T)
 |0,_=>oof
 |n+1,first=>fun i f=>if qo L i [[116,97,103]] ||first then
   (sq (needs L [[116,97,103]]) (bnd (name L) fun s=>sq (needs L [[40]]) (bnd (name L) fun v=>sq (needs L [[58]]) (bnd (xh L k) fun t=>sq (needs L [[41],[58]])
    (bnd b fun q=>bnd (qxD k b n false) fun ws=>ret (T.mk {kind:=36,name:=s,vr:=v,typ:=t} [q]::ws)))))) i f
  else .ok [] i f
def qKD (n:Nat) (e b:M T):M T:=bnd e fun x=>bnd (qxD L n b n true) fun ws=>sq (needs L [[101,110,100]]) (ret (T.mk {kind:=35} (x::ws)))
def qya (n:Nat) (e:M T) (p:M (T×Nat)):M T:=fun i f=>
 if (tk L i).kind=1/\(tk L (i+1)).text=[58,61] then (bnd e fun x=>ret (T.mk {kind:=22,name:=(tk L i).text} [x])) (i+2) f
 else (bnd p fun x=>fun i f=>
  if x.2=1/\qo L i [[58,61]]=false then .ok (T.mk {kind:=25} [x.1]) i f
  else if x.2=2/\qo L i [[58,61]]=true then (bnd e fun y=>ret (T.mk {kind:=23} (x.1.kids++[y]))) (i+1) f
  else if x.2=3/\qo L i [[58,61]]=true then (bnd e fun y=>ret (T.mk {kind:=24,name:=x.1.d.name} (x.1.kids++[y]))) (i+1) f
  else .no (max f i)) i f
def qzw (n:Nat) (e:M T) (p:M (T×Nat)) (b:M T):M T:=
 qm L [118,97,114] (bnd (qlK L n) fun x=>sq (needs L [[58,61]]) (bnd e fun y=>ret (T.mk {kind:=21,name:=x.1,typ:=x.2} [y])))
 (qm L [112,117,116] (bnd e fun y=>ret (T.mk {kind:=37} [y]))
 (qm L [105,102] (qwQ L e b n)
 (qm L [119,104,105,108,101] (bnd e fun x=>sq (needs L [[100,111]]) (bnd b fun q=>sq (needs L [[101,110,100]]) (ret (T.mk {kind:=27} [x,q]))))
 (qm L [102,111,114] (bnd (qlK L n) fun x=>sq (needs L [[105,110]]) (bnd (qJX L n e) fun c=>sq (needs L [[100,111]]) (bnd b fun q=>sq (needs L [[101,110,100]]) (ret (T.mk {kind:=28,name:=x.1,typ:=x.2} [c,q])))))
 (qm L [114,101,116,117,114,110] (fun i f=>if qxo L i then (bnd e fun x=>ret (T.mk {kind:=29} [x])) i f else .ok (T.mk {kind:=29} []) i f)
 (qm L [121,105,101,108,100] (bnd e fun y=>ret (T.mk {kind:=30} [y]))
 (qm L [115,105,103,110,97,108] (bnd (name L) fun s=>ret (T.mk {kind:=31,name:=s} []))
 (qm L [98,114,101,97,107] (ret (T.mk {kind:=34} []))
 (qm L [98,101,103,105,110] (qIw L n b)
 (qm L [116,97,103,99,97,115,101] (qKD L n e b) (qya L n e p)))))))))))
def qnw:Nat->M T
 |0=>oof
 |n+1=>qzw L n (jj L n) (wK L n (jj L n)) (qxl L n (qnw n))
def block (n:Nat):M T:=qxl L n (qnw L n)
def signals (n:Nat):M (List Bs):=qm L [115,105,103,110,97,108,115] (sq (needs L [[40]]) (bnd (listed L n (name L)) fun l=>sq (needs L [[41]]) (ret l))) (ret [])
def qxn (n:Nat) (iter:Bool):M (Bs×List Bs):=
 if iter then sq (needs L [[121,105,101,108,100,115]]) (bnd (xh L n) fun t=>bnd (signals L n) fun l=>ret (t,l))
 else qm L [114,101,116,117,114,110,115] (bnd (xh L n) fun t=>bnd (signals L n) fun l=>ret (t,l)) (bnd (signals L n) fun l=>ret ([],l))
def qh8:M Bool:=qm L [105,116,101,114] (ret true) (sq (needs L [[112,114,111,99]]) (ret false))
def head (n:Nat) (iter:Bool):M (Sig×List Bs):=bnd (xW L n (qlK L n)) fun l=>bnd (qxn L n iter) fun b=>
 ret (⟨iter,l.map (·.2),b.1,b.2⟩,l.map (·.1))
def qxi (n:Nat):M (List Nd):=sq (needs L [[105,115]]) (bnd (block L n) fun t=>sq (needs L [[101,110,100]]) (ret (t.flat 0)))
def qDw (n:Nat):M Need:=bnd (name L) fun o=>sq (needs L [[58]]) (bnd (qh8 L) fun it=>bnd (xW L n (xh L n)) fun ws=>bnd (qxn L n it) fun b=>
 ret ⟨o,⟨it,ws,b.1,b.2⟩⟩)
def qmy (n:Nat):M (List Need):=qm L [119,104,101,114,101] (sq (param L) (sq (needs L [[104,97,115]]) (listed L n (qDw L n)))) (ret [])
def params:M Bool:=qm L [91] (sq (param L) (sq (needs L [[93]]) (ret true))) (ret false)
def qAG (n:Nat):M Rout:=bnd (qh8 L) fun it=>bnd (name L) fun nm=>bnd (head L n it) fun h=>bnd (qxi L n) fun l=>ret ⟨nm,h.1,h.2,l⟩
def routs (n:Nat):Nat->M (List Rout)
 |0=>oof
 |k+1=>bnd (qAG L n) fun r=>fun i f=>if qo L i [[112,114,111,99],[105,116,101,114]] then (bnd (routs n k) fun rs=>ret (r::rs)) i f else .ok [r] i f
def qpl (names:List Bs) (rs:List Rout):List Opn:=names.mapIdx fun i s=>⟨s,match rs[i]? with|some r=>r.sig|none=>{}⟩
def qJH (n:Nat):M Mod:=bnd (name L) fun nm=>bnd (params L) fun pr=>sq (needs L [[105,115]]) (bnd (listed L n (name L)) fun names=>bnd (qmy L n) fun ws=>
 sq (needs L [[114,101,112],[61]]) (bnd (xh L n) fun rep=>bnd (routs L n n) fun rs=>sq (needs L [[101,110,100]]) (ret ⟨⟨nm,3,pr,ws,qpl names rs⟩,rep,rs⟩)))
def qDc (n:Nat):M Mod:=qm L [99,108,117,115,116,101,114] (qJH L n) (bnd (qh8 L) fun it=>bnd (name L) fun nm=>bnd (params L) fun pr=>bnd (head L n it) fun h=>
 bnd (qmy L n) fun ws=>bnd (qxi L n) fun l=>ret ⟨⟨nm,if it then 2 else 1,pr,ws,[⟨nm,h.1⟩]⟩,[],[⟨nm,h.1,h.2,l⟩]⟩)
def qbo (at':Nat):Int:=if L.length=0 then 1 else (tk L (min at' (L.length - 1))).line
end
inductive Ro (α:Type) where
 |val (o:Option α) (i f:Nat)
 |oof
def Ro.andThen {α β:Type} (r:Ro α) (k:α->Nat->Nat->Ro β):Ro β:=match r with| .val (some a) i f=>k a i f| .val none i f=> .val none i f| .oof=> .oof
abbrev N (α:Type):=Nat->Nat->Ro α
def vU {α:Type} (a:α):N α:=fun i f=> .val (some a) i f
def qi6 {α:Type}:N α:=fun _ _=> .oof
def yj {α:Type}:N α:=fun i f=> .val none i f
def vd {α β:Type} (m:N α) (k:α->N β):N β:=fun i f=>(m i f).andThen k
section
variable (L:List Tok)
def qC (i k:Nat) (s:Bs):Bool:=decide (i<L.length)&&decide ((tk L i).kind=k)&&(decide (s=[])||decide ((tk L i).text=s))
def jN {α:Type} (k:Nat) (s:Bs) (x y:N α):N α:=fun i f=>if qC L i k s then x (i+1) f else y i (max f i)
def kS {α:Type} (s:Bs) (x:N α):N α:=jN L 4 s x yj
def yF {α:Type} (x:Bs->N α):N α:=fun i f=>if qC L i 1 [] then x (tk L i).text (i+1) f else .val none i (max f i)
def seen {α:Type} (k:Nat) (x:Bs->N α) (y:N α):List Bs->N α
 |[]=>y
 |s::ss=>jN L k s (x s) (seen k x y ss)
def kz (t:N Bs):Nat->N Bs
 |0=>qi6
 |n+1=>yF L fun nm=>kS L [58] (vd t fun u=>jN L 4 [44] (vd (kz t n) fun r=>vU (nm++[58]++u++[44]++r)) (vU (nm++[58]++u)))
def j9:Nat->N Bs
 |0=>qi6
 |n+1=>seen L 2 vU
  (jN L 2 [97,114,114,97,121] (kS L [91] (vd (j9 n) fun t=>kS L [93] (vU ([97,114,114,97,121,91]++t++[93]))))
  (seen L 2 (fun many=>kS L [91] (vd (kz L (j9 n) n) fun l=>kS L [93] (vU (many++[91]++l++[93]))))
  (jN L 4 [63] (jN L 1 [116] (vU [63,116]) yj)
  (yF L fun nm=>jN L 4 [91] (vd (j9 n) fun t=>kS L [93] (vU (nm++[91]++t++[93]))) (vU nm)))
  [[114,101,99,111,114,100],[111,110,101,111,102]])) [[105,110,116],[98,111,111,108],[110,117,108,108]]
def qa8:List Bs:=[[43],[45],[42],[47],[60],[60,61],[61]]
def qaY:List Bs:=[[109,111,100],[97,110,100],[111,114]]
end
end Go.L02
namespace Go.L01
open Go.Eng
def qBX {c:UInt8} (h:ke c=true):part c=false:=by
 simp only [ke,uk,kr] at h;rcases h with (rfl|rfl)|rfl<;>decide
def qJr {c:UInt8} (h:ke c=true):qD c=false:=by
 simp only [ke,uk,kr] at h;rcases h with (rfl|rfl)|rfl<;>decide
def qJq {c:UInt8} (h:qD c=true):part c=true:=by simp [part,h]
theorem qe1 {p:UInt8->Bool} {s r j:Bs} (h:((s++r).takeWhile p).length=s.length) (u:j=[]\/∃c x,j=c::x/\(p c=false\/∃y,r=c::y)):((s++j).takeWhile p).length=s.length:=by
 have a:∀x∈s,p x=true:=by
  have B:(s++r).takeWhile p=s:=by
   have n:=JE p (l:=s++r);have t:s<+:s++r:=List.prefix_append _ _;exact Zm n t (by omega)|>.eq_of_length h
  intro x E;have I:x∈(s++r).takeWhile p:=by rw [B];exact E
  exact um.1 (Ju (p:=p) (l:=s++r)) x I
 rw [JK a,kh];rw [JK a,kh] at h;have m:(r.takeWhile p)=[]:=uU.1 (by omega);rcases u with rfl|⟨c,x,rfl,A|⟨y,rfl⟩⟩
 ·simp
 ·simp [List.takeWhile_cons,A]
 ·have b:p c=false:=by
   cases z:p c with
   |false=>rfl
   |true=>rw [List.takeWhile_cons,z] at m;simp at m
  simp [List.takeWhile_cons,b]
def QX:∀s∈jf,(s.length=1\/s.length=2)/\jI (s.getD 0 0)=false/\qD (s.getD 0 0)=false/\(s.length=2->ke (s.getD 1 0)=false)/\(∀c∈s,c≠10/\c≠37/\c≠32/\c≠9):=by decide
def qer:∀s∈xA,jI (s.getD 0 0)=true/\qL s=s.length/\s≠[]:=by decide
theorem zC {k:Nat} {s:Bs} (h:right k s=true):s≠[]/\first s=(k,s.length,0):=by
 unfold right at h;split at h
 ·rename_i c;subst c;simp only [qg,j0,kr,uE] at h;obtain ⟨⟨⟨⟨j,n⟩,m⟩,t⟩,x⟩:=h;refine ⟨by rintro rfl;simp at j, ?_⟩;unfold first
  rw [if_pos m,t,Jx,x,if_neg (by simp),if_neg (by omega)]
 ·split at h
  ·rename_i c;subst c;obtain ⟨j,n,m⟩:=qer s (by simpa [jw] using h);refine ⟨m, ?_⟩;unfold first
   rw [if_pos j,n,Jx,if_pos h]
  ·split at h
   ·rename_i c;subst c;have y:=h;simp only [jm,j0,uE,yt,uS,Decidable.not_not] at h;obtain ⟨⟨⟨⟨j,n⟩,m⟩,t⟩,x⟩:=h;have u:s≠[]:=by rintro rfl;simp at j
    obtain ⟨a,s',rfl⟩:∃a s',s=a::s':=by cases s with|nil=>exact absurd rfl u|cons a s'=>exact ⟨a,s',rfl⟩
    have l:qD a=true:=by
     cases l:qD a with
     |true=>rfl
     |false=>simp [jz,List.takeWhile_cons,l] at m
    have p:jI a=false:=by
     simp only [qD,j0,kr] at l;simp only [jI,Jr,uS];omega
    refine ⟨u, ?_⟩;unfold first
    have g:(a::s').getD 0 0=a:=rfl;rw [g,if_neg (by rw [p];simp),if_pos l,m,Jx,if_pos y]
   ·split at h
    ·rename_i c;subst c;obtain ⟨b,p,l,_,_⟩:=QX s (by simpa [qG] using h);refine ⟨by rintro rfl;simp at b, ?_⟩;unfold first
     rw [if_neg (by rw [p];simp),if_neg (by rw [l];simp)];rcases b with j|n
     ·rw [if_neg (by omega),<-j,Jx,if_pos h]
     ·rw [<-n,Jx,if_pos ⟨by omega,h⟩]
    ·cases h
def qm4 {p:UInt8->Bool} (s:Bs):(s.take (s.takeWhile p).length)=s.takeWhile p:=by
 have h:=JE p (l:=s);exact (List.prefix_iff_eq_take.1 h).symm
theorem qyS {p:UInt8->Bool} (s:Bs):((s.takeWhile p).takeWhile p)=s.takeWhile p:=by
 induction s with
 |nil=>rfl
 |cons a s b=>
  by_cases h:p a=true
  ·simp [List.takeWhile_cons,h,b]
  ·simp [List.takeWhile_cons,h]
def qlc {s:Bs} (E:s≠[]) (h:(first s).2.2=0):right (first s).1 (s.take (first s).2.1)=true/\((first s).1=1\/(first s).1=2\/(first s).1=3\/(first s).1=4):=by
 obtain ⟨a,t,rfl⟩:∃a t,s=a::t:=by cases s with|nil=>exact absurd rfl E|cons a t=>exact ⟨a,t,rfl⟩
 have g:(a::t).getD 0 0=a:=rfl;unfold first at h⊢
 rw [g] at h⊢;by_cases l:jI a=true
 ·rw [if_pos l] at h⊢;have z:0<qL (a::t):=qob (by rw [g];exact l);have x:(a::t).take (qL (a::t))=(a::t).takeWhile part:=qm4 _;by_cases j:jw ((a::t).take (qL (a::t)))=true
  ·rw [if_pos j];exact ⟨by simpa [right] using j,by simp⟩
  ·rw [if_neg j] at h⊢;by_cases b:12<qL (a::t)
   ·rw [if_pos b] at h;cases h
   ·rw [if_neg b];refine ⟨?_,by simp⟩;simp only [right,kk,qg,j0,kr,uE];have A:qL (a::t)<=(a::t).length:=qaf _ _;have c:((a::t).take (qL (a::t))).length=qL (a::t):=by rw [uF];omega
    refine ⟨⟨⟨⟨by omega,by omega⟩, ?_⟩, ?_⟩,by simpa using j⟩
    ·obtain ⟨m,B⟩:∃m,qL (a::t)=m+1:=⟨qL (a::t) - 1,by omega⟩;rw [B];simpa using l
    ·rw [c,x];show ((List.takeWhile part (a::t)).takeWhile part).length=_;rw [qyS];rfl
 ·rw [if_neg l] at h⊢;by_cases y:qD a=true
  ·rw [if_pos y] at h⊢;by_cases n:jm ((a::t).take (jz (a::t)))=true
   ·rw [if_pos n];exact ⟨by simpa [right] using n,by simp⟩
   ·rw [if_neg n] at h;cases h
  ·rw [if_neg y] at h⊢;by_cases p:1<(a::t).length/\qG ((a::t).take 2)=true
   ·rw [if_pos p];exact ⟨by simpa [right] using p.2,by simp⟩
   ·rw [if_neg p] at h⊢;by_cases u:qG ((a::t).take 1)=true
    ·rw [if_pos u];exact ⟨by simpa [right] using u,by simp⟩
    ·rw [if_neg u] at h;cases h
def qam {k:Nat} {s:Bs} (h:right k s=true):∀c∈s,c≠10/\c≠37/\c≠32/\c≠9:=by
 have n:∀c:UInt8,part c=true->c≠10/\c≠37/\c≠32/\c≠9:=by
  intro c a;refine ⟨?_, ?_, ?_, ?_⟩<;>rintro rfl<;>revert a<;>decide
 have b:qL s=s.length->∀c∈s,part c=true:=by
  intro u c a;have j:=JE part (l:=s);have m:=j.eq_of_length u;exact um.1 (Ju (p:=part) (l:=s)) c (by rw [m];exact a)
 unfold right at h;split at h
 ·simp only [qg,j0,kr] at h;exact fun c a=>n c (b h.1.2 c a)
 ·split at h
  ·obtain ⟨_,j,_⟩:=qer s (by simpa [jw] using h);exact fun c a=>n c (b j c a)
  ·split at h
   ·simp only [jm,j0,uE,yt,uS,Decidable.not_not] at h;obtain ⟨⟨⟨⟨x,j⟩,m⟩,z⟩,y⟩:=h;have t:=(JE qD (l:=s)).eq_of_length m;exact fun c a=>n c (qJq (um.1 (Ju (p:=qD) (l:=s)) c (by rw [t];exact a)))
   ·split at h
    ·exact (QX s (by simpa [qG] using h)).2.2.2.2
    ·cases h
def qdg {k:Nat} {s r:Bs} {l:Int} (b:s≠[]) (h:first (s++r)=(k,s.length,0)) (j:∀c∈s,c≠10/\c≠37/\c≠32/\c≠9):qK (s++r) l=(qK r l).add [⟨k,s,l⟩] []:=by
 obtain ⟨a,t,rfl⟩:∃a t,s=a::t:=by cases s with|nil=>exact absurd rfl b|cons a t=>exact ⟨a,t,rfl⟩
 obtain ⟨m,b2,b3,b4⟩:=j a (by simp);rw [List.cons_append] at h⊢;rw [Qp,if_neg m,if_neg (by rintro (h|h)<;>contradiction),if_neg b2,h];rw [if_neg (by simp)];have e:a::(t++r)=(a::t)++r:=rfl;simp only [e];rw [JR,Vl]
def qnS {P:Bs->Int->Prop} (I:∀l,P [] l) (Y:∀r l,P r (l+1)->P (10::r) l) (R:∀c r l,(c=32\/c=9)->P r l->P (c::r) l)
  (S:∀a r l,(∀c∈a,c≠10)->(r=[]\/∃x,r=10::x)->P r l->P (37::a++r) l)
  (Z:∀c r l,c≠10->c≠32->c≠9->c≠37->(first (c::r)).2.2≠0->P (c::r) l)
  (h5:∀k s r l,right k s=true->first (s++r)=(k,s.length,0)->P r l->P (s++r) l):∀s l,P s l:=by
 have key:∀n,∀s:Bs,s.length<=n->∀l,P s l:=by
  intro n
  induction n with
  |zero=>
   intro s E l;have:s=[]:=uU.1 (by omega);subst this;exact I l
  |succ n t=>
   intro s E l;cases s with
   |nil=>exact I l
   |cons c r=>
    simp only [List.length_cons] at E;by_cases J:c=10
    ·subst J;exact Y r l (t r (by omega) _)
    ·by_cases u:c=32\/c=9
     ·exact R c r l u (t r (by omega) _)
     ·by_cases B:c=37
      ·subst B;have O:r=r.takeWhile (fun c=>decide (c≠10))++r.dropWhile (fun c=>decide (c≠10)):=List.takeWhile_append_dropWhile.symm;have z:(r.dropWhile (fun c=>decide (c≠10))).length<=r.length:=(List.dropWhile_sublist _).length_le;have h:=S (r.takeWhile (fun c=>decide (c≠10))) (r.dropWhile (fun c=>decide (c≠10))) l (fun c X=>by
        have:=um.1 (Ju (p:=fun c=>decide (c≠10)) (l:=r)) c X;simpa using this) ?_ (t _ (by omega) _)
       ·rw [List.cons_append,<-O] at h;exact h
       ·cases A:r.dropWhile (fun c=>decide (c≠10)) with
        |nil=>exact .inl rfl
        |cons x y=>
         refine .inr ⟨y, ?_⟩;have:=List.head_dropWhile_not (p:=fun c=>decide (c≠10)) (l:=r) (by rw [A];simp);simp only [A,List.head_cons] at this;rw [show x=10 by simpa using this]
      ·by_cases m:(first (c::r)).2.2=0
       ·obtain ⟨W,_⟩:=qlc (s:=c::r) (by simp) m;obtain ⟨hp,z⟩:=qaH (s:=c::r) m (by simp);have b:(c::r)=(c::r).take (first (c::r)).2.1++(c::r).drop (first (c::r)).2.1:=(Jw _ _).symm;have j:((c::r).take (first (c::r)).2.1).length=(first (c::r)).2.1:=by rw [uF];omega
        have h:=h5 (first (c::r)).1 ((c::r).take (first (c::r)).2.1) ((c::r).drop (first (c::r)).2.1) l W (by rw [<-b,j,<-m]) (t _ (by simp only [uR,List.length_cons];omega) _);rw [<-b] at h;exact h
       ·exact Z c r l J (fun h=>u (.inl h)) (fun h=>u (.inr h)) B m
 exact fun s l=>key s.length s (j1 _) l
def qb4 (r:Bs) (l:Int):qK (10::r) l=qK r (l+1):=by rw [Qp,if_pos rfl]
def qb3 {c:UInt8} (r:Bs) (l:Int) (h:c=32\/c=9):qK (c::r) l=qK r l:=by
 rw [Qp,if_neg (by rcases h with rfl|rfl<;>decide),if_pos h]
def qJG {a r:Bs} (h:∀c∈a,c≠10) (j:r=[]\/∃x,r=10::x):jr (37::a++r)=(37::a).length:=by
 unfold jr;rw [JK (fun c b=>by
  rcases wh.1 b with rfl|b
  ·decide
  ·simpa using h c b)]
 rcases j with rfl|⟨x,rfl⟩<;>simp
def qnU {a r:Bs} (l:Int) (b:∀c∈a,c≠10) (j:r=[]\/∃x,r=10::x):qK (37::a++r) l=(qK r l).add [] [37::a]:=by
 have h:=qJG b j;rw [List.cons_append] at h⊢;rw [Qp,if_neg (by decide),if_neg (by decide),if_pos rfl,h];have e:(37:UInt8)::(a++r)=(37::a)++r:=rfl;simp only [e];rw [JR,Vl]
def qnT {c:UInt8} {r:Bs} (l:Int) (a:c≠10) (m:c≠32) (j:c≠9) (b:c≠37) (h:(first (c::r)).2.2≠0):qK (c::r) l=.bad (first (c::r)).2.2 l:=by
 rw [Qp,if_neg a,if_neg (by rintro (h|h)<;>contradiction),if_neg b,if_pos h]
end Go.L01
namespace Go.L02
open Go.Eng
open Go.L01 (Bs Tok jm jw qG qg right)
def xe (L:List Tok):Prop:=∀t∈L,right t.kind t.text=true
def qen {β:Type} (f:Nat) (D:Nat->Nat->Prop):Ro β->Prop
 | .oof=>True
 | .val none _ g=>f=g
 | .val (some _) j g=>f=max g j/\D f j
def vA {α β:Type} (i:Nat) (D:Nat->Nat->Prop) (V:Nat->α->β->Prop) (r:Rs α):Ro β->Prop
 | .oof=>True
 | .val o j' g=>match r with
  | .oof=>True
  | .no f=>i<=f/\qen f D (.val o j' g)
  | .ok a j f=>∃b,o=some b/\j'=j/\i<=j/\max f j=max g j/\V j a b
section
variable {α β γ δ:Type} {i:Nat} {D D':Nat->Nat->Prop} {V:Nat->α->β->Prop} {U:Nat->γ->δ->Prop}
theorem vA.lower {r:Rs α} {s:Ro β} {k:Nat} (h:vA i D V r s) (c:k<=i):vA k D V r s:=by
 cases s with
 |oof=>trivial
 |val o t g=>cases r with
  |oof=>trivial
  |no f=>exact ⟨Nat.le_trans c h.1,h.2⟩
  |ok a j f=>obtain ⟨b,n,l,m,p⟩:=h;exact ⟨b,n,l,Nat.le_trans c m,p⟩
theorem vA.no {f:Nat} {s:Ro β} (a:i<=f) (h:qen f D s):vA i D V (.no f:Rs α) s:=by
 cases s with
 |oof=>trivial
 |val o j g=>exact ⟨a,h⟩
theorem vA.soof {s:Ro β}:vA i D V (.oof:Rs α) s:=by cases s<;>trivial
theorem QW {a:α} {b:β} {f g:Nat} (h:max f i=max g i) (c:V i a b):vA i D V (ret a i f) (vU b i g):=⟨b,rfl,rfl,j1 _,h,c⟩
theorem qnH {f g:Nat} (b:max f i=max g i) (a:i<=g):vA i D V (qaJ i f) (yj i g:Ro β):=⟨JL _ _,by show max f i=g;omega⟩
theorem qdc {m:M α} {c:N β} {k:α->M γ} {n:β->N δ} {f g:Nat} (h:vA i D V (m i f) (c i g))
  (z:∀j a b f g,i<=j->max f j=max g j->V j a b->vA j D' U (k a j f) (n b j g))
  (x:∀j b f g,f=max g j->D f j->qen f D' (n b j g)):vA i D' U (bnd m k i f) (vd c n i g):=by
 unfold bnd vd;cases y:c i g with
 |oof=>trivial
 |val o A t=>
  rw [y] at h;cases u:m i f with
  |oof=>exact .soof
  |no l=>
   rw [u] at h;refine .no h.1 ?_;cases o with
   |none=>exact h.2
   |some b=>exact x A b l t h.2.1 h.2.2
  |ok a j l=>
   rw [u] at h;obtain ⟨b,rfl,rfl,p,B,E⟩:=h;exact (z _ a b l t p B E).lower p
end
section
variable {L:List Tok}
theorem kR {i:Nat} (h:i<L.length):tk L i=L[i]:=by simp [tk,h]
theorem wZ {i:Nat} (h:L.length<=i):tk L i=⟨0,[],0⟩:=by simp [tk,h]
theorem xe.tk (b:xe L) {i:Nat} (h:(tk L i).kind≠0):i<L.length/\right (tk L i).kind (tk L i).text=true:=by
 by_cases a:i<L.length
 ·exact ⟨a,by rw [kR a];exact b _ (wz a)⟩
 ·rw [wZ (by omega)] at h;exact absurd rfl h
theorem qp1 {k m:Nat} {s:Bs} (h:right k s=true) (g:right m s=true):k=m:=by
 have:=(L01.zC h).2;rw [(L01.zC g).2] at this;cases this;rfl
theorem qqy (c:xe L) {i k:Nat} {s:Bs} (l:right k s=true):qC L i k s=decide ((tk L i).text=s):=by
 have a:=(L01.zC l).1;unfold qC;simp only [a,Vp,uj];by_cases h:(tk L i).text=s
 ·have b:(tk L i).kind≠0:=by
   intro b;by_cases j:i<L.length
   ·have:=c _ (wz j);rw [<-kR j,b] at this;simp [right] at this
   ·rw [wZ (by omega)] at h;exact a h.symm
  obtain ⟨n,m⟩:=c.tk b;rw [h] at m;simp [n,h,qp1 m l]
 ·simp [h]
theorem qEk (b:xe L) {i k:Nat} {s:Bs} (l:right k s=true) (p:k=2\/k=4):qo L i [s]=decide ((tk L i).text=s):=by
 rw [<-qqy b l];have a:=(L01.zC l).1;unfold qo qC;by_cases h:(tk L i).text=s
 ·have c:(tk L i).kind≠0:=by
   intro c;by_cases m:i<L.length
   ·have:=b _ (wz m);rw [<-kR m,c] at this;simp [right] at this
   ·rw [wZ (by omega)] at h;exact a h.symm
  obtain ⟨t,n⟩:=b.tk c;rw [h] at n;have j:=qp1 n l;rcases p with rfl|rfl<;>simp [h,t,j,a]
 ·have:¬s=(tk L i).text:=fun e=>h e.symm;simp [h,a]
theorem qqv (a:xe L) {i k:Nat} {s:Bs} (b:right k s=true) (c:k=2\/k=4):qo L i [s]=qC L i k s:=by rw [qEk a b c,qqy a b]
end
section
variable {L:List Tok} {α β:Type} {i f g:Nat} {D:Nat->Nat->Prop} {V:Nat->α->β->Prop}
theorem QV (b:xe L) (k:Nat) {s:Bs} {x y:M α} {x' a:N β} (l:right k s=true) (c:k=2\/k=4) (n:max f i=max g i)
  (m:∀f g,qC L i k s=true->max f (i+1)=max g (i+1)->vA (i+1) D V (x (i+1) f) (x' (i+1) g)) (j:∀g,qC L i k s=false->i<=g->max f i=max g i->vA i D V (y i f) (a i g)):
  vA i D V (qm L s x y i f) (jN L k s x' a i g):=by
 unfold qm jN;rw [qqv b l c];split
 ·rename_i h;exact (m f g h (by omega)).lower (by omega)
 ·rename_i h;exact j _ (by simpa using h) (JL _ _) (by omega)
theorem qb1 (a:xe L) (k:Nat) {s:Bs} {m:Unit->M α} {x':N β} (c:right k s=true) (b:k=2\/k=4) (l:max f i=max g i)
  (j:∀f g,qC L i k s=true->max f (i+1)=max g (i+1)->vA (i+1) D V (m () (i+1) f) (x' (i+1) g)):vA i D V (bnd (needs L [s]) m i f) (jN L k s x' yj i g):=by
 unfold bnd needs qm jN;rw [qqv a c b];split
 ·rename_i h;exact (j f g h (by omega)).lower (by omega)
 ·exact qnH (by omega) (JL _ _)
theorem qnF (b:xe L) {k:Bs->M α} {a:Bs->N β} (j:max f i=max g i)
  (c:∀f g,(tk L i).kind=1->max f (i+1)=max g (i+1)->vA (i+1) D V (k (tk L i).text (i+1) f) (a (tk L i).text (i+1) g)):vA i D V (bnd (name L) k i f) (yF L a i g):=by
 unfold bnd name yF qC;by_cases h:(tk L i).kind=1
 ·have:=(b.tk (i:=i) (by omega)).1;simp only [h,kk,Rs.andThen,this,y4,ud,uv];exact (c f g h (by omega)).lower (by omega)
 ·simp only [h,km,Rs.andThen,Vp,Va,Bool.and_false];exact ⟨JL _ _,by show max f i=max g i;omega⟩
theorem qEp (a:xe L):qC L i 1 [116]=(decide ((tk L i).kind=1)&&decide ((tk L i).text=[116])):=by
 unfold qC;by_cases h:(tk L i).kind=1
 ·simp [h,(a.tk (i:=i) (by omega)).1]
 ·simp [h]
theorem qfV {k:Nat} {s:Bs} (h:qC L i k s=true) (a:s≠[]):i<L.length/\(tk L i).kind=k/\(tk L i).text=s:=by
 simpa [qC,a,and_assoc] using h
end
def wv {α β γ:Type} (m:M α) (k:α->M β) (l:β->M γ):bnd (bnd m k) l=bnd m fun x=>bnd (k x) l:=by
 funext i f;unfold bnd;cases m i f<;>rfl
theorem y9 {α β:Type} (a:α) (k:α->M β):bnd (ret a) k=k a:=rfl
def yR {α:Type} (m:M α):(bnd m fun x=>ret x)=m:=by
 funext i f;unfold bnd ret;cases m i f<;>rfl
def qeK {α β:Type} {L:List Tok} (s:Bs) (x y:M α) (k:α->M β):bnd (qm L s x y) k=qm L s (bnd x k) (bnd y k):=by
 funext i f;unfold bnd qm;split<;>rfl
section
variable {L:List Tok}
theorem wP {i j k:Nat} (b:i<=j) (c:j<=k):ja (jW L i k)=ja (jW L i j)++ja (jW L j k):=by
 unfold ja jW;rw [<-List.flatten_append,<-uP];congr 2;have e:L.take k=L.take j++(L.take k).drop j:=by
  have:=Jw j (L.take k);rw [Vm,J1 c] at this;exact this.symm
 conv=>lhs;rw [e]
 rw [JQ];congr 1;by_cases a:j<=L.length
 ·rw [uF,J1 a,Nat.sub_eq_zero_of_le b];rfl
 ·have:(L.take k).drop j=[]:=uY (by simp;omega);rw [this];simp
theorem qdR (i:Nat):ja (jW L i (i+1))=(tk L i).text:=by
 unfold ja jW;by_cases h:i<L.length
 ·rw [uG h,JQ,uY (by simp;omega)];have:i - (L.take i).length=0:=by simp;omega
  rw [this,kR h];simp
 ·rw [wZ (by omega),uY (by simp;omega)];rfl
abbrev QI:Nat->Nat->Prop:=fun _ _=>False
abbrev TxV (L:List Tok) (i:Nat) {α:Type}:Nat->α->Bs->Prop:=fun j _ s=>s=ja (jW L i j)
theorem wD {i:Nat} {k:Nat} {s:Bs} (h:qC L i k s=true) (a:s≠[]):s=ja (jW L i (i+1)):=by rw [qdR];exact (qfV h a).2.2.symm
theorem qnG {k:M Unit} {t:N Bs} (l:xe L) (y:∀i f g,max f i=max g i->vA i QI (TxV L i) (k i f) (t i g)):∀n m i f g,max f i=max g i->vA i QI (TxV L i) (listed L n (zi L k) i f) (kz L t m i g)
 |n,0,i,f,g,b=>trivial
 |n,m+1,i,f,g,b=>by
  have e:listed L n (zi L k)=bnd (name L) fun _=>bnd (needs L [[58]]) fun _=>bnd k fun _=>bnd (more L (zi L k) n) fun xs=>ret ([]::xs):=by
   simp only [listed,zi,sq,wv,y9]
  rw [e];show vA i QI _ _ (yF L (fun nm=>kS L [58] (vd t fun u=>jN L 4 [44] (vd (kz L t m) fun r=>vU (nm++[58]++u++[44]++r)) (vU (nm++[58]++u)))) i g);refine qnF l b fun f g J b=>?_;refine qb1 l 4 (by decide) (.inr rfl) b fun f g z b=>?_;refine qdc (y _ _ _ b) (fun j a u f g I b E=>?_) (fun _ _ _ _ _ h=>h.elim);have c:(tk L i).text++[58]++u=ja (jW L i j):=by
   rw [wP (j:=i+1) (by omega) (by omega),qdR,wP (i:=i+1) (j:=i+1+1) (by omega) (by omega),<-wD z (by decide),E];simp
  cases n with
  |zero=>exact .soof
  |succ n=>
   show vA j QI _ (bnd (qm L [44] (listed L n (zi L k)) (ret [])) (fun xs=>ret ([]::xs)) j f) _;rw [qeK];refine QV l 4 (by decide) (.inr rfl) b (fun f g x b=>?_) (fun g x _ b=>?_)
   ·refine qdc (qnG l y n m _ _ _ b) (fun B O r f g A b p=>?_) (fun _ _ _ _ _ h=>h.elim);refine QW b ?_;show _++_++_++_++r=ja (jW L i B);rw [wP (j:=j) (by omega) (by omega),wP (i:=j) (j:=j+1) (by omega) (by omega),<-wD x (by decide),c,p];simp
   ·exact QW b c
theorem qdb (c:xe L):∀n m i f g,max f i=max g i->vA i QI (TxV L i) (kind L n i f) (j9 L m i g)
 |0,m,i,f,g,b=> .soof
 |n+1,0,i,f,g,b=>trivial
 |n+1,m+1,i,f,g,b=>by
  have p:∀(w:Bs) (f g:Nat),qC L i 2 w=true->w≠[]->max f (i+1)=max g (i+1)->vA (i+1) QI (TxV L i) (sq (needs L [[91]]) (sq (listed L n (zi L (kind L n))) (needs L [[93]])) (i+1) f)
    (kS L [91] (vd (kz L (j9 L m) m) fun l=>kS L [93] (vU (w++[91]++l++[93]))) (i+1) g):=by
   intro w f g B z b;refine qb1 c 4 (by decide) (.inr rfl) b fun f g t b=>?_;refine qdc (qnG c (qdb c n m) _ _ _ _ _ b) (fun j a l f g A b x=>?_) (fun _ _ _ _ _ h=>h.elim);show vA _ _ _ (needs L [[93]] j f) _;rw [<-yR (needs L [[93]])];refine qb1 c 4 (by decide) (.inr rfl) b fun f g u b=>?_;refine QW b ?_;show _=ja (jW L i (j+1));rw [wP (j:=i+1) (by omega) (by omega),<-wD B z,wP (i:=i+1) (j:=i+1+1) (by omega) (by omega),<-wD t (by decide),wP (i:=i+1+1) (j:=j) (by omega) (by omega),<-wD u (by decide),x];simp
  show vA i QI _ (qm L [105,110,116] _ _ i f) (jN L 2 [105,110,116] (vU [105,110,116]) (jN L 2 [98,111,111,108] (vU [98,111,111,108]) (jN L 2 [110,117,108,108] (vU [110,117,108,108]) _)) i g);refine QV c 2 (by decide) (.inl rfl) b (fun f g h b=>QW b (wD h (by decide))) (fun g _ _ b=>?_);refine QV c 2 (by decide) (.inl rfl) b (fun f g h b=>QW b (wD h (by decide))) (fun g _ _ b=>?_);refine QV c 2 (by decide) (.inl rfl) b (fun f g h b=>QW b (wD h (by decide))) (fun g _ _ b=>?_);refine QV c 2 (by decide) (.inl rfl) b (fun f g y b=>?_) (fun g _ _ b=>?_)
  ·refine qb1 c 4 (by decide) (.inr rfl) b fun f g t b=>?_;refine qdc (qdb c n m _ _ _ b) (fun j a l f g A b x=>?_) (fun _ _ _ _ _ h=>h.elim);show vA _ _ _ (needs L [[93]] j f) _;rw [<-yR (needs L [[93]])];refine qb1 c 4 (by decide) (.inr rfl) b fun f g u b=>?_;refine QW b ?_;show _=ja (jW L i (j+1));rw [wP (j:=i+1) (by omega) (by omega),<-wD y (by decide),wP (i:=i+1) (j:=i+1+1) (by omega) (by omega),<-wD t (by decide),wP (i:=i+1+1) (j:=j) (by omega) (by omega),<-wD u (by decide),x];simp
  show vA i QI _ _ (jN L 2 [114,101,99,111,114,100] _ (jN L 2 [111,110,101,111,102] _ _) i g);refine QV c 2 (by decide) (.inl rfl) b (fun f g h b=>p _ f g h (by decide) b) (fun g _ _ b=>?_);refine QV c 2 (by decide) (.inl rfl) b (fun f g h b=>p _ f g h (by decide) b) (fun g _ _ b=>?_);refine QV c 4 (by decide) (.inr rfl) b (fun f g y b=>?_) (fun g _ _ b=>?_)
  ·rw [<-yR (param L)];unfold bnd param jN;rw [qEp c];by_cases h:(tk L (i+1)).kind=1/\(tk L (i+1)).text=[116]
   ·simp only [h,and_self,kk,Rs.andThen,y4,Bool.and_self];refine ⟨_,rfl,rfl,by omega,by omega, ?_⟩;show _=ja (jW L i (i+1+1));rw [wP (j:=i+1) (by omega) (by omega),<-wD y (by decide),qdR,h.2];rfl
   ·rw [if_neg h,if_neg (by simpa using h)];exact qnH (i:=i+1) (f:=f) (by omega) (JL _ _)
  ·refine qnF c b fun f g y b=>?_;refine QV c 4 (by decide) (.inr rfl) b (fun f g t b=>?_) (fun g _ _ b=>?_)
   ·refine qdc (qdb c n m _ _ _ b) (fun j a l f g A b x=>?_) (fun _ _ _ _ _ h=>h.elim);show vA _ _ _ (needs L [[93]] j f) _;rw [<-yR (needs L [[93]])];refine qb1 c 4 (by decide) (.inr rfl) b fun f g u b=>?_;refine QW b ?_;show _=ja (jW L i (j+1));rw [wP (j:=i+1) (by omega) (by omega),qdR,wP (i:=i+1) (j:=i+1+1) (by omega) (by omega),<-wD t (by decide),wP (i:=i+1+1) (j:=j) (by omega) (by omega),<-wD u (by decide),x];simp
   ·exact QW b (qdR i).symm
end
section
variable {L:List Tok}
theorem qop {α:Type} {k:Nat} {s:Bs} {x y:N α} {i g:Nat} (h:qC L i k s=true):jN L k s x y i g=x (i+1) g:=by unfold jN;rw [h];rfl
theorem qoq {α:Type} {k:Nat} {s:Bs} {x y:N α} {i g:Nat} (h:qC L i k s=false):jN L k s x y i g=y i (max g i):=by unfold jN;rw [h];rfl
theorem qEo {i k m:Nat} {s t:Bs} (h:qC L i k s=true) (n:s≠[]) (l:t≠[]) (a:¬(k=m/\s=t)):qC L i m t=false:=by
 obtain ⟨_,j,p⟩:=qfV h n;cases c:qC L i m t with
 |false=>rfl
 |true=>
  obtain ⟨_,b,u⟩:=qfV c l;exact absurd ⟨j.symm.trans b,p.symm.trans u⟩ a
def qxX {α:Type} (m:M α):Prop:=∀i,(∃a k,∀f,m i f=.ok a k f)\/(∃p,∀f,m i f=.no (max f p))\/∀f,m i f=.oof
theorem qxX.all {α:Type} {m:M α} (h:qxX m) {i k f n:Nat} {a:α} (j:m i f=.ok a k n):n=f/\∀g,m i g=.ok a k g:=by
 rcases h i with ⟨b,l,c⟩|⟨p,c⟩|c
 ·rw [c] at j;cases j;exact ⟨rfl,c⟩
 ·rw [c] at j;cases j
 ·rw [c] at j;cases j
def Up {α:Type} (m:M α):Prop:=∀i f,match m i f with| .ok _ j f'=>i<=j/\f<=f'| .no f'=>i<=f'/\f<=f'| .oof=>True
theorem Up.ok {α:Type} {m:M α} (h:Up m) {i f j b:Nat} {a:α} (e:m i f=.ok a j b):i<=j/\f<=b:=by have:=h i f;rw [e] at this;exact this
theorem Up.no {α:Type} {m:M α} (h:Up m) {i f a:Nat} (e:m i f=.no a):i<=a/\f<=a:=by have:=h i f;rw [e] at this;exact this
theorem vC {α:Type} (a:α):Up (ret a):=fun i f=>⟨j1 _,j1 _⟩
theorem qeu {α:Type}:Up (oof:M α):=fun i f=>trivial
theorem qyu {α:Type}:Up (qaJ:M α):=fun i f=>⟨JL _ _,Nat.le_max_left _ _⟩
theorem js {α β:Type} {m:M α} {k:α->M β} (p:Up m) (n:∀a,Up (k a)):Up (bnd m k):=by
 intro i f;unfold bnd;cases h:m i f with
 |oof=>trivial
 |no t=>exact p.no h
 |ok a j t=>
  obtain ⟨A,z⟩:=p.ok h;simp only [Rs.andThen];cases c:k a j t with
  |oof=>trivial
  |no x=>obtain ⟨u,y⟩:=(n a).no c;exact ⟨by omega,by omega⟩
  |ok b l x=>obtain ⟨u,y⟩:=(n a).ok c;exact ⟨by omega,by omega⟩
theorem qhB {α:Type} {x:M α} (b:Up x) (i f n:Nat):match x (i+n) f with| .ok _ j a=>i<=j/\f<=a| .no a=>i<=a/\f<=a| .oof=>True:=by
 have:=b (i+n) f;split<;>rename_i h<;>rw [h] at this
 ·exact ⟨by omega,this.2⟩
 ·exact ⟨by omega,this.2⟩
 ·trivial
theorem xB {α:Type} {s:Bs} {x y:M α} (a:Up x) (b:Up y):Up (qm L s x y):=by
 intro i f;unfold qm;cases h:qo L i [s] with
 |true=>exact qhB a i f 1
 |false=>exact b i f
theorem vo:∀ss:List Bs,Up (needs L ss)
 |[]=>vC _
 |s::ss=>xB (vo ss) qyu
theorem wB:Up (name L):=by
 intro i f;unfold name;by_cases h:(tk L i).kind=1
 ·simp only [h,kk];exact ⟨by omega,j1 _⟩
 ·simp only [h,km];exact ⟨by omega,by omega⟩
theorem qyq:Up (param L):=by
 intro i f;unfold param;by_cases h:(tk L i).kind=1/\(tk L i).text=[116]
 ·rw [if_pos h];exact ⟨by omega,j1 _⟩
 ·rw [if_neg h];exact ⟨by omega,by omega⟩
theorem qev {α:Type} {m:M α} (h:Up m):∀n,Up (more L m n)
 |0=>qeu
 |n+1=>xB (js h fun _=>js (qev h n) fun _=>vC _) (vC _)
theorem qew {α:Type} {m:M α} (h:Up m) (n:Nat):Up (listed L n m):=js h fun _=>js (qev h n) fun _=>vC _
theorem Qg:∀n,Up (kind L n)
 |0=>qeu
 |n+1=>by
  have a:=Qg n;have b:Up (sq (needs L [[91]]) (sq (listed L n (zi L (kind L n))) (needs L [[93]]))):=js (vo _) fun _=>js
   (qew (js wB fun _=>js (vo _) fun _=>js a fun _=>vC _) n) fun _=>vo _
  exact xB (vC _) (xB (vC _) (xB (vC _) (xB (js (vo _) fun _=>js a fun _=>vo _)
   (xB b (xB b (xB qyq (js wB fun _=>xB (js a fun _=>vo _) (vC _))))))))
def qhh {α:Type} (k g:Nat):Ro α->Prop
 | .oof=>True
 | .val none _ g'=>g'=g
 | .val (some _) k' g'=>k'=k/\g'=g
theorem qhh.bnd {α β:Type} {k g l i b:Nat} {m:N α} {x:α->N β} (h:qhh k g (m i b)) (c:∀a,qhh l g (x a k g)):qhh l g (vd m x i b):=by
 unfold vd;cases n:m i b with
 |oof=>trivial
 |val o j p=>
  rw [n] at h;cases o with
  |none=>exact h
  |some a=>obtain ⟨rfl,rfl⟩:=h;exact c a
end
section
variable {L:List Tok}
abbrev D1 (L:List Tok):Nat->Nat->Prop:=fun _ j=>qC L j 4 [36]=true\/qC L j 4 [40]=true\/qC L j 4 [123]=true
theorem D1.no {f j:Nat} (h:D1 L f j) {k:Nat} {s:Bs} (b:s≠[]) (a:[[36],[40],[123]].contains s=false):qC L j k s=false:=by
 rcases h with h|h|h<;>exact qEo h (by decide) b (by rintro ⟨_,rfl⟩;revert a;decide)
theorem D1.kind {f j:Nat} (h:D1 L f j):(tk L j).kind=4:=by
 rcases h with h|h|h<;>exact (qfV h (by decide)).2.1
theorem jq {α β:Type} {m:M α} {k:α->M β} {i f j b:Nat} {a:α} (h:m i f=.ok a j b):bnd m k i f=k a j b:=by unfold bnd;rw [h];rfl
theorem qDx {i f:Nat} (h:(tk L i).kind=1):name L i f=.ok (tk L i).text (i+1) f:=by unfold name;rw [if_pos h]
theorem qC4 {i f:Nat} (h:(tk L i).kind=2) (a:jL.contains (tk L i).text=true):op L i f=.ok (tk L i).text (i+1) f:=by unfold op;rw [if_pos ⟨h,a⟩]
theorem qC5 {α:Type} {k:Bs->M α} {i f:Nat} (h:¬((tk L i).kind=2/\jL.contains (tk L i).text=true)):bnd (op L) k i f=
  bnd (name L) (fun s=>qm L [95] (bnd (name L) fun u=>k (s++([95]++u))) (k s)) i f:=by
 have a:(bnd (name L) fun s=>qm L [95] (bnd (name L) fun u=>k (s++([95]++u))) (k s))=
   bnd (bnd (name L) fun s=>qm L [95] (bnd (name L) fun u=>ret (s++([95]++u))) (ret s)) k:=by
  simp only [wv,qeK,y9]
 rw [a];show Rs.andThen (op L i f) _=Rs.andThen _ _;unfold op;rw [if_neg h]
theorem qbR (n:Nat):Up (xh L n):=by
 intro i f;have:=Qg (L:=L) n i f;unfold xh;cases h:kind L n i f<;>rw [h] at this<;>exact this
theorem qyr:Up (op L):=by
 intro i f;unfold op;by_cases h:(tk L i).kind=2/\jL.contains (tk L i).text=true
 ·rw [if_pos h];exact ⟨by omega,j1 _⟩
 ·rw [if_neg h];exact (js wB fun _=>xB (js wB fun _=>vC _) (vC _)) i f
theorem qad (n:Nat):Up (jF L n):=js (qbR n) fun _=>js (vo _) fun _=>vC _
theorem qbS {α:Type} {e:M α} (a:Up e) (n:Nat):Up (xW L n e):=js (vo _) fun _=>xB (vC _) (js (qew a n) fun _=>js (vo _) fun _=>vC _)
theorem qmF {e:M T} (a:Up e) (n:Nat):Up (wM L n e):=js wB fun _=>xB (js (qbR n) fun _=>js (vo _) fun _=>js (qbS a n) fun _=>vC _) (js (qbS a n) fun _=>vC _)
theorem qhA {e:M T} (a:Up e) (n:Nat) (o:Bs):Up (z7 L n e o):=js qyr fun _=>js (qbS a n) fun _=>vC _
theorem qmE {e:M T} (a:Up e) (n:Nat):Up (bnd (jF L n) (z7 L n e)):=js (qad n) fun _=>qhA a n _
theorem qcW {α:Type} {b:Bool} {m:M α} (h:Up m):Up (vS b m):=js h fun _=>vC _
theorem qys {e:M T} (c:Up e) (n:Nat):Up (xq L n e):=by
 intro i f;unfold xq;by_cases h:(tk L i).kind=1/\((tk L (i+1)).text=[40]\/(tk L (i+1)).text=[123])
 ·rw [if_pos h];exact qcW (qmF c n) i f
 ·rw [if_neg h];by_cases l:(tk L i).kind=1/\(tk L (i+1)).text=[91]
  ·rw [if_pos l];have:=qad (L:=L) n i f;cases m:jF L n i f with
   |oof=>trivial
   |no g=>rw [m] at this;exact ⟨by omega,this.2⟩
   |ok s j g=>
    rw [m] at this;have a:=qcW (b:=true) (qhA (L:=L) c n s) j g;simp only;cases p:vS true (z7 L n e s) j g<;>rw [p] at a<;>first|trivial|exact ⟨by omega,by omega⟩
  ·rw [if_neg l];by_cases a:(tk L i).kind=1/\(tk L (i+1)).text≠[36]
   ·rw [if_pos a];exact ⟨by omega,j1 _⟩
   ·rw [if_neg a];exact qcW (qmE c n) i f
theorem qyp {e:M T} (a:Up e):Up (Qf L e):=fun i f=>qhB (js (vo _) fun _=>js a fun _=>js (vo _) fun _=>vC _) i f 1
theorem qmD {e:M T} (a:Up e):Up (qb9 L e):=js a fun _=>js (vo _) fun _=>vC _
theorem qmG {α:Type} {m x:M α} {i f:Nat} (e:m i f=x i f) (h:Up x):match m i f with| .ok _ j a=>i<=j/\f<=a| .no a=>i<=a/\f<=a| .oof=>True:=by rw [e];exact h i f
theorem qyt {α:Type} {c:Nat->Bool} {x y:M α} (a:Up x) (b:Up y):Up (fun i f=>if c i then x i f else y i f):=by
 intro i f;by_cases h:c i=true
 ·exact qmG (m:=fun i f=>if c i then x i f else y i f) (x:=x) (if_pos h) a
 ·exact qmG (m:=fun i f=>if c i then x i f else y i f) (x:=y) (if_neg h) b
theorem qmB {e:M T} (a:Up e) (n:Nat):Up (xi L n e):=by
 intro i f;unfold xi;by_cases h:(tk L i).kind=3
 ·rw [if_pos h];exact ⟨by omega,j1 _⟩
 ·rw [if_neg h];exact (xB (vC _) (xB (vC _) (xB (vC _) (qyt (c:=fun i=>qo L i [[117,112],[100,111,119,110]]) (qcW (qyp a)) (xB (qcW (qmD a)) (qys a n)))))) i f
theorem qhz {e:M T} (a:Up e):∀n t b,Up (ya L e n t b)
 |0,_,_=>qeu
 |n+1,t,b=>xB (js a fun _=>js (vo _) fun _=>qhz a n _ _) (xB (js wB fun _=>qhz a n _ _) (vC _))
theorem qmC {e:M T} (a:Up e) (n:Nat):Up (wK L n e):=js (qmB a n) fun _=>qhz a n _ _
theorem qyv {p:M (T×Nat)} (a:Up p):Up (wu L p):=xB (js a fun _=>vC _) (js a fun x=>by
 intro i f;by_cases h:qo L i jU=true
 ·simp only [if_pos h];exact qhB (js a fun _=>vC _) i f 1
 ·simp only [if_neg h];exact ⟨j1 _,j1 _⟩)
theorem qex:∀n,Up (jj L n)
 |0=>qeu
 |n+1=>qyv (qmC (qex n) n)
end
section
variable {L:List Tok}
theorem qxk {α β:Type} {m:N α} {k:α->N β} {i g j a:Nat} (h:m i g=.val none j a):vd m k i g=.val none j a:=by unfold vd;rw [h];rfl
theorem qxj {α β:Type} {m:N α} {k:α->N β} {i g j a:Nat} {x:α} (h:m i g=.val (some x) j a):vd m k i g=k x j a:=by unfold vd;rw [h];rfl
theorem qKt {α β:Type} {m:N α} {k:α->N β} {i g:Nat} (h:m i g=.oof):vd m k i g=.oof:=by unfold vd;rw [h];rfl
theorem xx {α β:Type} {m:M α} {k:α->M β} {i f a:Nat} (h:m i f=.no a):bnd m k i f=.no a:=by unfold bnd;rw [h];rfl
theorem kM {α β:Type} {m:M α} {k:α->M β} {i f:Nat} (h:m i f=.oof):bnd m k i f=.oof:=by unfold bnd;rw [h];rfl
end
section
variable {L:List Tok}
def D2 (L:List Tok):Nat->Nat->Prop:=fun _ j=>qC L j 4 [59]=false/\∀s∈[[101,110,100],[101,108,115,101,105,102],[101,108,115,101],[101,120,99,101,112,116],[119,104,101,110],[116,97,103]],qC L j 2 s=false
theorem D2.far {f a j:Nat} (h:D2 L f j):D2 L a j:=h
def RU {α:Type} (m:N α):Prop:=∀i g,match m i g with| .val _ j g'=>i<=j/\g<=g'| .oof=>True
theorem RU.val {α:Type} {m:N α} (h:RU m) {i g j a:Nat} {o:Option α} (e:m i g=.val o j a):i<=j/\g<=a:=by have:=h i g;rw [e] at this;exact this
theorem qak {α:Type} (a:α):RU (vU a):=fun i g=>⟨j1 _,j1 _⟩
theorem qbb {α:Type}:RU (yj:N α):=fun i g=>⟨j1 _,j1 _⟩
theorem qoc {α:Type}:RU (qi6:N α):=fun i g=>trivial
theorem qdi {α β:Type} {m:N α} {k:α->N β} (t:RU m) (n:∀a,RU (k a)):RU (vd m k):=by
 intro i g;cases h:m i g with
 |oof=>rw [qKt h];trivial
 |val o j c=>
  have p:=t.val h;cases o with
  |none=>rw [qxk h];exact p
  |some a=>
   rw [qxj h];cases b:k a j c with
   |oof=>trivial
   |val o l u=>have:=(n a).val b;exact ⟨by omega,by omega⟩
theorem yC {α:Type} {k:Nat} {s:Bs} {x y:N α} (l:RU x) (b:RU y):RU (jN L k s x y):=by
 intro i g;cases a:qC L i k s with
 |true=>
  rw [qop a];cases h:x (i+1) g with
  |oof=>trivial
  |val o j c=>have:=l.val h;exact ⟨by omega,this.2⟩
 |false=>
  rw [qoq a];cases h:y i (max g i) with
  |oof=>trivial
  |val o j c=>have:=b.val h;exact ⟨this.1,by omega⟩
theorem qod {α:Type} {x:Bs->N α} (a:∀s,RU (x s)):RU (yF L x):=by
 intro i g;unfold yF;cases c:qC L i 1 [] with
 |true=>
  simp only [kk];cases h:x (tk L i).text (i+1) g with
  |oof=>trivial
  |val o j b=>have:=(a _).val h;exact ⟨by omega,this.2⟩
 |false=>exact ⟨j1 _,by omega⟩
theorem qix {α:Type} {k:Nat} {x:Bs->N α} {y:N α} (b:∀s,RU (x s)) (a:RU y):∀ss,RU (seen L k x y ss)
 |[]=>a
 |s::ss=>yC (b s) (qix b a ss)
theorem qe6 {t:N Bs} (a:RU t):∀n,RU (kz L t n)
 |0=>qoc
 |n+1=>qod fun _=>yC (qdi a fun _=>yC (qdi (qe6 a n) fun _=>qak _) (qak _)) qbb
theorem qba:∀n,RU (j9 L n)
 |0=>qoc
 |n+1=>qix (fun _=>qak _) (yC (yC (qdi (qba n) fun _=>yC (qak _) qbb) qbb)
  (qix (fun _=>yC (qdi (qe6 (qba n) n) fun _=>yC (qak _) qbb) qbb)
   (yC (yC (qak _) qbb) (qod fun _=>yC (qdi (qba n) fun _=>yC (qak _) qbb) (qak _))) _)) _
end
section
variable {L:List Tok}
theorem D2.w {F j:Nat} (h:D2 L F j) {s:Bs} (a:[[101,110,100],[101,108,115,101,105,102],[101,108,115,101],[101,120,99,101,112,116],[119,104,101,110],[116,97,103]].contains s=true):qC L j 2 s=false:=h.2 s (by simpa using a)
end
section
variable {L:List Tok}
def jp {α:Type} (L:List Tok) (N:Nat) (m:M α):Prop:=∀i f,L.length - i<N->m i f≠ .oof
def Con {α:Type} (L:List Tok) (m:M α):Prop:=∀i f a j f',m i f=.ok a j f'->i<j/\i<L.length
theorem jp.mono {α:Type} {N K:Nat} {m:M α} (h:jp L N m) (a:K<=N):jp L K m:=fun i f b=>h i f (by omega)
theorem vT {α:Type} (a:α) (N:Nat):jp L N (ret a):=fun i f _ h=>by cases h
theorem qyK {α:Type} (N:Nat):jp L N (qaJ:M α):=fun i f _ h=>by cases h
theorem qeF {α:Type} (m:M α):jp L 0 m:=fun i f h=>by omega
theorem jM {α β:Type} {N:Nat} {m:M α} {k:α->M β} (p:jp L N m) (n:Up m) (c:∀a,jp L N (k a)):jp L N (bnd m k):=by
 intro i f l;cases h:m i f with
 |oof=>exact absurd h (p i f l)
 |no b=>rw [xx h];simp
 |ok a j b=>rw [jq h];exact c a j b (by have:=(n.ok h).1;omega)
theorem qeI {α β:Type} {N:Nat} {m:M α} {k:α->M β} (p:jp L N m) (n:Con L m) (c:∀a,jp L (N - 1) (k a)):jp L N (bnd m k):=by
 intro i f l;cases h:m i f with
 |oof=>exact absurd h (p i f l)
 |no b=>rw [xx h];simp
 |ok a j b=>rw [jq h];exact c a j b (by have:=n _ _ _ _ _ h;omega)
theorem wQ {i:Nat} {ss:List Bs} (h:qo L i ss=true):i<L.length:=by
 by_cases a:i<L.length
 ·exact a
 ·unfold qo at h;rw [wZ (by omega)] at h;simp at h
theorem Qw {i:Nat} {k:Nat} (h:(tk L i).kind=k) (a:k≠0):i<L.length:=by
 by_cases b:i<L.length
 ·exact b
 ·rw [wZ (by omega)] at h;exact absurd h.symm a
theorem xM {α:Type} {N:Nat} {s:Bs} {x y:M α} (b:jp L (N - 1) x) (c:jp L N y):jp L N (qm L s x y):=by
 intro i f a;unfold qm;split
 ·rename_i h;have:=wQ h;exact b _ _ (by omega)
 ·exact c _ _ a
theorem wi (N:Nat):∀ss:List Bs,jp L N (needs L ss)
 |[]=>vT _ _
 |s::ss=>xM (wi (N - 1) ss) (qyK _)
theorem qcE {s:Bs}:Con L (needs L [s]):=by
 intro i f a j c h;unfold needs qm at h;split at h
 ·rename_i b;simp only [needs,ret,Rs.ok.injEq] at h;have:=wQ b;omega
 ·cases h
theorem qbU (N:Nat):jp L N (name L):=by
 intro i f _ h;unfold name at h;split at h<;>cases h
theorem qcF:Con L (name L):=by
 intro i f a j c h;unfold name at h;split at h
 ·rename_i b;simp only [Rs.ok.injEq] at h;have:=Qw b (by decide);omega
 ·cases h
theorem qyF (N:Nat):jp L N (param L):=by
 intro i f _ h;unfold param at h;split at h<;>cases h
theorem qJC {α β:Type} {m:M α} {k:α->M β} (t:Con L m) (p:∀a,Up (k a)):Con L (bnd m k):=by
 intro i f a j y h;cases c:m i f with
 |oof=>rw [kM c] at h;cases h
 |no u=>rw [xx c] at h;cases h
 |ok b l u=>
  rw [jq c] at h;have n:=t _ _ _ _ _ c;have x:=((p b).ok h).1;exact ⟨by omega,n.2⟩
theorem qmU {α:Type} {e:M α} (a:Up e):∀n N,N<=n->jp L (N - 1) e->jp L N (more L e n)
 |0,N,h,_=>by
  obtain rfl:N=0:=by omega
  exact qeF _
 |n+1,N,h,b=>xM (jM b a fun _=>jM (qmU a n (N - 1) (by omega) (b.mono (by omega))) (qev a n) fun _=>vT _ _) (vT _ _)
theorem qmV {α:Type} {e:M α} (a:Up e) {n N:Nat} (h:N<=n) (b:jp L N e):jp L N (listed L n e):=jM b a fun _=>jM (qmU a n N h (b.mono (by omega))) (qev a n) fun _=>vT _ _
theorem qhJ {α:Type} {e:M α} (a:Up e) {n N:Nat} (h:N<=n) (b:jp L (N - 1) e):jp L N (xW L n e):=
 qeI (wi _ _) qcE fun _=>xM (vT _ _) (jM (qmV a (by omega) b) (qew a n) fun _=>jM (wi _ _) (vo _) fun _=>vT _ _)
theorem qcX {k:M Unit} (h:Up k):Up (zi L k):=js wB fun _=>js (vo _) fun _=>js h fun _=>vC _
theorem qeH:∀n,jp L n (kind L n)
 |0=>qeF _
 |n+1=>by
  have b:=qeH n;have a:=Qg (L:=L) n;have h:jp L n (zi L (kind L n)):=jM (qbU _) wB fun _=>jM (wi _ _) (vo _) fun _=>jM b a fun _=>vT _ _;have c:jp L n (sq (needs L [[91]]) (sq (listed L n (zi L (kind L n))) (needs L [[93]]))):=jM (wi _ _) (vo _) fun _=>jM (qmV (qcX a) (j1 _) h) (qew (qcX a) n) fun _=>wi _ _;exact xM (vT _ _) (xM (vT _ _) (xM (vT _ _) (xM (jM (wi _ _) (vo _) fun _=>jM b a fun _=>wi _ _)
   (xM c (xM c (xM (qyF _) (qeI (qbU _) qcF fun _=>xM (jM (b.mono (by omega)) a fun _=>wi _ _) (vT _ _))))))))
theorem qmS (n:Nat):jp L n (xh L n):=by
 intro i f c h;unfold xh at h;cases b:kind L n i f with
 |oof=>exact qeH n i f c b
 |no l=>rw [b] at h;cases h
 |ok a j l=>rw [b] at h;cases h
theorem qhI (n:Nat):jp L n (jF L n):=jM (qmS n) (qbR n) fun _=>jM (wi _ _) (vo _) fun _=>vT _ _
theorem qyH (N:Nat):jp L N (op L):=by
 intro i f a;unfold op;split
 ·simp
 ·exact (jM (qbU N) wB fun _=>xM (jM (qbU _) wB fun _=>vT _ _) (vT _ _)) i f a
theorem qlP:Con L (op L):=by
 intro i f a j c h;unfold op at h;split at h
 ·rename_i b;simp only [Rs.ok.injEq] at h;have:=Qw b.1 (by decide);omega
 ·exact qJC qcF (fun _=>xB (js wB fun _=>vC _) (vC _)) _ _ _ _ _ h
theorem qyJ {e:M T} (a:Up e) {n N:Nat} (h:N<=n) (b:jp L (N - 1) e):jp L N (wM L n e):=qeI (qbU _) qcF fun _=>
 xM (jM ((qmS n).mono (by omega)) (qbR n) fun _=>jM (wi _ _) (vo _) fun _=>jM (qhJ a (by omega) (b.mono (by omega))) (qbS a n) fun _=>vT _ _)
  (jM (qhJ a (by omega) (b.mono (by omega))) (qbS a n) fun _=>vT _ _)
theorem qmT {e:M T} (a:Up e) {n N:Nat} (h:N<=n) (b:jp L (N - 1) e) (o:Bs):jp L N (z7 L n e o):=qeI (qyH _) qlP fun _=>jM (qhJ a (by omega) (b.mono (by omega))) (qbS a n) fun _=>vT _ _
theorem qyG {e:M T} (a:Up e) {n N:Nat} (h:N<=n) (b:jp L (N - 1) e):jp L N (bnd (jF L n) (z7 L n e)):=jM ((qhI n).mono h) (qad n) fun _=>qmT a h b _
theorem qeG {α:Type} {b:Bool} {m:M α} {N:Nat} (h:jp L N m) (a:Up m):jp L N (vS b m):=jM h a fun _=>vT _ _
theorem qyI {e:M T} (a:Up e) {n:Nat} (c:jp L (n - 1) e):jp L n (xq L n e):=by
 intro i f b;unfold xq;split
 ·exact qeG (qyJ a (j1 _) c) (qmF a n) i f b
 ·split
  ·cases h:jF L n i f with
   |oof=>exact absurd h (qhI n i f b)
   |no g=>simp
   |ok s j g=>exact qeG (qmT a (j1 _) c s) (qhA a n s) j g (by have:=((qad n).ok h).1;omega)
  ·split
   ·simp
   ·exact qeG (qyG a (j1 _) c) (qmE a n) i f b
theorem qyD {e:M T} (a:Up e) {n:Nat} (c:jp L (n - 1) e):jp L n (xi L n e):=by
 intro i f b;unfold xi;split
 ·simp
 ·refine xM (N:=n) (vT _ _) (xM (vT _ _) (xM (vT _ _) ?_)) i f b;intro i f b;show ite _ _ _≠_;split
  ·rename_i h;have:=wQ h;have j:vS false (Qf L e) i f=bnd (needs L [[40]]) (fun _=>bnd e fun t=>bnd (needs L [[41]]) fun _=>ret (T.mk {kind:=if qo L i [[100,111,119,110]] then 10 else 9} [t],false)) (i+1) f:=by
    show bnd (bnd _ _) _ (i+1) f=_;simp only [sq,wv,y9]
   rw [j];exact jM (N:=n - 1) (wi _ _) (vo _) (fun _=>jM c a fun _=>jM (wi _ _) (vo _) fun _=>vT _ _) _ _ (by omega)
  ·exact xM (qeG (jM c a fun _=>jM (wi _ _) (vo _) fun _=>vT _ _) (qmD a)) (qyI a c) i f b
theorem qhH {e:M T} (a:Up e):∀n N t b,N<=n->jp L (N - 1) e->jp L N (ya L e n t b)
 |0,N,t,b,h,_=>by
  obtain rfl:N=0:=by omega
  exact qeF _
 |n+1,N,t,b,h,c=>xM (jM c a fun _=>jM (wi _ _) (vo _) fun _=>qhH a n _ _ _ (by omega) (c.mono (by omega)))
   (xM (jM (qbU _) wB fun _=>qhH a n _ _ _ (by omega) (c.mono (by omega))) (vT _ _))
theorem qyE {e:M T} (a:Up e) {n:Nat} (b:jp L (n - 1) e):jp L n (wK L n e):=jM (qyD a b) (qmB a n) fun _=>qhH a n n _ _ (j1 _) b
theorem qyL {p:M (T×Nat)} (a:Up p) {N:Nat} (b:jp L N p):jp L N (wu L p):=by
 refine xM (jM (b.mono (by omega)) a fun _=>vT _ _) (jM b a fun x=>?_);intro i f h;show ite _ _ _≠_;split
 ·rename_i c;have:=wQ c;exact jM (N:=N) b a (fun _=>vT _ _) _ _ (by omega)
 ·simp
theorem qmW:∀n,jp L (n - 1) (jj L n)
 |0=>qeF _
 |n+1=>qyL (qmC (qex n) n) (qyE (qex n) (qmW n))
end
section
variable {L:List Tok}
theorem qlg {n:Nat} (h:L.length+3<=n) (f:Nat):jj L n 0 f≠ .oof:=qmW n 0 f (by omega)
theorem qp2 {n:Nat} (h:L.length+3<=n) (f:Nat):kind L n 0 f≠ .oof:=qeH n 0 f (by omega)
def xY {α:Type} (L:List Tok) (N:Nat) (m:Go.L02.N α):Prop:=∀i g,L.length - i<N->m i g≠ .oof
theorem xY.mono {α:Type} {N K:Nat} {m:Go.L02.N α} (h:xY L N m) (a:K<=N):xY L K m:=fun i g b=>h i g (by omega)
theorem qae {α:Type} (a:α) (N:Nat):xY L N (vU a):=fun i g _ h=>by cases h
theorem qa0 {α:Type} (N:Nat):xY L N (yj:Go.L02.N α):=fun i g _ h=>by cases h
theorem qmX {α:Type} (m:N α):xY L 0 m:=fun i g h=>by omega
theorem qcY {α β:Type} {N:Nat} {m:Go.L02.N α} {k:α->Go.L02.N β} (p:xY L N m) (c:RU m) (l:∀a,xY L N (k a)):xY L N (vd m k):=by
 intro i g n;cases h:m i g with
 |oof=>exact absurd h (p i g n)
 |val o j b=>
  cases o with
  |none=>rw [qxk h];simp
  |some a=>rw [qxj h];exact l a j b (by have:=(c.val h).1;omega)
theorem qaD {i k:Nat} {s:Bs} (h:qC L i k s=true):i<L.length:=by
 unfold qC at h;simp only [j0,kr] at h;exact h.1.1
theorem yv {α:Type} {N k:Nat} {s:Bs} {x y:Go.L02.N α} (c:xY L (N - 1) x) (b:xY L N y):xY L N (jN L k s x y):=by
 intro i g a;cases h:qC L i k s with
 |true=>rw [qop h];have:=qaD h;exact c _ _ (by omega)
 |false=>rw [qoq h];exact b _ _ a
theorem qmY {α:Type} {N:Nat} {x:Bs->Go.L02.N α} (a:∀s,xY L (N - 1) (x s)):xY L N (yF L x):=by
 intro i g b;unfold yF;split
 ·rename_i h;have:=qaD h;exact a _ _ _ (by omega)
 ·simp
theorem qhK {α:Type} {N k:Nat} {x:Bs->Go.L02.N α} {y:Go.L02.N α} (b:∀s,xY L (N - 1) (x s)) (a:xY L N y):∀ss,xY L N (seen L k x y ss)
 |[]=>a
 |s::ss=>yv (b s) (qhK b a ss)
theorem qmZ {t:N Bs} (a:RU t):∀n N,N<=n->xY L (N - 1) t->xY L N (kz L t n)
 |0,N,h,_=>by
  obtain rfl:N=0:=by omega
  exact qmX _
 |n+1,N,h,b=>qmY fun _=>yv (qcY (b.mono (by omega)) a fun _=>yv (qcY (qmZ a n _ (by omega) (b.mono (by omega))) (qe6 a n) fun _=>qae _ _) (qae _ _)) (qa0 _)
theorem qeJ:∀n,xY L n (j9 L n)
 |0=>qmX _
 |n+1=>qhK (fun _=>qae _ _) (yv (yv (qcY ((qeJ n).mono (by omega)) (qba n) fun _=>yv (qae _ _) (qa0 _)) (qa0 _))
  (qhK (fun _=>yv (qcY (qmZ (qba n) n _ (by omega) ((qeJ n).mono (by omega))) (qe6 (qba n) n) fun _=>yv (qae _ _) (qa0 _)) (qa0 _))
   (yv (yv (qae _ _) (qa0 _)) (qmY fun _=>yv (qcY ((qeJ n).mono (by omega)) (qba n) fun _=>yv (qae _ _) (qa0 _)) (qae _ _))) _)) _
theorem qmM {n:Nat} (h:L.length+3<=n) (g:Nat):j9 L n 0 g≠ .oof:=qeJ n 0 g (by omega)
end
end Go.L02
namespace Go.L01
open Go.Eng
set_option maxRecDepth 100000
def yL:Int->List Tok->Prop
 |_,[]=>True
 |last,t::ts=>last<=t.line/\right t.kind t.text=true/\yL t.line ts
def yL.mono {a b:Int} {c:List Tok} (h:yL b c) (j:a<=b):yL a c:=by
 cases c with
 |nil=>trivial
 |cons t c=>exact ⟨Int.le_trans j h.1,h.2.1,h.2.2⟩
def yL.right {a:Int}:∀{c:List Tok},yL a c->∀t∈c,L01.right t.kind t.text=true/\a<=t.line
 |[],_,t,b=>by simp at b
 |x::xs,h,t,b=>by
  rcases wh.1 b with rfl|b
  ·exact ⟨h.2.1,h.1⟩
  ·have:=yL.right (h.2.2.mono h.1) t b;exact this
def yL.at {a:Int}:∀{c:List Tok},yL a c->∀i (b:i+1<c.length),c[i].line<=c[i+1].line
 |[],_,i,b=>by simp at b
 |[x],_,i,b=>by simp at b
 |x::y::xs,h,0,b=>h.2.2.1
 |x::y::xs,h,i+1,b=>by
  have:=yL.at h.2.2 i (by simpa using b);simpa using this
def qzA (s:Bs) (l:Int):yL l (qK s l).toks/\∀t∈(qK s l).toks,t.line<=l+s.length:=by
 refine qnS (P:=fun s l=>yL l (qK s l).toks/\∀t∈(qK s l).toks,t.line<=l+s.length) ?_ ?_ ?_ ?_ ?_ ?_ s l
 ·intro l;exact ⟨trivial,by simp [qdh,Res.toks]⟩
 ·intro r l h;rw [qb4];exact ⟨h.1.mono (by omega),fun t b=>by have:=h.2 t b;simp only [List.length_cons];omega⟩
 ·intro c r l y h;rw [qb3 r l y];exact ⟨h.1,fun t b=>by have:=h.2 t b;simp only [List.length_cons];omega⟩
 ·intro a r l n j h;rw [qnU l n j];cases m:qK r l with
  |bad e x=>exact ⟨trivial,by simp [Res.add,Res.toks]⟩
  |ok E cs=>
   rw [m] at h;refine ⟨by simpa [Res.add,Res.toks] using h.1,fun t b=>?_⟩;have:=h.2 t (by simpa [Res.add,Res.toks] using b);simp only [kh,List.length_cons];omega
 ·intro c r l A p u B h;rw [qnT l A p u B h];exact ⟨trivial,by simp [Res.toks]⟩
 ·intro k s r l j z h;rw [qdg (zC j).1 z (qam j)];cases m:qK r l with
  |bad e x=>exact ⟨trivial,by simp [Res.add,Res.toks]⟩
  |ok E cs=>
   rw [m] at h;refine ⟨⟨Int.le_refl _,j,by simpa [Res.toks] using h.1⟩,fun t b=>?_⟩;simp only [Res.add,Res.toks,List.cons_append,List.nil_append,wh] at b;rcases b with rfl|b
   ·show l<=_;omega
   ·have:=h.2 t b;simp only [kh];omega
end Go.L01
namespace Go.L02
open Go.Eng
open Go.L01 (Bs Tok jm jw qG qg qp right)
def qI (s:Bs):Bool:=
 match qp s with
 | .ok ts _=>decide (s.length<=100)&&(match kind ts (ts.length+3) 0 0 with| .ok _ j _=>decide (ts.length<=j)|_=>false)&&decide (ja ts=s)
 | .bad _ _=>false
def kC (s:Bs):Option Nat:=s.findIdx? (fun c=>decide (c=95))
def vx (s:Bs):Bool:=jL.contains s||(match kC s with|none=>qg s|some k=>qg (s.take k)&&qg (s.drop (k+1)))
def Q7 {s:Bs} {b:List Tok} {cs:List Bs} (h:qp s=.ok b cs):xe b:=by
 intro t c;have a:=(L01.qzA s 1).1.right;unfold qp at h;split at h
 ·cases h
 ·rw [show L01.qK s 1=_ from h] at a;exact (a t c).1
def qf (k:Nat):Bool:=decide (1<=k)&&decide (k<=10)
def wR (k:Nat):Bool:=(decide (21<=k)&&decide (k<=31))||decide (k=32)||decide (k=34)||decide (k=35)||decide (k=37)
structure Row where
 name:Option (Bs->Bool):=none
 vr:Option (Bs->Bool):=none
 typ:Option (Bs->Bool):=none
 n:Option (Int->Bool):=none
 first:List (Nat->Bool):=[]
 more:Option (Nat->Bool):=none
 least:Nat:=0
 most:Nat:=0
def jD (m:Int) (n:Int):Bool:=decide (0<=n)&&decide (n<=m)
def qv (k:Nat) (j:Nat):Bool:=decide (j=k)
def kD (_:Bs):Bool:=true
def yg:List Bs:=[[110,111,116],[43],[45],[42],[47],[109,111,100],[60],[60,61],[61],[97,110,100],[111,114]]
def qd (r:Row) (l:List (Nat->Bool)):Row:={r with first:=l,least:=l.length,most:=l.length}
def QY:List (Option Row):=
 let nm:Row:={name:=some qg}
 let ty:Row:={name:=some qg,typ:=some qI}
 [none,some (qd {n:=some (jD 1000000000)} []),some (qd {n:=some (jD 1)} []),some (qd {} []),some (qd nm []),
  some {name:=some kD,vr:=some kD,typ:=some kD,more:=some qf,most:=6},
  some {name:=some yg.contains,first:=[qf,qf],least:=1,most:=2},
  some (qd {} [qf,qf]),some (qd nm [qf]),some (qd {} [qf]),some (qd {} [qf]),
  none,none,none,none,none,none,none,none,none,
  some {more:=some wR,most:=400},some (qd ty [qf]),some (qd nm [qf]),some (qd {} [qf,qf,qf]),some (qd nm [qf,qf]),some (qd {} [qv 5]),
  some {first:=[qf,qv 20,qv 20],least:=2,most:=3},some (qd {} [qf,qv 20]),some (qd ty [qv 5,qv 20]),some {first:=[qf],most:=1},some (qd {} [qf]),some (qd nm []),
  some {first:=[qv 20],more:=some (qv 33),least:=2,most:=400},some (qd {name:=some kD} [qv 20]),some (qd {} []),
  some {first:=[qf],more:=some (qv 36),least:=2,most:=400},some (qd {name:=some qg,vr:=some qg,typ:=some qI} [qv 20]),some (qd {} [qf])]
def z6 (k:Nat):Option Row:=(QY[k]?).join
def qj (s:Bs) (p:Option (Bs->Bool)):Bool:=match p with|none=>decide (s=[])|some f=>f s
def jJ (l:List Nd) (k:Int):Nat:=match l[k.toNat]? with|some x=>x.d.kind|none=>0
def kK (l:List Nd) (k:Int):Bs:=match l[k.toNat]? with|some x=>x.d.name|none=>[]
def qV (l:List Nd) (r:Row):Nat->List Int->Bool
 |_,[]=>true
 |i,k::ks=>(match r.first[i]? with|some f=>f (jJ l k)|none=>(match r.more with|some f=>f (jJ l k)|none=>false))&&qV l r (i+1) ks
def qaQ (d:D):Bool:=if d.vr=[] then qg d.name&&(decide (d.typ=[])||qI d.typ) else qI d.vr&&vx d.name&&decide (d.typ=[])
def wY (l:List Nd) (n:Nat):Nat->List Int->Bool
 |_,[]=>true
 |i,k::ks=>(qg (kK l k)|| !(!decide (kK l k=[])||decide (i+2<n)))&&wY l n (i+1) ks
def vH (l:List Nd) (x:Nd):Bool:=
 if x.d.kind=5 then qaQ x.d
 else if x.d.kind=6 then decide (x.d.name=[110,111,116])==decide (x.kids.length=1)
 else if x.d.kind=32 then wY l x.kids.length 0 (x.kids.drop 1) else true
def jg (l:List Nd) (x:Nd):Bool:=
 match z6 x.d.kind with
 |none=>false
 |some r=>qj x.d.name r.name&&qj x.d.vr r.vr&&qj x.d.typ r.typ&&(match r.n with|none=>decide (x.d.n=0)|some f=>f x.d.n)&&
   (decide (r.least<=x.kids.length)&&decide (x.kids.length<=r.most))&&qV l r 0 x.kids&&vH l x
def jS (k:Nat):UInt8:=if k=20 then 113 else if k=5 then 99 else if qf k then 101 else if k=33 then 119 else if k=36 then 97 else if decide (21<=k)&&decide (k<=37)&&decide (k≠33)&&decide (k≠36) then 115 else 63
def vw (l:List Nd) (x:Nd):Bs:=x.kids.map fun k=>jS (jJ l k)
def xV (a p:UInt8):Bool:=decide (a=p)||(decide (a=99)&&decide (p=101))
def jP:Bs->Bs->Bool
 |[],[]=>true
 |a::s,p::ps=>xV a p&&jP s ps
 |_,_=>false
def we (s some:Bs):Bool:=s.all some.contains
def qS (d:D) (n v t m:Bool):Bool:=(n||decide (d.name=[]))&&(v||decide (d.vr=[]))&&(t||decide (d.typ=[]))&&(m||decide (d.n=0))
def qd7 (l:List Nd) (x:Nd):Bool:=((x.kids.drop 1).take (x.kids.length - 2)).all fun k=> !decide (kK l k=[])
def qA (l:List Nd) (x:Nd):Bool:=
 let k:=vw l x
 let d:=x.d
 if d.kind=1 then qS d false false false true&&decide (0<=d.n)&&decide (d.n<=1000000000)&&decide (k=[])
 else if d.kind=2 then qS d false false false true&&(decide (d.n=0)||decide (d.n=1))&&decide (k=[])
 else if d.kind=3\/d.kind=34 then qS d false false false false&&decide (k=[])
 else if d.kind=4\/d.kind=31 then qS d true false false false&&qg d.name&&decide (k=[])
 else if d.kind=5 then decide (k.length<=6)&&we k [101,99] &&(if d.vr=[] then qS d true false true false&&qg d.name&&(decide (d.typ=[])||qI d.typ) else qS d true true false false&&vx d.name&&qI d.vr)
 else if d.kind=6 then qS d true false false false&&((decide (d.name=[110,111,116])&&jP k [101])||(jU.contains d.name&&jP k [101,101]))
 else if d.kind=7 then qS d false false false false&&jP k [101,101]
 else if d.kind=8 then qS d true false false false&&qg d.name&&jP k [101]
 else if d.kind=9\/d.kind=10\/d.kind=30\/d.kind=37 then qS d false false false false&&jP k [101]
 else if d.kind=20 then qS d false false false false&&we k [115]
 else if d.kind=21 then qS d true false true false&&qg d.name&&qI d.typ&&jP k [101]
 else if d.kind=22 then qS d true false false false&&qg d.name&&jP k [101]
 else if d.kind=23 then qS d false false false false&&jP k [101,101,101]
 else if d.kind=24 then qS d true false false false&&qg d.name&&jP k [101,101]
 else if d.kind=25 then qS d false false false false&&decide (k=[99])
 else if d.kind=26 then qS d false false false false&&(jP k [101,113] ||jP k [101,113,113])
 else if d.kind=27 then qS d false false false false&&jP k [101,113]
 else if d.kind=28 then qS d true false true false&&qg d.name&&qI d.typ&&decide (k=[99,113])
 else if d.kind=29 then qS d false false false false&&(decide (k=[])||jP k [101])
 else if d.kind=32 then decide (2<=k.length)&&decide (k.getD 0 0=113)&&we (k.drop 1) [119] &&qd7 l x&&qS d false false false false
 else if d.kind=33 then qS d true false false false&&(decide (d.name=[])||qg d.name)&&decide (k=[113])
 else if d.kind=35 then qS d false false false false&&decide (1<k.length)&&jP (k.take 1) [101] &&we (k.drop 1) [97]
 else if d.kind=36 then qS d true true true false&&qg d.name&&qg d.vr&&qI d.typ&&decide (k=[113])
 else false
def vW:List Nd->Nat->List Int->Option (List Int)
 |[],_,open'=>some open'
 |x::xs,i,open'=>if x.kids.length<=open'.length/\open'.drop (open'.length - x.kids.length)=x.kids then vW xs (i+1) (open'.take (open'.length - x.kids.length)++[(i:Int)]) else none
def xO (l:List Nd):Bool:=match vW l 0 [] with|some o=>decide (o.length=1)|none=>false
def yf (l:List Nd):Nat:=match l.getLast? with|some x=>x.d.kind|none=>0
def whole (l:List Nd) (root:Nat->Bool):Bool:=decide (1<=l.length)&&decide (l.length<=400)&&xO l&&root (yf l)&&l.all (jg l)
def qar (l:List Nd):Bool:=decide (1<=l.length)&&decide (l.length<=400)&&xO l&&l.all (qA l)
def yy:∀(a b:List T),sizes (a++b)=sizes a+sizes b
 |[],b=>by simp [sizes]
 |t::a,b=>by simp [sizes,yy a b];omega
def qiC:∀(a b:List T) (k:Nat),qt k (a++b)=qt k a++qt (k+sizes a) b
 |[],b,k=>by simp [qt,sizes]
 |t::a,b,k=>by simp [qt,sizes,qiC a b,uN]
def qd4:∀(a b:List T) (k:Nat),flats k (a++b)=flats k a++flats (k+sizes a) b
 |[],b,k=>by simp [flats,sizes]
 |t::a,b,k=>by simp [flats,sizes,qd4 a b,uN]
def kp:∀(a:List T) (k:Nat),(qt k a).length=a.length
 |[],_=>rfl
 |t::a,k=>by simp [qt,kp a]
mutual
def T.flat_len:∀(t:T) (k:Nat),(t.flat k).length=t.size
 | .mk d ks,k=>by simp [T.flat,T.size,flats_len ks]
def flats_len:∀(a:List T) (k:Nat),(flats k a).length=sizes a
 |[],_=>rfl
 |t::a,k=>by simp [flats,sizes,T.flat_len t,flats_len a]
end
def T.size_pos (t:T):0<t.size:=by cases t;simp [T.size]
def qny:∀(l:List Nd) (j:List T) (o:List Int),vW l (sizes j) (qt 0 j)=some o->∃n,flats 0 j++l=flats 0 n/\o=qt 0 n
 |[],j,o,h=>by simp only [vW,ub] at h;exact ⟨j,by simp,h.symm⟩
 |x::xs,j,o,h=>by
  unfold vW at h;split at h
  ·rename_i t;rw [kp] at t h;obtain ⟨O,y⟩:=t;have c:j=j.take (j.length - x.kids.length)++j.drop (j.length - x.kids.length):=(Jw _ _).symm;generalize u:j.take (j.length - x.kids.length)=a at c;generalize J:j.drop (j.length - x.kids.length)=b at c;have m:a.length=j.length - x.kids.length:=by rw [<-u,uF];omega
   have p:qt 0 j=qt 0 a++qt (sizes a) b:=by rw [c,qiC];simp
   have B:x.kids=qt (sizes a) b:=by
    rw [<-y,p,JQ,uY (by rw [kp];omega),kp,m];simp
   have E:(qt 0 j).take (j.length - x.kids.length)++[((sizes j:Nat):Int)]=qt 0 (a++[T.mk x.d b]):=by
    rw [p,JZ,ul (by rw [kp];omega),kp,m,qiC];simp only [J2,List.take_zero,uy,ut,qt,T.size];congr 2;rw [c,yy]
    push_cast;omega
   have A:sizes j+1=sizes (a++[T.mk x.d b]):=by
    rw [yy];simp only [sizes,T.size]
    conv=>lhs;rw [c,yy]
    omega
   rw [E,A] at h;obtain ⟨n,z,I⟩:=qny xs _ _ h;refine ⟨n, ?_,I⟩;rw [<-z,qd4];simp only [flats,T.flat,uy,ut];rw [c,qd4];simp only [ut];rw [<-B];simp
  ·cases h
def qoW {l:List Nd} (h:xO l=true):∃t:T,l=t.flat 0:=by
 unfold xO at h;cases a:vW l 0 [] with
 |none=>rw [a] at h;cases h
 |some o=>
  rw [a] at h;obtain ⟨c,b,j⟩:=qny l [] o a;subst j;simp only [kp,kr] at h
  match c,h with
  |[t],_=>exact ⟨t,by simpa [flats] using b⟩
theorem qeP (x:Nd) (xs:List Nd) (i:Nat) (o:List Int):vW (x::xs) i o=if x.kids.length<=o.length/\o.drop (o.length - x.kids.length)=x.kids then vW xs (i+1) (o.take (o.length - x.kids.length)++[(i:Int)]) else none:=rfl
mutual
def qnx:∀(t:T) (b:Nat) (o:List Int) (xs:List Nd),vW (t.flat b++xs) b o=vW xs (b+t.size) (o++[(b:Int)+t.size - 1])
 | .mk d ks,b,o,xs=>by
  simp only [T.flat,T.size];rw [uB,stack_trees ks b o];show vW ((⟨d,qt b ks⟩:Nd)::xs) _ _=_;rw [qeP];have c:(o++qt b ks).length - (qt b ks).length=o.length:=by simp
  simp only [c];rw [if_pos ⟨by simp,by simp⟩];have a:(o++qt b ks).take o.length=o:=by simp
  have h:b+sizes ks+1=b+(sizes ks+1):=by omega
  have j:((b+sizes ks:Nat):Int)=(b:Int)+((sizes ks+1:Nat):Int) - 1:=by omega
  rw [a,h,j]
def stack_trees:∀(a:List T) (b:Nat) (o:List Int) (xs:List Nd),vW (flats b a++xs) b o=vW xs (b+sizes a) (o++qt b a)
 |[],b,o,xs=>by simp [flats,sizes,qt]
 |t::a,b,o,xs=>by
  simp only [flats,sizes,qt];rw [uB,qnx t b o,stack_trees a];simp [uN]
end
def qBU (t:T):xO (t.flat 0)=true:=by
 unfold xO;have:=qnx t 0 [] [];simp only [uy] at this;rw [this];simp [vW]
def qla (t:T) (b:Nat):(t.flat b).getLast? =some ⟨t.d,qt b t.kids⟩:=by
 cases t;simp [T.flat,T.d,T.kids]
def qiD (t:T):yf (t.flat 0)=t.d.kind:=by unfold yf;rw [qla]
section
variable {L:List Tok}
def Sz {α:Type} (μ:α->Nat) (c:Nat) (m:M α):Prop:=∀i f a j f',m i f=.ok a j f'->i<=j/\μ a+2*i<=2*j+c
theorem Sz.mono {α:Type} {μ:α->Nat} {c d:Nat} {m:M α} (h:Sz μ c m) (l:c<=d):Sz μ d m:=fun i f a j b e=>by have:=h i f a j b e;omega
theorem qnb {α:Type} {m:M α} (h:Up m):Sz (fun _=>0) 0 m:=fun i f a j b e=>by have:=(h.ok e).1;simp;omega
theorem kn {α:Type} {μ:α->Nat} {a:α} {c:Nat} (h:μ a<=c):Sz μ c (ret a):=fun i f b j l e=>by
 simp only [ret,Rs.ok.injEq] at e;obtain ⟨rfl,rfl,_⟩:=e;omega
theorem qhW {α:Type} {μ:α->Nat} {c:Nat}:Sz μ c (oof:M α):=fun i f b j a e=>by cases e
theorem ko {α β:Type} {μ:α->Nat} {ν:β->Nat} (c d:Nat) {m:M α} {k:α->M β} {e:Nat} (t:Sz μ c m) (p:∀a,Sz ν (μ a+d) (k a)) (y:c+d<=e):Sz ν e (bnd m k):=by
 intro i f b j z h;cases n:m i f with
 |oof=>rw [kM n] at h;cases h
 |no g=>rw [xx n] at h;cases h
 |ok a l g=>
  rw [jq n] at h;have u:=t _ _ _ _ _ n;have x:=p a _ _ _ _ _ h;omega
theorem qni {α β:Type} {ν:β->Nat} {m:M α} {k:α->M β} {e:Nat} (c:Up m) (b:∀a,Sz ν e (k a)):Sz ν e (bnd m k):=ko 0 e (qnb c) (fun a=>(b a).mono (by omega)) (by omega)
theorem Qi {β:Type} {ν:β->Nat} {s:Bs} {x y:M β} {c:Nat} (a:Sz ν (c+2) x) (l:Sz ν c y):Sz ν c (qm L s x y):=by
 intro i f b j m h;unfold qm at h;split at h
 ·have:=a _ _ _ _ _ h;omega
 ·exact l _ _ _ _ _ h
theorem qa2 {β:Type} {ν:β->Nat} {s:Bs} {k:Unit->M β} {c:Nat} (n:Sz ν (c+2) (k ())):Sz ν c (bnd (needs L [s]) k):=by
 intro i f b j u h;cases m:needs L [s] i f with
 |oof=>rw [kM m] at h;cases h
 |no g=>rw [xx m] at h;cases h
 |ok a l g=>
  rw [jq m] at h;have p:=qcE _ _ _ _ _ m;have t:=n _ _ _ _ _ h;omega
theorem qng {β:Type} {ν:β->Nat} {k:Bs->M β} {c:Nat} (n:∀s,Sz ν (c+2) (k s)):Sz ν c (bnd (name L) k):=by
 intro i f b j u h;cases m:name L i f with
 |oof=>rw [kM m] at h;cases h
 |no g=>rw [xx m] at h;cases h
 |ok a l g=>
  rw [jq m] at h;have p:=qcF _ _ _ _ _ m;have t:=n a _ _ _ _ _ h;omega
theorem qy9 {β:Type} {ν:β->Nat} {k:Bs->M β} {c:Nat} (n:∀s,Sz ν (c+2) (k s)):Sz ν c (bnd (op L) k):=by
 intro i f b j u h;cases m:op L i f with
 |oof=>rw [kM m] at h;cases h
 |no g=>rw [xx m] at h;cases h
 |ok a l g=>
  rw [jq m] at h;have p:=qlP _ _ _ _ _ m;have t:=n a _ _ _ _ _ h;omega
def yO (x:T×Nat):Nat:=x.1.size+if x.2=1 then 1 else 0
def x4 (x:T×Bool):Nat:=x.1.size+if x.2 then 1 else 0
def yP (t:T):Nat:=t.size+1
theorem qnh {e:M T} (c:Sz T.size 0 e):∀n,Sz sizes 0 (more L e n)
 |0=>qhW
 |n+1=>Qi (ko 0 2 c (fun a=>ko 0 (a.size+2) (qnh c n) (fun b=>kn (by simp only [sizes];omega)) (by omega)) (by omega)) (kn (by simp [sizes]))
theorem qzc {e:M T} (c:Sz T.size 0 e) (n:Nat):Sz sizes 0 (listed L n e):=ko 0 0 c (fun a=>ko 0 a.size (qnh c n) (fun b=>kn (by simp only [sizes];omega)) (by omega)) (by omega)
theorem qcZ {e:M T} (b:Sz T.size 0 e) (n:Nat):Sz sizes 0 (xW L n e):=
 qa2 (Qi (kn (by simp [sizes])) (ko 0 2 (qzc b n) (fun a=>qa2 (kn (by omega))) (by omega)))
theorem wj (d:D) (ks:List T):(T.mk d ks).size=sizes ks+1:=rfl
theorem qia (t:T):sizes [t]=t.size:=by simp [sizes]
theorem qnD (t u:T):sizes [t,u]=t.size+u.size:=by simp [sizes]
theorem qzb {e:M T} (a:Sz T.size 0 e) (n:Nat):Sz yP 0 (wM L n e):=qng fun _=>Qi (qni (qbR n) fun _=>qa2 (ko 0 2 (qcZ a n) (fun ks=>kn (by simp only [yP,wj];omega)) (by omega)))
 (ko 0 2 (qcZ a n) (fun ks=>kn (by simp only [yP,wj];omega)) (by omega))
theorem qnf {e:M T} (a:Sz T.size 0 e) (n:Nat) (o:Bs):Sz yP 0 (z7 L n e o):=qy9 fun _=>ko 0 2 (qcZ a n) (fun ks=>kn (by simp only [yP,wj];omega)) (by omega)
theorem qy8 {e:M T} (a:Sz T.size 0 e) (n:Nat):Sz yP 0 (bnd (jF L n) (z7 L n e)):=qni (qad n) fun _=>qnf a n _
theorem qhU {b:Bool} {m:M T} {c:Nat} (h:Sz yP c m):Sz x4 c (vS b m):=ko c 0 h (fun x=>kn (by cases b<;>simp [x4,yP])) (by omega)
theorem qy7 {m:M T} {c:Nat} (h:Sz T.size c m):Sz x4 c (vS false m):=ko c 0 h (fun x=>kn (by simp [x4])) (by omega)
theorem qza {e:M T} (l:Sz T.size 0 e) (n:Nat):Sz x4 0 (xq L n e):=by
 intro i f a j t h;unfold xq at h;split at h
 ·exact qhU (qzb l n) _ _ _ _ _ h
 ·split at h
  ·cases c:jF L n i f with
   |oof=>rw [c] at h;cases h
   |no g=>rw [c] at h;simp only [Rs.ok.injEq] at h;obtain ⟨rfl,rfl,_⟩:=h;simp [x4,wj,sizes];omega
   |ok s k g=>
    rw [c] at h;have p:=qhU (b:=true) (qnf (L:=L) l n s) _ _ _ _ _ h;have m:=((qad n).ok c).1;omega
  ·split at h
   ·simp only [Rs.ok.injEq] at h;obtain ⟨rfl,rfl,_⟩:=h;simp [x4,wj,sizes];omega
   ·exact qhU (qy8 l n) _ _ _ _ _ h
theorem qnc {e:M T} (b:Sz T.size 0 e) (n:Nat):Sz x4 0 (xi L n e):=by
 intro i f a j m h;unfold xi at h;split at h
 ·simp only [Rs.ok.injEq] at h;obtain ⟨rfl,rfl,_⟩:=h;simp [x4,wj,sizes];omega
 ·refine Qi (c:=0) (ν:=x4) (kn (by simp [x4,wj,sizes])) (Qi (kn (by simp [x4,wj,sizes])) (Qi (kn (by simp [x4,wj,sizes])) ?_)) _ _ _ _ _ h;intro i f a j m h;by_cases l:qo L i [[117,112],[100,111,119,110]]=true
  ·simp only [l,kk] at h;have p:vS false (Qf L e) i f=bnd (needs L [[40]]) (fun _=>bnd e fun t=>bnd (needs L [[41]]) fun _=>ret (T.mk {kind:=if qo L i [[100,111,119,110]] then 10 else 9} [t],false)) (i+1) f:=by
    show bnd (bnd _ _) _ (i+1) f=_;simp only [sq,wv,y9]
   rw [p] at h;have:=qa2 (c:=0) (ν:=x4) (L:=L) (s:=[40]) (k:=fun _=>bnd e fun t=>bnd (needs L [[41]]) fun _=>ret (T.mk {kind:=if qo L i [[100,111,119,110]] then 10 else 9} [t],false))
    (ko 0 2 b (fun t=>qa2 (kn (by simp only [x4,wj,qia,uf,km];omega))) (by omega)) _ _ _ _ _ h
   omega
  ·simp only [l,uf,km] at h;exact Qi (c:=0) (ν:=x4) (qy7 (ko 0 2 b (fun t=>qa2 (kn (by omega))) (by omega))) (qza b n) _ _ _ _ _ h
theorem qhV {e:M T} (b:Sz T.size 0 e):∀n t a,Sz yO (t.size+if a=1 then 1 else 0) (ya L e n t a)
 |0,_,_=>qhW
 |n+1,t,a=>Qi (ko 0 (t.size+2) b (fun k=>qa2 ((qhV b n _ _).mono (by simp only [wj,qnD,show¬(2:Nat)=1 by decide,km];omega))) (by omega))
   (Qi (qng fun s=>(qhV b n _ _).mono (by simp only [wj,qia,show¬(3:Nat)=1 by decide,km];omega)) (kn (j1 _)))
theorem qnd {e:M T} (a:Sz T.size 0 e) (n:Nat):Sz yO 0 (wK L n e):=ko (μ:=x4) 0 0 (qnc a n) (fun p=>(qhV a n _ _).mono (by unfold x4;cases p.2<;>simp)) (by omega)
theorem qzd {p:M (T×Nat)} (b:Sz yO 0 p):Sz T.size 0 (wu L p):=Qi (ko 0 2 b (fun x=>kn (by simp only [yO,wj,qia];omega)) (by omega)) (ko 0 0 b (fun x=>by
 intro i f a j l h;by_cases c:qo L i jU=true
 ·simp only [c,kk] at h;have:=ko (e:=x.1.size+2) (ν:=T.size) 0 (x.1.size+2) b (k:=fun y=>ret (T.mk {kind:=6,name:=(tk L i).text} [x.1,y.1])) (fun y=>kn (by simp only [yO,wj,qnD];omega)) (by omega) _ _ _ _ _ h;simp only [yO];omega
 ·simp only [c,uf,km,Rs.ok.injEq] at h;obtain ⟨rfl,rfl,_⟩:=h;simp only [yO];omega) (by omega))
theorem qeL:∀n,Sz T.size 0 (jj L n)
 |0=>qhW
 |n+1=>qzd (qnd (qeL n) n)
end
end Go.L02
