/- Lemmas for a claim about layer 2 (tree). No conditions but those they state. -/
import Derived.Test.YtbcmiempigoooaaGreatDoorVak
import Derived.Laws.MakeOwn
set_option linter.all false
noncomputable section
namespace Go.Eng
open Go.RowKit
def qiw (P:Program) (t:TypeId):Option (TypeId×AB×Nat):=
  match P.underlying t with
  |some (.slice e)=>(P.info? e).bind fun i=>i.zero.bind fun z=>if i.size=1 then some (e,z.cells[0]!,i.bytes) else none
  |_=>none
section
variable {P:Program} {Q:Ks} {d:Option Nat} {ty:TypeId} {K:qa->AA->Prop} {ρ:qa} {w:AA}
theorem qIh {t e : TypeId} {zc : AB} {bytes n : Nat} {kl kc : IntKind} {x y : Operand} (c : qiw P t = some (e, zc, bytes)) (I : qd ρ x =.int kl n) (J : qd ρ y =.int kc n) (R : bytes * n <= 281474976710656) (X : n <= 1099511627776)
    (m:∀i z,P.info? e=some i->i.zero=some z->z.cells.size=1)
    (h:∀(B:Nat) (W:AA),w.heap.size<=B->qc w W->Blk W B (List.replicate n zc).toArray e->K (qp ρ d (.slice (some ⟨B,0,none⟩) n n)) W):qB P Q d (.makeSlice t x y) ty K ρ w:=by
  unfold qiw at c;split at c
  · rename_i S O;simp only [uh] at c;obtain ⟨i,b,z,E,q⟩:=c;split at q
    · rename_i A;cases q;have u:(i.bytes:Int)*(n:Int)<=281474976710656:=by
        have h:((i.bytes*n:Nat):Int)<=281474976710656:=by omega
        rwa [Int.natCast_mul] at h
      have l:=run_make (P:=P) w t e i z O b E kl kc n n (by omega) (Int.le_refl _) u (by omega);simp only [Int.toNat_natCast,A,uW] at l;have p:=m i z b E;have a:madeCells z.cells n=(List.replicate n z.cells[0]!).toArray:=by
        apply uY.1;apply J3;intro j;by_cases C:j<n
        · simp [madeCells,C,p,Nat.mod_one]
        · simp [madeCells,C]
      rw [a] at l;refine jN (v:=.slice (some ⟨w.heap.size,0,none⟩) n n) (w':=w.alloc (.cells (List.replicate n z.cells[0]!).toArray e)) ?_ (h w.heap.size _ (kh _) (yK w _) (qcE w _ _));simp only [execOp,qR,I,J,Sem.run_bind,l,Result.andThen_ok,Sem.run_pure]
    · cases q
  · cases c
end
end Go.Eng
namespace Go.Eng
open Go.RowKit
section
variable {ops:Array Oper} {cx:Cx}
end
section
variable {P:Program} {Q:Ks} {K:qa->AA->Prop} {F:OT->qa->AA->Prop} {ρ:qa} {w:AA}
end
def qbD {P:Program} {f:FuncId} {fn:Func} {V a:List Nat} {ir:IR} {rs:List RV} {args:Array AB} {w:AA} {R:Ending->AA->Prop} (l:P.funcs[f]? =some fn) (m:fn.body=some (fn.body.getD .skip)) (j:(jk P fn.ntmps V a (fn.body.getD .skip)).map IR.norm=some ir)
    (n:kn fn V=true) (b:zi P V fn.results.toList=some rs) (c:args.size<=fn.ntmps) (h:ir.wp ⟨P,fn.ntmps,V,[]⟩ (qz rs R) (qM rs R) (wk V args) w):Calls P f args w R:=by
  obtain ⟨p,t,q⟩:=uc.1 j;exact qv8 l m t q n b c h
noncomputable abbrev zv (n:Nat):Ex:=.var n
abbrev zl (e:Ex):Ex:=.op1 .load1 e
abbrev zo (n:Nat) (e:Ex):Ex:=.op1 .load1 (.op1 (.fadr n) e)
abbrev zf (n:Nat) (e:Ex):Ex:=.op1 (.fadr n) e
abbrev zx (n:Nat) (a b:Ex):Ex:=.op2 (.ixa n) a b
abbrev zL (e:Ex):Ex:=.op1 .lenS e
abbrev zT (e:Ex):Ex:=.op1 .lenT e
abbrev zN (e:Ex):Ex:=.op1 .nilc e
abbrev zn (e:Ex):Ex:=.op1 .not e
abbrev ze (n:Nat) (e:Ex):Ex:=.op1 (.ext n) e
abbrev zM (n:Nat) (e:Ex):Ex:=.op1 (.loadN n) e
abbrev zI (o:BinOp) (a b:Ex):Ex:=.op2 (.ibin o .i64) a b
abbrev zB (o:BinOp) (a b:Ex):Ex:=.op2 (.ibin o .u8) a b
abbrev zS (o:BinOp) (a b:Ex):Ex:=.op2 (.sbin o) a b
abbrev zk (n:Int):AB:=.int .i64 n
abbrev zu (n:Int):AB:=.int .u8 n
abbrev zb (b:Bool):AB:=.bool b
abbrev zs (l:Array UInt8):AB:=.string ⟨l⟩
noncomputable abbrev zt (n:Nat):Operand:=.tmp n
noncomputable abbrev za (d:Nat) (e:Ex):St:=.asg none d e
abbrev zg (g:Nat) (b:Bool) (d:Nat) (e:Ex):St:=.asg (some (g,b)) d e
abbrev zc (d f:Nat) (a:Array Operand) (t:Array TypeId) (y:TypeId):St:=.eff none (some d) (.call {callee:=.value (.func f),args:=a,argTypes:=t}) y
abbrev zd (f:Nat) (a:Array Operand) (t:Array TypeId) (y:TypeId):St:=.eff none none (.call {callee:=.value (.func f),args:=a,argTypes:=t}) y
abbrev zh (g:Nat) (b:Bool) (d f:Nat) (a:Array Operand) (t:Array TypeId) (y:TypeId):St:=.eff (some (g,b)) (some d) (.call {callee:=.value (.func f),args:=a,argTypes:=t}) y
abbrev zp (d:Nat) (a:Array Operand) (t:Array TypeId) (y:TypeId):St:=.eff none (some d) (.call {callee:=.builtin .append,args:=a,argTypes:=t}) y
abbrev zw (t:TypeId) (p x:Operand):St:=.eff none none (.store t p x) 0
abbrev zE (d:Nat) (o:Op) (y:TypeId):St:=.eff none (some d) o y
noncomputable abbrev zq (l:List St) (b:IR):IR:=.seq (.reg l) b
noncomputable abbrev zy (d:Nat) (e:Ex) (o:OT):OT:=.take none d e o
noncomputable abbrev zm (d n:Nat):St:=.asg none d (.var n)
abbrev zK (n:Int):Ex:=.const (.int .i64 n)
abbrev zQ (b:Bool):Ex:=.const (.bool b)
abbrev zO (n:Int):Operand:=.const (.int .i64 n)
abbrev zY (l:Array UInt8):Operand:=.const (.string ⟨l⟩)
abbrev zA (d:Nat) (t:TypeId):St:=.eff none (some d) (.alloc t) 0
abbrev zV (n:Nat) (g:List Nat):List Nat:=(List.range n).filter fun i=> !g.contains i
end Go.Eng
namespace Go.Eng
open Go.RowKit
section
variable (P:Program) (ops:Array Oper) (V:List Nat)
def qb9 (sk : List Nat) (n : Nat) : Nat -> Bool -> Array Bool -> Option OT
  |0,_,listed=>if (Region.ready .any ops listed).isEmpty then some .done else none
  | f + 1, hd, listed =>
    if (Region.ready .any ops listed).isEmpty then some .done else
    match (if hd then (Region.ready .any ops listed).find? (fun i=>decide (i<n)&& !sk.contains i&&Region.free .any ops listed i&&(qaW P ops V i).isSome) else none) with
    |some i=>match qaW P ops V i with
      |some (g,d,e)=>(qb9 sk n f hd (listed.setIfInBounds i true)).map (.take g d e)
      |none=>none
    |none=>yN ((Region.ready .any ops listed).map fun i=>match QM P ops V i with
      |some s=>(qb9 sk n f (hd&&decide (i<n)) (listed.setIfInBounds i true)).map (.step s (decide (i<n)))
      |none=>none)
end
def qdz (P : Program) (nt : Nat) (V : List Nat) (sk : List Nat) (n : Nat) : Code -> Option OT
  | .region _ ops true=>
    if qbd ops nt&&Region.noSelect ops&&P.follows .mixedOrders&&(decide (n=ops.size)||(decide (n<ops.size)&&Region.sinkB .any ops n&&Region.chainB .any ops n)) then qb9 P ops V sk n ops.size true (Array.replicate ops.size false) else none
  |_=>none
section
variable {cx:Cx} {ops:Array Oper}
theorem qin (hr : Region1 cx.n ops) (p : Region.noSelect ops = true) {sk : List Nat} {n : Nat} (hn : n = ops.size \/ (n < ops.size /\ Region.sinkB .any ops n = true /\ Region.chainB .any ops n = true)) {S : AA -> Prop} {K : qa -> AA -> Prop} {Q : Ks} (B : ¬ Q.rd) (E : Q.df -> cx.D ≠ []) :
    ∀(f:Nat) (I:Bool) (listed:Array Bool) (t:OT),qb9 cx.P ops cx.V sk n f I listed=some t->(∀d∈t.takes,∀ρ v c w,Q.pn (qx ρ d v) c w->Q.pn ρ c w)->(I=true->HeadInv .any ops n listed)->∀(ρ:qa) (a:Act) (w:AA),Agree cx.n cx.V ρ a->vy cx a->(I=true->S w)->
      t.wp cx.P Q S K ρ w->qaf cx.P .any ops (ku cx K Q) S n f listed a w
  |0,I,listed,t,h,_,_,ρ,a,w,J,X,_,j=>by
    simp only [qb9] at h;split at h
    · rename_i he;cases h;exact ⟨by simpa using he,X,ρ,J,j⟩
    · cases h
  | f + 1, I, listed, t, h, hpn, m, ρ, a, w, J, X, hS, j => by
    simp only [qb9] at h;split at h
    · rename_i he;cases h;have A:Region.ready .any ops listed=[]:=by simpa using he
      exact ⟨fun _=>⟨X,ρ,J,j⟩,by rw [A];simp⟩
    · rename_i he;have A:Region.ready .any ops listed≠[]:=by simpa using he
      split at h
      · rename_i i z;split at z
        · rename_i Y;have y:=J9 z;have q:=List.find?_some z;simp only [km,ue] at q;obtain ⟨⟨⟨hin,_⟩,C⟩,_⟩:=q;split at h
          · rename_i g d e aa;simp only [uc] at h;obtain ⟨t',b,rfl⟩:=h;simp only [OT.wp] at j;have key:∀v,(if gd ρ g then (∀w',S w'->e.ev ρ w'=some v) else v=undef)->t'.wp cx.P Q S K (qx ρ d v) w->qaf cx.P .any ops (ku cx K Q) S n (f+1) listed a w:=by
              intro v hv hk;obtain ⟨o,ho,O,hV,hy⟩:=qgw hr aa J hv;refine qlu ho (Region.noSelect_spec p) hn hin (fun c a w l=>?_) f listed a w (m Y) (Region.free_spec ho C) y hy (hS Y) ?_
              · exact qof O hV (hpn d (by simp [OT.takes])) c a w l
              · rw [O];exact qin hr p hn B E f I _ t' b (fun x hx=>hpn x (by simp [OT.takes,hx])) (fun l=>(m l).set y hin) _ _ w (J.put hV v) (fun e=>(yA _ _ _).trans (X e)) hS hk
            by_cases u:gd ρ g=true
            · rw [j0 u] at j;unfold xD at j;split at j
              · obtain ⟨l,h2⟩:=j;exact key _ (by rw [j0 u];exact l) h2
              · cases j
            · rw [q3 u] at j;exact key undef (by rw [q3 u]) j
          · cases h
        · cases z
      · refine ⟨fun h0=>absurd h0 A,fun i z=>?_⟩;obtain ⟨t',b,Z⟩:=qkP h j _ (uw.2 ⟨i,z,rfl⟩);split at b
        · rename_i s hs;simp only [uc] at b;obtain ⟨t2,R,rfl⟩:=b;simp only [OT.wp] at Z;refine wpOp_mono ?_ (qhp hr hs J X B E Z);rintro a' w' ⟨hD',ρ',ha',W,hk'⟩;refine ⟨fun hlt=>W (by simpa using hlt),qin hr p hn B E f _ _ t2 R (fun x hx=>hpn x (qkQ h (.step s (decide (i<n)) t2) (uw.2 ⟨i,z,by simp only [hs,R,Option.map_some]⟩) x (by simpa [OT.takes] using hx))) (fun l=>?_) ρ' a' w' ha' hD' (fun l=>?_) hk'⟩
          · simp only [km,ue] at l;exact (m l.1).set z l.2
          · simp only [km,ue] at l;exact W (by simpa using l.2)
        · cases b
theorem qnz {c:Code} {sk:List Nat} {n:Nat} {t:OT} (h:qdz cx.P cx.n cx.V sk n c=some t) (S:AA->Prop) {K:qa->AA->Prop} {Q:Ks} {ρ:qa} {w:AA}
    (z:∀w',qc w w'->w'.heap=w.heap->S w'/\t.wp cx.P Q.noRd S K ρ w') (hpn:∀d∈t.takes,∀ρ v c w,Q.pn (qx ρ d v) c w->Q.pn ρ c w:=by exact fun _ _ _ _ _ _ h=>h):(IR.raw c).wp cx K Q ρ w:=by
  intro a p x j;unfold qdz at h;split at h
  · rename_i id ops;split at h
    · rename_i l;simp only [km,uS,ue] at l;obtain ⟨⟨⟨A,q⟩,m⟩,b⟩:=l;obtain ⟨u,y⟩:=z {w with drawn:=w.drawn+1} ⟨rfl,rfl,rfl,kh _,fun _ _=>rfl⟩ rfl;refine wp_region_any m (qgM _ _ _ _ (qin (qdk A) q (by rcases b with b|b;exact .inl b;exact .inr ⟨b.1.1,b.1.2,b.2⟩) (Q:=Q.noRd) (fun h=>h) j _ _ _ t h hpn (fun _=>qvc) ρ a _ p x (fun _=>u) y))
    · cases h
  · cases h
end
end Go.Eng
namespace Go.Eng
open Go.RowKit
def qc5 (P:Program) (nt:Nat) (V:List Nat):Code->Option (List (Option St))
  | .region _ ops true=>if qbd ops nt&&P.follows .mixedOrders then some ((List.range ops.size).map (QM P ops V)) else none
  |_=>none
def qkL:Code->List (List Nat)
  | .region _ ops _=>ops.toList.map fun o=>(o.after.toList.filter fun e=>Region.binds .any e).map (·.on)
  |_=>[]
def qvO (l:List (List Nat)):Bool:=l.zipIdx.all fun p=>p.1.all fun d=>decide (d<p.2)
section
variable {ops:Array Oper} {cx:Cx}
theorem qlC {listed : Array Bool} (q : listed.size = ops.size) (p : Region.ready .any ops listed = []) (l : ∀ i o, ops[i]? = some o -> ∀ e ∈ o.after, Region.binds .any e = true -> e.on < i) : ∀ i, i < ops.size -> listed.getD i false = true := by
  intro i
  induction i using Nat.strongRecOn with
  | _ i n =>
    intro j;cases h:listed.getD i false with
    |true=>rfl
    |false=>
      exfalso;have a:i∈Region.ready .any ops listed:=mem_ready.2 ⟨by
        rw [Array.getD_eq_getD_getElem?,uG (by omega)] at h⊢;simpa using h,ops[i],uG j,fun e c m=>?_⟩
      · rw [p] at a;cases a
      · have b:=l i _ (uG j) e c m;exact n e.on b (by omega)
theorem qlt (hr : Region1 cx.n ops) {J : (Nat -> Bool) -> qa -> AA -> Prop} {K : qa -> AA -> Prop} {Q : Ks} (p : ¬ Q.rd) (u : Q.df -> cx.D ≠ []) (X : ∀ i o, ops[i]? = some o -> ∀ e ∈ o.after, Region.binds .any e = true -> e.on < i)
    (j:∀(L:Nat->Bool) (i:Nat) (o:Oper),ops[i]? =some o->L i=false->(∀e∈o.after,Region.binds .any e=true->L e.on=true)->∃s,QM cx.P ops cx.V i=some s/\∀ρ w,J L ρ w->s.wp cx.P Q (J (fun k=>if k=i then true else L k)) ρ w)
    (c:∀L ρ w,(∀i,i<ops.size->L i=true)->J L ρ w->K ρ w):
    ∀(f:Nat) (listed:Array Bool),listed.size=ops.size->listed.toList.count false<=f->∀(ρ:qa) (a:Act) (w:AA),Agree cx.n cx.V ρ a->vy cx a->J (fun k=>listed.getD k false) ρ w->wpAny cx.P .any ops (ku cx K Q) f listed a w
  |0,listed,t,hc,ρ,a,w,A,C,B=>by
    have E : Region.ready .any ops listed = [] := by
      cases h:Region.ready .any ops listed with
      |nil=>rfl
      |cons x l=>
        exfalso;have z:=(mem_ready.1 (show x∈Region.ready .any ops listed by rw [h];simp)).1;have b:x<listed.size:=by
          rcases JA x listed.size with y|y
          · exact y
          · rw [Array.getD_eq_getD_getElem?,JY y] at z;simp at z
        rw [Array.getD_eq_getD_getElem?,uG b] at z;have:false∈listed.toList:=by
          have R:listed[x]=false:=by simpa using z
          rw [<-R];exact Array.getElem_mem_toList b
        have:=List.count_pos_iff.2 this;omega
    exact ⟨E,C,ρ,A,c _ ρ w (qlC t E X) B⟩
  | f + 1, listed, t, hc, ρ, a, w, A, C, B => by
    refine ⟨fun E=>⟨C,ρ,A,c _ ρ w (qlC t E X) B⟩,fun i hi=>?_⟩;obtain ⟨hf,o,ho,q⟩:=mem_ready.1 hi;have b:i<listed.size:=by rw [t];exact (ul.1 ho).1
    have m:listed.getD i false=false:=by
      rw [Array.getD_eq_getD_getElem?,uG b] at hf⊢;simpa using hf
    obtain ⟨s,Z,hw⟩:=j (fun k=>listed.getD k false) i o ho m q;refine wpOp_mono (fun a' w' h=>?_) (qhp hr (K0:=K) Z A C p u (hw ρ w B));obtain ⟨Y,S,I,O⟩:=h;refine qlt hr p u X j c f (listed.setIfInBounds i true) (by simpa using t) ?_ S a' w' I Y ?_
    · have y:listed[i]=false:=by
       rw [Array.getD_eq_getD_getElem?,uG b] at m;simpa using m
      have R:(listed.setIfInBounds i true).toList=listed.toList.set i true:=by simp
      rw [R,List.count_set (by simpa using b)];have h3:listed.toList[i]'(by simpa using b)=false:=by simpa using y
      have hp:0<listed.toList.count false:=List.count_pos_iff.2 (h3▸uo _);rw [h3];simp;simp at hc;omega
    · have:(fun k=>(listed.setIfInBounds i true).getD k false)=fun k=>if k=i then true else listed.getD k false:=by
       funext k;by_cases W:k=i
       · subst W;rw [j0 rfl,Array.getD_eq_getD_getElem?,Vs b];rfl
       · rw [q3 W,Array.getD_eq_getD_getElem?,Array.getD_eq_getD_getElem?,Vr (ub W)]
      rw [this];exact O
theorem qAk {c : Code} {sts : List (Option St)} {b : List (List Nat)} (h : qc5 cx.P cx.n cx.V c = some sts) (hd : qkL c = b) (q : sts.all Option.isSome = true) (y : qvO b = true) (J : (Nat -> Bool) -> qa -> AA -> Prop) {K : qa -> AA -> Prop} {Q : Ks} {ρ : qa} {w : AA}
    (h0:∀w',qc w w'->w'.heap=w.heap->J (fun _=>false) ρ w')
    (j:∀(L:Nat->Bool) (i:Nat) (s:St) (ds:List Nat),sts[i]? =some (some s)->b[i]? =some ds->L i=false->(∀d∈ds,L d=true)->∀ρ w,J L ρ w->s.wp cx.P Q.noRd (J (fun k=>if k=i then true else L k)) ρ w)
    (p:∀L ρ w,(∀i,i<sts.length->L i=true)->J L ρ w->K ρ w):(IR.raw c).wp cx K Q ρ w:=by
  intro a ha hD X;unfold qc5 at h;split at h
  · rename_i id ops;split at h
    · rename_i Y;simp only [km] at Y;obtain ⟨h1,h3⟩:=Y;cases h;have t:((List.range ops.size).map (QM cx.P ops cx.V)).length=ops.size:=by simp
      have m:∀(i:Nat) (o:Oper),ops[i]? =some o->b[i]? =some ((o.after.toList.filter fun e=>Region.binds .any e).map (·.on)):=fun i o l=>by
        rw [<-hd];simp [qkL,l]
      have x:∀(o:Oper) e,e∈o.after->Region.binds .any e=true->e.on∈(o.after.toList.filter fun e=>Region.binds .any e).map (·.on):=fun o e u C=>uw.2 ⟨e,List.mem_filter.2 ⟨by simpa using u,C⟩,rfl⟩;refine wp_region_any h3 (qlt (qdk h1) (Q:=Q.noRd) (J:=J) (fun h=>h) X ?_ ?_ ?_ _ _ (by simp) (by simp) ρ a _ ha hD ?_)
      · intro i o l e u C;have z:=m i o l;unfold qvO at y;have S:=ut.1 y (_,i) (List.mem_zipIdx_iff_getElem?.2 z);exact of_decide_eq_true (ut.1 S e.on (x o e u C))
      · intro L i o l O R;have A:=(ul.1 l).1;have z:((List.range ops.size).map (QM cx.P ops cx.V))[i]? =some (QM cx.P ops cx.V i):=by simp [A]
        have S:=ut.1 q _ (Jl z);obtain ⟨s,Z⟩:=Vl.1 S;rw [Z] at z;refine ⟨s,Z,fun ρ w I=>j L i s _ z (m i o l) O (fun d B=>?_) ρ w I⟩;obtain ⟨e,u,rfl⟩:=uw.1 B;obtain ⟨E,W⟩:=List.mem_filter.1 u;exact R e (by simpa using E) W
      · intro L ρ w O I;exact p L ρ w (fun i A=>O i (by rw [t] at A;exact A)) I
      · have:(fun k=>(Array.replicate ops.size false).getD k false)=fun _=>false:=by
          funext k;rw [Array.getD_eq_getD_getElem?,Array.getElem?_replicate];split<;>rfl
        rw [this];exact h0 _ ⟨rfl,rfl,rfl,kh _,fun _ _=>rfl⟩ rfl
    · cases h
  · cases h
end
end Go.Eng
namespace Go.Eng
open Go.RowKit
inductive Tr (α:Type) where
  |lf
  |nd (v:Option α) (l r:Tr α)
noncomputable def Tr.get {α:Type} (t:Tr α):Nat->Option α:=
  Tr.rec (motive:=fun _=>Nat->Option α) (fun _=>none) (fun v _ _ l r k=>Bool.rec (motive:=fun _=>Option α) (Bool.rec (motive:=fun _=>Option α) (r (Nat.sub (Nat.div k 2) 1)) (l (Nat.div k 2)) (Nat.beq (Nat.mod k 2) 1)) v (Nat.beq k 0)) t
noncomputable def Tr.putS {α:Type} (x:Option α) (ih:Tr α->Nat->Tr α) (v:Option α) (l r:Tr α) (k:Nat):Tr α:=
  Bool.rec (motive:=fun _=>Tr α) (Bool.rec (motive:=fun _=>Tr α) (.nd v l (ih r (Nat.sub (Nat.div k 2) 1))) (.nd v (ih l (Nat.div k 2)) r) (Nat.beq (Nat.mod k 2) 1)) (.nd x l r) (Nat.beq k 0)
noncomputable def Tr.put {α:Type} (f:Nat) (t:Tr α) (k:Nat) (x:Option α):Tr α:=
  Nat.rec (motive:=fun _=>Tr α->Nat->Tr α) (fun t _=>t) (fun _ ih t k=>Tr.rec (motive:=fun _=>Tr α) (Tr.putS x ih none .lf .lf k) (fun v l r _ _=>Tr.putS x ih v l r k) t) f t k
def qeO {β:Type} (a b:Nat) (x y:β):(Bool.rec (motive:=fun _=>β) y x (Nat.beq a b):β)=if a=b then x else y:=by
  by_cases h:a=b
  · subst h;simp
  · rw [q3 h,show Nat.beq a b=false from by
      cases e:Nat.beq a b
      · rfl
      · exact absurd (um e) h]
def qwo {α:Type} (a b:Nat) (x y:α):(bif Nat.beq a b then x else y)=if a=b then x else y:=by
  by_cases h:a=b
  · subst h;simp
  · rw [q3 h,show Nat.beq a b=false from by
      cases e:Nat.beq a b
      · rfl
      · exact absurd (um e) h];rfl
@[simp] theorem Tr.get_lf {α:Type} (k:Nat):(Tr.lf:Tr α).get k=none:=rfl
def Tr.get_nd {α:Type} (v:Option α) (l r:Tr α) (k:Nat):(Tr.nd v l r).get k=if k=0 then v else if k%2=1 then l.get (k / 2) else r.get (k / 2 - 1):=by
  show (Bool.rec (motive:=fun _=>Option α) (Bool.rec (motive:=fun _=>Option α) (r.get (k / 2 - 1)) (l.get (k / 2)) (Nat.beq (k%2) 1)) v (Nat.beq k 0))=_;rw [qeO,qeO]
def Tr.putS_eq {α:Type} (x:Option α) (a:Tr α->Nat->Tr α) (v:Option α) (l r:Tr α) (k:Nat):Tr.putS x a v l r k=if k=0 then .nd x l r else if k%2=1 then .nd v (a l (k / 2)) r else .nd v l (a r (k / 2 - 1)):=by
  show (Bool.rec (motive:=fun _=>Tr α) (Bool.rec (motive:=fun _=>Tr α) (.nd v l (a r (k / 2 - 1))) (.nd v (a l (k / 2)) r) (Nat.beq (k%2) 1)) (.nd x l r) (Nat.beq k 0))=_;rw [qeO,qeO]
def Tr.put_lf {α:Type} (f k:Nat) (x:Option α):Tr.put (f+1) .lf k x=if k=0 then .nd x .lf .lf else if k%2=1 then .nd none (Tr.put f .lf (k / 2) x) .lf else .nd none .lf (Tr.put f .lf (k / 2 - 1) x):=
  Tr.putS_eq x (fun t k=>Tr.put f t k x) none .lf .lf k
def Tr.put_nd {α:Type} (f k:Nat) (x v:Option α) (l r:Tr α):Tr.put (f+1) (.nd v l r) k x=if k=0 then .nd x l r else if k%2=1 then .nd v (Tr.put f l (k / 2) x) r else .nd v l (Tr.put f r (k / 2 - 1) x):=
  Tr.putS_eq x (fun t k=>Tr.put f t k x) v l r k
def Tr.get_put {α : Type} : ∀ (f : Nat) (t : Tr α) (k : Nat) (x : Option α), k + 1 < 2 ^ f -> ∀ j, (Tr.put f t k x).get j = if j = k then x else t.get j
  |0,t,k,x,h,j=>by simp at h
  | f + 1, t, k, x, h, j => by
    have e:2^(f+1)=2*2^f:=by rw [Nat.pow_succ];omega
    rw [e] at h;have key:∀(v:Option α) (l r:Tr α),(if k=0 then Tr.nd x l r else if k%2=1 then .nd v (Tr.put f l (k / 2) x) r else .nd v l (Tr.put f r (k / 2 - 1) x)).get j=if j=k then x else (Tr.nd v l r).get j:=by
      intro v l r;by_cases m:k=0
      · subst m;by_cases a:j=0
        · subst a;simp [Tr.get_nd]
        · simp [Tr.get_nd,a]
      · rw [q3 m];by_cases k1:k%2=1
        · rw [j0 k1];have n:=Tr.get_put f l (k / 2) x (by omega);by_cases a:j=0
          · subst a;rw [q3 (fun e=>m e.symm)];simp [Tr.get_nd]
          · by_cases b:j%2=1
            · simp only [Tr.get_nd,q3 a,j0 b,n];by_cases c:j=k
              · subst c;simp
              · rw [q3 (by omega),q3 c]
            · simp only [Tr.get_nd,q3 a,q3 b];rw [q3 (by omega)]
        · rw [q3 k1];have n:=Tr.get_put f r (k / 2 - 1) x (by omega);by_cases a:j=0
          · subst a;rw [q3 (fun e=>m e.symm)];simp [Tr.get_nd]
          · by_cases b:j%2=1
            · simp only [Tr.get_nd,q3 a,j0 b];rw [q3 (by omega)]
            · simp only [Tr.get_nd,q3 a,q3 b,n];by_cases c:j=k
              · subst c;simp
              · rw [q3 (by omega),q3 c]
    cases t with
    |lf=>
      have:=key none .lf .lf;have p:(Tr.nd none .lf .lf:Tr α).get j=(Tr.lf:Tr α).get j:=by
        simp only [Tr.get_nd,Tr.get_lf];split
        · rfl
        · split<;>rfl
      rw [p] at this;rw [Tr.put_lf];exact this
    |nd v l r=>rw [Tr.put_nd];exact key v l r
def vP:Nat:=1048570
noncomputable def Tr.set {α:Type} (t:Tr α) (k:Nat) (x:α):Tr α:=Tr.put 20 t k (some x)
noncomputable def Tr.del {α:Type} (t:Tr α) (k:Nat):Tr α:=Tr.put 20 t k none
def Tr.get_set {α:Type} (t:Tr α) {k:Nat} (x:α) (h:k<vP) (j:Nat):(t.set k x).get j=if j=k then some x else t.get j:=Tr.get_put 20 t k _ (by unfold vP at h;simp only [Nat.reducePow];omega) j
def Tr.get_del {α:Type} (t:Tr α) {k:Nat} (h:k<vP) (j:Nat):(t.del k).get j=if j=k then none else t.get j:=Tr.get_put 20 t k _ (by unfold vP at h;simp only [Nat.reducePow];omega) j
structure Ob where
  cells:List AB
  ty:TypeId
  sz:Nat
  whole:Bool
  ex:Bool
abbrev vM:=Tr Ob
abbrev Sg:=Nat->Option (Nat×Nat×Nat)
def Sg.le (σ τ:Sg):Prop:=∀k p,σ k=some p->τ k=some p
def Sg.le_refl (σ:Sg):σ.le σ:=fun _ _ h=>h
def Sg.le_trans {a b c:Sg} (h:a.le b) (k:b.le c):a.le c:=fun i p j=>k i p (h i p j)
def xw:AB->Bool
  | .bool _| .int _ _| .string _| .nilFunc| .nilIface| .pointer none=>true
  | .slice none 0 0=>true
  |_=>false
inductive VR (σ:Sg):AB->AB->Prop
  |pln {v:AB} (h:xw v=true):VR σ v v
  |ptr {i b f x o:Nat} (h:σ i=some (b,f,x)):VR σ (.pointer (some ⟨i,o,none⟩)) (.pointer (some ⟨b,f+o,none⟩))
  |slc {i b f x o n c:Nat} (h:σ i=some (b,f,x)) (hn:n<=c):VR σ (.slice (some ⟨i,o,none⟩) n c) (.slice (some ⟨b,f+o,none⟩) n (c+x))
  |fnc {g:Fn} {fs gs cs ds:Array AB} (h1:fs.size=gs.size) (h2:∀(i:Nat) (x y:AB),fs[i]? =some x->gs[i]? =some y->VR σ x y) (h3:cs.size=ds.size) (h4:∀(i:Nat) (x y:AB),cs[i]? =some x->ds[i]? =some y->VR σ x y):VR σ (.func g fs cs) (.func g gs ds)
  |mp {i b:Nat} (h:σ i=some (b,0,0)):VR σ (.map (some i)) (.map (some b))
  |ifc {t:TypeId} {v v':AB} (h:VR σ v v'):VR σ (.iface t v) (.iface t v')
  |agg {cs ds:Array AB} (h1:cs.size=ds.size) (h2:∀(i:Nat) (x y:AB),cs[i]? =some x->ds[i]? =some y->VR σ x y):VR σ (.agg cs) (.agg ds)
  |tup {cs ds:Array AB} (h1:cs.size=ds.size) (h2:∀(i:Nat) (x y:AB),cs[i]? =some x->ds[i]? =some y->VR σ x y):VR σ (.tuple cs) (.tuple ds)
def VR.mono {σ l:Sg} (c:σ.le l) {v j:AB} (h:VR σ v j):VR l v j:=by
  induction h with
  |pln h=>exact .pln h
  |ptr h=>exact .ptr (c _ _ h)
  |slc h p=>exact .slc (c _ _ h) p
  |mp h=>exact .mp (c _ _ h)
  |fnc b _ m _ n i4=>exact .fnc b n m i4
  |ifc _ a=>exact .ifc a
  |agg b _ a=>exact .agg b a
  |tup b _ a=>exact .tup b a
def qgx {cs ds es:Array AB} {σ:Sg} (j:cs.size=ds.size) (b:∀(i:Nat) (x y:AB),cs[i]? =some x->ds[i]? =some y->∀z,VR σ x z->y=z) (k1:cs.size=es.size) (k2:∀(i:Nat) (x y:AB),cs[i]? =some x->es[i]? =some y->VR σ x y):ds=es:=by
  apply Array.ext
  · omega
  · intro i c h;have a:i<cs.size:=by omega
    exact b i cs[i] ds[i] (uG a) (uG c) es[i] (k2 i cs[i] es[i] (uG a) (uG h))
theorem VR.uniq {σ:Sg} {v a:AB} (h:VR σ v a):∀{b:AB},VR σ v b->a=b:=by
  induction h with
  |pln h=>
    intro b j;cases j with
    |pln _=>rfl
    |ptr _=>cases h
    |slc _ _=>cases h
    |mp _=>cases h
    |fnc _ _ _ _=>cases h
    |ifc _=>cases h
    |agg _ _=>cases h
    |tup _ _=>cases h
  |ptr h=>
    intro b j;cases j with
    |pln c=>cases c
    |ptr c=>rw [h] at c;cases c;rfl
  |slc h A=>
    intro b j;cases j with
    |pln c=>cases c
    |slc c _=>rw [h] at c;cases c;rfl
  |mp h=>
    intro b j;cases j with
    |pln c=>cases c
    |mp c=>rw [h] at c;cases c;rfl
  |fnc q _ t _ u i4=>
    intro b j;cases j with
    |pln c=>cases c
    |fnc k1 k2 k3 k4=>rw [qgx q (fun i x y l m z n=>u i x y l m n) k1 k2,qgx t (fun i x y l m z n=>i4 i x y l m n) k3 k4]
  |ifc _ p=>
    intro b j;cases j with
    |pln c=>cases c
    |ifc c=>rw [p c]
  |agg q _ p=>
    intro b j;cases j with
    |pln c=>cases c
    |agg k1 k2=>rw [qgx q (fun i x y l m z n=>p i x y l m n) k1 k2]
  |tup q _ p=>
    intro b j;cases j with
    |pln c=>cases c
    |tup k1 k2=>rw [qgx q (fun i x y l m z n=>p i x y l m n) k1 k2]
def qw (σ:Sg):List AB->List AB->Prop
  |[],[]=>True
  |a::l,b::m=>VR σ a b/\qw σ l m
  |_,_=>False
def qw.len {σ:Sg}:∀{l m:List AB},qw σ l m->l.length=m.length
  |[],[],_=>rfl
  |_::l,_::m,h=>by simp [qw.len h.2]
def qw.mono {σ a:Sg} (b:σ.le a):∀{l m:List AB},qw σ l m->qw a l m
  |[],[],_=>trivial
  |_::_,_::_,h=>⟨h.1.mono b,qw.mono b h.2⟩
def qw.get {σ:Sg}:∀{l m:List AB},qw σ l m->∀(j:Nat) (v:AB),l[j]? =some v->∃n,m[j]? =some n/\VR σ v n
  |[],[],_,j,v,c=>by simp at c
  |a::l,b::m,h,0,v,c=>by simp at c;subst c;exact ⟨b,rfl,h.1⟩
  |a::l,b::m,h,j+1,v,c=>by simpa using qw.get h.2 j v (by simpa using c)
def qw.uniq {σ:Sg}:∀{l a b:List AB},qw σ l a->qw σ l b->a=b
  |[],[],[],_,_=>rfl
  |_::_,_::_,_::_,h,k=>by rw [h.1.uniq k.1,qw.uniq h.2 k.2]
def qw.app {σ:Sg}:∀{a b c d:List AB},qw σ a b->qw σ c d->qw σ (a++c) (b++d)
  |[],[],_,_,_,k=>k
  |_::_,_::_,_,_,h,k=>⟨h.1,qw.app h.2 k⟩
def qw.take {σ:Sg}:∀{a b:List AB} (n:Nat),qw σ a b->qw σ (a.take n) (b.take n)
  |[],[],_,_=>by simp [qw]
  |_::_,_::_,0,_=>by simp [qw]
  |_::_,_::_,n+1,h=>⟨h.1,qw.take n h.2⟩
def qw.drop {σ:Sg}:∀{a b:List AB} (n:Nat),qw σ a b->qw σ (a.drop n) (b.drop n)
  |[],[],_,_=>by simp [qw]
  |_::_,_::_,0,h=>h
  |_::_,_::_,n+1,h=>qw.drop n h.2
def qw.set {σ:Sg} {v j:AB} (c:VR σ v j):∀{a b:List AB} (n:Nat),qw σ a b->qw σ (a.set n v) (b.set n j)
  |[],[],_,_=>trivial
  |_::_,_::_,0,h=>⟨c,h.2⟩
  |_::_,_::_,n+1,h=>⟨h.1,qw.set c n h.2⟩
def qw.of {σ:Sg}:∀{l m:List AB},l.length=m.length->(∀(j:Nat) (x y:AB),l[j]? =some x->m[j]? =some y->VR σ x y)->qw σ l m
  |[],[],_,_=>trivial
  |a::l,b::m,h,c=>⟨c 0 a b rfl rfl,qw.of (by simpa using h) fun j x y p n=>c (j+1) x y (by simpa using p) (by simpa using n)⟩
def qw.arr {σ:Sg} {cs ds:Array AB} (h:qw σ cs.toList ds.toList):cs.size=ds.size/\∀(i:Nat) (x y:AB),cs[i]? =some x->ds[i]? =some y->VR σ x y:=by
  refine ⟨by simpa using h.len,fun i x y j a=>?_⟩;obtain ⟨l,c,b⟩:=h.get i x (by rw [<-j];simp);rw [<-Array.getElem?_toList,c] at a;cases a;exact b
structure RO (σ:Sg) (w:AA) (i:Nat) (o:Ob) (b f x:Nat) (cur:Array AB):Prop where
  at':σ i=some (b,f,x)
  heap:w.heap[b]? =some (.cells cur o.ty (0,0))
  cs:qw σ o.cells ((cur.toList.drop f).take o.cells.length)
  room:f+o.cells.length+x*o.sz<=cur.size
  whole:o.whole=true->f=0/\x=0/\cur.size=o.cells.length
  most:o.whole=false->∃n,o.cells.length=n*o.sz/\n+x<=maxLen
  exact:o.ex=true->f=0/\cur.size=o.cells.length+x*o.sz
def qbk (ps:List (ByteArray×AB)):List AB:=ps.flatMap fun p=>[.string p.1,p.2]
def MO (σ:Sg) (w:AA) (i:Nat) (o:Ob):Prop:=∃b ps,σ i=some (b,0,0)/\MapB w b ps/\o.cells=qbk ps/\∀p∈ps,xw p.2=true
def MR (σ:Sg) (H:vM) (w:AA):Prop:=∀i o,H.get i=some o->(o.sz=0->MO σ w i o)/\(o.sz≠0->∃b f x cur,RO σ w i o b f x cur)
def MO.mono {σ a:Sg} (l:σ.le a) {w:AA} {i:Nat} {o:Ob} (h:MO σ w i o):MO a w i o:=by
  obtain ⟨b,ps,j,c⟩:=h;exact ⟨b,ps,l _ _ j,c⟩
def RO.mono {σ a:Sg} (c:σ.le a) {w:AA} {i:Nat} {o:Ob} {b f x:Nat} {cur:Array AB} (h:RO σ w i o b f x cur):RO a w i o b f x cur:=
  ⟨c _ _ h.at',h.heap,h.cs.mono c,h.room,h.whole,h.most,h.exact⟩
def RO.keep {σ:Sg} {w w':AA} {i:Nat} {o:Ob} {b f x:Nat} {cur:Array AB} (h:RO σ w i o b f x cur) (a:w'.heap[b]? =w.heap[b]?):RO σ w' i o b f x cur:=
  ⟨h.at',a.trans h.heap,h.cs,h.room,h.whole,h.most,h.exact⟩
def RO.lt {σ:Sg} {w:AA} {i:Nat} {o:Ob} {b f x:Nat} {cur:Array AB} (h:RO σ w i o b f x cur):b<w.heap.size:=(ul.1 h.heap).1
def MR.ext {σ:Sg} {H:vM} {w w':AA} (h:MR σ H w) (j:qc w w'):MR σ H w':=fun i o l=>by
  refine ⟨fun a=>?_,fun a=>?_⟩
  · obtain ⟨b,ps,p,n,m⟩:=(h i o l).1 a;exact ⟨b,ps,p,n.ext j,m⟩
  · obtain ⟨b,f,x,cur,c⟩:=(h i o l).2 a;exact ⟨b,f,x,cur,c.keep (j.block b c.lt)⟩
def MR.mono {σ j:Sg} {H:vM} {w:AA} (h:MR σ H w) (l:σ.le j):MR j H w:=fun i o c=>by
  refine ⟨fun a=>((h i o c).1 a).mono l,fun a=>?_⟩;obtain ⟨b,f,x,cur,m⟩:=(h i o c).2 a;exact ⟨b,f,x,cur,m.mono l⟩
def RO.cell {σ:Sg} {w:AA} {i:Nat} {o:Ob} {b f x:Nat} {cur:Array AB} (h:RO σ w i o b f x cur) {j:Nat} {v:AB} (m:o.cells[j]? =some v):∃a,w.cell? ⟨b,f+j,none⟩=some a/\VR σ v a:=by
  obtain ⟨a,l,n⟩:=h.cs.get j v m;refine ⟨a, ?_,n⟩;have c:j<o.cells.length:=(u4.1 m).1;rw [Jw c,u0] at l;simpa [World.cell?,h.heap] using l
noncomputable def qgl (H:vM) (a:Addr):Option AB:=
  match a.spot with
  |none=>match H.get a.block with|some o=>bif Nat.beq o.sz 0 then none else o.cells[a.off]? |none=>none
  |some _=>none
noncomputable def qdf (H:vM) (a:Addr) (n:Nat):Option (List AB):=
  match a.spot with
  |none=>match H.get a.block with
    |some o=>bif Nat.beq o.sz 0 then none else if ((o.cells.drop a.off).take n).length=n then some ((o.cells.drop a.off).take n) else none
    |none=>none
  |some _=>none
def qc3 (sz:Nat) (v:AB) (l h:Int):Option AB:=
  match v with
  | .slice (some ⟨i,o,none⟩) _ c=>if 0<=l/\l<=h/\h<=c/\(l<c\/l=0) then some (.slice (some ⟨i,o+l.toNat*sz,none⟩) (h.toNat - l.toNat) (c - l.toNat)) else none
  | .slice none 0 0=>if l=0/\h=0 then some (.slice none 0 0) else none
  |_=>none
noncomputable def x1 (H:vM):K1->AB->Option AB
  | .same,v=>some v
  | .load1,.pointer (some a)=>qgl H a
  | .loadN n,.pointer (some a)=>match qdf H a n with|some l=>some (.agg l.toArray)|none=>none
  | .fadr off,.pointer (some ⟨i,o,none⟩)=>some (.pointer (some ⟨i,o+off,none⟩))
  | .fld off,.agg cs=>cs[off]?
  | .lenS,.slice _ n _=>some (.int .i64 n)
  | .lenT,.string s=>some (.int .i64 s.size)
  | .not,.bool b=>some (.bool !b)
  | .neg,.int k n=>some (.int k (k.wrap (0 - n)))
  | .conv k,.int _ n=>some (.int k (k.wrap n))
  | .ext i,.tuple vs=>vs[i]?
  | .mkif t,v=>some (.iface t v)
  | .nilc,.pointer (some a)=>some (.pointer (some a))
  | .nilc,.iface t v=>some (.iface t v)
  | .strid,.string s=>some (.string s)
  | .b2s,.slice none 0 0=>some (.string (qcD []))
  | .b2s,.slice (some a) n _=>match qdf H a n with
    |some l=>(match wH l with|some ns=>some (.string (qcD ns))|none=>none)
    |none=>none
  |_,_=>none
def x2:K2->AB->AB->Option AB
  | .ibin op _,.int k a,.int k' b=>if k=k' then (match qcn op k a b with|some (.int k n)=>some (.int k n)|some (.bool b)=>some (.bool b)|_=>none) else none
  | .sbin op,.string x,.string y=>match qaq op x y with|some (.string s)=>some (.string s)|some (.bool b)=>some (.bool b)|_=>none
  | .bbin .eql,.bool a,.bool b=>some (.bool (a==b))
  | .bbin .neq,.bool a,.bool b=>some (.bool (!(a==b)))
  | .ixa sz,.slice (some ⟨i,o,none⟩) n _,.int _ j=>if 0<=j/\j<n then some (.pointer (some ⟨i,o+j.toNat*sz,none⟩)) else none
  | .ixs,.string s,.int _ i=>if 0<=i then (match s[i.toNat]? with|some b=>some (.int .u8 b.toNat)|none=>none) else none
  | .slLo sz,.slice a n c,.int _ l=>qc3 sz (.slice a n c) l n
  | .stLo,.string s,.int _ l=>if 0<=l/\l<=s.size then some (.string (s.extract l.toNat s.size)) else none
  |_,_,_=>none
def x3:K3->AB->AB->AB->Option AB
  | .slLoHi sz,v,.int _ l,.int _ h=>qc3 sz v l h
  | .stLoHi,.string s,.int _ l,.int _ h=>if 0<=l/\l<=h/\h<=s.size then some (.string (s.extract l.toNat h.toNat)) else none
  |_,_,_,_=>none
def qcz:AB->Bool
  | .func _ fs cs=>fs.isEmpty&&cs.isEmpty
  | .agg cs=>cs.toList.all xw
  | .tuple cs=>cs.toList.all xw
  | .iface _ (.agg cs)=>cs.toList.all xw
  | .iface _ v=>xw v
  |v=>xw v
noncomputable def z7 (H:vM) (e:Tr AB):Ex->Option AB
  | .var i=>e.get i
  | .const v=>if qcz v then some v else none
  | .op1 k x=>match z7 H e x with|some a=>x1 H k a|none=>none
  | .op2 k x y=>match z7 H e x,z7 H e y with|some a,some b=>x2 k a b|_,_=>none
  | .op3 k x y z=>match z7 H e x,z7 H e y,z7 H e z with|some a,some b,some c=>x3 k a b c|_,_,_=>none
  | .op4 .. =>none
  | .ite c x y=>match z7 H e c with|some (.bool true)=>z7 H e x|some (.bool false)=>z7 H e y|_=>none
section
variable {σ:Sg} {H:vM} {w:AA}
theorem qic {cs:Array AB} (h:cs.toList.all xw=true):∀(i:Nat) (x y:AB),cs[i]? =some x->cs[i]? =some y->VR σ x y:=fun i x y b a=>by
  rw [b] at a;cases a;exact .pln (ut.1 h x (by rw [J0];exact JZ b))
theorem Qo {v:AB} (h:qcz v=true):VR σ v v:=by
  unfold qcz at h;split at h
  · simp only [km,JE] at h;obtain ⟨rfl,rfl⟩:=h;exact .fnc rfl (fun i x y a=>by simp at a) rfl (fun i x y a=>by simp at a)
  · exact .agg rfl (qic h)
  · exact .tup rfl (qic h)
  · exact .ifc (.agg rfl (qic h))
  · exact .ifc (.pln h)
  · exact .pln h
theorem qv3 (n:MR σ H w) {a:Addr} {v l:AB} (q:VR σ (.pointer (some a)) l) (h:qgl H a=some v):∃u,q9 w .load1 l=some u/\VR σ v u:=by
  cases q with
  |pln y=>cases y
  |ptr z=>
    simp only [qgl] at h;split at h
    · rename_i o p;rw [qwo] at h;by_cases c:o.sz=0
      · rw [j0 c] at h;cases h
      rw [q3 c] at h;obtain ⟨b,f,x,cur,j⟩:=(n _ o p).2 c;have:=j.at';rw [z] at this;cases this;obtain ⟨u,t,m⟩:=j.cell h;exact ⟨u,t,m⟩
    · cases h
theorem qhK (C : MR σ H w) {i o : Nat} {b f x : Nat} (E : σ i = some (b, f, x)) {n : Nat} {l : List AB} (h : qdf H ⟨i, o, none⟩ n = some l) : ∃ l', q4 w ⟨b, f + o, none⟩ 0 n = some l' /\ qw σ l l' /\ l.length = n := by
  simp only [qdf] at h;split at h
  · rename_i ob t;rw [qwo] at h;by_cases y:ob.sz=0
    · rw [j0 y] at h;cases h
    rw [q3 y] at h;split at h
    · rename_i z;cases h;obtain ⟨J,O,x',cur,q⟩:=(C _ ob t).2 y;have:=q.at';rw [E] at this;cases this;have A:=(q.cs.drop o).take n;have c:=A.len;rw [z] at c;refine ⟨_, ?_,A,z⟩;have B:=wE (w:=w) (a:=⟨b,f+o,none⟩) (l:=(((cur.toList.drop f).take ob.cells.length).drop o).take n) (i:=0) fun j I=>by
        have u:j<n:=by omega
        have m:(((cur.toList.drop f).take ob.cells.length).drop o)[j]? =some ((((cur.toList.drop f).take ob.cells.length).drop o).take n)[j]:=by
          rw [<-Jw u,uj I]
        rw [u0] at m;have p:o+j<ob.cells.length:=by
          have:=(u4.1 m).1;simp at this;omega
        rw [Jw p,u0] at m;simp only [zD,ur];simpa [World.cell?,q.heap,uB] using m
      rw [<-c] at B;exact B
    · cases h
  · cases h
theorem qwa : ∀ {l l' : List AB} {c : List Int}, qw σ l l' -> wH l = some c -> wH l' = some c
  |[],[],c,_,h=>h
  | a :: l, b :: m, c, q, h => by
    unfold wH at h;split at h
    · rename_i e;cases e
    · rename_i n x e;cases e;obtain ⟨t,p⟩:=q;cases t with
      |pln _=>
        simp only [uc] at h;obtain ⟨u,j,rfl⟩:=h;simp [wH,qwa p j]
    · cases h
theorem qeA {a:Option Addr} {n c:Nat} {b:AB} (h:VR σ (.slice a n c) b):qA b=true/\qm b=n:=by
  cases h with
  |pln h=>
    unfold xw at h;split at h<;>simp_all [qA,qm]
  |slc _ j=>exact ⟨by simp [qA];omega,rfl⟩
theorem qcM (E : MR σ H w) {k : K1} {v z u : AB} (j : VR σ v z) (h : x1 H k v = some u) : ∃ I, q9 w k z = some I /\ VR σ u I := by
  unfold x1 at h;split at h
  · cases h;exact ⟨z,rfl,j⟩
  · exact qv3 E j h
  · rename_i n a;split at h
    · rename_i l C;cases h;cases j with
      |pln m=>cases m
      |ptr q=>
        obtain ⟨l',t,p,_⟩:=qhK E q C;refine ⟨.agg l'.toArray,by simp only [q9,t];rfl, ?_⟩;obtain ⟨k1,k2⟩:=qw.arr (cs:=l.toArray) (ds:=l'.toArray) (by simpa using p);exact .agg k1 k2
    · cases h
  · cases h;cases j with
    |pln m=>cases m
    |ptr q=>exact ⟨_,rfl,by rw [zD,uB];exact .ptr q⟩
  · rename_i off cs;cases j with
    |pln m=>cases m
    |agg t p=>
      rename_i ds;have A:off<cs.size:=(ul.1 h).1;have y:ds[off]? =some ds[off]:=uG (by omega);exact ⟨ds[off],y,p off u _ h y⟩
  · cases h;obtain ⟨t,p⟩:=qeA j;refine ⟨_, ?_,.pln rfl⟩;show (if qA z=true then some (Value.int .i64 (qm z)) else none)=_;rw [j0 t,p]
  · cases h;cases j with|pln _=>exact ⟨_,rfl,.pln rfl⟩
  · cases h;cases j with|pln _=>exact ⟨_,rfl,.pln rfl⟩
  · cases h;cases j with|pln _=>exact ⟨_,rfl,.pln rfl⟩
  · cases h;cases j with|pln _=>exact ⟨_,rfl,.pln rfl⟩
  · rename_i i vs;cases j with
    |pln m=>cases m
    |tup t p=>
      rename_i ds;have A:i<vs.size:=(ul.1 h).1;have y:ds[i]? =some ds[i]:=uG (by omega);exact ⟨ds[i],y,p i u _ h y⟩
  · cases h;exact ⟨_,rfl,.ifc j⟩
  · cases h;cases j with
    |pln m=>cases m
    |ptr q=>exact ⟨_,rfl,.ptr q⟩
  · cases h;cases j with
    |pln m=>cases m
    |ifc O=>exact ⟨_,rfl,.ifc O⟩
  · cases h;cases j with|pln _=>exact ⟨_,rfl,.pln rfl⟩
  · cases h;cases j with|pln _=>exact ⟨_,rfl,.pln rfl⟩
  · rename_i a n c;split at h
    · rename_i l C;split at h
      · rename_i J B;cases h;cases j with
        |pln m=>cases m
        |slc q R=>
          rename_i b f x o;obtain ⟨l',t,p,_⟩:=qhK E q C;refine ⟨.string (qcD J), ?_,.pln rfl⟩;have g:qA (.slice (some ⟨b,f+o,none⟩) n (c+x))=true:=by simp [qA];omega
          show (if qA (.slice (some ⟨b,f+o,none⟩) n (c+x))=true then (q4 w (qN (.slice (some ⟨b,f+o,none⟩) n (c+x)) 0) 0 (qm (.slice (some ⟨b,f+o,none⟩) n (c+x)))).bind _ else none)=_;rw [j0 g];simp [qN,qm,t,qwa p B]
      · cases h
    · cases h
  · cases h
theorem qy0 (b o n c sz l h:Nat) (a:l<c\/l=0):q8 (.slice (some ⟨b,o,none⟩) n c) sz l h c=.slice (some ⟨b,o+l*sz,none⟩) (h - l) (c - l):=by
  unfold q8;by_cases e:c=l
  · have:l=0:=by omega
    subst this;subst e;simp
  · simp [e]
theorem qhl {sz : Nat} {v j u : AB} {l h : Int} (q : VR σ v j) (a : qc3 sz v l h = some u) :
    qA j=true/\0<=l/\l<=h/\h<=qI j/\∃p,q8 j sz l.toNat h.toNat (qI j)=p/\VR σ u p:=by
  unfold qc3 at a;split at a
  · rename_i i o n c;split at a
    · rename_i m;cases a;obtain ⟨A,t,B,C⟩:=m;cases q with
      |pln y=>cases y
      |slc z E=>
        rename_i b f x;refine ⟨by simp [qA];omega,A,t,by simp only [qI];omega,_,rfl, ?_⟩;rw [show qI (.slice (some ⟨b,f+o,none⟩) n (c+x))=c+x from rfl,qy0 _ _ _ _ _ _ _ (by omega)];have e:c+x - l.toNat=(c - l.toNat)+x:=by omega
        rw [e,uB];exact .slc z (by omega)
    · cases a
  · split at a
    · rename_i m;cases a;obtain ⟨rfl,rfl⟩:=m;cases q with
      |pln _=>exact ⟨rfl,by simp,by simp,by simp [qI],_,rfl,.pln rfl⟩
    · cases a
  · cases a
theorem qxd {k : K2} {a b t C u : AB} (m : VR σ a t) (p : VR σ b C) (h : x2 k a b = some u) : ∃ A, vf w k t C = some A /\ VR σ u A := by
  unfold x2 at h;split at h
  · rename_i op k1 x k2 y;cases m with
    | pln _ => cases p with
      |pln _=>
        simp only [vf];split at h
        · rename_i R;rw [j0 R];split at h
          · rename_i k3 n q;cases h;exact ⟨_,q,.pln rfl⟩
          · rename_i E q;cases h;exact ⟨_,q,.pln rfl⟩
          · cases h
        · cases h
  · rename_i op x y;cases m with
    |pln _=>cases p with
      |pln _=>
        simp only [vf];split at h
        · rename_i s q;cases h;exact ⟨_,q,.pln rfl⟩
        · rename_i E q;cases h;exact ⟨_,q,.pln rfl⟩
        · cases h
  · cases h;cases m with|pln _=>cases p with|pln _=>exact ⟨_,rfl,.pln rfl⟩
  · cases h;cases m with|pln _=>cases p with|pln _=>exact ⟨_,rfl,.pln rfl⟩
  · rename_i sz i o n c k2 j;split at h
    · rename_i z;cases h;cases m with
      |pln J=>cases J
      |slc O q=>
        rename_i b f x;cases p with
        |pln _=>
          refine ⟨.pointer (some ⟨b,f+o+j.toNat*sz,none⟩), ?_,by rw [uB];exact .ptr O⟩;show (if qA (.slice (some ⟨b,f+o,none⟩) n (c+x))=true/\0<=j/\j<qm (.slice (some ⟨b,f+o,none⟩) n (c+x)) then some (Value.pointer (some (qN (.slice (some ⟨b,f+o,none⟩) n (c+x)) (j.toNat*sz)))) else none)=_;rw [j0 ⟨by simp [qA];omega,z.1,z.2⟩];rfl
    · cases h
  · split at h
    · rename_i z;split at h
      · rename_i E B;cases h;cases m with
        |pln _=>cases p with
          |pln _=>exact ⟨_,by simp only [vf];rw [j0 z,B];rfl,.pln rfl⟩
      · cases h
    · cases h
  · rename_i sz a0 n c k2 l;obtain ⟨X,I,Z,h4,A,Y,S⟩:=qhl m h;obtain ⟨g1,W⟩:=qeA m;cases p with
    |pln _=>
      refine ⟨A, ?_,S⟩;show (if qA t=true/\0<=l/\l<=qm t then some (q8 t sz l.toNat (qm t) (qI t)) else none)=_;rw [j0 ⟨X,I,by omega⟩,<-Y,W];rfl
  · split at h
    · rename_i z;cases h;cases m with
      |pln _=>cases p with
        |pln _=>exact ⟨_,by simp only [vf];rw [j0 z],.pln rfl⟩
    · cases h
  · cases h
theorem qxc {k : K3} {a b c j p x u : AB} (y : VR σ a j) (q : VR σ b p) (t : VR σ c x) (h : x3 k a b c = some u) : ∃ m, yz w k j p x = some m /\ VR σ u m := by
  unfold x3 at h;split at h
  · rename_i sz k1 l k2 n;obtain ⟨I,C,A,B,m,J,E⟩:=qhl y h;cases q with
    |pln _=>cases t with
      |pln _=>
        refine ⟨m, ?_,E⟩;have e:yz w (.slLoHi sz) j (.int k1 l) (.int k2 n)=if qA j=true/\0<=l/\l<=n/\n<=qI j then some (q8 j sz l.toNat n.toNat (qI j)) else none:=by cases j<;>rfl
        rw [e,j0 ⟨I,C,A,B⟩,J]
  · split at h
    · rename_i z;cases h;cases y with
      |pln _=>cases q with
        |pln _=>cases t with
          |pln _=>exact ⟨_,by simp only [yz];rw [j0 z],.pln rfl⟩
    · cases h
  · cases h
def ER (σ:Sg) (e:Tr AB) (ρ:qa):Prop:=∀i v,e.get i=some v->VR σ v (ρ i)
theorem kE (l : MR σ H w) {e : Tr AB} {ρ : qa} (m : ER σ e ρ) : ∀ {ex : Ex} {u : AB}, z7 H e ex = some u -> ∃ j, ex.ev ρ w = some j /\ VR σ u j
  | .var i,u,h=>⟨ρ i,rfl,m i u h⟩
  | .const v,u,h=>by
    simp only [z7] at h;split at h
    · rename_i A;cases h;exact ⟨_,rfl,Qo A⟩
    · cases h
  | .op1 k x,u,h=>by
    simp only [z7] at h;split at h
    · rename_i a B;obtain ⟨O,t,q⟩:=kE l m B;obtain ⟨j,n,p⟩:=qcM l q h;exact ⟨j,by simp only [Ex.ev,t,Option.bind_some,n],p⟩
    · cases h
  | .op2 k x y,u,h=>by
    simp only [z7] at h;split at h
    · rename_i a b B C;obtain ⟨O,t,q⟩:=kE l m B;obtain ⟨S,n,p⟩:=kE l m C;obtain ⟨j,I,E⟩:=qxd (w:=w) q p h;exact ⟨j,by simp only [Ex.ev,t,n,Option.bind_some,I],E⟩
    · cases h
  | .op3 k x y z,u,h=>by
    simp only [z7] at h;split at h
    · rename_i a b c B C A;obtain ⟨O,t,q⟩:=kE l m B;obtain ⟨S,n,p⟩:=kE l m C;obtain ⟨J,I,E⟩:=kE l m A;obtain ⟨j,R,W⟩:=qxc (w:=w) q p E h;exact ⟨j,by simp only [Ex.ev,t,n,I,Option.bind_some,R],W⟩
    · cases h
  | .op4 ..,u,h=>by simp [z7] at h
  | .ite c x y,u,h=>by
    simp only [z7] at h;split at h
    · rename_i A;obtain ⟨J,t,q⟩:=kE l m A;cases q with
      |pln _=>
        obtain ⟨j,n,p⟩:=kE l m h;exact ⟨j,by simp only [Ex.ev,t,Option.bind_some,qb7,n],p⟩
    · rename_i A;obtain ⟨J,t,q⟩:=kE l m A;cases q with
      |pln _=>
        obtain ⟨j,n,p⟩:=kE l m h;exact ⟨j,by simp only [Ex.ev,t,Option.bind_some,qb7,n],p⟩
    · cases h
end
end Go.Eng
namespace Go.Eng
open Go.RowKit
section
variable (V:Nat->Bool)
def Q6:Operand->Bool
  | .tmp t=> !V t
  |_=>false
def qid:Op->Option (Operand×Operand×AB×Bool)
  | .pick c (.const va) b=>if Q6 V b then some (c,b,va,false) else none
  | .pick c a (.const vb)=>if Q6 V a then some (c,a,vb,true) else none
  |_=>none
variable (P:Program) (ops:Array Oper)
def qdo (rec : Nat -> Option (Ex × Nat)) (g : Option (Nat × Bool)) (x : Operand) (pos : Nat) : Option (Ex × Nat) :=
  if Q6 V x then
    match x,pos with
    | .tmp t,p+1=>if vK ops p=some t/\(ops[p]?).map (·.guard)=some g then rec p else none
    |_,_=>none
  else some (kz x,pos)
def qdn (rec:Nat->Option (Ex×Nat)) (g:Option (Nat×Bool)):List Operand->Nat->Option (List Ex×Nat)
  |[],pos=>some ([],pos)
  |x::xs,pos=>(qdn rec g xs pos).bind fun (es,j)=>(qdo V ops rec g x j).bind fun (e,j')=>some (e::es,j')
def qh1 (rec : Nat -> Option (Ex × Nat)) (o : Oper) (k : Nat) : Option (Ex × Nat) :=
  match qid V o.op with
  | some (c, y, cv, want) =>
    match k,c,y with
    | p + 1,.tmp tc,.tmp ty =>
      match (ops[p]?).bind (·.guard) with
      |some (i,want')=>
        if want'=want/\vK ops p=some ty/\vK ops i=some tc/\(o.guard=none\/Q6 V c=true) then
          (rec p).bind fun (ey,jy)=>(qdo V ops rec o.guard c jy).bind fun (ec,jc)=>some (if want then .ite ec ey (.const cv) else .ite ec (.const cv) ey,jc)
        else none
      |none=>none
    |_,_,_=>none
  |none=>
    match o.op with
    | .pick c a b=>if Q6 V a||Q6 V b then none else (qdo V ops rec o.guard c k).bind fun (ec,jc)=>some (.ite ec (kz a) (kz b),jc)
    |op=>(qep P op).bind fun p=>(qdn V ops rec o.guard p.opds k).bind fun (es,j)=>(p.mk es).map fun e=>(e,j)
def pxQ:Nat->Nat->Option (Ex×Nat)
  |0,_=>none
  |fuel+1,k=>(ops[k]?).bind fun o=>(qh1 V P ops (pxQ fuel) o k).bind fun (e,j)=>if xf o.guard j then some (e,j) else none
def tgQ (g : Option (Nat × Bool)) (j : Nat) : Option (Option (Nat × Bool)) :=
  match g with
  |none=>some none
  |some (i,want)=>match vK ops i with
    |some t=>if V t=true/\i<j then some (some (t,want)) else none
    |none=>none
def qku (o:Oper):Bool:=
  (o.op.operands.toList.all fun x=> !Q6 V x)&&(match o.op with| .select .. =>false|_=>true)&&(match o.dst with|some d=>V d|none=>true)
def qbX : Nat -> Nat -> Option (List St)
  |_,0=>some []
  |0,_+1=>none
  |fuel+1,k+1=>
    match ops[k]? with
    |none=>none
    |some o=>
      match pxQ V P ops (k+1) k,o.dst with
      |some (e,j),some d=>if V d then (tgQ V ops o.guard j).bind fun g=>(qbX fuel j).map (· ++[.asg g d e]) else none
      |_,_=>if qku V o then (tgQ V ops o.guard k).bind fun g=>(qbX fuel k).map (· ++[.eff g o.dst o.op o.type]) else none
end
def wu (V : Nat -> Bool) (P : Program) (n : Nat) (rawIds : List Nat) : Code -> Option IR
  | .skip=>some .skip
  | .region id ops draw=>
    if rawIds.contains id then some (.raw (.region id ops draw)) else
    if qbd ops n then
      match qbX V P ops ops.size ops.size with
      |none=>none
      |some l=>if draw then (if Region.lexB .any ops&&P.follows .mixedOrders then some (.drw l) else none) else some (.reg l)
    else none
  | .seq a b=>match wu V P n rawIds a,wu V P n rawIds b with
    |some x,some y=>some (.seq x y)
    |_,_=>none
  | .cond c a b=>if Q6 V c then none else match wu V P n rawIds a,wu V P n rawIds b with
    |some x,some y=>some (.cond (kz c) x y)
    |_,_=>none
  | .block id a=>match wu V P n rawIds a with
    |some x=>some (.block id x)
    |none=>none
  | .loop a=>match wu V P n rawIds a with
    |some x=>some (.loop x)
    |none=>none
  | .exit id=>some (.exit id)
  | .ret=>some .ret
  |c=>some (.raw c)
section
variable (V:List Nat) (P:Program) (ops:Array Oper)
theorem qdZ:Q6 (fun t=>V.contains t)=zP V:=by funext x;cases x<;>rfl
theorem qAZ:qid (fun t=>V.contains t)=qdv V:=by
  funext o;unfold qid qdv;rw [qdZ];rfl
theorem qnG:qdo (fun t=>V.contains t) ops=pxo ops V:=by
  funext rec g x pos;unfold qdo pxo;rw [qdZ];rfl
theorem qnF (rec:Nat->Option (Ex×Nat)) (g:Option (Nat×Bool)):∀(l:List Operand) (pos:Nat),qdn (fun t=>V.contains t) ops rec g l pos=qaB ops V rec g l pos
  |[],_=>rfl
  |x::xs,pos=>by
    unfold qdn qaB;rw [qnF rec g xs pos,qnG]
theorem qAw:qh1 (fun t=>V.contains t) P ops=qdp P ops V:=by
  funext rec o k;unfold qh1 qdp;rw [qAZ,qnG,qdZ];have:∀g l pos,qdn (fun t=>V.contains t) ops rec g l pos=qaB ops V rec g l pos:=fun g l pos=>qnF V ops rec g l pos;simp only [this];rfl
theorem qnH:∀(a k:Nat),pxQ (fun t=>V.contains t) P ops a k=px P ops V a k
  |0,_=>rfl
  |a+1,k=>by
    unfold pxQ px;have:pxQ (fun t=>V.contains t) P ops a=px P ops V a:=by funext k;exact qnH a k
    rw [this,qAw]
theorem qx4:tgQ (fun t=>V.contains t) ops=tg ops V:=by
  funext g j;unfold tgQ tg;rfl
theorem qIo:qku (fun t=>V.contains t)=qaT V:=by
  funext o;unfold qku qaT;rw [qdZ];rfl
theorem qmI:∀(a k:Nat),qbX (fun t=>V.contains t) P ops a k=wj P ops V a k
  |0,0=>rfl
  |_+1,0=>rfl
  |0,_+1=>rfl
  |a+1,k+1=>by
    unfold qbX wj;have:qbX (fun t=>V.contains t) P ops a=wj P ops V a:=by funext k;exact qmI a k
    rw [this,qx4,qIo,qnH];rfl
end
def qbB (V:List Nat) (P:Program) (n:Nat) (h:List Nat):∀c:Code,wu (fun t=>V.contains t) P n h c=jk P n V h c
  | .skip=>rfl
  | .region id ops draw=>by
    unfold wu jk;rw [qmI];rfl
  | .seq a b=>by
    unfold wu jk;rw [qbB V P n h a,qbB V P n h b];rfl
  | .cond c a b=>by
    unfold wu jk;rw [qbB V P n h a,qbB V P n h b,qdZ];rfl
  | .block id a=>by
    unfold wu jk;rw [qbB V P n h a];rfl
  | .loop a=>by
    unfold wu jk;rw [qbB V P n h a];rfl
  | .exit id=>rfl
  | .ret=>rfl
  | .scope _| .rangeFunc .. | .label _| .refuse _| .goto _=>rfl
def qIG (P:Program) (n:Nat) (a:List Nat) (c:Code):wu (fun t=>Nat.blt t n) P n a c=jk P n (List.range n) a c:=by
  rw [<-qbB];congr 1;funext t;cases h:Nat.blt t n with
  |true=>symm;simpa [uV] using h
  |false=>
    symm
    have:¬t<n:=fun e=>by rw [<-uV,h] at e;cases e
    simpa using this
end Go.Eng
namespace Go.Eng
open Go.RowKit
noncomputable section All
structure Sx where
  H:vM
  nx:Nat
  rs:List Nat
def qvW (v:AB):Option AB:=bif qcz v then some v else none
def zz (e:Tr AB):Operand->Option AB
  | .tmp t=>e.get t
  |x=>qvW (qbz x)
def qaG (e:Tr AB):List Operand->Option (List AB)
  |[]=>some []
  |x::l=>match zz e x,qaG e l with|some v,some vs=>some (v::vs)|_,_=>none
def qdb (e:Tr AB) (d:Nat) (v:AB):Option (Tr AB):=bif Nat.blt d vP then some (e.set d v) else none
def qnK (e:Tr AB) (d:Option Nat) (v:AB):Option (Tr AB):=
  match d with
  |none=>some e
  |some d=>qdb e d v
def gdX (e:Tr AB):Option (Nat×Bool)->Option Bool
  |none=>some true
  |some (t,want)=>match e.get t with|some (.bool b)=>some (b==want)|some (.tuple _)=>some false|_=>none
def xP (s:Sx) (k:Option Nat) (o:Ob):Option (Nat×Sx):=
  match k with
  |none=>bif Nat.blt s.nx vP then some (s.nx,⟨s.H.set s.nx o,Nat.succ s.nx,s.rs⟩) else none
  |some k=>bif s.rs.contains k&&Nat.blt k vP then some (k,⟨s.H.set k o,s.nx,s.rs.filter fun i=> !(i==k)⟩) else none
def y9 (v:AB):Bool:=match v with| .agg _| .tuple _=>false|_=>true
def qh2 (cs:List AB) (o:Nat) (vs:List AB):List AB:=cs.take o++vs++cs.drop (o+vs.length)
def qat (H:vM) (sz:Nat):AB->Option (List AB)
  | .slice none 0 0=>some []
  | .slice (some a) n _=>qdf H a (n*sz)
  |_=>none
def qdw (e:Tr AB):List (Nat×Operand)->Option (List (Nat×AB))
  |[]=>some []
  |(k,x)::l=>match zz e x,qdw e l with|some v,some vs=>some ((k,v)::vs)|_,_=>none
def qeT (p:Option (Nat×Sx)):Option (AB×Sx):=match p with|some (i,s)=>some (.pointer (some ⟨i,0,none⟩),s)|none=>none
def qdg (n:Nat) (p:Option (Nat×Sx)):Option (AB×Sx):=match p with|some (i,s)=>some (.slice (some ⟨i,0,none⟩) n n,s)|none=>none
def qkD (e:Tr AB) (s:Sx) (k:Option Nat) (t:TypeId) (x:Operand):Option (AB×Sx):=
  match zz e x with
  |some v=>qeT (xP s k ⟨v.cells.toList,t,1,true,false⟩)
  |none=>none
def qkG (P:Program) (s:Sx) (k:Option Nat) (t:TypeId):Option (AB×Sx):=
  match jU P t with
  |some z=>bif z.toList.all xw then qeT (xP s k ⟨z.toList,t,1,true,false⟩) else none
  |none=>none
def qho (s:Sx) (i o:Nat) (vs:List AB):Option (AB×Sx):=
  match s.H.get i with
  |some ob=>bif Nat.ble (Nat.add o vs.length) ob.cells.length&&Nat.blt i vP&& !(Nat.beq ob.sz 0) then some (undef,⟨s.H.set i ⟨qh2 ob.cells o vs,ob.ty,ob.sz,ob.whole,ob.ex⟩,s.nx,s.rs⟩) else none
  |none=>none
def qks (P:Program) (e:Tr AB) (s:Sx) (t:TypeId) (p x:Operand):Option (AB×Sx):=
  match zz e p,zz e x with
  |some (.pointer (some ⟨i,o,none⟩)),some v=>bif jh P t v.cells.size&&v.cells.toList.all y9 then qho s i o v.cells.toList else none
  |_,_=>none
def qkA (e:Tr AB) (s:Sx) (fn:Fn) (fs cs:List Operand):Option (AB×Sx):=
  match qaG e fs,qaG e cs with
  |some a,some b=>some (.func fn a.toArray b.toArray,s)
  |_,_=>none
def qln (P:Program) (t:TypeId):Bool:=
  match P.info? t with
  |some it=>match it.zero with|some z=>z.cells.toList.all xw|none=>true
  |none=>true
def qkC (P:Program) (e:Tr AB) (s:Sx) (t:TypeId) (ps:List (Nat×Operand)):Option (AB×Sx):=
  match qdw e ps with
  |some l=>bif qln P t then (match P.built t l with|some cs=>some (.agg cs,s)|none=>none) else none
  |none=>none
def qkz (P : Program) (e : Tr AB) (s : Sx) (k : Option Nat) (t : TypeId) (n : Nat) (ps : List (Nat × Operand)) : Option (AB × Sx) :=
  match qdw e ps,xB P t with
  |some l,some (ty,sz)=>
    bif Nat.ble (n*sz) 1000&&(l.map (·.1)==List.range n)&&l.all (fun p=>p.2.cells.size==sz)&&Nat.ble 1 sz then
      qdg n (xP s k ⟨l.flatMap (fun p=>p.2.cells.toList),ty,sz,false,false⟩)
    else none
  |_,_=>none
def qkJ (H : vM) (ty : TypeId) (sz : Nat) : AB -> Option vM
  | .slice (some a) _ c=>match H.get a.block with
    |some ob=>bif ob.ty==ty&&ob.sz==sz&& !ob.whole&&Nat.blt a.block vP&&Nat.ble (a.off+c*sz) ob.cells.length then some (H.del a.block) else none
    |none=>none
  | .slice none 0 0=>some H
  |_=>none
def qwy (s : Sx) (k : Option Nat) (ty : TypeId) (sz bytes : Nat) (av : AB) (xs ys : List AB) : Option (AB × Sx) :=
  bif Nat.ble 1 (xs.length+ys.length)&&Nat.blt (xs.length+ys.length) 4611686018427387904&&Nat.ble ((xs.length+ys.length)*bytes) (140737488355328*sz)&&ys.all y9&&Nat.ble 1 sz then
    match qkJ s.H ty sz av with
    |some H=>qdg ((xs.length+ys.length) / sz) (xP ⟨H,s.nx,s.rs⟩ k ⟨xs++ys,ty,sz,false,false⟩)
    |none=>none
  else none
def qkF (P : Program) (e : Tr AB) (s : Sx) (k : Option Nat) (t : TypeId) (a b : Operand) : Option (AB × Sx) :=
  match xM P t,zz e a,zz e b with
  |some (ty,sz,bytes),some av,some bv=>
    match qat s.H sz av,qat s.H sz bv with
    |some xs,some ys=>qwy s k ty sz bytes av xs ys
    |_,_=>none
  |_,_,_=>none
def qge (e:Tr AB) (s:Sx) (mx:Bool) (a b:Operand):Option (AB×Sx):=
  match zz e a,zz e b with
  |some (.int k x),some (.int k' y)=>bif k==k' then some (.int k (bif mx then (if y>x then y else x) else (if y<x then y else x)),s) else none
  |_,_=>none
def qkB (P:Program) (e:Tr AB) (s:Sx) (k:Option Nat):Callee->List Operand->List TypeId->Option (AB×Sx)
  | .builtin .append,[a,b],[t,t']=>bif t==t' then qkF P e s k t a b else none
  | .builtin .max,[a,b],[t,t']=>bif t==t' then qge e s true a b else none
  | .builtin .min,[a,b],_=>qge e s false a b
  |_,_,_=>none
def qkx (P : Program) (e : Tr AB) (s : Sx) (k : Option Nat) (t : TypeId) (x y : Operand) : Option (AB × Sx) :=
  match qiw P t,zz e x,zz e y with
  |some (ty,z,bytes),some (.int _ n),some (.int _ m)=>
    bif n==m&&decide (0<=n)&&decide (n<=100000)&&Nat.ble bytes 1000&&xw z&&y9 z&&(match P.info? ty with|some i=>(match i.zero with|some z=>z.cells.size==1|none=>false)|none=>false) then
      qdg n.toNat (xP s k ⟨List.replicate n.toNat z,ty,1,false,false⟩)
    else none
  |_,_,_=>none
def qkw (s:Sx) (k:Option Nat):Option (Nat)->Option (AB×Sx)
  |none=>match xP s k ⟨[],0,0,true,false⟩ with|some (i,s')=>some (.map (some i),s')|none=>none
  |some _=>none
def wB (a b:ByteArray):Bool:=a.data.toList.map (·.toNat)==b.data.toList.map (·.toNat)
def qfe:List AB->ByteArray->Option AB
  | .string a::v::l,k=>bif wB a k then some v else qfe l k
  |_,_=>none
def qky (P : Program) (e : Tr AB) (s : Sx) (t : TypeId) (m x : Operand) : Option (AB × Sx) :=
  match zz e m,zz e x,P.underlying t with
  |some (.map (some i)),some (.string b),some (.map kt et)=>
    match s.H.get i,P.underlying kt,(P.info? et).bind fun i=>i.zero with
    |some ob,some .string,some z=>bif Nat.beq ob.sz 0&&xw z then some ((qfe ob.cells b).getD z,s) else none
    |_,_,_=>none
  |_,_,_=>none
def qfc:List AB->ByteArray->AB->List AB
  | .string a::v::l,k,x=>bif wB a k then .string k::x::l else .string a::v::qfc l k x
  |_,k,x=>[.string k,x]
def qkq (P : Program) (e : Tr AB) (s : Sx) (t : TypeId) (m x y : Operand) : Option (AB × Sx) :=
  match zz e m,zz e x,zz e y with
  |some (.map (some i)),some (.string b),some v=>
    match P.underlying t with
    |some (.map kt _)=>match s.H.get i,P.underlying kt with
      |some ob,some .string=>bif Nat.beq ob.sz 0&&xw v&&Nat.blt i vP then some (undef,⟨s.H.set i ⟨qfc ob.cells b v,ob.ty,ob.sz,ob.whole,ob.ex⟩,s.nx,s.rs⟩) else none
      |_,_=>none
    |_=>none
  |_,_,_=>none
def qen (eq : Bool) (s : Sx) : AB -> AB -> Option (AB × Sx)
  | .agg xs,.agg ys=>match xs.toList,ys.toList with
    |[.int .i64 a,.int .i64 b],[.int .i64 c,.int .i64 d]=>some (.bool (bif eq then (a==c&&b==d) else !(a==c&&b==d)),s)
    |_,_=>none
  |_,_=>none
def qo6:AB->Option Bool
  | .slice (some _) _ _=>some false
  | .slice none 0 0=>some true
  |_=>none
def qmN (P:Program) (t:TypeId):Bool:=match P.underlying t with|some (.slice _)=>true|_=>false
def qkv (P : Program) (e : Tr AB) (s : Sx) (op : BinOp) (t : TypeId) (x : Operand) : Option (AB × Sx) :=
  match zz e x with
  |some v=>match qo6 v,op with
    |some b,.eql=>bif qmN P t then some (.bool b,s) else none
    |_,_=>none
  |none=>none
def qiu:Operand->Bool
  | .const (.slice none 0 0)=>true
  |_=>false
def qkr (pr : TypeId -> Bool) (e : Tr AB) (s : Sx) (op : BinOp) (t : TypeId) (x y : Operand) : Option (AB × Sx) :=
  match zz e x,zz e y with
  |some v,some u=>bif pr t then (match op with
    | .eql=>qen true s v u
    | .neq=>qen false s v u
    |_=>none) else none
  |_,_=>none
def qkE (P:Program) (pr:TypeId->Bool) (e:Tr AB) (s:Sx) (op:BinOp) (t u:TypeId) (x y:Operand):Option (AB×Sx):=
  bif qiu y then (bif t==u then qkv P e s op t x else none) else qkr pr e s op t x y
def qd1 (P:Program) (pr:TypeId->Bool) (e:Tr AB) (s:Sx) (k:Option Nat):Op->Option (AB×Sx)
  | .box t x=>qkD e s k t x
  | .alloc t=>qkG P s k t
  | .store t p x=>qks P e s t p x
  | .makeFunc fn fs cs=>qkA e s fn fs.toList cs.toList
  | .build t ps=>qkC P e s t ps.toList
  | .buildSlice t n ps=>qkz P e s k t n ps.toList
  | .call c=>qkB P e s k c.callee c.args.toList c.argTypes.toList
  | .makeSlice t x y=>qkx P e s k t x y
  | .makeMap _ r=>qkw s k (r.map fun _=>0)
  | .lookup t m x ok=>bif ok then none else qky P e s t m x
  | .mapUpdate t m x y=>qkq P e s t m x y
  | .binOp op t x y u=>qkE P pr e s op t u x y
  |_=>none
inductive Ou where
  |go (e:Tr AB) (s:Sx)
  |ex (i:Nat) (e:Tr AB) (s:Sx)
  |rt (e:Tr AB) (s:Sx)
  |pn (c:List PanicEntry) (s:Sx)
  |ret (v:AB) (s:Sx)
structure Fx where
  f:FuncId
  nt:Nat
  V:List Nat
  ir:IR
  rs:List RV
structure Fa where
  k:K1
  a:AB
  v:AB
inductive Tk where
  |ir (F:Fx) (a:IR) (e:Tr AB)
  |sts (l:List St) (e:Tr AB)
  |ord (L:Option (List Fa)) (bs:Option Nat) (t:OT) (e:Tr AB)
  |call (f:FuncId) (args:List AB)
def qaV:Code->List Nat
  | .region id _ true=>[id]
  | .seq a b=>qaV a++qaV b
  | .cond _ a b=>qaV a++qaV b
  | .block _ a=>qaV a
  | .loop a=>qaV a
  | .scope a=>qaV a
  |_=>[]
def qmc (ops:Array Oper):Nat:=((List.range ops.size).find? fun n=>Region.sinkB .any ops n&&Region.chainB .any ops n).getD ops.size
def qJP (c:Code):Code:=match c with| .scope c=>c|c=>c
def fnX (P : Program) (f : FuncId) : Option Fx :=
  match P.funcs[f]? with
  |none=>none
  |some fn=>match fn.body with
    |none=>none
    |some c=>
      match wu (fun t=>Nat.blt t fn.ntmps) P fn.ntmps (qaV c) (qJP c),zi P (List.range fn.ntmps) fn.results.toList with
      |some ir,some rs=>bif Nat.ble fn.ntmps 1000000000 then some ⟨f,fn.ntmps,List.range fn.ntmps,ir,rs⟩ else none
      |_,_=>none
def we (H : vM) : OT -> Tr AB -> List Fa
  | .take g d ex t, e => match gdX e g with
    |some true=>match z7 H e ex with
      |some v=>(match ex with
        | .op1 k x=>(match z7 .lf e x with
          |some a=>(match x1 .lf k a with|some _=>[] |none=>[⟨k,a,v⟩])
          |none=>[])
        |_=>[])++(match qdb e d v with|some e'=>we H t e'|none=>[])
      |none=>[]
    |some false=>(match qdb e d undef with|some e'=>we H t e'|none=>[])
    |none=>[]
  |_,_=>[]
def xl : Nat -> AB -> AB -> Bool
  |0,_,_=>false
  |n+1,a,b=>match a,b with
    | .bool a,.bool b=>a==b
    | .int k a,.int l b=>k==l&&a==b
    | .string a,.string b=>wB a b
    | .pointer none,.pointer none=>true
    | .pointer (some ⟨i,o,none⟩),.pointer (some ⟨j,p,none⟩)=>i==j&&o==p
    | .slice none n c,.slice none m d=>n==m&&c==d
    | .slice (some ⟨i,o,none⟩) n c,.slice (some ⟨j,p,none⟩) m d=>i==j&&o==p&&n==m&&c==d
    | .map (some i),.map (some j)=>i==j
    | .nilFunc,.nilFunc=>true
    | .nilIface,.nilIface=>true
    | .func (.func f) as bs,.func (.func g) cs ds=>f==g&&all2 (xl n) as.toList cs.toList&&all2 (xl n) bs.toList ds.toList
    | .agg as,.agg bs=>all2 (xl n) as.toList bs.toList
    | .tuple as,.tuple bs=>all2 (xl n) as.toList bs.toList
    | .iface t a,.iface u b=>t==u&&xl n a b
    |_,_=>false
where all2 (f:AB->AB->Bool):List AB->List AB->Bool
  |[],[]=>true
  |a::l,b::m=>f a b&&all2 f l m
  |_,_=>false
def qbo (a b:Ob):Bool:=xl.all2 (xl 4) a.cells b.cells&&a.ty==b.ty&&a.sz==b.sz&&a.whole==b.whole&&a.ex==b.ex
def qfl:K1->K1->Bool
  | .load1,.load1=>true
  | .loadN n,.loadN m=>n==m
  | .b2s,.b2s=>true
  |_,_=>false
def qhA (H:vM) (L:List Fa):Bool:=L.all fun f=>match x1 H f.k f.a with|some u=>xl 4 u f.v|none=>false
def qf6:List Fa->K1->AB->Option AB
  |[],_,_=>none
  |f::l,k,a=>bif qfl f.k k&&xl 4 f.a a then some f.v else qf6 l k a
def evF (L : List Fa) (e : Tr AB) : Ex -> Option AB
  | .op1 k x=>match z7 .lf e x with
    |some a=>(match x1 .lf k a with|some v=>some v|none=>qf6 L k a)
    |none=>none
  |ex=>z7 .lf e ex
def qoS {α:Type} (f:α->α->Bool):Option α->Option α->Bool
  |none,none=>true
  |some a,some b=>f a b
  |_,_=>false
def Tr.noneB {α:Type}:Tr α->Bool
  | .lf=>true
  | .nd none l r=>l.noneB&&r.noneB
  | .nd (some _) _ _=>false
def Tr.eqB {α:Type} (f:α->α->Bool):Tr α->Tr α->Bool
  | .nd v l r,.nd u m q=>qoS f v u&&l.eqB f m&&r.eqB f q
  | .lf,t=>t.noneB
  |t,.lf=>t.noneB
def qgr:OT->Bool
  | .both .. =>true
  | .take _ _ _ t=>qgr t
  | .step _ _ t=>qgr t
  | .done=>false
def qaS:OT->List Nat
  | .both x _=>qaS x
  | .take _ _ _ t=>qaS t
  | .step (.eff _ (some d) _ _) _ t=>d::qaS t
  | .step _ _ t=>qaS t
  | .done=>[]
def qir (H:vM) (e:Tr AB):RV->Option AB
  | .tmp t=>e.get t
  | .cell1 t=>match e.get t with|some v=>x1 H .load1 v|none=>none
  | .cellN t n=>match e.get t with|some v=>x1 H (.loadN n) v|none=>none
def qeN (H : vM) (e : Tr AB) : List RV -> Option (List AB)
  |[]=>some []
  |r::rs=>match qir H e r,qeN H e rs with
    |some v,some vs=>some (v::vs)
    |_,_=>none
def qbE:List AB->Nat->Tr AB->Tr AB
  |[],_,e=>e
  |v::l,k,e=>qbE l (Nat.succ k) (e.set k v)
structure TrP where
  f:FuncId
  tp:TypeId
  tb:TypeId
  ti:TypeId
  tt:TypeId
  tx:TypeId
abbrev qcK:=FuncId->List AB->Sx->Option (AB×Sx)
section
variable (P:Program) (prim:qcK) (tr:Option TrP) (sk:FuncId->Nat->List Nat) (pr:TypeId->Bool)
variable (r:Sx->Tk->Option Ou) (s:Sx)
def qf7 (rs:List RV) (e:Tr AB) (s:Sx):Option Ou:=
  match qeN s.H e rs with
  |some vs=>some (.ret (wQ vs) s)
  |none=>none
def qix (F:Fx):Option Ou->Option Ou
  |some (.go e s)=>qf7 F.rs e s
  |some (.rt e s)=>qf7 F.rs e s
  |some (.pn c s)=>some (.pn c s)
  |_=>none
def qgs (args:List AB):Option Fx->Option Ou
  |some F=>bif Nat.ble args.length F.nt&&Nat.blt args.length vP then qix F (r s (.ir F F.ir (qbE args 0 .lf))) else none
  |none=>none
def qwr (q : TrP) (b iY : Nat) (at0 : Int) (n : Nat) (s : Sx) : Option Ou :=
  match s.H.get b with
  |some ob=>match ob.cells with
    |[tv,.int .i64 i,.int .i64 far,.slice a m c]=>match qc3 6 (.slice a m c) 0 n with
      |some nv2=>bif decide (0<=i)&&decide (0<=far)&&Nat.ble n m&&Nat.blt b vP&&Nat.blt iY vP&&qbo ob ⟨[tv,.int .i64 i,.int .i64 far,.slice a m c],q.tt,1,true,false⟩ then
          some (.ret (.bool false) ⟨(s.H.set b ⟨[tv,.int .i64 at0,.int .i64 far,nv2],q.tt,1,true,false⟩).del iY,s.nx,s.rs⟩) else none
      |none=>none
    |_=>none
  |none=>none
def qbr (s:Sx) (i:Nat) (o:Ob):Bool:=match s.H.get i with|some p=>qbo p o|none=>false
def chainB (q:TrP):List PanicEntry->Bool
  |[p]=>(match p.v with| .iface t (.agg cs)=>t==q.tx&&cs.isEmpty|_=>false)&& !p.recovered&& !p.goexit
  |_=>false
def qxK (q : TrP) (b iA iY iN iM : Nat) (at0 : Int) (n : Nat) : Option Ou -> Option Ou
  |some (.ret v s)=>bif qbr s iY ⟨[.bool false],q.tb,1,true,false⟩&&Nat.blt iY vP&&(match v with| .tuple cs=>cs.isEmpty|_=>false) then some (.ret (.bool true) ⟨s.H.del iY,s.nx,s.rs⟩) else none
  |some (.pn c s)=>
    bif chainB q c&&qbr s iA ⟨[.pointer (some ⟨b,0,none⟩)],q.tp,1,true,false⟩&&qbr s iY ⟨[.bool false],q.tb,1,true,false⟩&&qbr s iN ⟨[.int .i64 at0],q.ti,1,true,false⟩&&qbr s iM ⟨[.int .i64 n],q.ti,1,true,false⟩&& !(Nat.beq b iY) then
      qwr q b iY at0 n s else none
  |_=>none
def qgX (q : TrP) (b g : Nat) (cs : List AB) (at0 : Int) (n : Nat) : Option Ou :=
  match xP s none ⟨[.pointer (some ⟨b,0,none⟩)],q.tp,1,true,false⟩ with
  |none=>none
  |some (iA,s1)=>match xP s1 none ⟨[.bool false],q.tb,1,true,false⟩ with
    |none=>none
    |some (iY,s2)=>match xP s2 none ⟨[.int .i64 at0],q.ti,1,true,false⟩ with
      |none=>none
      |some (iN,s3)=>match xP s3 none ⟨[.int .i64 n],q.ti,1,true,false⟩ with
        |none=>none
        |some (iM,s4)=>qxK q b iA iY iN iM at0 n (r s4 (.call g cs))
def qlK (P:Program) (q:TrP) (b:Nat) (ob:Ob) (g:FuncId) (fs cs:Array AB):Option Ou:=
  match ob.cells with
  |[tv,.int .i64 at0,.int .i64 far,.slice a n c]=>bif fs.isEmpty&&decide (0<=at0)&&decide (0<=far)&&qk P g&&qbo ob ⟨[tv,.int .i64 at0,.int .i64 far,.slice a n c],q.tt,1,true,false⟩ then qgX r s q b g cs.toList at0 n else none
  |_=>none
def qgW (q : TrP) : List AB -> Option Ou
  |[.pointer (some ⟨b,0,none⟩),.func (.func g) fs cs]=>match s.H.get b with
    |some ob=>qlK r s P q b ob g fs cs
    |none=>none
  |_=>none
def qkW (f : FuncId) (args : List AB) : Option Ou :=
  match prim f args s with
  |some (v,s')=>some (.ret v s')
  |none=>match tr with
    |some q=>bif Nat.beq q.f f then qgW P r s q args else qgs r s args (fnX P f)
    |none=>qgs r s args (fnX P f)
def qcy (l:List St) (d:Option Nat) (e:Tr AB) (v:AB) (s:Sx):Option Ou:=
  match qnK e d v with|some e'=>r s (.sts l e')|none=>none
def qws (l:List St) (d:Option Nat) (e:Tr AB):Option Ou->Option Ou
  |some (.ret v s)=>qcy r l d e v s
  |some (.pn c s)=>some (.pn c s)
  |_=>none
def qhr (l:List St) (d:Option Nat) (e:Tr AB):Option AB->Option (List AB)->Option Ou
  |some (.func (.func f) fs cs),some vs=>bif qk P f then qws r l d e (r s (.call f (fs.toList++(vs++cs.toList)))) else none
  |_,_=>none
def qmK:Option AB->Option Ou
  |some v=>match v with| .iface .. =>bif qcz v then some (.pn [{v:=v,recovered:=false}] s) else none|_=>none
  |none=>none
def qgh (l:List St) (d:Option Nat) (e:Tr AB):Option (AB×Sx)->Option Ou
  |some (v,s)=>qcy r l d e v s
  |none=>none
def qhq (k : Option Nat) (l : List St) (d : Option Nat) (e : Tr AB) : Op -> Option Ou
  | .panic x=>qmK s (zz e x)
  | .call c=>match c.callee with
    | .value f=>qhr P r s l d e (zz e f) (qaG e c.args.toList)
    |_=>qgh r l d e (qd1 P pr e s k (.call c))
  |op=>qgh r l d e (qd1 P pr e s k op)
def qhs (l:List St) (d:Nat) (e:Tr AB):Option AB->Option Ou
  |some v=>qcy r l (some d) e v s
  |none=>none
def qc4 (k : Option Nat) (e : Tr AB) : List St -> Option Ou
  |[]=>some (.go e s)
  | .asg g d x::l=>match gdX e g with
    |some true=>qhs r s l d e (z7 s.H e x)
    |some false=>qhs r s l d e (some undef)
    |none=>none
  | .eff g d op _::l=>match gdX e g with
    |some true=>qhq P pr r s k l d e op
    |some false=>qcy r l d e undef s
    |none=>none
def qe3 (L:Option (List Fa)) (bs:Option Nat) (t:OT) (e:Tr AB) (d:Nat):Option AB->Option Ou
  |some v=>match qdb e d v with|some e'=>r s (.ord L bs t e')|none=>none
  |none=>none
def qoR (L : Option (List Fa)) (bs : Option Nat) (t : OT) (b : Bool) : Option Ou -> Option Ou
  |some (.go e' s')=>
    bif b then (match L with
      |some l=>bif qhA s'.H l then r s' (.ord L bs t e') else none
      |none=>none)
    else r s' (.ord none bs t e')
  |some (.pn c s')=>some (.pn c s')
  |_=>none
def qwl:Option Ou->Option Ou->Option Ou
  |some (.go e1 s1),some (.go e2 s2)=>bif e1.eqB (xl 4) e2&&s1.H.eqB qbo s2.H&&Nat.beq s1.nx s2.nx&&s1.rs==s2.rs then some (.go e1 s1) else none
  |_,_=>none
def qoY (bs:Option Nat):St->Option Nat
  | .eff _ (some d) _ _=>bs.map (· +d)
  |_=>none
def qim (L : Option (List Fa)) (bs : Option Nat) (e : Tr AB) : OT -> Option Ou
  | .done=>some (.go e s)
  | .take g d x t=>match L with
    |none=>none
    |some l=>match gdX e g with
      |some true=>qe3 r s L bs t e d (evF l e x)
      |some false=>qe3 r s L bs t e d (some undef)
      |none=>none
  | .step x b t=>qoR r L bs t b (qc4 P pr r s (qoY bs x) e [x])
  | .both x y=>qwl (r s (.ord L bs x e)) (r s (.ord L bs y e))
def qhW (F:Fx) (e:Tr AB):Option OT->Option Ou
  |some t=>bif qgr t&&(qaS t).all (fun d=>Nat.blt d F.nt) then r ⟨s.H,s.nx+F.nt,s.rs++(qaS t).map (s.nx+ ·)⟩ (.ord (some (we s.H t e)) (some s.nx) t e)
      else r s (.ord (some (we s.H t e)) none t e)
  |none=>none
def qhw (F:Fx) (b:IR):Option Ou->Option Ou
  |some (.go e' s')=>r s' (.ir F b e')
  |o=>o
def qJQ (i:Nat):Option Ou->Option Ou
  |some (.ex j e' s')=>bif Nat.beq j i then some (.go e' s') else some (.ex j e' s')
  |o=>o
def qvX (F:Fx) (e:Tr AB) (a b:IR):Option AB->Option Ou
  |some (.bool c)=>bif c then r s (.ir F a e) else r s (.ir F b e)
  |_=>none
def irX (F : Fx) (e : Tr AB) : IR -> Option Ou
  | .skip=>some (.go e s)
  | .reg l=>r s (.sts l e)
  | .drw _=>none
  | .seq a b=>qhw r F b (r s (.ir F a e))
  | .cond c a b=>qvX r s F e a b (z7 s.H e c)
  | .block i a=>qJQ i (r s (.ir F a e))
  | .loop a=>qhw r F (.loop a) (r s (.ir F a e))
  | .exit i=>some (.ex i e s)
  | .ret=>some (.rt e s)
  | .raw c=>match c with
    | .label _=>some (.go e s)
    | .region id ops true=>qhW r s F e (qdz P F.nt F.V (sk F.f id) (qmc ops) (.region id ops true))
    |_=>none
def qbY:Tk->Option Ou
  | .ir F a e=>irX P sk r s F e a
  | .sts l e=>qc4 P pr r s none e l
  | .ord L bs t e=>qim P pr r s L bs e t
  | .call f args=>qkW P prim tr r s f args
end
def wD (P:Program) (prim:qcK) (tr:Option TrP) (sk:FuncId->Nat->List Nat) (pr:TypeId->Bool):Nat->Sx->Tk->Option Ou
  |0,_,_=>none
  |n+1,s,t=>qbY P prim tr sk pr (wD P prim tr sk pr n) s t
end All
end Go.Eng
namespace Go.Eng
open Go.RowKit
def jB {α:Type} {b:Bool} {x:Option α} {v:α} (h:(bif b then x else none)=some v):b=true/\x=some v:=by
  cases b
  · cases h
  · exact ⟨rfl,h⟩
def wJ {n:Nat} (h:Nat.blt n vP=true):n<vP:=by simpa [uV] using h
section
variable {σ:Sg} {e:Tr AB} {ρ:qa}
theorem qIC {v u:AB} (h:qvW v=some u):VR σ u v:=by
  obtain ⟨b,a⟩:=jB h;cases a;exact Qo b
theorem xe (a:ER σ e ρ) {x:Operand} {v:AB} (h:zz e x=some v):VR σ v (qd ρ x):=by
  unfold zz at h;split at h
  · exact a _ _ h
  · cases x with
    |tmp t=>rename_i b;exact absurd rfl (b t)
    |_=>exact qIC h
theorem qip (b:ER σ e ρ):∀{l:List Operand} {vs:List AB},qaG e l=some vs->qw σ vs (l.map (qd ρ))
  |[],vs,h=>by cases h;trivial
  | x :: l, vs, h => by
    unfold qaG at h;split at h
    · rename_i v j c a;cases h;exact ⟨xe b c,qip b a⟩
    · cases h
theorem qeD (l:ER σ e ρ) {d:Nat} {v c:AB} (n:VR σ v c) {j:Tr AB} (h:qdb e d v=some j):ER σ j (qx ρ d c):=by
  obtain ⟨p,m⟩:=jB h;cases m;intro i u a;rw [Tr.get_set _ _ (wJ p)] at a;unfold qx;split at a
  · rename_i b;cases a;rw [j0 b];exact n
  · rename_i b;rw [q3 b];exact l i u a
theorem qAz (a:ER σ e ρ) {d:Option Nat} {v b:AB} (j:VR σ v b) {c:Tr AB} (h:qnK e d v=some c):ER σ c (qp ρ d b):=by
  cases d with
  |none=>cases h;exact a
  |some d=>exact qeD a j h
theorem ER.mono {a:Sg} (b:ER σ e ρ) (c:σ.le a):ER a e ρ:=fun i v h=>(b i v h).mono c
theorem qcp (j:ER σ e ρ) {g:Option (Nat×Bool)} {b:Bool} (h:gdX e g=some b):gd ρ g=b:=by
  cases g with
  |none=>cases h;rfl
  |some p=>
    obtain ⟨t,l⟩:=p;simp only [gdX] at h;split at h
    · rename_i m a;cases h;have:=j _ _ a;generalize c:ρ t=r at this;cases this;simp [gd,c]
    · rename_i cs a;cases h;have:=j _ _ a;generalize c:ρ t=r at this;cases this with
      |pln h=>cases h
      |tup _ _=>simp [gd,c]
    · cases h
theorem qbP:VR σ undef undef:=Qo (v:=undef) rfl
theorem qcA {v c:AB} (h:VR σ v c):qw σ v.cells.toList c.cells.toList:=by
  cases h with
  |pln h=>
    have:v.cells=#[v]:=by
      unfold xw at h;split at h<;>first|rfl|cases h
    rw [this];exact ⟨.pln h,trivial⟩
  |ptr h=>exact ⟨.ptr h,trivial⟩
  |slc h q=>exact ⟨.slc h q,trivial⟩
  |mp h=>exact ⟨.mp h,trivial⟩
  |fnc b a m p=>exact ⟨.fnc b a m p,trivial⟩
  |ifc h=>exact ⟨.ifc h,trivial⟩
  | @agg cs ds b a=>
    show qw σ cs.toList ds.toList;exact qw.of (by simpa using b) fun j x y l n=>a j x y (by simpa using l) (by simpa using n)
  |tup b a=>exact ⟨.tup b a,trivial⟩
theorem qkS {v a:AB} (h:VR σ v a):a.cells.size=v.cells.size:=by
  have:=(qcA h).len;simpa using this.symm
theorem qCr {v b:AB} (h:VR σ v b) (a:y9 v=true):b.oneCell=true:=by
  cases h with
  |pln h=>
    unfold xw at h;split at h<;>first|rfl|cases h
  |agg _ _=>cases a
  |tup _ _=>cases a
  |_=>rfl
theorem qiq:∀{l m:List AB},qw σ l m->l.all y9=true->∀v∈m,v.oneCell=true
  |[],[],_,_,v,c=>by simp at c
  |a::l,b::m,h,j,v,c=>by
    simp only [List.all_cons,km] at j;rcases ug.1 c with rfl|c
    · exact qCr h.1 j.1
    · exact qiq h.2 j.2 v c
theorem qbi:∀{l:List AB},l.all xw=true->qw σ l l
  |[],_=>trivial
  |a::l,h=>by
    simp only [List.all_cons,km] at h;exact ⟨.pln h.1,qbi h.2⟩
end
structure Iv (σ:Sg) (w0:AA) (s:Sx) (w:AA):Prop where
  mr:MR σ s.H w
  dom:∀i p,σ i=some p->i<s.nx/\i∉s.rs
  res:∀i∈s.rs,i<s.nx
  ap:∀i j oi oj pi pj,s.H.get i=some oi->s.H.get j=some oj->σ i=some pi->σ j=some pj->pi.1=pj.1->i=j
  ext:qc w0 w
  own:∀i o p,s.H.get i=some o->σ i=some p->w0.heap.size<=p.1
section
variable {σ:Sg} {w0 w:AA} {s:Sx}
theorem Iv.toExt (h:Iv σ w0 s w) {w':AA} (a:qc w w'):Iv σ w0 s w':=⟨h.mr.ext a,h.dom,h.res,h.ap,h.ext.trans' a,h.own⟩
theorem MR.at' {H:vM} (h:MR σ H w) {i:Nat} {o:Ob} (c:H.get i=some o):∃p,σ i=some p/\p.1<w.heap.size:=by
  by_cases j:o.sz=0
  · obtain ⟨b,ps,m,l,_⟩:=(h i o c).1 j;exact ⟨_,m,l.lt⟩
  · obtain ⟨b,f,x,cur,a⟩:=(h i o c).2 j;exact ⟨_,a.at',a.lt⟩
theorem MR.keep {H H':vM} (h:MR σ H w) {w':AA} (l:∀i o,H'.get i=some o->H.get i=some o) (m:∀i o p,H'.get i=some o->σ i=some p->w'.heap[p.1]? =w.heap[p.1]?):MR σ H' w':=fun i o a=>by
  refine ⟨fun c=>?_,fun c=>?_⟩
  · obtain ⟨b,ps,n,t,q⟩:=(h i o (l i o a)).1 c;exact ⟨b,ps,n,t.block (m i o _ a n),q⟩
  · obtain ⟨b,f,x,cur,j⟩:=(h i o (l i o a)).2 c;exact ⟨b,f,x,cur,j.keep (m i o _ a j.at')⟩
theorem qiv (t : Iv σ w0 s w) {k : Option Nat} {o : Ob} {i : Nat} {s' : Sx} (h : xP s k o = some (i, s')) {b f x : Nat} {W : AA} (hW : MR σ s.H W) (hE : qc w0 W) (Z : w0.heap.size <= b)
    (I:∀j u A,s.H.get j=some u->σ j=some A->A.1≠b) (ho:∀n,σ.le n->n i=some (b,f,x)->(o.sz=0->MO n W i o)/\(o.sz≠0->∃cur,RO n W i o b f x cur)):
    ∃n,σ.le n/\n i=some (b,f,x)/\Iv n w0 s' W/\s'.H=s.H.set i o/\i<vP/\∀j p,n j=some p->j≠i->σ j=some p:=by
  have key:i<vP/\s'.H=s.H.set i o/\σ i=none/\i<s'.nx/\i∉s'.rs/\s.nx<=s'.nx/\(∀j∈s'.rs,j∈s.rs):=by
    unfold xP at h;split at h
    · obtain ⟨O,R⟩:=jB h;cases R;refine ⟨wJ O,rfl, ?_,Vh _,fun E=>?_,Nat.le_succ _,fun j c=>c⟩
      · cases S:σ s.nx with
        |none=>rfl
        |some p=>exact absurd (t.dom _ _ S).1 (Nat.lt_irrefl _)
      · exact absurd (t.res _ E) (Nat.lt_irrefl _)
    · rename_i k;obtain ⟨O,R⟩:=jB h;cases R;simp only [km] at O;have E:i∈s.rs:=by simpa using O.1
      refine ⟨wJ O.2,rfl, ?_,t.res _ E,by simp,kh _,fun j c=>(List.mem_filter.1 c).1⟩;cases S:σ i with
      |none=>rfl
      |some p=>exact absurd E (t.dom _ _ S).2
  obtain ⟨k1,k2,k3,k4,k5,k6,k7⟩:=key;have B:σ.le (fun j=>if j=i then some (b,f,x) else σ j):=fun j p q=>by
    have:j≠i:=fun e=>by rw [e,k3] at q;cases q
    simp [this,q]
  have z:∀j,s'.H.get j=if j=i then some o else s.H.get j:=fun j=>by rw [k2,Tr.get_set _ _ k1]
  refine ⟨_,B,by simp,⟨?_, ?_,fun j c=>uT (t.res j (k7 j c)) k6, ?_,hE, ?_⟩,k2,k1,fun j p q Y=>by simpa [Y] using q⟩
  · intro j u c;rw [z] at c;split at c
    · rename_i e;cases c;subst e;obtain ⟨a1,a2⟩:=ho _ B (by simp);exact ⟨a1,fun hz=>let ⟨cur,hc⟩:=a2 hz;⟨b,f,x,cur,hc⟩⟩
    · exact (hW.mono B) j u c
  · intro j p q;split at q
    · rename_i e;subst e;exact ⟨k4,k5⟩
    · have:=t.dom j p q;exact ⟨uT this.1 k6,fun E=>this.2 (k7 j E)⟩
  · intro j l u ol A pl c J a m X;rw [z] at c J;split at c
    · rename_i y;rw [j0 y] at a;cases a;split at J
      · rename_i C;rw [y,C]
      · rename_i C;rw [q3 C] at m;exact absurd X.symm (I l ol pl J m)
    · rename_i y;rw [q3 y] at a;split at J
      · rename_i C;rw [j0 C] at m;cases m;exact absurd X (I j u A c a)
      · rename_i C;rw [q3 C] at m;exact t.ap j l u ol A pl c J a m X
  · intro j u A c a;rw [z] at c;split at c
    · rename_i y;rw [j0 y] at a;cases a;exact Z
    · rename_i y;rw [q3 y] at a;exact t.own j u A c a
theorem qfa (q:Iv σ w0 s w) {k:Option Nat} {o:Ob} {i:Nat} {s':Sx} (h:xP s k o=some (i,s')) {b f x:Nat} {W:AA} (n:MR σ s.H W) (t:qc w0 W) (l:w0.heap.size<=b)
    (c:∀j u m,s.H.get j=some u->σ j=some m->m.1≠b) (y:∀a,σ.le a->a i=some (b,f,x)->(o.sz=0->MO a W i o)/\(o.sz≠0->∃cur,RO a W i o b f x cur)):
    ∃a,σ.le a/\a i=some (b,f,x)/\Iv a w0 s' W:=by
  obtain ⟨a,A,z,p,_⟩:=qiv q h n t l c y;exact ⟨a,A,z,p⟩
theorem qeS (n:Iv σ w0 s w) {cs cs':List AB} {t:TypeId} {i:Nat} {s':Sx} (h:xP s none ⟨cs,t,1,true,false⟩=some (i,s')) {b:Nat} (u:w0.heap.size<=b) (l:∀j I y,s.H.get j=some I->σ j=some y->y.1≠b) (C:Blk w b cs'.toArray t) (c:qw σ cs cs'):
    ∃a,σ.le a/\a i=some (b,0,0)/\Iv a w0 s' w/\∀j o p,s'.H.get j=some o->a j=some p->p.1=b\/(s.H.get j=some o/\σ j=some p):=by
  obtain ⟨a,W,z,E,J,Y,O⟩:=qiv n h (b:=b) (f:=0) (x:=0) n.mr n.ext u l fun a B R=>⟨(fun X=>by cases X),fun _=>⟨cs'.toArray,R,C.heap,by
    simp only [List.drop_zero];rw [uz (by rw [c.len];exact kh _)];exact c.mono B,by simp [c.len],fun _=>⟨rfl,rfl,by simp [c.len]⟩,(fun S=>by cases S),(fun A=>by cases A)⟩⟩
  refine ⟨a,W,z,E,fun j o p q m=>?_⟩;rw [J,Tr.get_set _ _ Y] at q;split at q
  · rename_i e;subst e;rw [z] at m;cases m;exact .inl rfl
  · rename_i e;exact .inr ⟨q,O j p m e⟩
theorem qd6 (c:Iv σ w0 s w) {i:Nat} {ob:Ob} (h:s.H.get i=some ob) (j:ob.whole=true) (l:ob.sz≠0):∃b cs',σ i=some (b,0,0)/\qw σ ob.cells cs'/\Blk w b cs'.toArray ob.ty:=by
  obtain ⟨b,f,x,cur,a⟩:=(c.mr i ob h).2 l;obtain ⟨rfl,rfl,m⟩:=a.whole j;refine ⟨b,cur.toList,a.at', ?_,⟨by simpa using a.heap⟩⟩;have:=a.cs;simp only [List.drop_zero] at this
  rwa [uz (by simp [m])] at this
theorem qvR (c:Iv σ w0 s w) {i:Nat} {ob:Ob} (u:s.H.get i=some ob) (n:i<vP) {b f x:Nat} (m:σ i=some (b,f,x)) {W:AA} (t:Only b w W):Iv σ w0 ⟨s.H.del i,s.nx,s.rs⟩ W:=by
  have h:∀j o,(s.H.del i).get j=some o->j≠i/\s.H.get j=some o:=fun j o a=>by
    rw [Tr.get_del _ n] at a;split at a
    · cases a
    · rename_i e;exact ⟨e,a⟩
  exact ⟨c.mr.keep (fun j o a=>(h j o a).2) fun j o p a A=>t.block _ fun e=>(h j o a).1 (c.ap j i o ob p _ (h j o a).2 u A m e),c.dom,c.res,fun j l q ol y pl a z=>c.ap j l q ol y pl (h j q a).2 (h l ol z).2,t.ext c.ext (c.own i ob _ u m),fun j o p a=>c.own j o p (h j o a).2⟩
theorem qgz (c:Iv σ w0 s w) {k:Option Nat} {cs cs':List AB} {t:TypeId} {sz:Nat} {x:Bool} {i:Nat} {s':Sx} (h:xP s k ⟨cs,t,sz,x,false⟩=some (i,s')) (l:qw σ cs cs') (q:sz≠0) {W:AA} (u:qc w W) {b:Nat} (A:w.heap.size<=b) (B:Blk W b cs'.toArray t) (I:x=false->∃n,cs.length=n*sz/\n<=maxLen):
    ∃m,σ.le m/\m i=some (b,0,0)/\Iv m w0 s' W:=by
  refine qfa c h (c.mr.ext u) (c.ext.trans' u) (Nat.le_trans c.ext.size A) (fun j Z Y O C he=>?_) fun m z J=>⟨fun S=>absurd S q,fun _=>⟨cs'.toArray,J,B.heap, ?_, ?_,fun _=>⟨rfl,rfl, ?_⟩,fun R=>?_,(fun h=>by cases h)⟩⟩
  · obtain ⟨p,a,y⟩:=c.mr.at' O;rw [C] at a;cases a;omega
  · simp only [List.drop_zero];have:(cs'.take cs.length)=cs':=uz (by rw [l.len];exact kh _);rw [this];exact l.mono z
  · simp [l.len]
  · simp [l.len]
  · obtain ⟨n,X,E⟩:=I R;exact ⟨n,X,by simpa using E⟩
theorem qkT (h : Iv σ w0 s w) {i : Nat} {ob : Ob} (S : s.H.get i = some ob) {a : Ob} (A : i < vP) {b f x : Nat} (y : σ i = some (b, f, x)) {W : AA} (Z : Only b w W) (Y : (a.sz = 0 -> MO σ W i a) /\ (a.sz ≠ 0 -> ∃ cur, RO σ W i a b f x cur)) :
    Iv σ w0 ⟨s.H.set i a,s.nx,s.rs⟩ W:=by
  have z:∀j,(s.H.set i a).get j=if j=i then some a else s.H.get j:=fun j=>Tr.get_set _ _ A j
  have q:∀j o,(s.H.set i a).get j=some o->∃o',s.H.get j=some o':=fun j o m=>by
    rw [z] at m;split at m
    · rename_i e;rw [e];exact ⟨_,S⟩
    · exact ⟨_,m⟩
  refine ⟨fun j n m=>?_,h.dom,h.res,fun j l n ol I pl m hl t E R=>?_,Z.ext h.ext (h.own i ob _ S y),fun j n I m t=>?_⟩
  · have c:=m;dsimp only at c;rw [z] at c;split at c
    · rename_i e;cases c;subst e;exact ⟨Y.1,fun B=>let ⟨cur,hc⟩:=Y.2 B;⟨b,f,x,cur,hc⟩⟩
    · rename_i e;have C:∀p,σ j=some p->W.heap[p.1]? =w.heap[p.1]? :=fun p hp=>Z.block _ fun R=>e (h.ap j i n ob p _ c S hp y R);refine ⟨fun B=>?_,fun B=>?_⟩
      · obtain ⟨J,ps,u,O,h3⟩:=(h.mr j n c).1 B;exact ⟨J,ps,u,O.block (C _ u),h3⟩
      · obtain ⟨J,f1,x1,cur,X⟩:=(h.mr j n c).2 B;exact ⟨J,f1,x1,cur,X.keep (C _ X.at')⟩
  · obtain ⟨o1,u⟩:=q j n m;obtain ⟨o2,O⟩:=q l ol hl;exact h.ap j l o1 o2 I pl u O t E R
  · obtain ⟨o1,u⟩:=q j n m;exact h.own j o1 I u t
end
end Go.Eng
namespace Go.Eng
open Go.RowKit
def qxm {α:Type} {C vs:List α} {f m o:Nat} (j:o+vs.length<=m) (b:f+m<=C.length):
    ((C.take (f+o)++vs++C.drop (f+o+vs.length)).drop f).take m=((C.drop f).take m).take o++vs++((C.drop f).take m).drop (o+vs.length):=by
  obtain ⟨A,D,rfl,rfl⟩:∃A D,C=A++D/\A.length=f:=⟨C.take f,C.drop f,by simp,by rw [uF];omega⟩;have h:m<=D.length:=by rw [ky] at b;omega
  have c:(A++D).take (A.length+o)=A++D.take o:=by rw [Vd,uz (by omega),Vf]
  have a:(A++D).drop (A.length+o+vs.length)=D.drop (o+vs.length):=by
    rw [List.drop_append,Jr (by omega),List.nil_append,show A.length+o+vs.length - A.length=o+vs.length by omega]
  have l1:(D.take o).length=o:=by rw [uF];omega
  rw [c,a,Js,un,un,Js,Vd,uz (l:=D.take o) (by omega),l1,Vd,uz (l:=vs) (by omega),
    List.take_take,Nat.min_eq_left (by omega),un,List.drop_take,Nat.sub_sub]
section
variable {P:Program} {Q:Ks} {K:qa->AA->Prop} {ρ:qa} {w w0:AA} {σ:Sg} {e:Tr AB} {s s':Sx} {k:Option Nat} {d:Option Nat} {ty:TypeId} {v:AB}
def Kn (σ:Sg) (w0:AA) (s':Sx) (v:AB) (d:Option Nat) (K:qa->AA->Prop) (ρ:qa):Prop:=∀τ v' W,σ.le τ->Iv τ w0 s' W->VR τ v v'->K (qp ρ d v') W
theorem qnL {p:Option (Nat×Sx)} (h:qeT p=some (v,s')):∃i,p=some (i,s')/\v=.pointer (some ⟨i,0,none⟩):=by
  unfold qeT at h;split at h
  · cases h;exact ⟨_,rfl,rfl⟩
  · cases h
theorem qhL {n:Nat} {p:Option (Nat×Sx)} (h:qdg n p=some (v,s')):∃i,p=some (i,s')/\v=.slice (some ⟨i,0,none⟩) n n:=by
  unfold qdg at h;split at h
  · cases h;exact ⟨_,rfl,rfl⟩
  · cases h
theorem qaC {a:Sg} {i b:Nat} (h:a i=some (b,0,0)):VR a (.pointer (some ⟨i,0,none⟩)) (.pointer (some ⟨b,0,none⟩)):=.ptr (o:=0) h
theorem qmO {a:Sg} {i b n:Nat} (h:a i=some (b,0,0)):VR a (.slice (some ⟨i,0,none⟩) n n) (.slice (some ⟨b,0,none⟩) n n):=.slc (o:=0) h (kh _)
theorem qJO (l:Iv σ w0 s w) (p:ER σ e ρ) {t:TypeId} {x:Operand} (h:qkD e s k t x=some (v,s')) (q:Kn σ w0 s' v d K ρ):qB P Q d (.box t x) ty K ρ w:=by
  unfold qkD at h;split at h
  · rename_i u n;obtain ⟨i,A,rfl⟩:=qnL h;refine vC fun B W j m c _=>?_;obtain ⟨z,b,y,a⟩:=qgz l A (qcA (xe p n)) (by decide) m j (by simpa using c) (by simp);exact q z _ W b a (qaC y)
  · cases h
theorem qCC (m:Iv σ w0 s w) {t:TypeId} (h:qkG P s k t=some (v,s')) (p:Kn σ w0 s' v d K ρ):qB P Q d (.alloc t) ty K ρ w:=by
  unfold qkG at h;split at h
  · rename_i z y;obtain ⟨l,h⟩:=jB h;obtain ⟨i,x,rfl⟩:=qnL h;refine qQ y fun B W j n c _=>?_;obtain ⟨u,b,q,a⟩:=qgz m x (qbi l) (by decide) n j (by simpa using c) (by simp);exact p u _ W b a (qaC q)
  · cases h
theorem qyQ (B:Iv σ w0 s w) {i o b f x:Nat} {vs a:List AB} (A:qw σ vs a) (Z:∀u∈a,u.oneCell=true) (l:σ i=some (b,f,x)) (h:qho s i o vs=some (v,s')) {K:AA->Prop} (Y:v=undef->∀W,Iv σ w0 s' W->K W):kM ⟨b,f+o,none⟩ a 0 K w:=by
  unfold qho at h;split at h
  · rename_i ob q;obtain ⟨E,h⟩:=jB h;cases h;simp only [km,uP,ux,Nat.add_eq] at E;obtain ⟨⟨h2,S⟩,I⟩:=E;have J:ob.sz≠0:=fun e=>by rw [e] at I;cases I
    obtain ⟨b1,f1,x1,cur,j⟩:=(B.mr i ob q).2 J;have p:=j.at';rw [l] at p;cases p;have t:=A.len;have y:=j.room;refine qhn _ _ _ ?_;refine qbW _ _ w cur ⟨j.heap⟩ (by omega) Z fun W X R=>Y rfl W ?_;have n:(cur.toList.take (f+o)++a++cur.toList.drop (f+o+a.length)).toArray.size=cur.size:=by simp;omega
    have c:(qh2 ob.cells o vs).length=ob.cells.length:=by simp [qh2];omega
    refine qkT B q (wJ S) l X ⟨fun e=>absurd e J,fun _=>⟨_,l,R.heap, ?_, ?_,fun z=>?_, ?_,fun O=>?_⟩⟩
    · rw [c];have:=qxm (C:=cur.toList) (vs:=a) (f:=f) (m:=ob.cells.length) (o:=o) (by omega) (by simp;omega);simp only [Nat.add_zero];rw [this];rw [<-t];exact ((j.cs.take o).app A).app (j.cs.drop _)
    · simp only [Nat.add_zero];rw [n,c];exact j.room
    · simp only [Nat.add_zero];rw [n];rw [c];exact j.whole z
    · intro z;rw [c];exact j.most z
    · simp only [Nat.add_zero];rw [n,c];exact j.exact O
  · cases h
theorem qyP (z:Iv σ w0 s w) (m:ER σ e ρ) {t:TypeId} {p x:Operand} (h:qks P e s t p x=some (v,s')) (C:Kn σ w0 s' v d K ρ):qB P Q d (.store t p x) ty K ρ w:=by
  unfold qks at h;split at h
  · rename_i i o u n B;obtain ⟨l,h⟩:=jB h;simp only [km] at l;have b:=xe m n;have a:=xe m B;show jh P t (qd ρ x).cells.size=true/\y7 (qd ρ p) _;rw [qkS a];refine ⟨l.1, ?_⟩;generalize qd ρ p=q at b;cases b with
    |pln A=>cases A
    |ptr c=>exact qyQ z (qcA a) (qiq (qcA a) l.2) c h fun y W j=>by subst y;exact C σ _ W (Sg.le_refl σ) j qbP
  · cases h
theorem qoT (a:ER σ e ρ) {l:Array Operand} {vs:List AB} (h:qaG e l.toList=some vs):vs.toArray.size=(l.map (qd ρ)).size/\∀(i:Nat) (x y:AB),vs.toArray[i]? =some x->(l.map (qd ρ))[i]? =some y->VR σ x y:=
  qw.arr (by simpa using qip a h)
theorem qHL (q:Iv σ w0 s w) (c:ER σ e ρ) {fn:Fn} {fs cs:Array Operand} (h:qkA e s fn fs.toList cs.toList=some (v,s')) (j:Kn σ w0 s' v d K ρ):qB P Q d (.makeFunc fn fs cs) ty K ρ w:=by
  unfold qkA at h;split at h
  · rename_i a b l m;cases h;obtain ⟨t,p⟩:=qoT c l;obtain ⟨n,u⟩:=qoT c m;exact j σ _ w (Sg.le_refl σ) q (.fnc t p n u)
  · cases h
def PRs (σ:Sg):List (Nat×AB)->List (Nat×AB)->Prop
  |[],[]=>True
  |a::l,b::m=>(a.1=b.1/\VR σ a.2 b.2)/\PRs σ l m
  |_,_=>False
theorem qie (b:ER σ e ρ):∀{l:List (Nat×Operand)} {vs:List (Nat×AB)},qdw e l=some vs->PRs σ vs (l.map fun p=>(p.1,qd ρ p.2))
  |[],vs,h=>by cases h;trivial
  |(k,x)::l,vs,h=>by
    unfold qdw at h;split at h
    · rename_i u j c a;cases h;exact ⟨⟨rfl,xe b c⟩,qie b a⟩
    · cases h
theorem qm4:∀{vs c:List AB} {o off:Nat} {cs ds:Array AB},qw σ vs c->qw σ cs.toList ds.toList->
    qw σ ((vs.zipIdx o).foldl (fun (cs:Array AB) (x:AB×Nat)=>cs.setIfInBounds (off+x.2) x.1) cs).toList ((c.zipIdx o).foldl (fun (cs:Array AB) (x:AB×Nat)=>cs.setIfInBounds (off+x.2) x.1) ds).toList
  |[],[],_,_,_,_,_,h=>h
  |a::l,b::m,o,off,cs,ds,j,h=>by
    simp only [List.zipIdx_cons,List.foldl_cons];exact qm4 j.2 (by simp only [Array.toList_setIfInBounds];exact h.set j.1 _)
theorem qkh {c : Nat -> Option (Nat × Nat)} : ∀ {l l' : List (Nat × AB)} {cs ds q : Array AB}, PRs σ l l' -> qw σ cs.toList ds.toList -> Instr.fill c cs l = some q -> ∃ p, Instr.fill c ds l' = some p /\ qw σ q.toList p.toList
  |[],[],cs,ds,q,_,h,n=>by simp only [Instr.fill] at n⊢;cases n;exact ⟨_,rfl,h⟩
  | (i, a) :: l, (j, b) :: m, cs, ds, q, t, h, n => by
    obtain ⟨⟨rfl,u⟩,t⟩:=t;simp only [Instr.fill] at n⊢;split at n
    · cases n
    · rename_i off size x;split at n
      · cases n
      · rename_i B;have y:=qkS u;have z:ds.size=cs.size:=by have:=h.len;simpa using this.symm
        have A:=qm4 (o:=0) (off:=off) (qcA u) h;rw [q3 (by rw [y,z];exact B)];refine qkh t ?_ n;rw [<-JC,<-JC];simpa using A
theorem qI1 {t:TypeId} {l l':List (Nat×AB)} {cs:Array AB} (m:∀it z,P.info? t=some it->it.zero=some z->z.cells.toList.all xw=true) (j:PRs σ l l') (h:P.built t l=some cs):∃cs',P.built t l'=some cs'/\qw σ cs.toList cs'.toList:=by
  unfold Program.built at h⊢;split at h
  · rename_i it n u hit c;split at h
    · rename_i z x a q;exact qkh j (qbi (m it z hit a)) h
    · cases h
  · rename_i it fields hit c;split at h
    · rename_i z b a p;exact qkh j (qbi (m it z hit a)) h
    · cases h
  · cases h
theorem qpb (n:Iv σ w0 s w) (q:ER σ e ρ) {mx:Bool} {a b:Operand} {t:TypeId} {u:Array TypeId} (m:mx=true->u=#[t,t]) (h:qge e s mx a b=some (v,s')) (z:Kn σ w0 s' v d K ρ):qB P Q d (.call {callee:=.builtin (if mx then .max else .min),args:=#[a,b],argTypes:=u}) ty K ρ w:=by
  unfold qge at h;split at h
  · rename_i k1 x k2 y B C;have l:k1=k2:=by
      cases l:(k1==k2) with
      |false=>rw [l] at h;cases h
      |true=>simpa using l
    subst l;rw [show (k1==k1)=true by simp] at h;cases h;have A:=xe q B;have p:=xe q C;generalize j:qd ρ a=I at A;generalize c:qd ρ b=E at p;cases A;cases p;cases mx with
    |true=>
      obtain rfl:=m rfl;exact qko j c (z σ _ w (Sg.le_refl σ) n (.pln rfl))
    |false=>
      show vD P Q d _ ty K ρ w;refine jN (v:=.int k1 (if y<x then y else x)) (w':=w) ?_ (z σ _ w (Sg.le_refl σ) n (.pln rfl));simp [execOp,qR,resolve,invoke,builtin,j,c,Builtin.min_,Builtin.min2]
  · cases h
theorem qI4 (u:Iv σ w0 s w) (y:ER σ e ρ) {t:TypeId} {ps:Array (Nat×Operand)} (h:qkC P e s t ps.toList=some (v,s')) (A:Kn σ w0 s' v d K ρ):qB P Q d (.build t ps) ty K ρ w:=by
  unfold qkC at h;split at h
  · rename_i l m;obtain ⟨j,h⟩:=jB h;split at h
    · rename_i cs a;cases h;have q:=qie y m;obtain ⟨cs',c,b⟩:=qI1 (fun it z c b=>by unfold qln at j;simpa only [c,b] using j) q a;show qT (P.built t (ps.map fun p=>(p.1,qd ρ p.2)).toList) _;rw [Jq,c];obtain ⟨n,x⟩:=qw.arr b;exact A σ _ w (Sg.le_refl σ) u (.agg n x)
    · cases h
  · cases h
theorem qnM:∀{l m:List (Nat×AB)},PRs σ l m->l.map (·.1)=m.map (·.1)
  |[],[],_=>rfl
  |_::_,_::_,h=>by simp only [List.map_cons];rw [h.1.1,qnM h.2]
theorem qnP {sz:Nat}:∀{l m:List (Nat×AB)},PRs σ l m->(l.all fun p=>p.2.cells.size==sz)=true->∀p∈m,p.2.cells.size=sz
  |[],[],_,_,p,c=>by simp at c
  |a::l,b::m,h,j,p,c=>by
    simp only [List.all_cons,km,uL] at j;rcases ug.1 c with rfl|c
    · rw [qkS h.1.2];exact j.1
    · exact qnP h.2 j.2 p c
theorem qnO:∀{l m:List (Nat×AB)},PRs σ l m->qw σ (l.flatMap fun p=>p.2.cells.toList) (m.flatMap fun p=>p.2.cells.toList)
  |[],[],_=>trivial
  |_::_,_::_,h=>(qcA h.1.2).app (qnO h.2)
theorem qnN {sz:Nat}:∀{l:List (Nat×AB)},(l.all fun p=>p.2.cells.size==sz)=true->(l.flatMap fun p=>p.2.cells.toList).length=l.length*sz
  |[],_=>by simp
  |a::l,b=>by
    simp only [List.all_cons,km,uL] at b;rw [Jt,ky,qnN b.2,Array.length_toList,b.1,List.length_cons,Nat.succ_mul];omega
theorem qCS (I:Iv σ w0 s w) (O:ER σ e ρ) {t:TypeId} {n:Nat} {ps:Array (Nat×Operand)} (h:qkz P e s k t n ps.toList=some (v,s')) (R:Kn σ w0 s' v d K ρ):qB P Q d (.buildSlice t n ps) ty K ρ w:=by
  unfold qkz at h;split at h
  · rename_i l t1 sz A c;obtain ⟨x,h⟩:=jB h;simp only [km,uP,uL] at x;obtain ⟨⟨⟨z,y⟩,u⟩,h4⟩:=x;obtain ⟨i,Z,rfl⟩:=qhL h;have j:=qie O A;have Y:=qnM j;have m:l.length=n:=by have:=congrArg List.length y;simpa using this
    refine jC c z ?_ ?_ fun B W E J C _=>?_
    · rw [<-y,Y,List.map_map];rfl
    · intro p a;exact qnP j u (p.1,qd ρ p.2) (uw.2 ⟨p,a,rfl⟩)
    · obtain ⟨X,b,S,q⟩:=qgz (cs':=ps.toList.flatMap fun p=>(qd ρ p.2).cells.toList) I Z (by have:=qnO j;rwa [List.flatMap_map] at this) (by omega) J E C fun _=>⟨n,by rw [qnN u,m],Nat.le_trans (Nat.le_trans (Nat.le_mul_of_pos_right n (by omega)) z) (by decide)⟩;exact R X _ W b q (qmO S)
  · cases h
theorem qns {a:Addr}:∀{n i:Nat} {l:List AB},q4 w a i n=some l->∀j (h:j<l.length),w.cell? (a.add (i+j))=some l[j]
  |0,i,l,h,j,b=>by simp only [q4,ui] at h;subst h;simp at b
  | n + 1, i, l, h, j, b => by
    simp only [q4,uh,uc] at h;obtain ⟨u,c,r,m,h⟩:=h;cases h;cases j with
    |zero=>exact c
    |succ j=>
      have:=qns m j (by simpa using b);rw [show i+(j+1)=i+1+j by omega];exact this
theorem qda (u : Iv σ w0 s w) {sz : Nat} {v q : AB} (m : VR σ v q) {l : List AB} (h : qat s.H sz v = some l) : ∃ l', Cells w q sz l' /\ qw σ l l' := by
  unfold qat at h;split at h
  · cases h;cases m with
    |pln _=>exact ⟨[],⟨rfl,by simp [qm],fun j b=>by simp at b⟩,trivial⟩
  · rename_i a n c;cases m with
    |pln x=>cases x
    |slc y A=>
      obtain ⟨l',z,p,t⟩:=qhK u.mr y h;refine ⟨l',⟨by simp [qA];omega, ?_,fun j b=>?_⟩,p⟩
      · rw [<-p.len,t];rfl
      · have:=qns z j b;rw [ur,zD] at this;exact this
  · cases h
theorem qCq:∀{l m:List AB},qw σ l m->l.all y9=true->∀v∈m,v.oneCell'=true:=fun h a v b=>by
  have:=qiq h a v b;cases v<;>first|rfl|(exfalso;simp [Value.oneCell] at this)
theorem get_del {H:vM} {i:Nat} (h:i<vP) {j:Nat} {o:Ob} (a:(H.del i).get j=some o):j≠i/\H.get j=some o:=by
  rw [Tr.get_del _ h] at a;split at a
  · cases a
  · rename_i e;exact ⟨e,a⟩
theorem qIk {t e sz bytes:Nat} (B:xM P t=some (e,sz,bytes)) {base:Nat} (c:base<=w.heap.size) {s x:Operand} {sv xv:AB} (A:qd ρ s=sv) (p:qd ρ x=xv) {xs news:List AB}
    (m:Own base e sz w sv xs) (j:Cells w xv sz news) (n:∀u∈news,u.oneCell'=true)
    (l:xs.length+news.length<4611686018427387904) (a:(xs.length+news.length)*bytes<=140737488355328*sz)
    (h:∀b W,Own base e sz W b (xs++news)->w.grownBy W sv.ownBlock->(b.ownBlock=sv.ownBlock\/b.ownBlock=some w.heap.size)->K (qp ρ d b) W):qB P Q d (.call {callee:=.builtin .append,args:=#[s,x],argTypes:=#[t,t]}) ty K ρ w:=by
  obtain ⟨b,W,n,z,q,y⟩:=qeI (ty:=ty) B m j n l a c;refine jN (v:=b) (w':=W) ?_ (h b W z q y);simp [execOp,qR,resolve,invoke,builtin,A,p,n]
theorem qIp (O : Iv σ w0 s w) {t : TypeId} {sz : Nat} (C : sz ≠ 0) {v J : AB} {H : vM} (hv : VR σ v J) (h : qkJ s.H t sz v = some H) {xs m : List AB} (hx : qat s.H sz v = some xs) (R : Cells w J sz m) (hvs : qw σ xs m) :
    Own w0.heap.size t sz w J m/\(∀j o,H.get j=some o->s.H.get j=some o)/\(∀j o p,H.get j=some o->σ j=some p->some p.1≠J.ownBlock):=by
  unfold qkJ at h;split at h
  · rename_i a n c;split at h
    · rename_i ob z;obtain ⟨hb,h⟩:=jB h;cases h;simp only [km,uL,ux,uP] at hb;obtain ⟨⟨⟨⟨h1,W⟩,h3⟩,I⟩,h5⟩:=hb;have I:=wJ I;cases hv with
      |pln h'=>cases h'
      | slc Y hn =>
        rename_i i b f x o hq;obtain ⟨b1,f1,x1,cur,A⟩:=(O.mr i ob z).2 (by rw [W];exact C);have B:=A.at';rw [Y] at B;cases B;have y:=A.room;rw [W] at y;obtain ⟨n0,S,hm0⟩:=A.most h3;rw [W] at S;have u:=R.len;have hcn:c<=n0:=by
          have:c*sz<=n0*sz:=by dsimp only at h5;omega
          exact Vg this (Nat.pos_of_ne_zero C)
        refine ⟨.inr ⟨b,f+o,n,c+x,cur,rfl,O.own i ob _ z Y,by rw [<-h1];exact A.heap,u,by omega,by omega, ?_, ?_⟩,fun j oj E=>(get_del I E).2,fun j oj p E hp he=>?_⟩
        · dsimp only at h5;rw [uK];omega
        · have hxl:m.length=n*sz:=u;dsimp only at h5;have hnc:n*sz<=c*sz:=JT _ hn;refine J3 fun j=>?_;by_cases E:j<n*sz
          · have q:=R.cell j (by omega);simp only [qN,World.cell?,A.heap] at q;rw [Jw E,u0,uj (l:=m) (by omega)];simpa using q
          · rw [yt (by simp;omega),yt (by omega)]
        · obtain ⟨Z,X⟩:=get_del I E;refine Z (O.ap j i oj ob p _ X z hp Y ?_);simpa [Value.ownBlock] using he
    · cases h
  · cases h;cases hv with
    |pln _=>
      have:m=[]:=uJ.1 (by rw [R.len];simp [qm]);subst this;exact ⟨Own.nil _ _ _ _,fun _ _ h=>h,fun _ _ _ _ _=>by simp [Value.ownBlock]⟩
  · cases h
theorem qJ0 (m : Iv σ w0 s w) (he : ER σ e ρ) {t : TypeId} {a b : Operand} (h : qkF P e s k t a b = some (v, s')) (hK : Kn σ w0 s' v d K ρ) : qB P Q d (.call { callee :=.builtin .append, args :=#[a, b], argTypes :=#[t, t] }) ty K ρ w := by
  unfold qkF at h;split at h
  · rename_i t1 sz bytes av bv hri ha hb;split at h
    · rename_i xs ys Z hys;unfold qwy at h;obtain ⟨hc,h⟩:=jB h;simp only [km,uP,uV] at hc;obtain ⟨⟨⟨⟨h1,h2⟩,h3⟩,h4⟩,h5⟩:=hc;split at h
      · rename_i H hH;obtain ⟨i,h6,rfl⟩:=qhL h;have hva:=xe he ha;have hvb:=xe he hb;obtain ⟨xs',hcx,R⟩:=qda m hva Z;obtain ⟨ys',hcy,O⟩:=qda m hvb hys;obtain ⟨E,u,hne⟩:=qIp m (by omega) hva hH Z hcx R;have lx:=R.len;have ly:=O.len;refine qIk hri m.ext.size rfl rfl E hcy (qCq O h4) (by omega) (by rw [<-lx,<-ly];exact h3) fun v' W ho X Y=>?_;have J:Iv σ w0 ⟨H,s.nx,s.rs⟩ w:=⟨m.mr.keep u fun _ _ _ _ _=>rfl,m.dom,m.res,fun j l oj ol pj pl y hl=>m.ap j l oj ol pj pl (u j oj y) (u l ol hl),m.ext,fun j o p y=>m.own j o p (u j o y)⟩;rcases ho with ⟨_,aa⟩|⟨g,off,n',cap,cur,rfl,hgb,hgh,hl,hnc,hcm,hroom,I⟩
        · have:=congrArg List.length aa;rw [ky,List.length_nil] at this;omega
        · have B:xs.length+ys.length=n'*sz:=by rw [ky] at hl;omega
          have hn':(xs.length+ys.length) / sz=n':=by rw [B,Nat.mul_div_cancel _ (by omega)]
          rw [hn'] at hK;have A:∀j o p,H.get j=some o->σ j=some p->p.1<w.heap.size:=fun j o p y S=>by
            obtain ⟨q,hq,A⟩:=J.mr.at' y;rw [S] at hq;cases hq;exact A
          have hW:MR σ H W:=J.mr.keep (fun _ _ h=>h) fun j o p y S=>X.block _ (A j o p y S) (hne j o p y S);have hE:qc w0 W:=⟨X.os.trans m.ext.os,X.tape.trans m.ext.tape,X.output.trans m.ext.output,Nat.le_trans m.ext.size X.size,fun q hq=>by
            refine (X.block q (uT hq m.ext.size) fun e=>?_).trans (m.ext.block q hq);have:=(E.blk q e.symm).1;omega⟩
          have hro:∀C:Sg,σ.le C->C i=some (g,off,cap - n')->RO C W i ⟨xs++ys,t1,sz,false,false⟩ g off (cap - n') cur:=fun C z hi=>by
            refine ⟨hi,hgh, ?_, ?_,(fun hw=>by cases hw),fun _=>⟨n',by rw [ky];exact B,by omega⟩,(fun hx=>by cases hx)⟩
            · rw [ky,B,I];exact (R.app O).mono z
            · rw [ky,B];have:n'*sz+(cap - n')*sz=cap*sz:=by rw [<-uK];congr 1;omega
              dsimp only;omega
          obtain ⟨C,z,hi,hI'⟩:=qfa J h6 (b:=g) (f:=off) (x:=cap - n') (W:=W) hW hE hgb (fun j oj pj y S e=>by
            rcases Y with Y|Y
            · exact hne j oj pj y S (by rw [<-Y,e];rfl)
            · have:=A j oj pj y S;simp [Value.ownBlock] at Y;omega) fun C z hi=>⟨fun hz=>absurd hz (by dsimp only;omega),fun _=>⟨cur,hro C z hi⟩⟩
          refine hK C _ W z hI' ?_;have:=VR.slc (σ:=C) (o:=0) (n:=n') (c:=n') hi (kh _)
          rwa [show n'+(cap - n')=cap by omega] at this
      · cases h
    · cases h
  · cases h
theorem qCL (hI:Iv σ w0 s w) (O:ER σ e ρ) {t:TypeId} {x y:Operand} (h:qkx P e s k t x y=some (v,s')) (hK:Kn σ w0 s' v d K ρ):qB P Q d (.makeSlice t x y) ty K ρ w:=by
  unfold qkx at h;split at h
  · rename_i t1 z bytes kx n Y m j X hy
    replace h:=jB h
    obtain ⟨J,S⟩:=h;simp only [km,uP,uL,ue] at J;obtain ⟨⟨⟨⟨⟨⟨E,A⟩,h3⟩,h4⟩,h5⟩,h6⟩,c⟩:=J;subst E;obtain ⟨i,h8,rfl⟩:=qhL S;have a:=xe O X;have b:=xe O hy;generalize C:qd ρ x=q1 at a;generalize l:qd ρ y=q2 at b;cases a;cases b;have R:((n.toNat:Nat):Int)=n:=u7 A;have I:bytes*n.toNat<=1000*100000:=Nat.mul_le_mul h4 (by omega);refine qIh (n:=n.toNat) (kl:=kx) (kc:=Y) j (by rw [C,R]) (by rw [l,R]) (by omega) (by omega) (fun i z E A=>?_) fun B W Z hE I=>?_
    · rw [E] at c;simp only [A,uL] at c;exact c
    · obtain ⟨τ,p,hi,q⟩:=qgz (cs':=List.replicate n.toNat z) hI h8 (qbi (by rw [ut];intro u hu;rw [(List.mem_replicate.1 hu).2];exact h5)) (by decide) hE Z I fun _=>⟨n.toNat,by simp,Nat.le_trans (show n.toNat<=100000 by omega) (by decide)⟩;exact hK τ _ W p q (qmO hi)
  · cases h
theorem qCK (l : Iv σ w0 s w) {t : TypeId} {r : Option Operand} (h : qkw s k (r.map fun _ => 0) = some (v, s')) (E : Kn σ w0 s' v d K ρ) : qB P Q d (.makeMap t r) ty K ρ w := by
  cases r with
  |some _=>cases h
  |none=>
    unfold qkw at h;dsimp only [Option.map_none] at h;split at h
    · rename_i i Y J;cases h;refine qf9 fun B W C u A _=>?_;obtain ⟨y,c,q,n⟩:=qfa l J (b:=B) (f:=0) (x:=0) (l.mr.ext u) (l.ext.trans' u) (Nat.le_trans l.ext.size C) (fun j S R I m X=>by
        obtain ⟨p,a,z⟩:=l.mr.at' I;rw [m] at a;cases a;omega) fun y c q=>⟨fun _=>⟨B,[],q,A,rfl,fun p m=>by simp at m⟩,fun O=>absurd rfl O⟩
      exact E y _ W c n (.mp q)
    · cases h
theorem qa9 {a b:ByteArray}:wB a b=true↔a=b:=by
  unfold wB;rw [uL];constructor
  · intro h;have j:a.data.toList=b.data.toList:=List.map_inj_right (fun x y c=>UInt8.toNat_inj.1 c)|>.1 h
    cases a;cases b;congr 1;exact uY.1 j
  · rintro rfl;rfl
theorem qph (b:ByteArray):∀ps:List (ByteArray×AB),qfe (qbk ps) b=vg ps b
  |[]=>rfl
  | p :: ps => by
    rw [xQ];show (bif wB p.1 b then some p.2 else qfe (qbk ps) b)=_;by_cases a:p.1=b
    · rw [j0 a,qa9.2 a];rfl
    · rw [q3 a,<-qph b ps];cases c:wB p.1 b with
      |true=>exact absurd (qa9.1 c) a
      |false=>rfl
theorem qnI (b:ByteArray) (x:AB):∀ps:List (ByteArray×AB),qfc (qbk ps) b x=qbk (vu ps b x)
  |[]=>rfl
  | p :: ps => by
    show (bif wB p.1 b then .string b::x::qbk ps else .string p.1::p.2::qfc (qbk ps) b x)=_;unfold vu;by_cases a:p.1=b
    · rw [j0 a,qa9.2 a];rfl
    · rw [q3 a,qnI b x ps];cases c:wB p.1 b with
      |true=>exact absurd (qa9.1 c) a
      |false=>rfl
theorem qm3 {b : ByteArray} {x : AB} : ∀ {ps : List (ByteArray × AB)} {p : ByteArray × AB}, p ∈ vu ps b x -> p ∈ ps \/ p.2 = x
  |[],p,h=>by simp [vu] at h;exact .inr (by rw [h])
  | q :: ps, p, h => by
    unfold vu at h;split at h
    · rcases ug.1 h with rfl|h
      · exact .inr rfl
      · exact .inl (JO _ h)
    · rcases ug.1 h with rfl|h
      · exact .inl (by simp)
      · rcases qm3 h with h|h
        · exact .inl (JO _ h)
        · exact .inr h
theorem qCR {b:ByteArray} {x:AB} {ps:List (ByteArray×AB)} (h:vg ps b=some x):∃p∈ps,p.2=x:=by
  unfold vg at h;simp only [uc] at h;obtain ⟨p,a,rfl⟩:=h;exact ⟨p,J9 a,rfl⟩
theorem qCO (E : Iv σ w0 s w) (J : ER σ e ρ) {t : TypeId} {m x : Operand} (h : qky P e s t m x = some (v, s')) (O : Kn σ w0 s' v d K ρ) : qB P Q d (.lookup t m x false) ty K ρ w := by
  unfold qky at h;split at h
  · rename_i i b kt et hm R j;split at h
    · rename_i ob z n C hz;obtain ⟨q,h⟩:=jB h;cases h;simp only [km] at q;have A:=um q.1;obtain ⟨B,ps,h1,Z,W,Y⟩:=(E.mr i ob n).1 A;have c:=xe J hm;have a:=xe J R;generalize y:qd ρ m=q1 at c;generalize l:qd ρ x=q2 at a;cases c with
      |pln h'=>cases h'
      |mp I=>
        rw [h1] at I;cases I;cases a;refine qga j C hz y l Z false ?_;rw [W,qph] at O;refine O σ _ w (Sg.le_refl σ) E (.pln ?_);cases S:vg ps b with
        |none=>exact q.2
        |some u=>
          obtain ⟨p,X,rfl⟩:=qCR S;exact Y p X
    · cases h
  · cases h
theorem qxr (R : Iv σ w0 s w) (I : ER σ e ρ) {t : TypeId} {m x y : Operand} (h : qkq P e s t m x y = some (v, s')) (hK : Kn σ w0 s' v d K ρ) : qB P Q d (.mapUpdate t m x y) ty K ρ w := by
  unfold qkq at h;split at h
  · rename_i i b u hm X hy;split at h
    · rename_i kt et z;split at h
      · rename_i ob c J;obtain ⟨l,h⟩:=jB h;cases h;simp only [km] at l;have q:=um l.1.1;obtain ⟨B,ps,O,h2,Z,h4⟩:=(R.mr i ob c).1 q;have n:=xe I hm;have j:=xe I X;have C:=xe I hy;generalize E:qd ρ m=q1 at n;generalize A:qd ρ x=q2 at j;cases n with
        |pln h'=>cases h'
        |mp S=>
          rw [O] at S;cases S;cases j;have hu:qd ρ y=u:=C.uniq (.pln l.1.2);refine qf8 z J E A h2 fun W hO Y=>hK σ _ W (Sg.le_refl σ) ?_ qbP;refine qkT R c (wJ l.2) O hO ⟨fun _=>⟨B,vu ps b u,O,by rw [<-hu];exact Y, ?_,fun p a=>?_⟩,fun hz=>absurd q hz⟩
          · rw [Z,qnI]
          · rcases qm3 a with a|a
            · exact h4 p a
            · rw [a];exact l.1.2
      · cases h
    · cases h
  · cases h
end
end Go.Eng
namespace Go.Eng
open Go.RowKit
def qac (P:Program) (pr:TypeId->Bool):Prop:=∀t,pr t=true->P.eqGuardType P.depth t=false/\∀(a b c d:Int) (w:AA),(Op.equalIn 10000 t (.agg #[.int .i64 a,.int .i64 b]) (.agg #[.int .i64 c,.int .i64 d])).run P w=.ok (decide (a=c)&&decide (b=d)) w
section
variable {P:Program} {Q:Ks} {K:qa->AA->Prop} {ρ:qa} {w w0:AA} {σ:Sg} {e:Tr AB} {s s':Sx} {k:Option Nat} {d:Option Nat} {ty:TypeId} {v:AB} {pr:TypeId->Bool}
theorem qCB (m : Iv σ w0 s w) (y : ER σ e ρ) {op : BinOp} {t : TypeId} {x : Operand} (h : qkv P e s op t x = some (v, s')) (z : Kn σ w0 s' v d K ρ) : qB P Q d (.binOp op t x (.const (.slice none 0 0)) t) ty K ρ w := by
  unfold qkv at h;split at h
  · rename_i u p;split at h
    · rename_i b a;obtain ⟨c,h⟩:=jB h;cases h;have l:=xe y p;unfold qmN at c;split at c
      · rename_i A j;have key:qA (qd ρ x)=true/\QZ (qd ρ x)=b:=by
          generalize qd ρ x=q at l;unfold qo6 at a;split at a
          · cases a;cases l with
            |pln n=>cases n
            |slc B C=>exact ⟨by simp [qA];omega,rfl⟩
          · cases a;cases l with
            |pln _=>exact ⟨rfl,rfl⟩
          · cases a
        refine qvI j key.1 ?_;rw [key.2];exact z σ _ w (Sg.le_refl σ) m (.pln rfl)
      · cases c
    · cases h
  · cases h
theorem qlH {b:Bool} {u j:AB} (h:qen b s u j=some (v,s')):∃c a c1 c2,u=.agg #[.int .i64 c,.int .i64 a]/\j=.agg #[.int .i64 c1,.int .i64 c2]/\v=.bool (if b then (decide (c=c1)&&decide (a=c2)) else !(decide (c=c1)&&decide (a=c2)))/\s'=s:=by
  unfold qen at h;split at h
  · rename_i xs ys;split at h
    · rename_i c a c1 c2 m l;cases h;refine ⟨c,a,c1,c2,by rw [<-uY.1 (show xs.toList=(#[.int .i64 c,.int .i64 a]:Array AB).toList from m)],by rw [<-uY.1 (show ys.toList=(#[.int .i64 c1,.int .i64 c2]:Array AB).toList from l)], ?_,rfl⟩;cases b<;>rfl
    · cases h
  · cases h
theorem qeo {a b:Int} {q:AB} (h:VR σ (.agg #[.int .i64 a,.int .i64 b]) q):q=.agg #[.int .i64 a,.int .i64 b]:=h.uniq (Qo (v:=.agg #[.int .i64 a,.int .i64 b]) rfl)
theorem qJR (p : qac P pr) (n : Iv σ w0 s w) (q : ER σ e ρ) {op : BinOp} {t u : TypeId} {x y : Operand} (h : qkE P pr e s op t u x y = some (v, s')) (z : Kn σ w0 s' v d K ρ) : qB P Q d (.binOp op t x y u) ty K ρ w := by
  unfold qkE at h;cases j:qiu y with
  |true=>
    rw [j] at h;obtain ⟨c,O⟩:=jB (b:=t==u) h;have c:t=u:=by simpa using c
    subst c;have:y=.const (.slice none 0 0):=by
      unfold qiu at j;split at j
      · rfl
      · cases j
    subst this;exact qCB n q O z
  |false=>
    rw [j] at h
    replace h:qkr pr e s op t x y=some (v,s'):=h
    unfold qkr at h;split at h
    · rename_i a b R J;obtain ⟨I,h⟩:=jB h;obtain ⟨A,B⟩:=p t I;have E:=xe q R;have C:=xe q J;split at h
      · obtain ⟨l,m,c1,c2,rfl,rfl,rfl,rfl⟩:=qlH h;exact qIj (qeo E) (qeo C) A (B l m c1 c2 w) (z σ _ w (Sg.le_refl σ) n (.pln rfl))
      · obtain ⟨l,m,c1,c2,rfl,rfl,rfl,rfl⟩:=qlH h;exact qvC (qeo E) (qeo C) A (B l m c1 c2 w) (z σ _ w (Sg.le_refl σ) n (.pln rfl))
      · cases h
    · cases h
theorem qd8 {α:Type} {xs:Array α} {a b:α} (h:xs.toList=[a,b]):xs=#[a,b]:=uY.1 h
theorem qIW (x:Iv σ w0 s w) (p:ER σ e ρ) {c:Call} (h:qkB P e s k c.callee c.args.toList c.argTypes.toList=some (v,s')) (q:Kn σ w0 s' v d K ρ):qB P Q d (.call c) ty K ρ w:=by
  obtain ⟨A,as,z⟩:=c;unfold qkB at h;split at h
  · rename_i a b t u l j n;obtain ⟨m,y⟩:=jB h;have m:t=u:=by simpa using m
    subst m;dsimp only at l j n;subst l;rw [qd8 j,qd8 n];exact qJ0 x p y q
  · rename_i a b t u l j n;obtain ⟨m,y⟩:=jB h;have m:t=u:=by simpa using m
    subst m;dsimp only at l j n;subst l;rw [qd8 j,qd8 n];exact qpb (mx:=true) x p (fun _=>rfl) y q
  · rename_i a b l j;dsimp only at l j;subst l;rw [qd8 j];exact qpb (mx:=false) (t:=0) x p (fun h=>by cases h) h q
  · cases h
theorem qIl (j:qac P pr) (b:Iv σ w0 s w) (c:ER σ e ρ) {op:Op} (h:qd1 P pr e s k op=some (v,s')) (a:Kn σ w0 s' v d K ρ):qB P Q d op ty K ρ w:=by
  unfold qd1 at h;split at h
  · exact qJO b c h a
  · exact qCC b h a
  · exact qyP b c h a
  · exact qHL b c h a
  · exact qI4 b c h a
  · exact qCS b c h a
  · exact qIW b c h a
  · exact qCL b c h a
  · exact qCK b h a
  · rename_i t m x ok;cases ok with
    |true=>cases h
    |false=>exact qCO b c h a
  · exact qxr b c h a
  · exact qJR j b c h a
  · cases h
end
end Go.Eng
namespace Go.Eng
open Go.RowKit
def qk5 {f:AB->AB->Bool} (c:∀a b,f a b=true->a=b):∀{l m:List AB},xl.all2 f l m=true->l=m
  |[],[],_=>rfl
  |a::l,b::m,h=>by
    simp only [xl.all2,km] at h;rw [c a b h.1,qk5 c h.2]
  |[],_::_,h=>by simp [xl.all2] at h
  |_::_,[],h=>by simp [xl.all2] at h
def qgA {f:AB->AB->Bool} (c:∀a b,f a b=true->a=b) {a b:Array AB} (h:xl.all2 f a.toList b.toList=true):a=b:=uY.1 (qk5 c h)
def yR:∀(n:Nat) (a b:AB),xl n a b=true->a=b
  |0,_,_,h=>by simp [xl] at h
  | n + 1, a, b, h => by
    unfold xl at h;split at h
    · simpa using h
    · simpa using h
    · rw [qa9.1 h]
    · rfl
    · simpa using h
    · simpa using h
    · simpa [and_assoc] using h
    · simpa using h
    · rfl
    · rfl
    · simp only [km,uL] at h;rw [h.1.1,qgA (yR n) h.1.2,qgA (yR n) h.2]
    · rw [qgA (yR n) h]
    · rw [qgA (yR n) h]
    · simp only [km,uL] at h;rw [h.1,yR n _ _ h.2]
    · cases h
def qdA {a b:Ob} (h:qbo a b=true):a=b:=by
  unfold qbo at h;simp only [km,uL] at h;cases a;cases b;simp only [Ob.mk.injEq];exact ⟨qk5 (yR 4) h.1.1.1.1,h.1.1.1.2,h.1.1.2,h.1.2,h.2⟩
def Tr.noneB_ok {α:Type}:∀{t:Tr α},t.noneB=true->∀k,t.get k=none
  | .lf,_,_=>rfl
  | .nd none l r,h,k=>by
    simp only [Tr.noneB,km] at h;rw [Tr.get_nd,Tr.noneB_ok h.1,Tr.noneB_ok h.2];simp
  | .nd (some _) _ _,h,k=>by simp [Tr.noneB] at h
def Tr.eqB_ok {α:Type} {f:α->α->Bool} (j:∀a b,f a b=true->a=b):∀{t u:Tr α},t.eqB f u=true->∀k,t.get k=u.get k
  | .nd v l r,.nd u m q,h,k=>by
    simp only [Tr.eqB,km] at h;rw [Tr.get_nd,Tr.get_nd,Tr.eqB_ok j h.1.2,Tr.eqB_ok j h.2];have:v=u:=by
      have:=h.1.1;unfold qoS at this;split at this
      · rfl
      · rw [j _ _ this]
      · cases this
    rw [this]
  | .lf,t,h,k=>by
    have c:t.noneB=true:=by cases t<;>exact h
    rw [Tr.noneB_ok c k];rfl
  | .nd v l r,.lf,h,k=>by
    have c:(Tr.nd v l r).noneB=true:=h;rw [Tr.noneB_ok c k];rfl
def ke (σ:Sg) (w0:AA) (K:qa->AA->Prop) (Q:Ks):Ou->Prop
  | .go e s=>∀τ ρ w,σ.le τ->Iv τ w0 s w->ER τ e ρ->K ρ w
  | .ex i e s=>∀τ ρ w,σ.le τ->Iv τ w0 s w->ER τ e ρ->Q.ex i ρ w
  | .rt e s=>∀τ ρ w,σ.le τ->Iv τ w0 s w->ER τ e ρ->Q.rt ρ w
  | .pn c s=>∀τ ρ w,σ.le τ->Iv τ w0 s w->Q.pn ρ c w
  | .ret _ _=>False
def ke.le {σ l:Sg} {w0:AA} {K:qa->AA->Prop} {Q:Ks} {o:Ou} (h:ke σ w0 K Q o) (j:σ.le l):ke l w0 K Q o:=by
  cases o with
  |go e s=>exact fun a ρ w b=>h a ρ w (Sg.le_trans j b)
  |ex i e s=>exact fun a ρ w b=>h a ρ w (Sg.le_trans j b)
  |rt e s=>exact fun a ρ w b=>h a ρ w (Sg.le_trans j b)
  |pn c s=>exact fun a ρ w b=>h a ρ w (Sg.le_trans j b)
  |ret v s=>exact h
def z8 (σ:Sg) (w0:AA):Ou->Ending->AA->Prop
  | .ret v s=>fun e w=>∃τ v',σ.le τ/\Iv τ w0 s w/\VR τ v v'/\e=.returned v'
  | .pn c s=>fun e w=>∃τ,σ.le τ/\Iv τ w0 s w/\e=.panicked c
  |_=>fun _ _=>False
def Qn (Q:Ks):Prop:=∀ρ ρ' c w,Q.pn ρ c w->Q.pn ρ' c w
def wx (σ:Sg) (L:List Fa) (w:AA):Prop:=∀f∈L,∀a',VR σ f.a a'->∃v',q9 w f.k a'=some v'/\VR σ f.v v'
def Grd (σ:Sg) (L:List Fa):Prop:=∀f∈L,(∃a',VR σ f.a a')/\∃v',VR σ f.v v'
structure Sound (P:Program) (G0:AA->Prop) (r:Sx->Tk->Option Ou):Prop where
  ir:∀F a e s o,r s (.ir F a e)=some o->∀(σ:Sg) (w0:AA) (ρ:qa) (w:AA) (K:qa->AA->Prop) (Q:Ks),G0 w0->Iv σ w0 s w->ER σ e ρ->Qn Q->ke σ w0 K Q o->a.wp ⟨P,F.nt,F.V,[]⟩ K Q ρ w
  sts:∀l e s o,r s (.sts l e)=some o->∀(σ:Sg) (w0:AA) (ρ:qa) (w:AA) (K:qa->AA->Prop) (Q:Ks),G0 w0->Iv σ w0 s w->ER σ e ρ->Qn Q->ke σ w0 K Q o->jr P Q l K ρ w
  ord:∀L bs t e s o,r s (.ord L bs t e)=some o->∀(σ0 σ:Sg) (w0:AA) (ρ:qa) (w:AA) (K:qa->AA->Prop) (Q:Ks) (S:AA->Prop),G0 w0->Iv σ w0 s w->ER σ e ρ->Qn Q->ke σ w0 K Q o->σ0.le σ->
    (∀l,L=some l->Grd σ0 l/\wx σ0 l w/\S=wx σ0 l)->t.wp P Q S K ρ w
  call:∀f args s o,r s (.call f args)=some o->∀(σ:Sg) (w0 w:AA) (args':List AB),G0 w0->Iv σ w0 s w->qw σ args args'->Calls P f args'.toArray w (z8 σ w0 o)
section
variable {P:Program} {G0:AA->Prop} {r:Sx->Tk->Option Ou} {σ:Sg} {w0 w:AA} {ρ:qa} {e:Tr AB} {s:Sx} {K:qa->AA->Prop} {Q:Ks} {o:Ou} {pr:TypeId->Bool}
theorem qd3 (u:Sound P G0 r) (p:G0 w0) (j:Qn Q) {l:List St} {d:Option Nat} {v b:AB} (c:ER σ e ρ) (q:Iv σ w0 s w) (n:VR σ v b) (h:qcy r l d e v s=some o) (m:ke σ w0 K Q o):jr P Q l K (qp ρ d b) w:=by
  unfold qcy at h;split at h
  · rename_i t a;exact u.sts l t s o h σ w0 _ w K Q p q (qAz c n a) j m
  · cases h
theorem qIn {d:Option Nat} {ty:TypeId} {c:Operand} {args:Array Operand} {a:Array TypeId} {f:FuncId} {fs cs:Array AB} (h:qk P f=true) (j:qd ρ c=.func (.func f) fs cs) (l:Calls P f (fs++args.map (qd ρ)++cs) w (vL Q d K ρ)):
    qB P Q d (.call {callee:=.value c,args:=args,argTypes:=a}) ty K ρ w:=by
  have key:vD P Q d (.call {callee:=.value c,args:=args,argTypes:=a}) ty K ρ w:=by
    unfold vD;rw [qnl (P:=P) h j];exact l.mono fun e w' m=>by cases e<;>exact m
  cases c with
  |func g=>
    have b:Value.func (.func g) #[] #[]=.func (.func f) fs cs:=j;cases b;refine ⟨h, ?_⟩;simpa using l
  |_=>exact key
theorem qyX (hr : Sound P G0 r) (Z : G0 w0) (hq : Qn Q) {l : List St} {d : Option Nat} {ty : TypeId} {c : Operand} {args : Array Operand} {t : Array TypeId} (W : ER σ e ρ) (hI : Iv σ w0 s w) (h : qhr P r s l d e (zz e c) (qaG e args.toList) = some o) (ha : ke σ w0 K Q o) :
    qB P Q d (.call {callee:=.value c,args:=args,argTypes:=t}) ty (jr P Q l K) ρ w:=by
  unfold qhr at h;split at h
  · rename_i f fs cs vs hc X;obtain ⟨I,h⟩:=jB h;have u:=xe W hc;have Y:=qip W X;generalize S:qd ρ c=q at u;cases u with
    |pln h'=>cases h'
    | fnc h1 h2 h3 h4 =>
      rename_i b cs';have O:qw σ fs.toList b.toList:=qw.of (by simpa using h1) fun j x y C E=>h2 j x y (by simpa using C) (by simpa using E);have J:qw σ cs.toList cs'.toList:=qw.of (by simpa using h3) fun j x y C E=>h4 j x y (by simpa using C) (by simpa using E);unfold qws at h;have key:∀o1,r s (.call f (fs.toList++(vs++cs.toList)))=some o1->(∀A w',z8 σ w0 o1 A w'->vL Q d (jr P Q l K) ρ A w')->qB P Q d (.call {callee:=.value c,args:=args,argTypes:=t}) ty (jr P Q l K) ρ w:=by
        intro o1 R hk;have a:=hr.call _ _ _ _ R σ w0 w (b.toList++(args.toList.map (qd ρ)++cs'.toList)) Z hI (O.app (Y.app J));have p:(b.toList++(args.toList.map (qd ρ)++cs'.toList)).toArray=b++args.map (qd ρ)++cs':=by
          apply uY.1;simp
        rw [p] at a;exact qIn I S (a.mono hk)
      split at h
      · rename_i v s' m;refine key _ m ?_;rintro A w' ⟨τ,v',z,n,B,rfl⟩;exact qd3 hr Z hq (W.mono z) n B h (ha.le z)
      · rename_i c1 s' m;cases h;refine key _ m ?_;rintro A w' ⟨τ,z,n,rfl⟩;exact ha τ ρ w' z n
      · cases h
  · cases h
theorem qyW (q : qac P pr) (A : Sound P G0 r) (z : G0 w0) (C : Qn Q) {k : Option Nat} {l : List St} {d : Option Nat} {ty : TypeId} {op : Op} (b : ER σ e ρ) (m : Iv σ w0 s w) (h : qhq P pr r s k l d e op = some o) (p : ke σ w0 K Q o) : qB P Q d op ty (jr P Q l K) ρ w := by
  have eff:∀x,qgh r l d e x=some o->(∀v s',x=some (v,s')->qd1 P pr e s k op=some (v,s'))->qB P Q d op ty (jr P Q l K) ρ w:=by
    intro x a y;unfold qgh at a;split at a
    · rename_i v s';exact qIl q m b (y v s' rfl) fun R I W B n j=>qd3 A z C (b.mono B) n j a (p.le B)
    · cases a
  unfold qhq at h;split at h
  · rename_i x;unfold qmK at h;split at h
    · rename_i v j;split at h
      · rename_i t u;obtain ⟨E,h⟩:=jB h;cases h;have a:=(xe b j).uniq (Qo E);exact qkn a (p σ ρ w (Sg.le_refl σ) m)
      · cases h
    · cases h
  · rename_i c;obtain ⟨O,as,J⟩:=c;dsimp only at h;split at h
    · rename_i f;exact qyX A z C b m h p
    · exact eff _ h fun v s' a=>a
  · exact eff _ h fun v s' a=>a
theorem qmC (q : qac P pr) (n : Sound P G0 r) (m : G0 w0) (p : Qn Q) {k : Option Nat} {l : List St} (b : ER σ e ρ) (c : Iv σ w0 s w) (h : qc4 P pr r s k e l = some o) (j : ke σ w0 K Q o) : jr P Q l K ρ w := by
  unfold qc4 at h;split at h
  · cases h;exact j σ ρ w (Sg.le_refl σ) c b
  · rename_i g d x l;show (if gd ρ g=true then xD (x.ev ρ w) (fun v=>jr P Q l K (qx ρ d v) w) else jr P Q l K (qx ρ d undef) w);split at h
    · rename_i a;rw [j0 (qcp b a)];unfold qhs at h;split at h
      · rename_i v t;obtain ⟨z,y,u⟩:=kE c.mr b t;rw [y];exact qd3 (d:=some d) n m p b c u h j
      · cases h
    · rename_i a;rw [q3 (by rw [qcp b a];decide)];exact qd3 (d:=some d) n m p b c qbP h j
    · cases h
  · rename_i g d op ty l;show (if gd ρ g=true then qB P Q d op ty (jr P Q l K) ρ w else jr P Q l K (qp ρ d undef) w);split at h
    · rename_i a;rw [j0 (qcp b a)];exact qyW q n m p b c h j
    · rename_i a;rw [q3 (by rw [qcp b a];decide)];exact qd3 n m p b c qbP h j
    · cases h
theorem wx.up {c:Sg} {L:List Fa} (h:wx σ L w) (p:Grd σ L) (l:σ.le c):wx c L w:=fun f j a m=>by
  obtain ⟨⟨a0,b⟩,_⟩:=p f j;have:a=a0:=m.uniq (b.mono l);subst this;obtain ⟨q,t,n⟩:=h f j a b;exact ⟨q,t,n.mono l⟩
theorem qdG:MR σ .lf w:=fun i o h=>by cases h
theorem qC6 {a b:K1} (h:qfl a b=true):a=b:=by
  unfold qfl at h;split at h
  · rfl
  · simpa using h
  · rfl
  · cases h
theorem qvq:∀{L:List Fa} {k:K1} {a v:AB},qf6 L k a=some v->∃f∈L,f.k=k/\f.a=a/\f.v=v
  |[],_,_,_,h=>by cases h
  | f :: l, k, a, v, h => by
    unfold qf6 at h;cases b:(qfl f.k k&&xl 4 f.a a) with
    |true=>
      rw [b] at h;cases h;simp only [km] at b;exact ⟨f,by simp,qC6 b.1,yR 4 _ _ b.2,rfl⟩
    |false=>
      rw [b] at h;obtain ⟨g,j,c⟩:=qvq h;exact ⟨g,JO _ j,c⟩
theorem qvz {L : List Fa} (t : wx σ L w) (n : ER σ e ρ) {x : Ex} {v : AB} (h : evF L e x = some v) : ∃ b, x.ev ρ w = some b /\ VR σ v b := by
  unfold evF at h;split at h
  · rename_i k x;split at h
    · rename_i a y;obtain ⟨A,p,m⟩:=kE (qdG (w:=w)) n y;split at h
      · rename_i u z;cases h;obtain ⟨q,j,l⟩:=qcM (qdG (w:=w)) m z;exact ⟨q,by simp only [Ex.ev,p,Option.bind_some,j],l⟩
      · obtain ⟨f,c,rfl,rfl,rfl⟩:=qvq h;obtain ⟨b,j,l⟩:=t f c A m;exact ⟨b,by simp only [Ex.ev,p,Option.bind_some,j],l⟩
    · cases h
  · exact kE qdG n h
theorem qg7 {H : vM} (m : MR σ H w) : ∀ {t : OT} {e : Tr AB} {ρ : qa}, ER σ e ρ -> ∀ f ∈ we H t e, ((∃ j, VR σ f.a j) /\ ∃ h, VR σ f.v h) /\ ∀ j, VR σ f.a j -> ∃ h, q9 w f.k j = some h /\ VR σ f.v h
  | .take g d ex t, e, ρ, l, f, b => by
    unfold we at b;split at b
    · split at b
      · rename_i v z;obtain ⟨h,C,p⟩:=kE m l z;rcases uv.1 b with b|b
        · split at b
          · rename_i k x;split at b
            · rename_i a B;obtain ⟨j,u,q⟩:=kE (qdG (w:=w)) l B;split at b
              · simp at b
              · simp only [uu] at b;subst b;refine ⟨⟨⟨j,q⟩,⟨h,p⟩⟩,fun y n=>?_⟩;have:y=j:=n.uniq q;subst this;refine ⟨h, ?_,p⟩;simpa only [Ex.ev,u,Option.bind_some] using C
            · simp at b
          · simp at b
        · split at b
          · rename_i A c;exact qg7 m (qeD l p c) f b
          · simp at b
      · simp at b
    · split at b
      · rename_i A c;exact qg7 m (qeD l qbP c) f b
      · simp at b
    · simp at b
  | .done,_,_,_,f,b=>by simp [we] at b
  | .step ..,_,_,_,f,b=>by simp [we] at b
  | .both ..,_,_,_,f,b=>by simp [we] at b
theorem qzl {m:Sg} {L:List Fa} {H:vM} (n:Grd σ L) (l:σ.le m) (q:MR m H w) (h:qhA H L=true):wx σ L w:=fun f j z t=>by
  have b:=ut.1 h f j;split at b
  · rename_i u y;have:=yR 4 _ _ b;subst this;obtain ⟨c,x,p⟩:=qcM q (t.mono l) y;obtain ⟨_,v0,a⟩:=n f j;have:c=v0:=p.uniq (a.mono l);subst this;exact ⟨c,x,a⟩
  · cases b
theorem qH8 {c l:Sx} (h:∀k,c.H.get k=l.H.get k) (n:c.nx=l.nx) (m:c.rs=l.rs) (a:Iv σ w0 l w):Iv σ w0 c w:=
  ⟨fun i o b=>a.mr i o (by rw [<-h];exact b),by rw [n,m];exact a.dom,by rw [n,m];exact a.res,fun i j q u y x b t=>a.ap i j q u y x (by rw [<-h];exact b) (by rw [<-h];exact t),a.ext,fun i o p b=>a.own i o p (by rw [<-h];exact b)⟩
theorem qCk (hpr : qac P pr) (W : Sound P G0 r) (R : G0 w0) (X : Qn Q) {L : Option (List Fa)} {bs : Option Nat} {t : OT} {j : Sg} {S : AA -> Prop} (u : ER σ e ρ) (Z : Iv σ w0 s w) (h : qim P pr r s L bs e t = some o) (J : ke σ w0 K Q o) (A : j.le σ)
    (hS:∀l,L=some l->Grd j l/\wx j l w/\S=wx j l):t.wp P Q S K ρ w:=by
  unfold qim at h;split at h
  · cases h;exact J σ ρ w (Sg.le_refl σ) Z u
  · rename_i g d x t;split at h
    · cases h
    · rename_i l;obtain ⟨p,hfa,z⟩:=hS l rfl;have C:∀v v',VR σ v v'->qe3 r s (some l) bs t e d (some v)=some o->t.wp P Q S K (qx ρ d v') w:=by
        intro v v' B hk;unfold qe3 at hk;dsimp only at hk;split at hk
        · rename_i e' n;exact W.ord _ _ _ _ _ _ hk j σ w0 _ w K Q S R Z (qeD u B n) X J A hS
        · cases hk
      show (if gd ρ g=true then xD (x.ev ρ w) (fun v=>(∀w',S w'->x.ev ρ w'=some v)/\t.wp P Q S K (qx ρ d v) w) else t.wp P Q S K (qx ρ d undef) w);split at h
      · rename_i I;rw [j0 (qcp u I)];cases B:evF l e x with
        |none=>rw [B] at h;cases h
        |some v=>
          rw [B] at h;obtain ⟨v',O,h2⟩:=qvz (hfa.up p A) u B;rw [O];refine ⟨fun w' hw'=>?_,C v v' h2 h⟩;rw [z] at hw';obtain ⟨u',h3,h4⟩:=qvz (hw'.up p A) u B;rw [h3,h4.uniq h2]
      · rename_i I;rw [q3 (by rw [qcp u I];decide)];exact C undef undef qbP h
      · cases h
  · rename_i x b t;show x.wp P Q (fun a w'=>(b=true->S w')/\t.wp P Q S K a w') ρ w;have go:∀o1,qc4 P pr r s (qoY bs x) e [x]=some o1->ke σ w0 (fun a w'=>(b=true->S w')/\t.wp P Q S K a w') Q o1->x.wp P Q (fun a w'=>(b=true->S w')/\t.wp P Q S K a w') ρ w:=fun o1 O h2=>qmC hpr W R X u Z O h2;unfold qoR at h;split at h
    · rename_i e' s' O;refine go _ O fun Y a w' q m n=>?_;cases b with
      |true=>
        cases L with
        |none=>cases h
        |some l=>
          obtain ⟨p,hfa,z⟩:=hS l rfl;obtain ⟨hsm,h⟩:=jB (b:=qhA s'.H l) h;have hf2:=qzl p (Sg.le_trans A q) m.mr hsm;exact ⟨fun _=>by rw [z];exact hf2,W.ord _ _ _ _ _ _ h j Y w0 _ w' K Q S R m n X (J.le q) (Sg.le_trans A q) fun l' E=>by cases E;exact ⟨p,hf2,z⟩⟩
      |false=>
        exact ⟨(fun hb=>by cases hb),W.ord _ _ _ _ _ _ h j Y w0 _ w' K Q S R m n X (J.le q) (Sg.le_trans A q) (fun l' E=>by cases E)⟩
    · rename_i c s' O;cases h;exact go _ O fun Y a w' q m=>J Y a w' q m
    · cases h
  · rename_i x y;unfold qwl at h;split at h
    · rename_i e1 s1 e2 s2 hx hy;obtain ⟨hc,h⟩:=jB h;cases h;simp only [km,uL] at hc;obtain ⟨⟨⟨c1,c2⟩,c3⟩,c4⟩:=hc;have g1:=Tr.eqB_ok (yR 4) c1;have g2:=Tr.eqB_ok (fun _ _ h=>qdA h) c2;refine ⟨W.ord _ _ _ _ _ _ hx j σ w0 ρ w K Q S R Z u X J A hS,W.ord _ _ _ _ _ _ hy j σ w0 ρ w K Q S R Z u X ?_ A hS⟩;exact fun Y a w' q m n=>J Y a w' q (qH8 g2 (um c3) c4 m) fun i v B=>n i v (by rw [<-g1];exact B)
    · cases h
end
end Go.Eng
namespace Go.Eng
open Go.RowKit
def qCX {p:Nat->Prop}:∀n,p n->∃m,p m/\∀k,p k->m<=k:=by
  intro n
  induction n using Nat.strongRecOn with
  | _ n b =>
    intro j;by_cases h:∃k,k<n/\p k
    · obtain ⟨k,a,c⟩:=h;exact b k a c
    · exact ⟨n,j,fun k a=>Nat.le_of_not_lt fun l=>h ⟨k,l,a⟩⟩
section
variable {cx:Cx} {K:qa->AA->Prop} {Q:Ks} {ρ:qa} {w:AA}
theorem qCM (I:Nat->qa->AA->Prop) (y:Nat) {a:IR} (z:I y ρ w) (h:∀m b w',I m b w'->a.wp cx (fun c l=>∃n,n<m/\I n c l) Q b w'):(IR.loop a).wp cx K Q ρ w:=by
  have B:∀b w',∃m,(∃k,I k b w')->I m b w'/\∀k,I k b w'->m<=k:=fun b w'=>by
    by_cases u:∃k,I k b w'
    · obtain ⟨k,E⟩:=u;obtain ⟨m,t⟩:=qCX (p:=fun k=>I k b w') k E;exact ⟨m,fun _=>t⟩
    · exact ⟨0,fun h=>absurd h u⟩
  obtain ⟨μ,q⟩:∃μ:qa->AA->Nat,∀b w',(∃k,I k b w')->I (μ b w') b w'/\∀k,I k b w'->μ b w'<=k:=by
    obtain ⟨f,A⟩:=Classical.axiomOfChoice (r:=fun (x:qa×AA) m=>(∃k,I k x.1 x.2)->I m x.1 x.2/\∀k,I k x.1 x.2->m<=k) fun x=>B x.1 x.2;exact ⟨fun b w'=>f (b,w'),fun b w'=>A (b,w')⟩
  refine kr (fun b w'=>∃k,I k b w') μ ⟨y,z⟩ fun b w' C=>?_;obtain ⟨J,_⟩:=q b w' C;refine IR.wp_mono (h _ b w' J) ?_ (fun _ _ _ h=>h) (fun _ _ h=>h) (fun _ _ _ h=>h) (fun h=>h) ⟨fun h=>h,fun h=>h⟩;rintro c l ⟨n,t,j⟩;exact ⟨⟨n,j⟩,Nat.lt_of_le_of_lt ((q c l ⟨n,j⟩).2 n j) t⟩
end
end Go.Eng
namespace Go.Eng
open Go.RowKit
def qgG (P:Program) (G0:AA->Prop) (prim:qcK):Prop:=∀f args s v s',prim f args s=some (v,s')->∀(σ:Sg) (w0 w:AA) (args':List AB),G0 w0->Iv σ w0 s w->qw σ args args'->Calls P f args'.toArray w (z8 σ w0 (.ret v s'))
def qld (P:Program) (G0:AA->Prop) (tr:Option TrP):Prop:=∀q,tr=some q->∀r,Sound P G0 r->∀s args o,qgW P r s q args=some o->∀(σ:Sg) (w0 w:AA) (args':List AB),G0 w0->Iv σ w0 s w->qw σ args args'->Calls P q.f args'.toArray w (z8 σ w0 o)
section
variable {P:Program} {G0:AA->Prop} {r:Sx->Tk->Option Ou} {σ:Sg} {w0 w:AA} {ρ:qa} {e:Tr AB} {s:Sx} {K:qa->AA->Prop} {Q:Ks} {o:Ou} {pr:TypeId->Bool} {prim:qcK} {tr:Option TrP} {sk:FuncId->Nat->List Nat}
theorem qCs (j:Iv σ w0 s w) (a:ER σ e ρ) {rv:RV} {v:AB} (h:qir s.H e rv=some v):∃c,rv.val ρ w=some c/\VR σ v c:=by
  unfold qir at h;split at h
  · exact ⟨_,rfl,a _ _ h⟩
  · split at h
    · rename_i u b;exact qcM j.mr (a _ _ b) h
    · cases h
  · split at h
    · rename_i u b;exact qcM j.mr (a _ _ b) h
    · cases h
theorem qny (l:Iv σ w0 s w) (j:ER σ e ρ):∀{rs:List RV} {vs:List AB},qeN s.H e rs=some vs->∃a,vX ρ w rs=some a/\qw σ vs a
  |[],vs,h=>by cases h;exact ⟨[],rfl,trivial⟩
  | r :: rs, vs, h => by
    unfold qeN at h;split at h
    · rename_i v x p c;cases h;obtain ⟨q,t,n⟩:=qCs l j p;obtain ⟨b,m,u⟩:=qny l j c;exact ⟨q::b,by simp only [vX,t,Option.bind_some,m,Option.map_some],n,u⟩
    · cases h
theorem qxI:∀{vs j:List AB},qw σ vs j->VR σ (wQ vs) (wQ j)
  |[],[],_=> .tup rfl fun i x y h=>by simp at h
  |[_],[_],h=>h.1
  |a::b::l,c::d::m,h=>by
    obtain ⟨p,n⟩:=qw.arr (cs:=(a::b::l).toArray) (ds:=(c::d::m).toArray) (by simpa using h);exact .tup p n
  |[],_::_,h=>h.elim
  |_::_,[],h=>h.elim
  |[_],_::_::_,h=>h.2.elim
  |_::_::_,[_],h=>h.2.elim
theorem qwx:∀(l:List AB) (k:Nat) (e:Tr AB),k+l.length<=vP->∀i,(qbE l k e).get i=if k<=i/\i<k+l.length then l[i - k]? else e.get i
  |[],k,e,_,i=>by
    rw [q3 (by simp only [List.length_nil];omega)];rfl
  | v :: l, k, e, h, i => by
    simp only [List.length_cons] at h;show (qbE l (k+1) (e.set k v)).get i=_;rw [qwx l (k+1) _ (by omega) i,Tr.get_set _ _ (by omega)];by_cases b:k+1<=i/\i<k+1+l.length
    · rw [j0 b,j0 (by simp;omega),show i - k=(i - (k+1))+1 by omega];simp
    · rw [q3 b];by_cases a:i=k
      · subst a;simp
      · rw [q3 a,q3 (by simp;omega)]
theorem qwm (hr : Sound P G0 r) (hg : G0 w0) {f : FuncId} {args a : List AB} (hI : Iv σ w0 s w) (X : qw σ args a) (h : qgs r s args (fnX P f) = some o) : Calls P f a.toArray w (z8 σ w0 o) := by
  unfold qgs at h;split at h
  · rename_i F j;obtain ⟨hc,h⟩:=jB h;simp only [km,uP,uV] at hc;unfold fnX at j;split at j
    · cases j
    · rename_i fn t;split at j
      · cases j
      · rename_i c W;split at j
        · rename_i ir rs b n;rw [qIG] at b;obtain ⟨A,j⟩:=jB j;cases j;simp only [uP] at A;dsimp only at hc;have Y:kn fn (List.range fn.ntmps)=true:=by
            simp only [kn,km,ue,ut];exact ⟨A,fun x hx=>List.mem_range.1 hx⟩
          have Z:=X.len;have z:a.toArray.size<=fn.ntmps:=by simp;omega
          have O:ER σ (qbE args 0 .lf) (wk (List.range fn.ntmps) a.toArray):=by
            intro i v B;rw [qwx args 0 _ (by omega)] at B;split at B
            · rename_i hi2;rw [Nat.sub_zero] at B;obtain ⟨v',S,I⟩:=X.get i v B;have:wk (List.range fn.ntmps) a.toArray i=v':=by
                unfold wk;rw [q3 (by unfold gS;omega),j0 (List.mem_range.2 (by omega))];simp [S]
              rw [this];exact I
            · cases B
          have hQ:∀R:Ending->AA->Prop,Qn (qM rs R):=fun R _ _ _ _ h=>h;have u:∀(R:Ending->AA->Prop),(∀o1,r s (.ir ⟨f,fn.ntmps,List.range fn.ntmps,ir,rs⟩ ir (qbE args 0 .lf))=some o1->ke σ w0 (qz rs R) (qM rs R) o1)->ir.norm.wp ⟨P,fn.ntmps,List.range fn.ntmps,[]⟩ (qz rs R) (qM rs R) (wk (List.range fn.ntmps) a.toArray) w:=by
            intro R hR;rw [IR.norm_wp];cases y:r s (.ir ⟨f,fn.ntmps,List.range fn.ntmps,ir,rs⟩ ir (qbE args 0 .lf)) with
            |none=>unfold qix at h;rw [y] at h;cases h
            |some o1=>exact hr.ir _ _ _ _ _ y σ w0 _ w _ _ hg hI O (hQ R) (hR o1 y)
          have fin:ir.norm.wp ⟨P,fn.ntmps,List.range fn.ntmps,[]⟩ (qz rs (z8 σ w0 o)) (qM rs (z8 σ w0 o)) (wk (List.range fn.ntmps) a.toArray) w:=by
            refine u _ fun o1 y=>?_;unfold qix at h;rw [y] at h;have q:∀e s',qf7 rs e s'=some o->∀m ρ w,σ.le m->Iv m w0 s' w->ER m e ρ->qz rs (z8 σ w0 o) ρ w:=by
              intro e s' C m ρ w E l p;unfold qf7 at C;split at C
              · rename_i vs J;cases C;obtain ⟨vs',S,I⟩:=qny l p J;unfold qz;rw [S];exact ⟨m,_,E,l,qxI I,rfl⟩
              · cases C
            cases o1 with
            |go e s'=>exact q e s' h
            |rt e s'=>exact q e s' h
            |pn c s'=>
              cases h;exact fun m ρ w E l=>⟨m,E,l,rfl⟩
            |ex i e s'=>cases h
            |ret v s'=>cases h
          cases c with
          |scope c'=>exact qv6 t W b rfl Y n z fin
          |_=>exact qv8 t W b rfl Y n z fin
        · cases j
  · cases h
theorem qIX (p : qgG P G0 prim) (t : qld P G0 tr) (n : Sound P G0 r) (c : G0 w0) {f : FuncId} {args a : List AB} (j : Iv σ w0 s w) (b : qw σ args a) (h : qkW P prim tr r s f args = some o) : Calls P f a.toArray w (z8 σ w0 o) := by
  unfold qkW at h;split at h
  · rename_i v s' l;cases h;exact p f args s v s' l σ w0 w a c j b
  · split at h
    · rename_i q;cases m:Nat.beq q.f f with
      |true=>
        rw [m] at h;have:=t q rfl r n s args o h σ w0 w a c j b
        rwa [um m] at this
      |false=>
        rw [m] at h;exact qwm n c j b h
    · exact qwm n c j b h
theorem qAl (Z : qac P pr) (J : Sound P G0 r) (I : G0 w0) (O : Qn Q) {F : Fx} {id : Nat} {ops : Array Oper} (C : ER σ e ρ) (W : Iv σ w0 s w) (h : qhW r s F e (qdz P F.nt F.V (sk F.f id) (qmc ops) (.region id ops true)) = some o) (Y : ke σ w0 K Q o) :
    (IR.raw (.region id ops true)).wp ⟨P,F.nt,F.V,[]⟩ K Q ρ w:=by
  unfold qhW at h;split at h
  · rename_i t R;have hpn:∀d∈t.takes,∀(ρ:qa) v c w,Q.pn (qx ρ d v) c w->Q.pn ρ c w:=fun _ _ _ _ _ _ h=>O _ _ _ _ h;have j:Qn Q.noRd:=O;have m:ke σ w0 K Q.noRd o:=by cases o<;>exact Y
    refine qnz (cx:=⟨P,F.nt,F.V,[]⟩) R (wx σ (we s.H t e)) (fun w' X hh=>?_) hpn;have a:=W.toExt X;have n:=qg7 (H:=s.H) a.mr (t:=t) C;have B:Grd σ (we s.H t e):=fun f A=>(n f A).1;have q:wx σ (we s.H t e) w':=fun f A=>(n f A).2;refine ⟨q, ?_⟩;have u:∀l,some (we s.H t e)=some l->Grd σ l/\wx σ l w'/\wx σ (we s.H t e)=wx σ l:=fun l S=>by cases S;exact ⟨B,q,rfl⟩
    cases y:(qgr t&&(qaS t).all (fun d=>Nat.blt d F.nt)) with
    |true=>
      rw [y] at h;simp only [km] at y;have z:∀d∈qaS t,d<F.nt:=fun d x=>by simpa [uV] using ut.1 y.2 d x
      refine J.ord _ _ _ _ _ _ h σ σ w0 ρ w' K Q.noRd _ I ?_ C j m (Sg.le_refl σ) u;refine ⟨a.mr,fun i p E=>?_,fun i E=>?_,a.ap,a.ext,a.own⟩
      · have:=a.dom i p E;refine ⟨by dsimp only;omega,fun b=>?_⟩;rcases uv.1 b with b|b
        · exact this.2 b
        · obtain ⟨d,_,x⟩:=uw.1 b;omega
      · rcases uv.1 E with b|b
        · have:=a.res i b;dsimp only;omega
        · obtain ⟨d,x,rfl⟩:=uw.1 b;have:=z d x;dsimp only;omega
    |false=>
      rw [y] at h;exact J.ord _ _ _ _ _ _ h σ σ w0 ρ w' K Q.noRd _ I a C j m (Sg.le_refl σ) u
  · cases h
theorem qDi (O : qac P pr) (x : Sound P G0 r) (u : G0 w0) (A : Qn Q) {F : Fx} {a : IR} (B : ∀ b, a =.loop b -> (IR.loop b).wp ⟨P, F.nt, F.V, []⟩ K Q ρ w) (p : ER σ e ρ) (n : Iv σ w0 s w) (h : irX P sk r s F e a = some o) (l : ke σ w0 K Q o) : a.wp ⟨P, F.nt, F.V, []⟩ K Q ρ w := by
  unfold irX at h;split at h
  · cases h;exact l σ ρ w (Sg.le_refl σ) n p
  · exact x.sts _ _ _ _ h σ w0 ρ w K Q u n p A l
  · cases h
  · rename_i a b;have go:∀o1,r s (.ir F a e)=some o1->ke σ w0 (fun m w'=>b.wp ⟨P,F.nt,F.V,[]⟩ K Q m w') Q o1->(IR.seq a b).wp ⟨P,F.nt,F.V,[]⟩ K Q ρ w:=fun o1 R J=>x.ir _ _ _ _ _ R σ w0 ρ w _ Q u n p A J;cases z:r s (.ir F a e) with
    |none=>rw [z] at h;cases h
    |some o1=>
      rw [z] at h;refine go o1 z ?_;cases o1 with
      |go y s'=>exact fun E m w' C t q=>x.ir _ _ _ _ _ h E w0 m w' K Q u t q A (l.le C)
      |ex i y s'=>cases h;exact l
      |rt y s'=>cases h;exact l
      |pn c s'=>cases h;exact l
      |ret v s'=>cases h;exact l
  · rename_i c a b;show qbA (c.ev ρ w) _ _;unfold qvX at h;split at h
    · rename_i S W;obtain ⟨X,R,J⟩:=kE n.mr p W;rw [R];cases J;cases S with
      |true=>exact x.ir _ _ _ _ _ h σ w0 ρ w K Q u n p A l
      |false=>exact x.ir _ _ _ _ _ h σ w0 ρ w K Q u n p A l
    · cases h
  · rename_i i a;cases z:r s (.ir F a e) with
    |none=>rw [z] at h;cases h
    |some o1=>
      rw [z] at h;refine x.ir _ _ _ _ _ z σ w0 ρ w K _ u n p (fun ρ m c w=>A ρ m c w) ?_;cases o1 with
      |go y s'=>cases h;exact l
      |ex j y s'=>
        intro E m w' C t q;dsimp only
        replace h:(bif Nat.beq j i then some (Ou.go y s') else some (Ou.ex j y s'))=some o:=h
        cases I:Nat.beq j i with
        |true=>
          rw [I] at h;cases h;rw [j0 (um I)];exact l E m w' C t q
        |false=>
          rw [I] at h;cases h;rw [q3 (fun e=>by subst e;simp at I)];exact l E m w' C t q
      |rt y s'=>cases h;exact l
      |pn c s'=>cases h;exact l
      |ret v s'=>cases h;exact l
  · exact B _ rfl
  · cases h;exact l σ ρ w (Sg.le_refl σ) n p
  · cases h;exact l σ ρ w (Sg.le_refl σ) n p
  · split at h
    · cases h;exact qnA (l σ ρ w (Sg.le_refl σ) n p)
    · exact qAl O x u A p n h l
    · cases h
theorem qna (z : qac P pr) (hp : qgG P G0 prim) (ht : qld P G0 tr) : ∀ n, Sound P G0 (wD P prim tr sk pr n) := by
  intro n
  induction n using Nat.strongRecOn with
  | _ n ih =>
    cases n with
    |zero=>exact ⟨fun _ _ _ _ _ h=>by simp [wD] at h,fun _ _ _ _ h=>by simp [wD] at h,fun _ _ _ _ _ _ h=>by simp [wD] at h,fun _ _ _ _ h=>by simp [wD] at h⟩
    |succ n=>
      have O:=ih n (Vh n);refine ⟨fun F a e s o h σ w0 ρ w K Q q x C A B=>?_,fun l e s o h σ w0 ρ w K Q q x C A B=>qmC z O q A C x h B,fun L bs t e s o h σ0 σ w0 ρ w K Q S q x C A B h0 hS=>qCk z O q A C x h B h0 hS,fun f args s o h σ w0 w ad q x hv=>qIX hp ht O q x hv h⟩;refine qDi (sk:=sk) z O q A (fun b hb=>?_) C x h B;subst hb;refine qCM (fun m y w'=>m<=n+1/\∃J E s',wD P prim tr sk pr m s' (.ir F (.loop b) E)=some o/\σ.le J/\Iv J w0 s' w'/\ER J E y) (n+1) ⟨kh _,σ,e,s,h,Sg.le_refl σ,x,C⟩ fun m y w' hm=>?_;obtain ⟨hmn,J,E,s',u,hl,W,R⟩:=hm;cases m with
      |zero=>simp [wD] at u
      |succ m=>
        have aa:=ih m (by omega);have j:qhw (wD P prim tr sk pr m) F (.loop b) (wD P prim tr sk pr m s' (.ir F b E))=some o:=u;cases X:wD P prim tr sk pr m s' (.ir F b E) with
        |none=>rw [X] at j;cases j
        |some o1=>
          rw [X] at j;refine aa.ir _ _ _ _ _ X J w0 y w' _ Q q W R A ?_;have p:=B.le hl;cases o1 with
          |go Z I=>exact fun υ ρ2 w2 Y ac ab=>⟨m,Vh m,by omega,υ,Z,I,j,Sg.le_trans hl Y,ac,ab⟩
          |ex i Z I=>cases j;exact p
          |rt Z I=>cases j;exact p
          |pn c I=>cases j;exact p
          |ret v I=>cases j;exact p
end
end Go.Eng
namespace Go.L01
open Go.Eng
abbrev Bs:=List UInt8
structure Tok where
 kind:Nat
 text:Bs
 line:Int
 deriving DecidableEq
def vH (c:UInt8):Bool:=decide (97<=c.toNat)&&decide (c.toNat<=122)
def qV (c:UInt8):Bool:=decide (48<=c.toNat)&&decide (c.toNat<=57)
def part (c:UInt8):Bool:=vH c||qV c
def ww (c:UInt8):Bool:=decide (c=32)||decide (c=9)||decide (c=10)
def xb:List Bs:=
 [[97,110,100],[97,114,114,97,121],[98,101,103,105,110],[98,111,111,108],[98,114,101,97,107],[99,108,117,115,116,101,114],[100,111],[100,111,119,110],[101,108,115,101],[101,108,115,101,105,102],[101,110,100],[101,120,99,101,112,116],[102,97,108,115,101],[102,111,114],[104,97,115],[105,102],[105,110],[105,110,116],[105,115],[105,116,101,114],[109,111,100],[110,105,108],[110,111,116],[110,117,108,108],[111,110,101,111,102],[111,114],[111,116,104,101,114,115],[112,114,111,99],[112,117,116],[114,101,99,111,114,100],[114,101,112],[114,101,116,117,114,110],[114,101,116,117,114,110,115],[115,105,103,110,97,108],[115,105,103,110,97,108,115],[116,97,103],[116,97,103,99,97,115,101],[116,104,101,110],[116,114,117,101],[117,112],[118,97,114],[119,104,101,110],[119,104,101,114,101],[119,104,105,108,101],[121,105,101,108,100],[121,105,101,108,100,115]]
def ji:List Bs:=
 [[36],[40],[41],[42],[43],[44],[45],[46],[47],[58],[58,61],[59],[60],[60,61],[61],[63],[91],[93],[95],[123],[125]]
def qX (s:Bs):Nat:=(s.takeWhile part).length
def jO (s:Bs):Nat:=(s.takeWhile qV).length
def vI (s:Bs):Bool:=xb.contains s
def qJ (s:Bs):Bool:=decide (0<s.length)&&decide (s.length<=12)&&vH (s.getD 0 0)&&decide (qX s=s.length)&& !vI s
def most:Bs:=[49,48,48,48,48,48,48,48,48,48]
def jX (s:Bs):Bool:=
 !(decide (s.length=0)||decide (10<s.length)||decide (jO s≠s.length)||(decide (1<s.length)&&decide (s.getD 0 0=48)))&&(decide (s.length<10)||decide (s=most))
def jA (s:Bs):Bool:=ji.contains s
def right (k:Nat) (s:Bs):Bool:=
 if k=1 then qJ s else if k=2 then vI s else if k=3 then jX s else if k=4 then jA s else false
def first (s:Bs):Nat×Nat×Int:=
 if vH (s.getD 0 0) then (if vI (s.take (qX s)) then (2,qX s,0) else if 12<qX s then (0,0,12) else (1,qX s,0))
 else if qV (s.getD 0 0) then (if jX (s.take (jO s)) then (3,jO s,0) else (0,0,11))
 else if 1<s.length/\jA (s.take 2)=true then (4,2,0) else if jA (s.take 1) then (4,1,0) else (0,0,10)
def jo (s:Bs):Nat:=(s.takeWhile fun c=>decide (c≠10)).length
inductive Res where
 |bad (e line:Int)
 |ok (ts:List Tok) (cs:List Bs)
 deriving DecidableEq
def Res.add (out:List Tok) (com:List Bs):Res->Res
 | .bad e l=> .bad e l
 | .ok ts cs=> .ok (out++ts) (com++cs)
def wU:Nat->Bs->Int->Res
 |0,_,_=> .ok [] []
 |_+1,[],_=> .ok [] []
 |f+1,c::r,l=>
  if c=10 then wU f r (l+1)
  else if c=32\/c=9 then wU f r l
  else if c=37 then (wU f ((c::r).drop (jo (c::r))) l).add [] [(c::r).take (jo (c::r))]
  else if (first (c::r)).2.2≠0 then .bad (first (c::r)).2.2 l
  else (wU f ((c::r).drop (first (c::r)).2.1) l).add [⟨(first (c::r)).1,(c::r).take (first (c::r)).2.1,l⟩] []
def qF (s:Bs) (l:Int):Res:=wU s.length s l
def qC (s:Bs):Res:=if 20000<s.length then .bad 2 0 else qF s 1
def Res.toks:Res->List Tok| .ok ts _=>ts|_=>[]
def Res.coms:Res->List Bs| .ok _ cs=>cs|_=>[]
def Res.err:Res->Int| .bad e _=>e|_=>0
def Res.at:Res->Int| .bad _ l=>l|_=>0
def qnn {s:Bs} (h:vH (s.getD 0 0)=true):0<qX s:=by
 cases s with
 |nil=>simp [vH] at h
 |cons c r=>
  have a:part c=true:=by simp [part];exact .inl (by simpa using h)
  simp [qX,List.takeWhile_cons,a]
def qIq {s:Bs} (h:qV (s.getD 0 0)=true):0<jO s:=by
 cases s with
 |nil=>simp [qV] at h
 |cons c r=>
  have a:qV c=true:=by simpa using h
  simp [jO,List.takeWhile_cons,a]
def qam {α:Type} (p:α->Bool) (s:List α):(s.takeWhile p).length<=s.length:=(List.takeWhile_sublist p).length_le
def qcq {s:Bs} (h:(first s).2.2=0) (m:s≠[]):0<(first s).2.1/\(first s).2.1<=s.length:=by
 have q:0<s.length:=Jf.2 m;unfold first at h⊢
 split
 ·rename_i c;rw [j0 c] at h;have b:=qnn c;have a:qX s<=s.length:=qam _ _;split
  ·exact ⟨b,a⟩
  ·rename_i p;rw [q3 p] at h;split
   ·rename_i l;rw [j0 l] at h;cases h
   ·exact ⟨b,a⟩
 ·rename_i c;rw [q3 c] at h;split
  ·rename_i j;rw [j0 j] at h;have b:=qIq j;have a:jO s<=s.length:=qam _ _;split
   ·exact ⟨b,a⟩
   ·rename_i n;rw [q3 n] at h;cases h
  ·rename_i j;rw [q3 j] at h;split
   ·rename_i a;exact ⟨by simp,by simp;omega⟩
   ·rename_i a;rw [q3 a] at h;split
    ·exact ⟨by simp,by simp;omega⟩
    ·rename_i b;rw [q3 b] at h;cases h
def qgj (r:Bs):0<jo (37::r):=by simp [jo,List.takeWhile_cons]
def qv2 (s:Bs):jo s<=s.length:=qam _ _
theorem qb1:∀(f g:Nat) (s:Bs) (l:Int),s.length<=f->s.length<=g->wU f s l=wU g s l
 |0,g,s,l,b,_=>by
  have:s=[]:=uJ.1 (by omega);subst this;cases g<;>rfl
 |f+1,0,s,l,_,a=>by
  have:s=[]:=uJ.1 (by omega);subst this;rfl
 |f+1,g+1,[],l,_,_=>rfl
 |f+1,g+1,c::r,l,b,a=>by
  simp only [List.length_cons] at b a;unfold wU;split
  ·exact qb1 f g r _ (by omega) (by omega)
  ·split
   ·exact qb1 f g r _ (by omega) (by omega)
   ·split
    ·rename_i j;subst j;have m:=qgj r;rw [qb1 f g _ _ (by simp only [uU,List.length_cons];omega) (by simp only [uU,List.length_cons];omega)]
    ·split
     ·rfl
     ·rename_i h;have m:=qcq (s:=c::r) (by simpa using h) (by simp);rw [qb1 f g _ _ (by simp only [uU,List.length_cons];omega) (by simp only [uU,List.length_cons];omega)]
theorem QP (l:Int):qF [] l=.ok [] []:=rfl
def qax (c:UInt8) (r:Bs) (l:Int):qF (c::r) l=
  if c=10 then qF r (l+1)
  else if c=32\/c=9 then qF r l
  else if c=37 then (qF ((c::r).drop (jo (c::r))) l).add [] [(c::r).take (jo (c::r))]
  else if (first (c::r)).2.2≠0 then .bad (first (c::r)).2.2 l
  else (qF ((c::r).drop (first (c::r)).2.1) l).add [⟨(first (c::r)).1,(c::r).take (first (c::r)).2.1,l⟩] []:=by
 show wU (r.length+1) (c::r) l=_;rw [wU];split
 ·rfl
 ·split
  ·rfl
  ·split
   ·rename_i b;subst b;have h:=qgj r;rw [qF,qb1 r.length _ _ _ (by simp only [uU,List.length_cons];omega) (kh _)]
   ·split
    ·rfl
    ·rename_i a;have h:=qcq (s:=c::r) (by simpa using a) (by simp);rw [qF,qb1 r.length _ _ _ (by simp only [uU,List.length_cons];omega) (kh _)]
def Res.add_add (a b:List Tok) (c d:List Bs) (r:Res):(r.add b d).add a c=r.add (a++b) (c++d):=by
 cases r<;>simp [Res.add]
@[simp] theorem Res.add_nil (r:Res):r.add [] []=r:=by cases r<;>rfl
end Go.L01
namespace Go.L02
open Go.Eng
open Go.L01 (Bs Tok)
structure D where
 kind:Nat
 name:Bs:=[]
 vr:Bs:=[]
 typ:Bs:=[]
 n:Int:=0
 deriving DecidableEq
inductive T where
 |mk (d:D) (kids:List T)
def T.d:T->D| .mk d _=>d
def T.kids:T->List T| .mk _ ks=>ks
structure Nd where
 d:D
 kids:List Int
 deriving DecidableEq
mutual
def T.size:T->Nat| .mk _ ks=>sizes ks+1
def sizes:List T->Nat|[]=>0|t::ts=>t.size+sizes ts
end
def qg:Nat->List T->List Int
 |_,[]=>[]
 |b,t::ts=>((b:Int)+t.size - 1)::qg (b+t.size) ts
mutual
def T.flat:Nat->T->List Nd|b,.mk d ks=>flats b ks++[⟨d,qg b ks⟩]
def flats:Nat->List T->List Nd|_,[]=>[] |b,t::ts=>t.flat b++flats (b+t.size) ts
end
structure Sig where
 iter:Bool:=false
 args:List Bs:=[]
 result:Bs:=[]
 signals:List Bs:=[]
 deriving DecidableEq
structure Rout where
 name:Bs
 sig:Sig
 params:List Bs
 nodes:List Nd
 deriving DecidableEq
structure Need where
 op:Bs
 sig:Sig
 deriving DecidableEq
structure Opn where
 name:Bs
 sig:Sig:={}
 deriving DecidableEq
structure Face where
 name:Bs
 kind:Nat
 param:Bool
 needs:List Need
 ops:List Opn
 deriving DecidableEq
structure Mod where
 face:Face
 rep:Bs
 routs:List Rout
 deriving DecidableEq
inductive Rs (α:Type) where
 |ok (a:α) (i f:Nat)
 |no (f:Nat)
 |oof
def Rs.andThen {α β:Type} (r:Rs α) (k:α->Nat->Nat->Rs β):Rs β:=match r with| .ok a i f=>k a i f| .no f=> .no f| .oof=> .oof
abbrev M (α:Type):=Nat->Nat->Rs α
def ret {α:Type} (a:α):M α:=fun i f=> .ok a i f
def oof {α:Type}:M α:=fun _ _=> .oof
def yJ {α:Type}:M α:=fun i f=> .no (max f i)
def bnd {α β:Type} (m:M α) (k:α->M β):M β:=fun i f=>(m i f).andThen k
def sq {α β:Type} (m:M α) (k:M β):M β:=bnd m fun _=>k
section
variable (L:List Tok)
def tk (i:Nat):Tok:=L.getD i ⟨0,[],0⟩
def qo (i:Nat) (ss:List Bs):Bool:=(decide ((tk L i).kind=2)||decide ((tk L i).kind=4))&&ss.contains (tk L i).text
def qt {α:Type} (s:Bs) (x y:M α):M α:=fun i f=>if qo L i [s] then x (i+1) f else y i f
def needs:List Bs->M Unit
 |[]=>ret ()
 |s::ss=>qt L s (needs ss) yJ
def name:M Bs:=fun i f=>if (tk L i).kind=1 then .ok (tk L i).text (i+1) f else .no (max f i)
def param:M Unit:=fun i f=>if (tk L i).kind=1/\(tk L i).text=[116] then .ok () (i+1) f else .no (max f i)
def fin:M Unit:=fun i f=>if i<L.length then .no (max f i) else .ok () i f
def more {α:Type} (one:M α):Nat->M (List α)
 |0=>oof
 |n+1=>qt L [44] (bnd one fun x=>bnd (more one n) fun xs=>ret (x::xs)) (ret [])
def listed {α:Type} (n:Nat) (one:M α):M (List α):=bnd one fun x=>bnd (more L one n) fun xs=>ret (x::xs)
def vh {α:Type} (n:Nat) (one:M α):M (List α):=
 sq (needs L [[40]]) (qt L [41] (ret []) (bnd (listed L n one) fun xs=>sq (needs L [[41]]) (ret xs)))
def wn (k:M Unit):M Bs:=sq (name L) (sq (needs L [[58]]) (sq k (ret [])))
def kind:Nat->M Unit
 |0=>oof
 |n+1=>
  qt L [105,110,116] (ret ()) (qt L [98,111,111,108] (ret ()) (qt L [110,117,108,108] (ret ()) (qt L [97,114,114,97,121] (sq (needs L [[91]]) (sq (kind n) (needs L [[93]])))
  (qt L [114,101,99,111,114,100] (sq (needs L [[91]]) (sq (listed L n (wn L (kind n))) (needs L [[93]])))
  (qt L [111,110,101,111,102] (sq (needs L [[91]]) (sq (listed L n (wn L (kind n))) (needs L [[93]])))
  (qt L [63] (param L) (sq (name L) (qt L [91] (sq (kind n) (needs L [[93]])) (ret ())))))))))
def z6 (l:List Tok):Bs:=(l.map (·.text)).flatten
def wt (i j:Nat):List Tok:=(L.take j).drop i
def vN (n:Nat):M Bs:=fun i f=>(kind L n i f).andThen fun _ j g=> .ok (z6 (wt L i j)) j g
def kY:List Bs:=[[109,111,100],[97,110,100],[111,114],[110,111,116]]
def op:M Bs:=fun i f=>if (tk L i).kind=2/\kY.contains (tk L i).text then .ok (tk L i).text (i+1) f
 else (bnd (name L) fun s=>qt L [95] (bnd (name L) fun u=>ret (s++([95]++u))) (ret s)) i f
def ve (n:Nat):M Bs:=bnd (vN L n) fun s=>sq (needs L [[36]]) (ret s)
def QT:List Bs:=[[43],[45],[42],[47],[109,111,100],[60],[60,61],[61],[97,110,100],[111,114]]
def qdD (s:Bs):Int:=s.foldl (fun n c=>10*n+((c.toNat:Int) - 48)) 0
def qa4 (e:M T):M T:=fun i f=>
 (sq (needs L [[40]]) (bnd e fun t=>sq (needs L [[41]]) (ret (T.mk {kind:=if qo L i [[100,111,119,110]] then 10 else 9} [t])))) (i+1) f
def qeX (e:M T):M T:=bnd e fun t=>sq (needs L [[41]]) (ret t)
def Qb (n:Nat) (e:M T):M T:=bnd (name L) fun nm=>
 qt L [123] (bnd (vN L n) fun t=>sq (needs L [[125]]) (bnd (vh L n e) fun ks=>ret (T.mk {kind:=5,name:=nm,typ:=t} ks)))
  (bnd (vh L n e) fun ks=>ret (T.mk {kind:=5,name:=nm} ks))
def zX (n:Nat) (e:M T) (o:Bs):M T:=bnd (op L) fun nm=>bnd (vh L n e) fun ks=>ret (T.mk {kind:=5,vr:=o,name:=nm} ks)
def yg (n:Nat) (e:M T):M T:=fun i f=>
 if (tk L i).kind=1/\((tk L (i+1)).text=[40]\/(tk L (i+1)).text=[123]) then Qb L n e i f else (bnd (ve L n) (zX L n e)) i f
def xJ {α:Type} (b:Bool) (m:M α):M (α×Bool):=bnd m fun x=>ret (x,b)
def yb (n:Nat) (e:M T):M (T×Bool):=fun i f=>
 if (tk L i).kind=1/\((tk L (i+1)).text=[40]\/(tk L (i+1)).text=[123]) then xJ true (Qb L n e) i f
 else if (tk L i).kind=1/\(tk L (i+1)).text=[91] then
  match ve L n i f with
  | .ok s j g=>xJ true (zX L n e s) j g
  | .no g=> .ok (T.mk {kind:=4,name:=(tk L i).text} [],false) (i+1) g
  | .oof=> .oof
 else if (tk L i).kind=1/\(tk L (i+1)).text≠[36] then .ok (T.mk {kind:=4,name:=(tk L i).text} [],false) (i+1) f
 else xJ true (bnd (ve L n) (zX L n e)) i f
def ki (n:Nat) (e:M T):M (T×Bool):=fun i f=>
 if (tk L i).kind=3 then .ok (T.mk {kind:=1,n:=qdD (tk L i).text} [],false) (i+1) f
 else (qt L [116,114,117,101] (ret (T.mk {kind:=2,n:=1} [],false)) (qt L [102,97,108,115,101] (ret (T.mk {kind:=2} [],false)) (qt L [110,105,108] (ret (T.mk {kind:=3} [],false))
  fun i f=>if qo L i [[117,112],[100,111,119,110]] then xJ false (qa4 L e) i f else qt L [40] (xJ false (qeX L e)) (yb L n e) i f))) i f
def wf (e:M T):Nat->T->Nat->M (T×Nat)
 |0,_,_=>oof
 |n+1,t,fm=>qt L [91] (bnd e fun k=>sq (needs L [[93]]) (wf e n (T.mk {kind:=7} [t,k]) 2))
   (qt L [46] (bnd (name L) fun s=>wf e n (T.mk {kind:=8,name:=s} [t]) 3) (ret (t,fm)))
def yC (n:Nat) (e:M T):M (T×Nat):=bnd (ki L n e) fun p=>wf L e n p.1 (if p.2 then 1 else 0)
def Jc (p:M (T×Nat)):M T:=
 qt L [110,111,116] (bnd p fun x=>ret (T.mk {kind:=6,name:=[110,111,116]} [x.1]))
  (bnd p fun x=>fun i f=>if qo L i QT then (bnd p fun y=>ret (T.mk {kind:=6,name:=(tk L i).text} [x.1,y.1])) (i+1) f else .ok x.1 i f)
def Qm:Nat->M T
 |0=>oof
 |n+1=>Jc L (yC L n (Qm n))
def kV (i:Nat):Bool:=decide ((tk L i).kind=1)||decide ((tk L i).kind=3)||
 qo L i [[116,114,117,101],[102,97,108,115,101],[110,105,108],[117,112],[100,111,119,110],[40],[110,111,116],[105,110,116],[98,111,111,108],[110,117,108,108],[97,114,114,97,121],[114,101,99,111,114,100],[111,110,101,111,102],[63]]
def yu (i:Nat):Bool:=qo L i [[118,97,114],[112,117,116],[105,102],[119,104,105,108,101],[102,111,114],[114,101,116,117,114,110],[121,105,101,108,100],[115,105,103,110,97,108],[98,114,101,97,107],[98,101,103,105,110],[116,97,103,99,97,115,101]] ||(kV L i&& !qo L i [[110,111,116]])
def xL (s:M T):Nat->M (List T)
 |0=>oof
 |n+1=>qt L [59] (bnd s fun x=>bnd (xL s n) fun xs=>ret (x::xs)) (ret [])
def wv (n:Nat) (s:M T):M T:=fun i f=>
 if yu L i then (bnd s fun x=>bnd (xL L s n) fun xs=>ret (T.mk {kind:=20} (x::xs))) i f else .ok (T.mk {kind:=20} []) i f
def x7 (n:Nat):M (Bs×Bs):=bnd (name L) fun nm=>sq (needs L [[58]]) (bnd (vN L n) fun t=>ret (nm,t))
def Qp (e b:M T):Nat->M T
 |0=>oof
 |n+1=>bnd e fun x=>sq (needs L [[116,104,101,110]]) (bnd b fun q=>
   qt L [101,108,115,101,105,102] (bnd (Qp e b n) fun c=>ret (T.mk {kind:=26} [x,q,T.mk {kind:=20} [c]]))
    (qt L [101,108,115,101] (bnd b fun r=>sq (needs L [[101,110,100]]) (ret (T.mk {kind:=26} [x,q,r]))) (sq (needs L [[101,110,100]]) (ret (T.mk {kind:=26} [x,q])))))
def yd (b:M T):Nat->Bool->M (List T)
 |0,_=>oof
 |n+1,first=>fun i f=>if qo L i [[119,104,101,110]] ||first then
   (sq (needs L [[119,104,101,110]]) (qt L [111,116,104,101,114,115] (sq (needs L [[58]]) (bnd b fun q=>ret [T.mk {kind:=33} [q]]))
    (bnd (name L) fun s=>sq (needs L [[58]]) (bnd b fun q=>bnd (yd b n false) fun ws=>ret (T.mk {kind:=33,name:=s} [q]::ws))))) i f
  else .ok [] i f
def Q5 (n:Nat) (b:M T):M T:=bnd b fun q=>sq (needs L [[101,120,99,101,112,116]]) (bnd (yd L b n true) fun ws=>sq (needs L [[101,110,100]]) (ret (T.mk {kind:=32} (q::ws))))
def yP (k:Nat) (b:M T):Nat->Bool->M (List T)
 |0,_=>oof
 |n+1,first=>fun i f=>if qo L i [[116,97,103]] ||first then
   (sq (needs L [[116,97,103]]) (bnd (name L) fun s=>sq (needs L [[40]]) (bnd (name L) fun v=>sq (needs L [[58]]) (bnd (vN L k) fun t=>sq (needs L [[41],[58]])
    (bnd b fun q=>bnd (yP k b n false) fun ws=>ret (T.mk {kind:=36,name:=s,vr:=v,typ:=t} [q]::ws)))))) i f
  else .ok [] i f
def Je (n:Nat) (e b:M T):M T:=bnd e fun x=>bnd (yP L n b n true) fun ws=>sq (needs L [[101,110,100]]) (ret (T.mk {kind:=35} (x::ws)))
def kX (n:Nat) (e:M T) (p:M (T×Nat)):M T:=fun i f=>
 if (tk L i).kind=1/\(tk L (i+1)).text=[58,61] then (bnd e fun x=>ret (T.mk {kind:=22,name:=(tk L i).text} [x])) (i+2) f
 else (bnd p fun x=>fun i f=>
  if x.2=1/\qo L i [[58,61]]=false then .ok (T.mk {kind:=25} [x.1]) i f
  else if x.2=2/\qo L i [[58,61]]=true then (bnd e fun y=>ret (T.mk {kind:=23} (x.1.kids++[y]))) (i+1) f
  else if x.2=3/\qo L i [[58,61]]=true then (bnd e fun y=>ret (T.mk {kind:=24,name:=x.1.d.name} (x.1.kids++[y]))) (i+1) f
  else .no (max f i)) i f
def QJ (n:Nat) (e:M T) (p:M (T×Nat)) (b:M T):M T:=
 qt L [118,97,114] (bnd (x7 L n) fun x=>sq (needs L [[58,61]]) (bnd e fun y=>ret (T.mk {kind:=21,name:=x.1,typ:=x.2} [y])))
 (qt L [112,117,116] (bnd e fun y=>ret (T.mk {kind:=37} [y]))
 (qt L [105,102] (Qp L e b n)
 (qt L [119,104,105,108,101] (bnd e fun x=>sq (needs L [[100,111]]) (bnd b fun q=>sq (needs L [[101,110,100]]) (ret (T.mk {kind:=27} [x,q]))))
 (qt L [102,111,114] (bnd (x7 L n) fun x=>sq (needs L [[105,110]]) (bnd (yg L n e) fun c=>sq (needs L [[100,111]]) (bnd b fun q=>sq (needs L [[101,110,100]]) (ret (T.mk {kind:=28,name:=x.1,typ:=x.2} [c,q])))))
 (qt L [114,101,116,117,114,110] (fun i f=>if kV L i then (bnd e fun x=>ret (T.mk {kind:=29} [x])) i f else .ok (T.mk {kind:=29} []) i f)
 (qt L [121,105,101,108,100] (bnd e fun y=>ret (T.mk {kind:=30} [y]))
 (qt L [115,105,103,110,97,108] (bnd (name L) fun s=>ret (T.mk {kind:=31,name:=s} []))
 (qt L [98,114,101,97,107] (ret (T.mk {kind:=34} []))
 (qt L [98,101,103,105,110] (Q5 L n b)
 (qt L [116,97,103,99,97,115,101] (Je L n e b) (kX L n e p)))))))))))
def QK:Nat->M T
 |0=>oof
 |n+1=>QJ L n (Qm L n) (yC L n (Qm L n)) (wv L n (QK n))
def block (n:Nat):M T:=wv L n (QK L n)
def signals (n:Nat):M (List Bs):=qt L [115,105,103,110,97,108,115] (sq (needs L [[40]]) (bnd (listed L n (name L)) fun l=>sq (needs L [[41]]) (ret l))) (ret [])
def xG (n:Nat) (iter:Bool):M (Bs×List Bs):=
 if iter then sq (needs L [[121,105,101,108,100,115]]) (bnd (vN L n) fun t=>bnd (signals L n) fun l=>ret (t,l))
 else qt L [114,101,116,117,114,110,115] (bnd (vN L n) fun t=>bnd (signals L n) fun l=>ret (t,l)) (bnd (signals L n) fun l=>ret ([],l))
def wl:M Bool:=qt L [105,116,101,114] (ret true) (sq (needs L [[112,114,111,99]]) (ret false))
def head (n:Nat) (iter:Bool):M (Sig×List Bs):=bnd (vh L n (x7 L n)) fun l=>bnd (xG L n iter) fun b=>
 ret (⟨iter,l.map (·.2),b.1,b.2⟩,l.map (·.1))
def wI (n:Nat):M (List Nd):=sq (needs L [[105,115]]) (bnd (block L n) fun t=>sq (needs L [[101,110,100]]) (ret (t.flat 0)))
def zC (n:Nat):M Need:=bnd (name L) fun o=>sq (needs L [[58]]) (bnd (wl L) fun it=>bnd (vh L n (vN L n)) fun ws=>bnd (xG L n it) fun b=>
 ret ⟨o,⟨it,ws,b.1,b.2⟩⟩)
def yk (n:Nat):M (List Need):=qt L [119,104,101,114,101] (sq (param L) (sq (needs L [[104,97,115]]) (listed L n (zC L n)))) (ret [])
def params:M Bool:=qt L [91] (sq (param L) (sq (needs L [[93]]) (ret true))) (ret false)
def y4 (n:Nat):M Rout:=bnd (wl L) fun it=>bnd (name L) fun nm=>bnd (head L n it) fun h=>bnd (wI L n) fun l=>ret ⟨nm,h.1,h.2,l⟩
def routs (n:Nat):Nat->M (List Rout)
 |0=>oof
 |k+1=>bnd (y4 L n) fun r=>fun i f=>if qo L i [[112,114,111,99],[105,116,101,114]] then (bnd (routs n k) fun rs=>ret (r::rs)) i f else .ok [r] i f
def ko (names:List Bs) (rs:List Rout):List Opn:=names.mapIdx fun i s=>⟨s,match rs[i]? with|some r=>r.sig|none=>{}⟩
def Qq (n:Nat):M Mod:=bnd (name L) fun nm=>bnd (params L) fun pr=>sq (needs L [[105,115]]) (bnd (listed L n (name L)) fun names=>bnd (yk L n) fun ws=>
 sq (needs L [[114,101,112],[61]]) (bnd (vN L n) fun rep=>bnd (routs L n n) fun rs=>sq (needs L [[101,110,100]]) (ret ⟨⟨nm,3,pr,ws,ko names rs⟩,rep,rs⟩)))
def xC (n:Nat):M Mod:=qt L [99,108,117,115,116,101,114] (Qq L n) (bnd (wl L) fun it=>bnd (name L) fun nm=>bnd (params L) fun pr=>bnd (head L n it) fun h=>
 bnd (yk L n) fun ws=>bnd (wI L n) fun l=>ret ⟨⟨nm,if it then 2 else 1,pr,ws,[⟨nm,h.1⟩]⟩,[],[⟨nm,h.1,h.2,l⟩]⟩)
def jL (n:Nat):Nat->M (List (Int×Mod))
 |0=>oof
 |k+1=>fun i f=>if i<L.length then (bnd (xC L n) fun m=>bnd (jL n k) fun ms=>ret (((tk L i).line,m)::ms)) i f else .ok [] i f
def vO (at':Nat):Int:=if L.length=0 then 1 else (tk L (min at' (L.length - 1))).line
end
inductive Ro (α:Type) where
 |val (o:Option α) (i f:Nat)
 |oof
def Ro.andThen {α β:Type} (r:Ro α) (k:α->Nat->Nat->Ro β):Ro β:=match r with| .val (some a) i f=>k a i f| .val none i f=> .val none i f| .oof=> .oof
abbrev N (α:Type):=Nat->Nat->Ro α
def qwn {α β:Type} (m:N α) (k:α->N β):N β:=fun i f=>(m i f).andThen k
section
variable (L:List Tok)
def wF (i k:Nat) (s:Bs):Bool:=decide (i<L.length)&&decide ((tk L i).kind=k)&&(decide (s=[])||decide ((tk L i).text=s))
def rif {α:Type} (k:Nat) (s:Bs) (x y:N α):N α:=fun i f=>if wF L i k s then x (i+1) f else y i (max f i)
def seen {α:Type} (k:Nat) (x:Bs->N α) (y:N α):List Bs->N α
 |[]=>y
 |s::ss=>rif L k s (x s) (seen k x y ss)
end
end Go.L02
namespace Go.L01
open Go.Eng
def qA0 {c:UInt8} (h:ww c=true):part c=false:=by
 simp only [ww,uS,ue] at h;rcases h with (rfl|rfl)|rfl<;>decide
def qIs {c:UInt8} (h:ww c=true):qV c=false:=by
 simp only [ww,uS,ue] at h;rcases h with (rfl|rfl)|rfl<;>decide
def qIr {c:UInt8} (h:qV c=true):part c=true:=by simp [part,h]
theorem qeF {p:UInt8->Bool} {s r r':Bs} (h:((s++r).takeWhile p).length=s.length) (m:r'=[]\/∃c x,r'=c::x/\(p c=false\/∃y,r=c::y)):((s++r').takeWhile p).length=s.length:=by
 have a:∀x∈s,p x=true:=by
  have B:(s++r).takeWhile p=s:=by
   have A:=Jm p (l:=s++r);have q:s<+:s++r:=Vb _ _;exact List.prefix_of_prefix_length_le A q (by omega)|>.eq_of_length h
  intro x n;have z:x∈(s++r).takeWhile p:=by rw [B];exact n
  exact ut.1 (u9 (p:=p) (l:=s++r)) x z
 rw [Jz a,ky];rw [Jz a,ky] at h;have j:(r.takeWhile p)=[]:=uJ.1 (by omega);rcases m with rfl|⟨c,x,rfl,u|⟨y,rfl⟩⟩
 ·simp
 ·simp [List.takeWhile_cons,u]
 ·have b:p c=false:=by
   cases t:p c with
   |false=>rfl
   |true=>rw [List.takeWhile_cons,t] at j;simp at j
  simp [List.takeWhile_cons,b]
def qbZ:∀s∈ji,(s.length=1\/s.length=2)/\vH (s.getD 0 0)=false/\qV (s.getD 0 0)=false/\(s.length=2->ww (s.getD 1 0)=false)/\(∀c∈s,c≠10/\c≠37/\c≠32/\c≠9):=by decide
def qei:∀s∈xb,vH (s.getD 0 0)=true/\qX s=s.length/\s≠[]:=by decide
def qvo {s r r':Bs} {k:Nat} (R:s≠[]) (h:first (s++r)=(k,s.length,0)) (A:r'=[]\/∃c x,r'=c::x/\(ww c=true\/∃y,r=c::y)):first (s++r')=(k,s.length,0):=by
 obtain ⟨a,s',rfl⟩:∃a s',s=a::s':=by cases s with|nil=>exact absurd rfl R|cons a s'=>exact ⟨a,s',rfl⟩
 have g:∀z:Bs,((a::s')++z).getD 0 0=a:=fun z=>by simp
 unfold first at h⊢
 rw [g] at h⊢;by_cases E:vH a=true
 ·rw [j0 E] at h⊢;have j:qX ((a::s')++r)=(a::s').length:=by
   split at h
   ·exact (uC (uC h).2).1
   ·split at h
    ·have:=(uC (uC h).2).2;cases this
    ·exact (uC (uC h).2).1
  have l:qX ((a::s')++r')=(a::s').length:=qeF j (by
   rcases A with h|⟨c,x,p,n|n⟩
   ·exact .inl h
   ·exact .inr ⟨c,x,p,.inl (qA0 n)⟩
   ·exact .inr ⟨c,x,p,.inr n⟩)
  rw [j] at h;rw [l];rw [Jn] at h⊢;exact h
 ·rw [q3 E] at h⊢;by_cases I:qV a=true
  ·rw [j0 I] at h⊢;have j:jO ((a::s')++r)=(a::s').length:=by
    split at h
    ·exact (uC (uC h).2).1
    ·have:=(uC (uC h).2).2;cases this
   have l:jO ((a::s')++r')=(a::s').length:=qeF j (by
    rcases A with h|⟨c,x,p,n|n⟩
    ·exact .inl h
    ·exact .inr ⟨c,x,p,.inl (qIs n)⟩
    ·exact .inr ⟨c,x,p,.inr n⟩)
   rw [j] at h;rw [l];rw [Jn] at h⊢;exact h
  ·rw [q3 I] at h⊢;by_cases n:1<((a::s')++r).length/\jA (((a::s')++r).take 2)=true
   ·rw [j0 n] at h;have m:(a::s').length=2:=(uC (uC h).2).1.symm;have C:k=4:=(uC h).1.symm;obtain ⟨b,rfl⟩:∃b,s'=[b]:=by
     cases s' with
     |nil=>simp at m
     |cons b t=>cases t with
      |nil=>exact ⟨b,rfl⟩
      |cons _ _=>simp at m
    have e:∀z:Bs,([a,b]++z).take 2=[a,b]:=fun z=>by simp
    rw [e] at n⊢;rw [j0 ⟨by simp,n.2⟩,C];rfl
   ·rw [q3 n] at h;by_cases p:jA (((a::s')++r).take 1)=true
    ·rw [j0 p] at h;have m:(a::s').length=1:=(uC (uC h).2).1.symm;have C:k=4:=(uC h).1.symm;obtain rfl:s'=[]:=uJ.1 (by simpa using m);have O:∀z:Bs,([a]++z).take 1=[a]:=fun z=>by simp
     rw [O] at p⊢;have S:¬(1<([a]++r').length/\jA (([a]++r').take 2)=true):=by
      rintro ⟨u,q⟩;rcases A with rfl|⟨c,x,rfl,J|⟨y,rfl⟩⟩
      ·simp at u
      ·have B:([a]++c::x).take 2=[a,c]:=by simp
       rw [B] at q;have:=(qbZ [a,c] (by simpa [jA] using q)).2.2.2.1 rfl;simp at this;rw [J] at this;cases this
      ·have B:∀z,([a]++c::z).take 2=[a,c]:=fun z=>by simp
       rw [B] at q n;exact n ⟨by simp,q⟩
     rw [q3 S,j0 p,C];rfl
    ·rw [q3 p] at h;have:=(uC (uC h).2).2;cases this
theorem wq {k:Nat} {s:Bs} (h:right k s=true):s≠[]/\first s=(k,s.length,0):=by
 unfold right at h;split at h
 ·rename_i c;subst c;simp only [qJ,km,ue,ux] at h;obtain ⟨⟨⟨⟨j,n⟩,m⟩,t⟩,u⟩:=h;refine ⟨by rintro rfl;simp at j, ?_⟩;unfold first
  rw [j0 m,t,Jg,u,q3 (by simp),q3 (by omega)]
 ·split at h
  ·rename_i c;subst c;obtain ⟨j,n,m⟩:=qei s (by simpa [vI] using h);refine ⟨m, ?_⟩;unfold first
   rw [j0 j,n,Jg,j0 h]
  ·split at h
   ·rename_i c;subst c;have x:=h;simp only [jX,km,ux,uZ,uX,Decidable.not_not] at h;obtain ⟨⟨⟨⟨j,n⟩,m⟩,t⟩,u⟩:=h;have q:s≠[]:=by rintro rfl;simp at j
    obtain ⟨a,s',rfl⟩:∃a s',s=a::s':=by cases s with|nil=>exact absurd rfl q|cons a s'=>exact ⟨a,s',rfl⟩
    have l:qV a=true:=by
     cases l:qV a with
     |true=>rfl
     |false=>simp [jO,List.takeWhile_cons,l] at m
    have p:vH a=false:=by
     simp only [qV,km,ue] at l;simp only [vH,JF,uX];omega
    refine ⟨q, ?_⟩;unfold first
    have g:(a::s').getD 0 0=a:=rfl;rw [g,q3 (by rw [p];simp),j0 l,m,Jg,j0 x]
   ·split at h
    ·rename_i c;subst c;obtain ⟨b,p,l,_,_⟩:=qbZ s (by simpa [jA] using h);refine ⟨by rintro rfl;simp at b, ?_⟩;unfold first
     rw [q3 (by rw [p];simp),q3 (by rw [l];simp)];rcases b with j|n
     ·rw [q3 (by omega),<-j,Jg,j0 h]
     ·rw [<-n,Jg,j0 ⟨by omega,h⟩]
    ·cases h
def qmb {p:UInt8->Bool} (s:Bs):(s.take (s.takeWhile p).length)=s.takeWhile p:=by
 have h:=Jm p (l:=s);exact (List.prefix_iff_eq_take.1 h).symm
theorem qx9 {p:UInt8->Bool} (s:Bs):((s.takeWhile p).takeWhile p)=s.takeWhile p:=by
 induction s with
 |nil=>rfl
 |cons a s b=>
  by_cases h:p a=true
  ·simp [List.takeWhile_cons,h,b]
  ·simp [List.takeWhile_cons,h]
def qvp {s:Bs} (z:s≠[]) (h:(first s).2.2=0):right (first s).1 (s.take (first s).2.1)=true/\((first s).1=1\/(first s).1=2\/(first s).1=3\/(first s).1=4):=by
 obtain ⟨a,t,rfl⟩:∃a t,s=a::t:=by cases s with|nil=>exact absurd rfl z|cons a t=>exact ⟨a,t,rfl⟩
 have g:(a::t).getD 0 0=a:=rfl;unfold first at h⊢
 rw [g] at h⊢;by_cases j:vH a=true
 ·rw [j0 j] at h⊢;have y:0<qX (a::t):=qnn (by rw [g];exact j);have n:(a::t).take (qX (a::t))=(a::t).takeWhile part:=qmb _;by_cases l:vI ((a::t).take (qX (a::t)))=true
  ·rw [j0 l];exact ⟨by simpa [right] using l,by simp⟩
  ·rw [q3 l] at h⊢;by_cases b:12<qX (a::t)
   ·rw [j0 b] at h;cases h
   ·rw [q3 b];refine ⟨?_,by simp⟩;simp only [right,wh,qJ,km,ue,ux];have A:qX (a::t)<=(a::t).length:=qam _ _;have c:((a::t).take (qX (a::t))).length=qX (a::t):=by rw [uF];omega
    refine ⟨⟨⟨⟨by omega,by omega⟩, ?_⟩, ?_⟩,by simpa using l⟩
    ·obtain ⟨m,B⟩:∃m,qX (a::t)=m+1:=⟨qX (a::t) - 1,by omega⟩;rw [B];simpa using j
    ·rw [c,n];show ((List.takeWhile part (a::t)).takeWhile part).length=_;rw [qx9];rfl
 ·rw [q3 j] at h⊢;by_cases x:qV a=true
  ·rw [j0 x] at h⊢;by_cases q:jX ((a::t).take (jO (a::t)))=true
   ·rw [j0 q];exact ⟨by simpa [right] using q,by simp⟩
   ·rw [q3 q] at h;cases h
  ·rw [q3 x] at h⊢;by_cases p:1<(a::t).length/\jA ((a::t).take 2)=true
   ·rw [j0 p];exact ⟨by simpa [right] using p.2,by simp⟩
   ·rw [q3 p] at h⊢;by_cases u:jA ((a::t).take 1)=true
    ·rw [j0 u];exact ⟨by simpa [right] using u,by simp⟩
    ·rw [q3 u] at h;cases h
def wY {k:Nat} {s:Bs} (h:right k s=true):∀c∈s,c≠10/\c≠37/\c≠32/\c≠9:=by
 have n:∀c:UInt8,part c=true->c≠10/\c≠37/\c≠32/\c≠9:=by
  intro c a;refine ⟨?_, ?_, ?_, ?_⟩<;>rintro rfl<;>revert a<;>decide
 have b:qX s=s.length->∀c∈s,part c=true:=by
  intro q c a;have j:=Jm part (l:=s);have m:=j.eq_of_length q;exact ut.1 (u9 (p:=part) (l:=s)) c (by rw [m];exact a)
 unfold right at h;split at h
 ·simp only [qJ,km,ue] at h;exact fun c a=>n c (b h.1.2 c a)
 ·split at h
  ·obtain ⟨_,j,_⟩:=qei s (by simpa [vI] using h);exact fun c a=>n c (b j c a)
  ·split at h
   ·simp only [jX,km,ux,uZ,uX,Decidable.not_not] at h;obtain ⟨⟨⟨⟨u,j⟩,m⟩,y⟩,x⟩:=h;have t:=(Jm qV (l:=s)).eq_of_length m;exact fun c a=>n c (qIr (ut.1 (u9 (p:=qV) (l:=s)) c (by rw [t];exact a)))
   ·split at h
    ·exact (qbZ s (by simpa [jA] using h)).2.2.2.2
    ·cases h
def yZ {k:Nat} {s r:Bs} {l:Int} (j:s≠[]) (h:first (s++r)=(k,s.length,0)) (b:∀c∈s,c≠10/\c≠37/\c≠32/\c≠9):qF (s++r) l=(qF r l).add [⟨k,s,l⟩] []:=by
 obtain ⟨a,t,rfl⟩:∃a t,s=a::t:=by cases s with|nil=>exact absurd rfl j|cons a t=>exact ⟨a,t,rfl⟩
 obtain ⟨m,b2,b3,b4⟩:=b a (by simp);rw [List.cons_append] at h⊢;rw [qax,q3 m,q3 (by rintro (h|h)<;>contradiction),q3 b2,h];rw [q3 (by simp)];have e:a::(t++r)=(a::t)++r:=rfl;simp only [e];rw [Js,Jn]
def qb0 {P:Bs->Int->Prop} (z:∀l,P [] l) (X:∀r l,P r (l+1)->P (10::r) l) (S:∀c r l,(c=32\/c=9)->P r l->P (c::r) l)
  (J:∀a r l,(∀c∈a,c≠10)->(r=[]\/∃x,r=10::x)->P r l->P (37::a++r) l)
  (R:∀c r l,c≠10->c≠32->c≠9->c≠37->(first (c::r)).2.2≠0->P (c::r) l)
  (Y:∀k s r l,right k s=true->first (s++r)=(k,s.length,0)->P r l->P (s++r) l):∀s l,P s l:=by
 have key:∀n,∀s:Bs,s.length<=n->∀l,P s l:=by
  intro n
  induction n with
  |zero=>
   intro s E l;have:s=[]:=uJ.1 (by omega);subst this;exact z l
  |succ n q=>
   intro s E l;cases s with
   |nil=>exact z l
   |cons c r=>
    simp only [List.length_cons] at E;by_cases C:c=10
    ·subst C;exact X r l (q r (by omega) _)
    ·by_cases u:c=32\/c=9
     ·exact S c r l u (q r (by omega) _)
     ·by_cases B:c=37
      ·subst B;have W:r=r.takeWhile (fun c=>decide (c≠10))++r.dropWhile (fun c=>decide (c≠10)):=List.takeWhile_append_dropWhile.symm;have t:(r.dropWhile (fun c=>decide (c≠10))).length<=r.length:=(List.dropWhile_sublist _).length_le;have h:=J (r.takeWhile (fun c=>decide (c≠10))) (r.dropWhile (fun c=>decide (c≠10))) l (fun c O=>by
        have:=ut.1 (u9 (p:=fun c=>decide (c≠10)) (l:=r)) c O;simpa using this) ?_ (q _ (by omega) _)
       ·rw [List.cons_append,<-W] at h;exact h
       ·cases A:r.dropWhile (fun c=>decide (c≠10)) with
        |nil=>exact .inl rfl
        |cons x y=>
         refine .inr ⟨y, ?_⟩;have:=List.head_dropWhile_not (p:=fun c=>decide (c≠10)) (l:=r) (by rw [A];simp);simp only [A,List.head_cons] at this;rw [show x=10 by simpa using this]
      ·by_cases m:(first (c::r)).2.2=0
       ·obtain ⟨I,_⟩:=qvp (s:=c::r) (by simp) m;obtain ⟨Z,t⟩:=qcq (s:=c::r) m (by simp);have j:(c::r)=(c::r).take (first (c::r)).2.1++(c::r).drop (first (c::r)).2.1:=(u5 _ _).symm;have b:((c::r).take (first (c::r)).2.1).length=(first (c::r)).2.1:=by rw [uF];omega
        have h:=Y (first (c::r)).1 ((c::r).take (first (c::r)).2.1) ((c::r).drop (first (c::r)).2.1) l I (by rw [<-j,b,<-m]) (q _ (by simp only [uU,List.length_cons];omega) _);rw [<-j] at h;exact h
       ·exact R c r l C (fun h=>u (.inl h)) (fun h=>u (.inr h)) B m
 exact fun s l=>key s.length s (kh _) l
def wV (r:Bs) (l:Int):qF (10::r) l=qF r (l+1):=by rw [qax,j0 rfl]
def yw {c:UInt8} (r:Bs) (l:Int) (h:c=32\/c=9):qF (c::r) l=qF r l:=by
 rw [qax,q3 (by rcases h with rfl|rfl<;>decide),j0 h]
def qII {a r:Bs} (h:∀c∈a,c≠10) (j:r=[]\/∃x,r=10::x):jo (37::a++r)=(37::a).length:=by
 unfold jo;rw [Jz (fun c b=>by
  rcases ug.1 b with rfl|b
  ·decide
  ·simpa using h c b)]
 rcases j with rfl|⟨x,rfl⟩<;>simp
def qay {a r:Bs} (l:Int) (b:∀c∈a,c≠10) (j:r=[]\/∃x,r=10::x):qF (37::a++r) l=(qF r l).add [] [37::a]:=by
 have h:=qII b j;rw [List.cons_append] at h⊢;rw [qax,q3 (by decide),q3 (by decide),j0 rfl,h];have e:(37:UInt8)::(a++r)=(37::a)++r:=rfl;simp only [e];rw [Js,Jn]
def qb2 {c:UInt8} {r:Bs} (l:Int) (a:c≠10) (m:c≠32) (j:c≠9) (b:c≠37) (h:(first (c::r)).2.2≠0):qF (c::r) l=.bad (first (c::r)).2.2 l:=by
 rw [qax,q3 a,q3 (by rintro (h|h)<;>contradiction),q3 b,j0 h]
end Go.L01
namespace Go.L02
open Go.Eng
open Go.L01 (Bs Tok jA jX qJ right vI)
def qef (L:List Tok):Prop:=∀t∈L,right t.kind t.text=true
def qw0 {β:Type} (f:Nat) (D:Nat->Nat->Prop):Ro β->Prop
 | .oof=>True
 | .val none _ g=>f=g
 | .val (some _) j g=>f=max g j/\D f j
def Sim {α β:Type} (i:Nat) (D:Nat->Nat->Prop) (V:Nat->α->β->Prop) (r:Rs α):Ro β->Prop
 | .oof=>True
 | .val o j' g=>match r with
  | .oof=>True
  | .no f=>i<=f/\qw0 f D (.val o j' g)
  | .ok a j f=>∃b,o=some b/\j'=j/\i<=j/\max f j=max g j/\V j a b
section
variable {α β γ δ:Type} {i:Nat} {D D':Nat->Nat->Prop} {V:Nat->α->β->Prop} {U:Nat->γ->δ->Prop}
theorem Sim.no {f:Nat} {s:Ro β} (a:i<=f) (h:qw0 f D s):Sim i D V (.no f:Rs α) s:=by
 cases s with
 |oof=>trivial
 |val o j g=>exact ⟨a,h⟩
end
section
variable {L:List Tok}
theorem qes {i:Nat} (h:i<L.length):tk L i=L[i]:=by simp [tk,h]
theorem qbQ {i:Nat} (h:L.length<=i):tk L i=⟨0,[],0⟩:=by simp [tk,h]
theorem qef.tk (b:qef L) {i:Nat} (h:(tk L i).kind≠0):i<L.length/\right (tk L i).kind (tk L i).text=true:=by
 by_cases a:i<L.length
 ·exact ⟨a,by rw [qes a];exact b _ (uo a)⟩
 ·rw [qbQ (by omega)] at h;exact absurd rfl h
end
section
variable {L:List Tok} {α β:Type} {i f g:Nat} {D:Nat->Nat->Prop} {V:Nat->α->β->Prop}
theorem qiE {k:Nat} {s:Bs} (h:wF L i k s=true) (a:s≠[]):i<L.length/\(tk L i).kind=k/\(tk L i).text=s:=by
 simpa [wF,a,and_assoc] using h
end
def kU {α β γ:Type} (m:M α) (k:α->M β) (l:β->M γ):bnd (bnd m k) l=bnd m fun x=>bnd (k x) l:=by
 funext i f;unfold bnd;cases m i f<;>rfl
theorem yh {α β:Type} (a:α) (k:α->M β):bnd (ret a) k=k a:=rfl
def kO {α:Type} (m:M α):(bnd m fun x=>ret x)=m:=by
 funext i f;unfold bnd ret;cases m i f<;>rfl
def qeu {α β:Type} {L:List Tok} (s:Bs) (x y:M α) (k:α->M β):bnd (qt L s x y) k=qt L s (bnd x k) (bnd y k):=by
 funext i f;unfold bnd qt;split<;>rfl
section
variable {L:List Tok}
end
section
variable {L:List Tok}
theorem qDh {i k m:Nat} {s t:Bs} (h:wF L i k s=true) (q:s≠[]) (j:t≠[]) (a:¬(k=m/\s=t)):wF L i m t=false:=by
 obtain ⟨_,n,c⟩:=qiE h q;cases l:wF L i m t with
 |false=>rfl
 |true=>
  obtain ⟨_,b,p⟩:=qiE l j;exact absurd ⟨n.symm.trans b,c.symm.trans p⟩ a
def qw1 {α:Type} (m:M α):Prop:=∀i,(∃a k,∀f,m i f=.ok a k f)\/(∃p,∀f,m i f=.no (max f p))\/∀f,m i f=.oof
theorem qw1.all {α:Type} {m:M α} (h:qw1 m) {i k f n:Nat} {a:α} (c:m i f=.ok a k n):n=f/\∀g,m i g=.ok a k g:=by
 rcases h i with ⟨b,l,j⟩|⟨p,j⟩|j
 ·rw [j] at c;cases c;exact ⟨rfl,j⟩
 ·rw [j] at c;cases c
 ·rw [j] at c;cases c
def Up {α:Type} (m:M α):Prop:=∀i f,match m i f with| .ok _ j f'=>i<=j/\f<=f'| .no f'=>i<=f'/\f<=f'| .oof=>True
theorem Up.ok {α:Type} {m:M α} (h:Up m) {i f j b:Nat} {a:α} (e:m i f=.ok a j b):i<=j/\f<=b:=by have:=h i f;rw [e] at this;exact this
theorem Up.no {α:Type} {m:M α} (h:Up m) {i f a:Nat} (e:m i f=.no a):i<=a/\f<=a:=by have:=h i f;rw [e] at this;exact this
theorem qr {α:Type} (a:α):Up (ret a):=fun i f=>⟨kh _,kh _⟩
theorem yl {α:Type}:Up (oof:M α):=fun i f=>trivial
theorem qxC {α:Type}:Up (yJ:M α):=fun i f=>⟨Nat.le_max_right _ _,Nat.le_max_left _ _⟩
theorem qh {α β:Type} {m:M α} {k:α->M β} (q:Up m) (p:∀a,Up (k a)):Up (bnd m k):=by
 intro i f;unfold bnd;cases h:m i f with
 |oof=>trivial
 |no n=>exact q.no h
 |ok a j n=>
  obtain ⟨z,y⟩:=q.ok h;simp only [Rs.andThen];cases c:k a j n with
  |oof=>trivial
  |no u=>obtain ⟨t,x⟩:=(p a).no c;exact ⟨by omega,by omega⟩
  |ok b l u=>obtain ⟨t,x⟩:=(p a).ok c;exact ⟨by omega,by omega⟩
theorem qbO {α:Type} {x:M α} (b:Up x) (i f n:Nat):match x (i+n) f with| .ok _ j a=>i<=j/\f<=a| .no a=>i<=a/\f<=a| .oof=>True:=by
 have:=b (i+n) f;split<;>rename_i h<;>rw [h] at this
 ·exact ⟨by omega,this.2⟩
 ·exact ⟨by omega,this.2⟩
 ·trivial
theorem jD {α:Type} {s:Bs} {x y:M α} (b:Up x) (a:Up y):Up (qt L s x y):=by
 intro i f;unfold qt;cases h:qo L i [s] with
 |true=>exact qbO b i f 1
 |false=>exact a i f
theorem qq:∀ss:List Bs,Up (needs L ss)
 |[]=>qr _
 |s::ss=>jD (qq ss) qxC
theorem jm:Up (name L):=by
 intro i f;unfold name;by_cases h:(tk L i).kind=1
 ·simp only [h,wh];exact ⟨by omega,kh _⟩
 ·simp only [h,ud];exact ⟨by omega,by omega⟩
theorem qbM:Up (param L):=by
 intro i f;unfold param;by_cases h:(tk L i).kind=1/\(tk L i).text=[116]
 ·rw [j0 h];exact ⟨by omega,kh _⟩
 ·rw [q3 h];exact ⟨by omega,by omega⟩
theorem qbN {α:Type} {m:M α} (h:Up m):∀n,Up (more L m n)
 |0=>yl
 |n+1=>jD (qh h fun _=>qh (qbN h n) fun _=>qr _) (qr _)
theorem ym {α:Type} {m:M α} (h:Up m) (n:Nat):Up (listed L n m):=qh h fun _=>qh (qbN h n) fun _=>qr _
theorem yS:∀n,Up (kind L n)
 |0=>yl
 |n+1=>by
  have a:=yS n;have b:Up (sq (needs L [[91]]) (sq (listed L n (wn L (kind L n))) (needs L [[93]]))):=qh (qq _) fun _=>qh
   (ym (qh jm fun _=>qh (qq _) fun _=>qh a fun _=>qr _) n) fun _=>qq _
  exact jD (qr _) (jD (qr _) (jD (qr _) (jD (qh (qq _) fun _=>qh a fun _=>qq _)
   (jD b (jD b (jD qbM (qh jm fun _=>jD (qh a fun _=>qq _) (qr _))))))))
def qgH {α:Type} (k g:Nat):Ro α->Prop
 | .oof=>True
 | .val none _ g'=>g'=g
 | .val (some _) k' g'=>k'=k/\g'=g
theorem qgH.bnd {α β:Type} {k g l i b:Nat} {m:N α} {x:α->N β} (h:qgH k g (m i b)) (c:∀a,qgH l g (x a k g)):qgH l g (qwn m x i b):=by
 unfold qwn;cases n:m i b with
 |oof=>trivial
 |val o j p=>
  rw [n] at h;cases o with
  |none=>exact h
  |some a=>obtain ⟨rfl,rfl⟩:=h;exact c a
end
section
variable {L:List Tok}
abbrev D1 (L:List Tok):Nat->Nat->Prop:=fun _ j=>wF L j 4 [36]=true\/wF L j 4 [40]=true\/wF L j 4 [123]=true
theorem D1.no {f j:Nat} (h:D1 L f j) {k:Nat} {s:Bs} (b:s≠[]) (a:[[36],[40],[123]].contains s=false):wF L j k s=false:=by
 rcases h with h|h|h<;>exact qDh h (by decide) b (by rintro ⟨_,rfl⟩;revert a;decide)
theorem D1.kind {f j:Nat} (h:D1 L f j):(tk L j).kind=4:=by
 rcases h with h|h|h<;>exact (qiE h (by decide)).2.1
theorem jS {α β:Type} {m:M α} {k:α->M β} {i f j b:Nat} {a:α} (h:m i f=.ok a j b):bnd m k i f=k a j b:=by unfold bnd;rw [h];rfl
theorem qCD {i f:Nat} (h:(tk L i).kind=1):name L i f=.ok (tk L i).text (i+1) f:=by unfold name;rw [j0 h]
theorem qCn {i f:Nat} (h:(tk L i).kind=2) (a:kY.contains (tk L i).text=true):op L i f=.ok (tk L i).text (i+1) f:=by unfold op;rw [j0 ⟨h,a⟩]
theorem qCo {α:Type} {k:Bs->M α} {i f:Nat} (h:¬((tk L i).kind=2/\kY.contains (tk L i).text=true)):bnd (op L) k i f=
  bnd (name L) (fun s=>qt L [95] (bnd (name L) fun u=>k (s++([95]++u))) (k s)) i f:=by
 have a:(bnd (name L) fun s=>qt L [95] (bnd (name L) fun u=>k (s++([95]++u))) (k s))=
   bnd (bnd (name L) fun s=>qt L [95] (bnd (name L) fun u=>ret (s++([95]++u))) (ret s)) k:=by
  simp only [kU,qeu,yh]
 rw [a];show Rs.andThen (op L i f) _=Rs.andThen _ _;unfold op;rw [q3 h]
theorem vi (n:Nat):Up (vN L n):=by
 intro i f;have:=yS (L:=L) n i f;unfold vN;cases h:kind L n i f<;>rw [h] at this<;>exact this
theorem qxy:Up (op L):=by
 intro i f;unfold op;by_cases h:(tk L i).kind=2/\kY.contains (tk L i).text=true
 ·rw [j0 h];exact ⟨by omega,kh _⟩
 ·rw [q3 h];exact (qh jm fun _=>jD (qh jm fun _=>qr _) (qr _)) i f
theorem qaj (n:Nat):Up (ve L n):=qh (vi n) fun _=>qh (qq _) fun _=>qr _
theorem wP {α:Type} {e:M α} (a:Up e) (n:Nat):Up (vh L n e):=qh (qq _) fun _=>jD (qr _) (qh (ym a n) fun _=>qh (qq _) fun _=>qr _)
theorem qgS {e:M T} (a:Up e) (n:Nat):Up (Qb L n e):=qh jm fun _=>jD (qh (vi n) fun _=>qh (qq _) fun _=>qh (wP a n) fun _=>qr _) (qh (wP a n) fun _=>qr _)
theorem qgR {e:M T} (a:Up e) (n:Nat) (o:Bs):Up (zX L n e o):=qh qxy fun _=>qh (wP a n) fun _=>qr _
theorem qgQ {e:M T} (a:Up e) (n:Nat):Up (bnd (ve L n) (zX L n e)):=qh (qaj n) fun _=>qgR a n _
theorem qlz {e:M T} (a:Up e) (n:Nat):Up (yg L n e):=by
 intro i f;unfold yg;by_cases h:(tk L i).kind=1/\((tk L (i+1)).text=[40]\/(tk L (i+1)).text=[123])
 ·rw [j0 h];exact qgS a n i f
 ·rw [q3 h];exact qgQ a n i f
theorem qcR {α:Type} {b:Bool} {m:M α} (h:Up m):Up (xJ b m):=qh h fun _=>qr _
theorem qxA {e:M T} (c:Up e) (n:Nat):Up (yb L n e):=by
 intro i f;unfold yb;by_cases h:(tk L i).kind=1/\((tk L (i+1)).text=[40]\/(tk L (i+1)).text=[123])
 ·rw [j0 h];exact qcR (qgS c n) i f
 ·rw [q3 h];by_cases m:(tk L i).kind=1/\(tk L (i+1)).text=[91]
  ·rw [j0 m];have:=qaj (L:=L) n i f;cases l:ve L n i f with
   |oof=>trivial
   |no g=>rw [l] at this;exact ⟨by omega,this.2⟩
   |ok s j g=>
    rw [l] at this;have a:=qcR (b:=true) (qgR (L:=L) c n s) j g;simp only;cases p:xJ true (zX L n e s) j g<;>rw [p] at a<;>first|trivial|exact ⟨by omega,by omega⟩
  ·rw [q3 m];by_cases a:(tk L i).kind=1/\(tk L (i+1)).text≠[36]
   ·rw [j0 a];exact ⟨by omega,kh _⟩
   ·rw [q3 a];exact qcR (qgQ c n) i f
theorem qxv {e:M T} (a:Up e):Up (qa4 L e):=fun i f=>qbO (qh (qq _) fun _=>qh a fun _=>qh (qq _) fun _=>qr _) i f 1
theorem qlx {e:M T} (a:Up e):Up (qeX L e):=qh a fun _=>qh (qq _) fun _=>qr _
theorem qa7 {α:Type} {m x:M α} {i f:Nat} (e:m i f=x i f) (h:Up x):match m i f with| .ok _ j a=>i<=j/\f<=a| .no a=>i<=a/\f<=a| .oof=>True:=by rw [e];exact h i f
theorem qcV {α:Type} {c:Nat->Bool} {x y:M α} (b:Up x) (a:Up y):Up (fun i f=>if c i then x i f else y i f):=by
 intro i f;by_cases h:c i=true
 ·exact qa7 (m:=fun i f=>if c i then x i f else y i f) (x:=x) (j0 h) b
 ·exact qa7 (m:=fun i f=>if c i then x i f else y i f) (x:=y) (q3 h) a
theorem qlw {e:M T} (a:Up e) (n:Nat):Up (ki L n e):=by
 intro i f;unfold ki;by_cases h:(tk L i).kind=3
 ·rw [j0 h];exact ⟨by omega,kh _⟩
 ·rw [q3 h];exact (jD (qr _) (jD (qr _) (jD (qr _) (qcV (c:=fun i=>qo L i [[117,112],[100,111,119,110]]) (qcR (qxv a)) (jD (qcR (qlx a)) (qxA a n)))))) i f
theorem qgP {e:M T} (a:Up e):∀n t b,Up (wf L e n t b)
 |0,_,_=>yl
 |n+1,t,b=>jD (qh a fun _=>qh (qq _) fun _=>qgP a n _ _) (jD (qh jm fun _=>qgP a n _ _) (qr _))
theorem qek {e:M T} (a:Up e) (n:Nat):Up (yC L n e):=qh (qlw a n) fun _=>qgP a n _ _
theorem qxD {p:M (T×Nat)} (a:Up p):Up (Jc L p):=jD (qh a fun _=>qr _) (qh a fun x=>by
 intro i f;by_cases h:qo L i QT=true
 ·simp only [j0 h];exact qbO (qh a fun _=>qr _) i f 1
 ·simp only [q3 h];exact ⟨kh _,kh _⟩)
theorem yn:∀n,Up (Qm L n)
 |0=>yl
 |n+1=>qxD (qek (yn n) n)
end
section
variable {L:List Tok}
theorem jT {α β:Type} {m:M α} {k:α->M β} {i f a:Nat} (h:m i f=.no a):bnd m k i f=.no a:=by unfold bnd;rw [h];rfl
theorem vc {α β:Type} {m:M α} {k:α->M β} {i f:Nat} (h:m i f=.oof):bnd m k i f=.oof:=by unfold bnd;rw [h];rfl
end
section
variable {L:List Tok}
def D2 (L:List Tok):Nat->Nat->Prop:=fun _ j=>wF L j 4 [59]=false/\∀s∈[[101,110,100],[101,108,115,101,105,102],[101,108,115,101],[101,120,99,101,112,116],[119,104,101,110],[116,97,103]],wF L j 2 s=false
theorem D1.two {f j:Nat} (h:D1 L f j):D2 L f j:=⟨h.no (by decide) (by decide),fun s a=>h.no (by rintro rfl;revert a;decide) (by revert s;decide)⟩
theorem D2.far {f a j:Nat} (h:D2 L f j):D2 L a j:=h
def RU {α:Type} (m:N α):Prop:=∀i g,match m i g with| .val _ j g'=>i<=j/\g<=g'| .oof=>True
theorem RU.val {α:Type} {m:N α} (h:RU m) {i g j a:Nat} {o:Option α} (e:m i g=.val o j a):i<=j/\g<=a:=by have:=h i g;rw [e] at this;exact this
end
section
variable {L:List Tok}
theorem D2.w {F j:Nat} (h:D2 L F j) {s:Bs} (a:[[101,110,100],[101,108,115,101,105,102],[101,108,115,101],[101,120,99,101,112,116],[119,104,101,110],[116,97,103]].contains s=true):wF L j 2 s=false:=h.2 s (by simpa using a)
end
section
variable {L:List Tok}
def qy {α:Type} (L:List Tok) (N:Nat) (m:M α):Prop:=∀i f,L.length - i<N->m i f≠ .oof
def Con {α:Type} (L:List Tok) (m:M α):Prop:=∀i f a j f',m i f=.ok a j f'->i<j/\i<L.length
theorem qy.mono {α:Type} {N K:Nat} {m:M α} (h:qy L N m) (b:K<=N):qy L K m:=fun i f a=>h i f (by omega)
theorem qK {α:Type} (a:α) (N:Nat):qy L N (ret a):=fun i f _ h=>by cases h
theorem qxV {α:Type} (N:Nat):qy L N (yJ:M α):=fun i f _ h=>by cases h
theorem yo {α:Type} (m:M α):qy L 0 m:=fun i f h=>by omega
theorem ql {α β:Type} {N:Nat} {m:M α} {k:α->M β} (n:qy L N m) (l:Up m) (p:∀a,qy L N (k a)):qy L N (bnd m k):=by
 intro i f c;cases h:m i f with
 |oof=>exact absurd h (n i f c)
 |no b=>rw [jT h];simp
 |ok a j b=>rw [jS h];exact p a j b (by have:=(l.ok h).1;omega)
theorem QE {α β:Type} {N:Nat} {m:M α} {k:α->M β} (n:qy L N m) (l:Con L m) (p:∀a,qy L (N - 1) (k a)):qy L N (bnd m k):=by
 intro i f c;cases h:m i f with
 |oof=>exact absurd h (n i f c)
 |no b=>rw [jT h];simp
 |ok a j b=>rw [jS h];exact p a j b (by have:=l _ _ _ _ _ h;omega)
theorem xR {i:Nat} {ss:List Bs} (h:qo L i ss=true):i<L.length:=by
 by_cases a:i<L.length
 ·exact a
 ·unfold qo at h;rw [qbQ (by omega)] at h;simp at h
theorem QV {i:Nat} {k:Nat} (h:(tk L i).kind=k) (b:k≠0):i<L.length:=by
 by_cases a:i<L.length
 ·exact a
 ·rw [qbQ (by omega)] at h;exact absurd h.symm b
theorem jG {α:Type} {N:Nat} {s:Bs} {x y:M α} (c:qy L (N - 1) x) (b:qy L N y):qy L N (qt L s x y):=by
 intro i f a;unfold qt;split
 ·rename_i h;have:=xR h;exact c _ _ (by omega)
 ·exact b _ _ a
theorem jn (N:Nat):∀ss:List Bs,qy L N (needs L ss)
 |[]=>qK _ _
 |s::ss=>jG (jn (N - 1) ss) (qxV _)
theorem jP {s:Bs}:Con L (needs L [s]):=by
 intro i f a j c h;unfold needs qt at h;split at h
 ·rename_i b;simp only [needs,ret,Rs.ok.injEq] at h;have:=xR b;omega
 ·cases h
theorem xX (N:Nat):qy L N (name L):=by
 intro i f _ h;unfold name at h;split at h<;>cases h
theorem kF:Con L (name L):=by
 intro i f a j c h;unfold name at h;split at h
 ·rename_i b;simp only [Rs.ok.injEq] at h;have:=QV b (by decide);omega
 ·cases h
theorem qg2 (N:Nat):qy L N (param L):=by
 intro i f _ h;unfold param at h;split at h<;>cases h
theorem qd4 {α β:Type} {m:M α} {k:α->M β} (t:Con L m) (q:∀a,Up (k a)):Con L (bnd m k):=by
 intro i f a j x h;cases c:m i f with
 |oof=>rw [vc c] at h;cases h
 |no n=>rw [jT c] at h;cases h
 |ok b l n=>
  rw [jS c] at h;have p:=t _ _ _ _ _ c;have u:=((q b).ok h).1;exact ⟨by omega,p.2⟩
theorem qlW {α:Type} {e:M α} (a:Up e):∀n N,N<=n->qy L (N - 1) e->qy L N (more L e n)
 |0,N,h,_=>by
  obtain rfl:N=0:=by omega
  exact yo _
 |n+1,N,h,b=>jG (ql b a fun _=>ql (qlW a n (N - 1) (by omega) (b.mono (by omega))) (qbN a n) fun _=>qK _ _) (qK _ _)
theorem qcX {α:Type} {e:M α} (a:Up e) {n N:Nat} (h:N<=n) (b:qy L N e):qy L N (listed L n e):=ql b a fun _=>ql (qlW a n N h (b.mono (by omega))) (qbN a n) fun _=>qK _ _
theorem qcY {α:Type} {e:M α} (a:Up e) {n N:Nat} (h:N<=n) (b:qy L (N - 1) e):qy L N (vh L n e):=
 QE (jn _ _) jP fun _=>jG (qK _ _) (ql (qcX a (by omega) b) (ym a n) fun _=>ql (jn _ _) (qq _) fun _=>qK _ _)
theorem qcT {k:M Unit} (h:Up k):Up (wn L k):=qh jm fun _=>qh (qq _) fun _=>qh h fun _=>qr _
theorem qg3:∀n,qy L n (kind L n)
 |0=>yo _
 |n+1=>by
  have b:=qg3 n;have a:=yS (L:=L) n;have h:qy L n (wn L (kind L n)):=ql (xX _) jm fun _=>ql (jn _ _) (qq _) fun _=>ql b a fun _=>qK _ _;have c:qy L n (sq (needs L [[91]]) (sq (listed L n (wn L (kind L n))) (needs L [[93]]))):=ql (jn _ _) (qq _) fun _=>ql (qcX (qcT a) (kh _) h) (ym (qcT a) n) fun _=>jn _ _;exact jG (qK _ _) (jG (qK _ _) (jG (qK _ _) (jG (ql (jn _ _) (qq _) fun _=>ql b a fun _=>jn _ _)
   (jG c (jG c (jG (qg2 _) (QE (xX _) kF fun _=>jG (ql (b.mono (by omega)) a fun _=>jn _ _) (qK _ _))))))))
theorem qal (n:Nat):qy L n (vN L n):=by
 intro i f c h;unfold vN at h;cases b:kind L n i f with
 |oof=>exact qg3 n i f c b
 |no l=>rw [b] at h;cases h
 |ok a j l=>rw [b] at h;cases h
theorem qlU (n:Nat):qy L n (ve L n):=ql (qal n) (vi n) fun _=>ql (jn _ _) (qq _) fun _=>qK _ _
theorem qxQ (N:Nat):qy L N (op L):=by
 intro i f a;unfold op;split
 ·simp
 ·exact (ql (xX N) jm fun _=>jG (ql (xX _) jm fun _=>qK _ _) (qK _ _)) i f a
theorem qkO:Con L (op L):=by
 intro i f a j c h;unfold op at h;split at h
 ·rename_i b;simp only [Rs.ok.injEq] at h;have:=QV b.1 (by decide);omega
 ·exact qd4 kF (fun _=>jD (qh jm fun _=>qr _) (qr _)) _ _ _ _ _ h
theorem qlX {e:M T} (a:Up e) {n N:Nat} (h:N<=n) (b:qy L (N - 1) e):qy L N (Qb L n e):=QE (xX _) kF fun _=>
 jG (ql ((qal n).mono (by omega)) (vi n) fun _=>ql (jn _ _) (qq _) fun _=>ql (qcY a (by omega) (b.mono (by omega))) (wP a n) fun _=>qK _ _)
  (ql (qcY a (by omega) (b.mono (by omega))) (wP a n) fun _=>qK _ _)
theorem qlV {e:M T} (a:Up e) {n N:Nat} (h:N<=n) (b:qy L (N - 1) e) (o:Bs):qy L N (zX L n e o):=QE (qxQ _) qkO fun _=>ql (qcY a (by omega) (b.mono (by omega))) (wP a n) fun _=>qK _ _
theorem qlT {e:M T} (b:Up e) {n N:Nat} (h:N<=n) (a:qy L (N - 1) e):qy L N (bnd (ve L n) (zX L n e)):=ql ((qlU n).mono h) (qaj n) fun _=>qlV b h a _
theorem qxY {e:M T} (c:Up e) {n N:Nat} (h:N<=n) (a:qy L (N - 1) e):qy L N (yg L n e):=by
 intro i f b;unfold yg;split
 ·exact qlX c h a i f b
 ·exact qlT c h a i f b
theorem qeq {α:Type} {b:Bool} {m:M α} {N:Nat} (h:qy L N m) (a:Up m):qy L N (xJ b m):=ql h a fun _=>qK _ _
theorem qxT {e:M T} (a:Up e) {n:Nat} (b:qy L (n - 1) e):qy L n (yb L n e):=by
 intro i f c;unfold yb;split
 ·exact qeq (qlX a (kh _) b) (qgS a n) i f c
 ·split
  ·cases h:ve L n i f with
   |oof=>exact absurd h (qlU n i f c)
   |no g=>simp
   |ok s j g=>exact qeq (qlV a (kh _) b s) (qgR a n s) j g (by have:=((qaj n).ok h).1;omega)
  ·split
   ·simp
   ·exact qeq (qlT a (kh _) b) (qgQ a n) i f c
theorem qxO {e:M T} (a:Up e) {n:Nat} (b:qy L (n - 1) e):qy L n (ki L n e):=by
 intro i f c;unfold ki;split
 ·simp
 ·refine jG (N:=n) (qK _ _) (jG (qK _ _) (jG (qK _ _) ?_)) i f c;intro i f c;show ite _ _ _≠_;split
  ·rename_i h;have:=xR h;have j:xJ false (qa4 L e) i f=bnd (needs L [[40]]) (fun _=>bnd e fun t=>bnd (needs L [[41]]) fun _=>ret (T.mk {kind:=if qo L i [[100,111,119,110]] then 10 else 9} [t],false)) (i+1) f:=by
    show bnd (bnd _ _) _ (i+1) f=_;simp only [sq,kU,yh]
   rw [j];exact ql (N:=n - 1) (jn _ _) (qq _) (fun _=>ql b a fun _=>ql (jn _ _) (qq _) fun _=>qK _ _) _ _ (by omega)
  ·exact jG (qeq (ql b a fun _=>ql (jn _ _) (qq _) fun _=>qK _ _) (qlx a)) (qxT a b) i f c
theorem qgZ {e:M T} (c:Up e):∀n N t b,N<=n->qy L (N - 1) e->qy L N (wf L e n t b)
 |0,N,t,b,h,_=>by
  obtain rfl:N=0:=by omega
  exact yo _
 |n+1,N,t,b,h,a=>jG (ql a c fun _=>ql (jn _ _) (qq _) fun _=>qgZ c n _ _ _ (by omega) (a.mono (by omega)))
   (jG (ql (xX _) jm fun _=>qgZ c n _ _ _ (by omega) (a.mono (by omega))) (qK _ _))
theorem qlR {e:M T} (a:Up e) {n:Nat} (b:qy L (n - 1) e):qy L n (yC L n e):=ql (qxO a b) (qlw a n) fun _=>qgZ a n n _ _ (kh _) b
theorem qxW {p:M (T×Nat)} (b:Up p) {N:Nat} (a:qy L N p):qy L N (Jc L p):=by
 refine jG (ql (a.mono (by omega)) b fun _=>qK _ _) (ql a b fun x=>?_);intro i f h;show ite _ _ _≠_;split
 ·rename_i c;have:=xR c;exact ql (N:=N) a b (fun _=>qK _ _) _ _ (by omega)
 ·simp
theorem qg4:∀n,qy L (n - 1) (Qm L n)
 |0=>yo _
 |n+1=>qxW (qek (yn n) n) (qlR (yn n) (qg4 n))
theorem kg (n:Nat):Up (x7 L n):=qh jm fun _=>qh (qq _) fun _=>qh (vi n) fun _=>qr _
theorem qg5 (n:Nat):qy L n (x7 L n):=ql (xX _) jm fun _=>ql (jn _ _) (qq _) fun _=>ql (qal n) (vi n) fun _=>qK _ _
theorem qej {s:M T} (a:Up s):∀n,Up (xL L s n)
 |0=>yl
 |n+1=>jD (qh a fun _=>qh (qej a n) fun _=>qr _) (qr _)
theorem qlO {s:M T} (a:Up s):∀n N,N<=n->qy L (N - 1) s->qy L N (xL L s n)
 |0,N,h,_=>by
  obtain rfl:N=0:=by omega
  exact yo _
 |n+1,N,h,b=>jG (ql b a fun _=>ql (qlO a n _ (by omega) (b.mono (by omega))) (qej a n) fun _=>qK _ _) (qK _ _)
theorem qgU {s:M T} (a:Up s) (n:Nat):Up (wv L n s):=by
 intro i f;by_cases h:yu L i=true
 ·exact qa7 (m:=wv L n s) (x:=bnd s fun x=>bnd (xL L s n) fun xs=>ret (T.mk {kind:=20} (x::xs))) (j0 h) (qh a fun _=>qh (qej a n) fun _=>qr _)
 ·exact qa7 (m:=wv L n s) (x:=ret (T.mk {kind:=20} [])) (q3 h) (qr _)
theorem ql2 {s:M T} (a:Up s) {n N:Nat} (h:N<=n) (b:qy L N s):qy L N (wv L n s):=by
 intro i f c;unfold wv;split
 ·exact (ql b a fun _=>ql (qlO a n N h (b.mono (by omega))) (qej a n) fun _=>qK _ _) i f c
 ·simp
theorem qgT {e b:M T} (c:Up e) (a:Up b):∀n,Up (Qp L e b n)
 |0=>yl
 |n+1=>qh c fun _=>qh (qq _) fun _=>qh a fun _=>jD (qh (qgT c a n) fun _=>qr _) (jD (qh a fun _=>qh (qq _) fun _=>qr _) (qh (qq _) fun _=>qr _))
theorem ql0 {e b:M T} (c:Up e) (a:Up b):∀n N,N<=n->qy L N e->qy L N b->qy L N (Qp L e b n)
 |0,N,h,_,_=>by
  obtain rfl:N=0:=by omega
  exact yo _
 |n+1,N,h,j,tb=>ql j c fun _=>ql (jn _ _) (qq _) fun _=>ql tb a fun _=>jG (ql (ql0 c a n _ (by omega) (j.mono (by omega)) (tb.mono (by omega))) (qgT c a n) fun _=>qK _ _)
   (jG (ql (tb.mono (by omega)) a fun _=>ql (jn _ _) (qq _) fun _=>qK _ _) (ql (jn _ _) (qq _) fun _=>qK _ _))
theorem qel {b:M T} (a:Up b):∀n first,Up (yd L b n first)
 |0,_=>yl
 |n+1,first=>qcV (c:=fun i=>qo L i [[119,104,101,110]] ||first) (qh (qq _) fun _=>jD (qh (qq _) fun _=>qh a fun _=>qr _)
   (qh jm fun _=>qh (qq _) fun _=>qh a fun _=>qh (qel a n false) fun _=>qr _)) (qr _)
theorem qer {α:Type} {c:Nat->Bool} {x y:M α} {N:Nat} (j:qy L N x) (b:qy L N y):qy L N (fun i f=>if c i then x i f else y i f):=by
 intro i f a;cases h:c i with
 |true=>simp only [h,wh];exact j i f a
 |false=>simp only [h,uk,ud];exact b i f a
theorem qlZ {b:M T} (a:Up b):∀n N first,N<=n->qy L N b->qy L N (yd L b n first)
 |0,N,_,h,_=>by
  obtain rfl:N=0:=by omega
  exact yo _
 |n+1,N,first,h,tb=>qer (c:=fun i=>qo L i [[119,104,101,110]] ||first) (QE (jn _ _) jP fun _=>jG (ql (jn _ _) (qq _) fun _=>ql (tb.mono (by omega)) a fun _=>qK _ _)
   (ql (xX _) jm fun _=>ql (jn _ _) (qq _) fun _=>ql (tb.mono (by omega)) a fun _=>ql (qlZ a n _ false (by omega) (tb.mono (by omega))) (qel a n false) fun _=>qK _ _)) (qK _ _)
theorem qxB {b:M T} (a:Up b) (n:Nat):Up (Q5 L n b):=qh a fun _=>qh (qq _) fun _=>qh (qel a n true) fun _=>qh (qq _) fun _=>qr _
theorem qxU {b:M T} (a:Up b) {n N:Nat} (h:N<=n) (tb:qy L N b):qy L N (Q5 L n b):=
 ql tb a fun _=>ql (jn _ _) (qq _) fun _=>ql (qlZ a n N true h tb) (qel a n true) fun _=>ql (jn _ _) (qq _) fun _=>qK _ _
theorem qem {b:M T} (a:Up b) (k:Nat):∀n first,Up (yP L k b n first)
 |0,_=>yl
 |n+1,first=>qcV (c:=fun i=>qo L i [[116,97,103]] ||first) (qh (qq _) fun _=>qh jm fun _=>qh (qq _) fun _=>qh jm fun _=>qh (qq _) fun _=>qh (vi k) fun _=>qh (qq _) fun _=>
   qh a fun _=>qh (qem a k n false) fun _=>qr _) (qr _)
theorem ql4 {b:M T} (a:Up b) (k:Nat):∀n N first,N<=n->N<=k->qy L N b->qy L N (yP L k b n first)
 |0,N,_,h,_,_=>by
  obtain rfl:N=0:=by omega
  exact yo _
 |n+1,N,first,h,hk,tb=>qer (c:=fun i=>qo L i [[116,97,103]] ||first) (QE (jn _ _) jP fun _=>ql (xX _) jm fun _=>ql (jn _ _) (qq _) fun _=>ql (xX _) jm fun _=>
   ql (jn _ _) (qq _) fun _=>ql ((qal k).mono (by omega)) (vi k) fun _=>ql (jn _ _) (qq _) fun _=>
   ql (tb.mono (by omega)) a fun _=>ql (ql4 a k n _ false (by omega) (by omega) (tb.mono (by omega))) (qem a k n false) fun _=>qK _ _) (qK _ _)
theorem qxE {e b:M T} (a:Up e) (c:Up b) (n:Nat):Up (Je L n e b):=qh a fun _=>qh (qem c n n true) fun _=>qh (qq _) fun _=>qr _
theorem qx0 {e b:M T} (c:Up e) (a:Up b) {n N:Nat} (h:N<=n) (j:qy L N e) (tb:qy L N b):qy L N (Je L n e b):=
 ql j c fun _=>ql (ql4 a n n N true h h tb) (qem a n n true) fun _=>ql (jn _ _) (qq _) fun _=>qK _ _
theorem qxu {e:M T} {p:M (T×Nat)} (b:Up e) (l:Up p) (n:Nat):Up (kX L n e p):=by
 intro i f;by_cases h:(tk L i).kind=1/\(tk L (i+1)).text=[58,61]
 ·have q:kX L n e p i f=bnd e (fun x=>ret (T.mk {kind:=22,name:=(tk L i).text} [x])) (i+2) f:=j0 h;rw [q];exact qbO (qh b fun _=>qr _) i f 2
 ·refine qa7 (m:=kX L n e p) (x:=bnd p fun x=>fun i f=>
   if x.2=1/\qo L i [[58,61]]=false then .ok (T.mk {kind:=25} [x.1]) i f
   else if x.2=2/\qo L i [[58,61]]=true then (bnd e fun y=>ret (T.mk {kind:=23} (x.1.kids++[y]))) (i+1) f
   else if x.2=3/\qo L i [[58,61]]=true then (bnd e fun y=>ret (T.mk {kind:=24,name:=x.1.d.name} (x.1.kids++[y]))) (i+1) f
   else .no (max f i)) (q3 h) (qh l fun x=>?_)
  intro i f;by_cases a:x.2=1/\qo L i [[58,61]]=false
  ·simp only [j0 a];exact ⟨kh _,kh _⟩
  ·by_cases c:x.2=2/\qo L i [[58,61]]=true
   ·simp only [q3 a,j0 c];exact qbO (qh b fun _=>qr _) i f 1
   ·by_cases j:x.2=3/\qo L i [[58,61]]=true
    ·simp only [q3 a,q3 c,j0 j];exact qbO (qh b fun _=>qr _) i f 1
    ·simp only [q3 a,q3 c,q3 j];exact ⟨by omega,by omega⟩
theorem qxM {e:M T} {p:M (T×Nat)} (a:Up e) (j:Up p) {n N:Nat} (b:qy L (N - 1) e) (tp:qy L N p):qy L N (kX L n e p):=by
 intro i f c;unfold kX;split
 ·rename_i h;have:=QV h.1 (by decide);exact ql b a (fun _=>qK _ _) _ _ (by omega)
 ·refine ql tp j (fun x=>?_) i f c;intro i f c;show ite _ _ _≠_;split
  ·simp
  ·split
   ·rename_i h;have:=xR h.2;exact ql b a (fun _=>qK _ _) _ _ (by omega)
   ·split
    ·rename_i h;have:=xR h.2;exact ql b a (fun _=>qK _ _) _ _ (by omega)
    ·simp
theorem qxw {e b:M T} {p:M (T×Nat)} (a:Up e) (j:Up p) (h:Up b) (n:Nat):Up (QJ L n e p b):=
 jD (qh (kg n) fun _=>qh (qq _) fun _=>qh a fun _=>qr _) (jD (qh a fun _=>qr _) (jD (qgT a h n)
 (jD (qh a fun _=>qh (qq _) fun _=>qh h fun _=>qh (qq _) fun _=>qr _)
 (jD (qh (kg n) fun _=>qh (qq _) fun _=>qh (qlz a n) fun _=>qh (qq _) fun _=>qh h fun _=>qh (qq _) fun _=>qr _)
 (jD (qcV (c:=fun i=>kV L i) (qh a fun _=>qr _) (qr _)) (jD (qh a fun _=>qr _) (jD (qh jm fun _=>qr _) (jD (qr _) (jD (qxB h n) (jD (qxE a h n) (qxu a j n)))))))))))
theorem qxN {e b:M T} {p:M (T×Nat)} (a:Up e) (m:Up p) (l:Up b) {n N:Nat} (h:N<=n) (j:qy L (N - 1) e) (tp:qy L N p) (tb:qy L (N - 1) b):qy L N (QJ L n e p b):=
 jG (ql ((qg5 n).mono (by omega)) (kg n) fun _=>ql (jn _ _) (qq _) fun _=>ql j a fun _=>qK _ _) (jG (ql j a fun _=>qK _ _) (jG (ql0 a l n _ (by omega) j tb)
 (jG (ql j a fun _=>ql (jn _ _) (qq _) fun _=>ql tb l fun _=>ql (jn _ _) (qq _) fun _=>qK _ _)
 (jG (QE ((qg5 n).mono (by omega)) (qd4 kF fun _=>qh (qq _) fun _=>qh (vi n) fun _=>qr _) fun _=>ql (jn _ _) (qq _) fun _=>ql (qxY a (by omega) (j.mono (by omega))) (qlz a n) fun _=>
  ql (jn _ _) (qq _) fun _=>ql (tb.mono (by omega)) l fun _=>ql (jn _ _) (qq _) fun _=>qK _ _)
 (jG (qer (c:=fun i=>kV L i) (ql j a fun _=>qK _ _) (qK _ _)) (jG (ql j a fun _=>qK _ _) (jG (ql (xX _) jm fun _=>qK _ _) (jG (qK _ _)
  (jG (qxU l (by omega) tb) (jG (qx0 a l (by omega) j tb) (qxM a m j tp)))))))))))
end
section
variable {L:List Tok}
theorem qcS:∀n,Up (QK L n)
 |0=>yl
 |n+1=>qxw (yn n) (qek (yn n) n) (qgU (qcS n) n) n
theorem qlP:∀n,qy L (n - 2) (QK L n)
 |0=>yo _
 |n+1=>qxN (N:=n - 1) (yn n) (qek (yn n) n) (qgU (qcS n) n) (by omega) ((qg4 n).mono (by omega)) ((qlR (yn n) (qg4 n)).mono (by omega))
  (ql2 (qcS n) (by omega) ((qlP n).mono (by omega)))
theorem qlA (n:Nat):Up (block L n):=qgU (qcS n) n
theorem qxZ (n:Nat):qy L (n - 2) (block L n):=ql2 (qcS n) (by omega) (qlP n)
theorem qah (n:Nat):Up (signals L n):=jD (qh (qq _) fun _=>qh (ym jm n) fun _=>qh (qq _) fun _=>qr _) (qr _)
theorem qg1 (n:Nat):qy L n (signals L n):=jG (ql (jn _ _) (qq _) fun _=>ql (qcX jm (by omega) (xX _)) (ym jm n) fun _=>ql (jn _ _) (qq _) fun _=>qK _ _) (qK _ _)
theorem qa6 (n:Nat) (it:Bool):Up (xG L n it):=by
 unfold xG;cases it with
 |true=>exact qh (qq _) fun _=>qh (vi n) fun _=>qh (qah n) fun _=>qr _
 |false=>exact jD (qh (vi n) fun _=>qh (qah n) fun _=>qr _) (qh (qah n) fun _=>qr _)
theorem ql3 (n:Nat) (it:Bool):qy L n (xG L n it):=by
 unfold xG;cases it with
 |true=>exact ql (jn _ _) (qq _) fun _=>ql (qal n) (vi n) fun _=>ql (qg1 n) (qah n) fun _=>qK _ _
 |false=>exact jG (ql ((qal n).mono (by omega)) (vi n) fun _=>ql ((qg1 n).mono (by omega)) (qah n) fun _=>qK _ _) (ql (qg1 n) (qah n) fun _=>qK _ _)
theorem QC:Up (wl L):=jD (qr _) (qh (qq _) fun _=>qr _)
theorem qg0 (N:Nat):qy L N (wl L):=jG (qK _ _) (ql (jn _ _) (qq _) fun _=>qK _ _)
theorem qvY:Con L (wl L):=by
 intro i f a j c h;unfold wl qt at h;split at h
 ·rename_i b;simp only [ret,Rs.ok.injEq] at h;have:=xR b;omega
 ·exact qd4 jP (fun _=>qr _) _ _ _ _ _ h
theorem qak (n:Nat) (it:Bool):Up (head L n it):=qh (wP (kg n) n) fun _=>qh (qa6 n it) fun _=>qr _
theorem qlY (n:Nat) (it:Bool):qy L n (head L n it):=ql (qcY (kg n) (kh _) ((qg5 n).mono (by omega))) (wP (kg n) n) fun _=>ql (ql3 n it) (qa6 n it) fun _=>qK _ _
theorem yT (n:Nat):Up (wI L n):=qh (qq _) fun _=>qh (qlA n) fun _=>qh (qq _) fun _=>qr _
theorem ql1 (n:Nat):qy L (n - 2) (wI L n):=ql (jn _ _) (qq _) fun _=>ql (qxZ n) (qlA n) fun _=>ql (jn _ _) (qq _) fun _=>qK _ _
theorem qcU (n:Nat):Up (zC L n):=qh jm fun _=>qh (qq _) fun _=>qh QC fun _=>qh (wP (vi n) n) fun _=>qh (qa6 n _) fun _=>qr _
theorem qxS (n:Nat):qy L n (zC L n):=ql (xX _) jm fun _=>ql (jn _ _) (qq _) fun _=>ql (qg0 _) QC fun _=>
 ql (qcY (vi n) (kh _) ((qal n).mono (by omega))) (wP (vi n) n) fun _=>ql (ql3 n _) (qa6 n _) fun _=>qK _ _
theorem QB (n:Nat):Up (yk L n):=jD (qh qbM fun _=>qh (qq _) fun _=>ym (qcU n) n) (qr _)
theorem qlN (n:Nat):qy L n (yk L n):=jG (ql (qg2 _) qbM fun _=>ql (jn _ _) (qq _) fun _=>qcX (qcU n) (by omega) ((qxS n).mono (by omega))) (qK _ _)
theorem qa5:Up (params L):=jD (qh qbM fun _=>qh (qq _) fun _=>qr _) (qr _)
theorem qlS (N:Nat):qy L N (params L):=jG (ql (qg2 _) qbM fun _=>ql (jn _ _) (qq _) fun _=>qK _ _) (qK _ _)
theorem qxx (n:Nat):Up (y4 L n):=qh QC fun _=>qh jm fun _=>qh (qak n _) fun _=>qh (yT n) fun _=>qr _
theorem qvZ (n:Nat):Con L (y4 L n):=qd4 qvY fun _=>qh jm fun _=>qh (qak n _) fun _=>qh (yT n) fun _=>qr _
theorem qxP (n:Nat):qy L (n - 2) (y4 L n):=ql (qg0 _) QC fun _=>ql (xX _) jm fun _=>ql ((qlY n _).mono (by omega)) (qak n _) fun _=>ql (ql1 n) (yT n) fun _=>qK _ _
theorem qai (n:Nat):∀k,Up (routs L n k)
 |0=>yl
 |k+1=>qh (qxx n) fun r=>qcV (c:=fun i=>qo L i [[112,114,111,99],[105,116,101,114]]) (qh (qai n k) fun _=>qr _) (qr [r])
theorem qlQ (n:Nat):∀k N,N<=k->N<=n - 2->qy L N (routs L n k)
 |0,N,h,_=>by
  obtain rfl:N=0:=by omega
  exact yo _
 |k+1,N,h,a=>QE ((qxP n).mono a) (qvZ n) fun r=>qer (c:=fun i=>qo L i [[112,114,111,99],[105,116,101,114]]) (ql (qlQ n k _ (by omega) (by omega)) (qai n k) fun _=>qK _ _) (qK [r] _)
theorem qly (n:Nat):Up (Qq L n):=qh jm fun _=>qh qa5 fun _=>qh (qq _) fun _=>qh (ym jm n) fun _=>qh (QB n) fun _=>qh (qq _) fun _=>
 qh (vi n) fun _=>qh (qai n n) fun _=>qh (qq _) fun _=>qr _
theorem qxX (n:Nat):qy L (n - 2) (Qq L n):=ql (xX _) jm fun _=>ql (qlS _) qa5 fun _=>ql (jn _ _) (qq _) fun _=>ql (qcX jm (by omega) (xX _)) (ym jm n) fun _=>
 ql ((qlN n).mono (by omega)) (QB n) fun _=>ql (jn _ _) (qq _) fun _=>ql ((qal n).mono (by omega)) (vi n) fun _=>ql (qlQ n n _ (by omega) (kh _)) (qai n n) fun _=>
 ql (jn _ _) (qq _) fun _=>qK _ _
theorem qxz (n:Nat):Up (xC L n):=jD (qly n) (qh QC fun _=>qh jm fun _=>qh qa5 fun _=>qh (qak n _) fun _=>qh (QB n) fun _=>qh (yT n) fun _=>qr _)
theorem qxR (n:Nat):qy L (n - 2) (xC L n):=jG ((qxX n).mono (by omega)) (ql (qg0 _) QC fun _=>ql (xX _) jm fun _=>ql (qlS _) qa5 fun _=>ql ((qlY n _).mono (by omega)) (qak n _) fun _=>
 ql ((qlN n).mono (by omega)) (QB n) fun _=>ql (ql1 n) (yT n) fun _=>qK _ _)
theorem qv0 (n:Nat):Con L (xC L n):=by
 intro i f a j c h;unfold xC qt at h;split at h
 ·rename_i b;have:=xR b;have:=((qly n).ok h).1;omega
 ·exact qd4 qvY (fun _=>qh jm fun _=>qh qa5 fun _=>qh (qak n _) fun _=>qh (QB n) fun _=>qh (yT n) fun _=>qr _) _ _ _ _ _ h
theorem qlB (n:Nat):∀k,Up (jL L n k)
 |0=>yl
 |k+1=>by
  intro i f;by_cases h:i<L.length
  ·exact qa7 (m:=jL L n (k+1)) (x:=bnd (xC L n) fun m=>bnd (jL L n k) fun a=>ret (((tk L i).line,m)::a)) (j0 h) (qh (qxz n) fun _=>qh (qlB n k) fun _=>qr _)
  ·exact qa7 (m:=jL L n (k+1)) (x:=ret []) (q3 h) (qr _)
theorem ql5 (n:Nat):∀k N,N<=k->N<=n - 2->qy L N (jL L n k)
 |0,N,h,_=>by
  obtain rfl:N=0:=by omega
  exact yo _
 |k+1,N,h,a=>by
  intro i f b;unfold jL;split
  ·exact QE ((qxR n).mono a) (qv0 n) (fun _=>ql (ql5 n k (N - 1) (by omega) (by omega)) (qlB n k) fun _=>qK _ _) i f b
  ·simp
theorem qJ3 {n:Nat} (h:L.length+3<=n) (f:Nat):jL L n n 0 f≠ .oof:=ql5 n n (n - 2) (by omega) (kh _) 0 f (by omega)
theorem qC0 {n:Nat} (h:L.length+3<=n) (f:Nat):kind L n 0 f≠ .oof:=qg3 n 0 f (by omega)
def qle {α:Type} (L:List Tok) (N:Nat) (m:Go.L02.N α):Prop:=∀i g,L.length - i<N->m i g≠ .oof
theorem qle.mono {α:Type} {N K:Nat} {m:Go.L02.N α} (h:qle L N m) (b:K<=N):qle L K m:=fun i g a=>h i g (by omega)
end
end Go.L02
namespace Go.L01
open Go.Eng
set_option maxRecDepth 100000
def yi:Int->List Tok->Prop
 |_,[]=>True
 |last,t::ts=>last<=t.line/\right t.kind t.text=true/\yi t.line ts
def yi.mono {a b:Int} {c:List Tok} (h:yi b c) (j:a<=b):yi a c:=by
 cases c with
 |nil=>trivial
 |cons t c=>exact ⟨Int.le_trans j h.1,h.2.1,h.2.2⟩
def yi.right {a:Int}:∀{c:List Tok},yi a c->∀t∈c,L01.right t.kind t.text=true/\a<=t.line
 |[],_,t,b=>by simp at b
 |x::xs,h,t,b=>by
  rcases ug.1 b with rfl|b
  ·exact ⟨h.2.1,h.1⟩
  ·have:=yi.right (h.2.2.mono h.1) t b;exact this
def yi.at {a:Int}:∀{c:List Tok},yi a c->∀i (b:i+1<c.length),c[i].line<=c[i+1].line
 |[],_,i,b=>by simp at b
 |[x],_,i,b=>by simp at b
 |x::y::xs,h,0,b=>h.2.2.1
 |x::y::xs,h,i+1,b=>by
  have:=yi.at h.2.2 i (by simpa using b);simpa using this
def qmL (s:Bs) (l:Int):yi l (qF s l).toks/\∀t∈(qF s l).toks,t.line<=l+s.length:=by
 refine qb0 (P:=fun s l=>yi l (qF s l).toks/\∀t∈(qF s l).toks,t.line<=l+s.length) ?_ ?_ ?_ ?_ ?_ ?_ s l
 ·intro l;exact ⟨trivial,by simp [QP,Res.toks]⟩
 ·intro r l h;rw [wV];exact ⟨h.1.mono (by omega),fun t b=>by have:=h.2 t b;simp only [List.length_cons];omega⟩
 ·intro c r l q h;rw [yw r l q];exact ⟨h.1,fun t b=>by have:=h.2 t b;simp only [List.length_cons];omega⟩
 ·intro a r l y j h;rw [qay l y j];cases m:qF r l with
  |bad e x=>exact ⟨trivial,by simp [Res.add,Res.toks]⟩
  |ok A cs=>
   rw [m] at h;refine ⟨by simpa [Res.add,Res.toks] using h.1,fun t b=>?_⟩;have:=h.2 t (by simpa [Res.add,Res.toks] using b);simp only [ky,List.length_cons];omega
 ·intro c r l B z p u h;rw [qb2 l B z p u h];exact ⟨trivial,by simp [Res.toks]⟩
 ·intro k s r l j n h;rw [yZ (wq j).1 n (wY j)];cases m:qF r l with
  |bad e x=>exact ⟨trivial,by simp [Res.add,Res.toks]⟩
  |ok A cs=>
   rw [m] at h;refine ⟨⟨Int.le_refl _,j,by simpa [Res.toks] using h.1⟩,fun t b=>?_⟩;simp only [Res.add,Res.toks,List.cons_append,List.nil_append,ug] at b;rcases b with rfl|b
   ·show l<=_;omega
   ·have:=h.2 t b;simp only [ky];omega
def qO (s:Bs):Nat:=(s.filter fun c=>decide (c=10)).length
def qcc (a b:Bs):qO (a++b)=qO a+qO b:=by simp [qO]
def qdI {a:Bs} (h:∀c∈a,c≠10):qO a=0:=by
 unfold qO;rw [uJ,List.filter_eq_nil_iff];intro c b;simpa using h c b
def qm6 (two one:Bs) (l:Int):∀b cs,qF one l=.ok b cs->qF (one++10::two) l=(qF two (l+qO one+1)).add b cs:=by
 refine qb0 (P:=fun one l=>∀b cs,qF one l=.ok b cs->qF (one++10::two) l=(qF two (l+qO one+1)).add b cs) ?_ ?_ ?_ ?_ ?_ ?_ one l
 ·intro l b cs h;rw [QP] at h;cases h;rw [List.nil_append,wV,Res.add_nil];simp [qO]
 ·intro r l q b cs h;rw [wV] at h;rw [List.cons_append,wV,q b cs h];have:qO (10::r)=qO r+1:=by simp [qO]
  rw [this];congr 2;omega
 ·intro c r l m q b cs h;rw [yw r l m] at h;rw [List.cons_append,yw _ l m,q b cs h];have:qO (c::r)=qO r:=by rcases m with rfl|rfl<;>simp [qO]
  rw [this]
 ·intro a r l t j q b cs h;rw [qay l t j] at h;rw [un,qay l t (by rcases j with rfl|⟨x,rfl⟩<;>simp)];cases n:qF r l with
  |bad e x=>rw [n] at h;cases h
  |ok p cs'=>
   rw [n] at h;simp only [Res.add,Res.ok.injEq] at h;obtain ⟨rfl,rfl⟩:=h;rw [q p cs' n,Res.add_add];have:qO (37::a++r)=qO r:=by
    rw [qcc,qdI (a:=37::a) (by
     intro c m;rcases ug.1 m with rfl|m
     ·decide
     ·exact t c m)];omega
   rw [this]
 ·intro c r l E B z A C b cs h;rw [qb2 l E B z A C] at h;cases h
 ·intro k s r l j y q b cs h;rw [yZ (wq j).1 y (wY j)] at h;have u:first (s++(r++10::two))=(k,s.length,0):=by
   refine qvo (wq j).1 y ?_;cases r with
   |nil=>exact .inr ⟨10,two,rfl,.inl (by decide)⟩
   |cons c x=>exact .inr ⟨c,x++10::two,rfl,.inr ⟨x,rfl⟩⟩
  rw [un,yZ (wq j).1 u (wY j)];cases n:qF r l with
  |bad e x=>rw [n] at h;cases h
  |ok p cs'=>
   rw [n] at h;simp only [Res.add,Res.ok.injEq] at h;obtain ⟨rfl,rfl⟩:=h;rw [q p cs' n,Res.add_add];have:qO (s++r)=qO r:=by
    rw [qcc,qdI (a:=s) fun c m=>(wY j c m).1];omega
   rw [this]
end Go.L01
namespace Go.L02
open Go.Eng
open Go.L01 (Bs Tok jA jX qC qJ right vI)
def vY (s:Bs):Bool:=
 match qC s with
 | .ok ts _=>decide (s.length<=100)&&(match kind ts (ts.length+3) 0 0 with| .ok _ j _=>decide (ts.length<=j)|_=>false)&&decide (z6 ts=s)
 | .bad _ _=>false
def qd2 (s:Bs):Option Nat:=s.findIdx? (fun c=>decide (c=95))
def yc (s:Bs):Bool:=kY.contains s||(match qd2 s with|none=>qJ s|some k=>qJ (s.take k)&&qJ (s.drop (k+1)))
def qve {s:Bs} {a:List Tok} {cs:List Bs} (h:qC s=.ok a cs):qef a:=by
 intro t c;have b:=(L01.qmL s 1).1.right;unfold qC at h;split at h
 ·cases h
 ·rw [show L01.qF s 1=_ from h] at b;exact (b t c).1
def vJ (k:Nat):Bool:=decide (1<=k)&&decide (k<=10)
def qcg (k:Nat):Bool:=(decide (21<=k)&&decide (k<=31))||decide (k=32)||decide (k=34)||decide (k=35)||decide (k=37)
structure Row where
 name:Option (Bs->Bool):=none
 vr:Option (Bs->Bool):=none
 typ:Option (Bs->Bool):=none
 n:Option (Int->Bool):=none
 first:List (Nat->Bool):=[]
 more:Option (Nat->Bool):=none
 least:Nat:=0
 most:Nat:=0
def QD (m:Int) (n:Int):Bool:=decide (0<=n)&&decide (n<=m)
def vQ (k:Nat) (j:Nat):Bool:=decide (j=k)
def qaX (_:Bs):Bool:=true
def qbm:List Bs:=[[110,111,116],[43],[45],[42],[47],[109,111,100],[60],[60,61],[61],[97,110,100],[111,114]]
def vB (r:Row) (l:List (Nat->Bool)):Row:={r with first:=l,least:=l.length,most:=l.length}
def qde:List (Option Row):=
 let nm:Row:={name:=some qJ}
 let ty:Row:={name:=some qJ,typ:=some vY}
 [none,some (vB {n:=some (QD 1000000000)} []),some (vB {n:=some (QD 1)} []),some (vB {} []),some (vB nm []),
  some {name:=some qaX,vr:=some qaX,typ:=some qaX,more:=some vJ,most:=6},
  some {name:=some qbm.contains,first:=[vJ,vJ],least:=1,most:=2},
  some (vB {} [vJ,vJ]),some (vB nm [vJ]),some (vB {} [vJ]),some (vB {} [vJ]),
  none,none,none,none,none,none,none,none,none,
  some {more:=some qcg,most:=400},some (vB ty [vJ]),some (vB nm [vJ]),some (vB {} [vJ,vJ,vJ]),some (vB nm [vJ,vJ]),some (vB {} [vQ 5]),
  some {first:=[vJ,vQ 20,vQ 20],least:=2,most:=3},some (vB {} [vJ,vQ 20]),some (vB ty [vQ 5,vQ 20]),some {first:=[vJ],most:=1},some (vB {} [vJ]),some (vB nm []),
  some {first:=[vQ 20],more:=some (vQ 33),least:=2,most:=400},some (vB {name:=some qaX} [vQ 20]),some (vB {} []),
  some {first:=[vJ],more:=some (vQ 36),least:=2,most:=400},some (vB {name:=some qJ,vr:=some qJ,typ:=some vY} [vQ 20]),some (vB {} [vJ])]
def kN (k:Nat):Option Row:=(qde[k]?).join
def kJ (s:Bs) (p:Option (Bs->Bool)):Bool:=match p with|none=>decide (s=[])|some f=>f s
def qcf (l:List Nd) (k:Int):Nat:=match l[k.toNat]? with|some x=>x.d.kind|none=>0
def qce (l:List Nd) (k:Int):Bs:=match l[k.toNat]? with|some x=>x.d.name|none=>[]
def yF (l:List Nd) (r:Row):Nat->List Int->Bool
 |_,[]=>true
 |i,k::ks=>(match r.first[i]? with|some f=>f (qcf l k)|none=>(match r.more with|some f=>f (qcf l k)|none=>false))&&yF l r (i+1) ks
def qgm (d:D):Bool:=if d.vr=[] then qJ d.name&&(decide (d.typ=[])||vY d.typ) else vY d.vr&&yc d.name&&decide (d.typ=[])
def qa3 (l:List Nd) (n:Nat):Nat->List Int->Bool
 |_,[]=>true
 |i,k::ks=>(qJ (qce l k)|| !(!decide (qce l k=[])||decide (i+2<n)))&&qa3 l n (i+1) ks
def xo (l:List Nd) (x:Nd):Bool:=
 if x.d.kind=5 then qgm x.d
 else if x.d.kind=6 then decide (x.d.name=[110,111,116])==decide (x.kids.length=1)
 else if x.d.kind=32 then qa3 l x.kids.length 0 (x.kids.drop 1) else true
def yy (l:List Nd) (x:Nd):Bool:=
 match kN x.d.kind with
 |none=>false
 |some r=>kJ x.d.name r.name&&kJ x.d.vr r.vr&&kJ x.d.typ r.typ&&(match r.n with|none=>decide (x.d.n=0)|some f=>f x.d.n)&&
   (decide (r.least<=x.kids.length)&&decide (x.kids.length<=r.most))&&yF l r 0 x.kids&&xo l x
def QL:List Nd->Nat->List Int->Option (List Int)
 |[],_,open'=>some open'
 |x::xs,i,open'=>if x.kids.length<=open'.length/\open'.drop (open'.length - x.kids.length)=x.kids then QL xs (i+1) (open'.take (open'.length - x.kids.length)++[(i:Int)]) else none
def qaE (l:List Nd):Bool:=match QL l 0 [] with|some o=>decide (o.length=1)|none=>false
def qhT (l:List Nd):Nat:=match l.getLast? with|some x=>x.d.kind|none=>0
def whole (l:List Nd) (root:Nat->Bool):Bool:=decide (1<=l.length)&&decide (l.length<=400)&&qaE l&&root (qhT l)&&l.all (yy l)
def qgk (l:List Nd):Bool:=whole l (vQ 20)
def qau:∀(a b:List T),sizes (a++b)=sizes a+sizes b
 |[],b=>by simp [sizes]
 |t::a,b=>by simp [sizes,qau a b];omega
def qvm:∀(a b:List T) (k:Nat),flats k (a++b)=flats k a++flats (k+sizes a) b
 |[],b,k=>by simp [flats,sizes]
 |t::a,b,k=>by simp [flats,sizes,qvm a b,uB]
def qhQ:∀(a:List T) (k:Nat),(qg k a).length=a.length
 |[],_=>rfl
 |t::a,k=>by simp [qg,qhQ a]
mutual
def T.flat_len:∀(t:T) (k:Nat),(t.flat k).length=t.size
 | .mk d ks,k=>by simp [T.flat,T.size,flats_len ks]
def flats_len:∀(a:List T) (k:Nat),(flats k a).length=sizes a
 |[],_=>rfl
 |t::a,k=>by simp [flats,sizes,T.flat_len t,flats_len a]
end
def T.size_pos (t:T):0<t.size:=by cases t;simp [T.size]
theorem qyV (x:Nd) (xs:List Nd) (i:Nat) (o:List Int):QL (x::xs) i o=if x.kids.length<=o.length/\o.drop (o.length - x.kids.length)=x.kids then QL xs (i+1) (o.take (o.length - x.kids.length)++[(i:Int)]) else none:=rfl
section
variable {L:List Tok}
def Sz {α:Type} (μ:α->Nat) (c:Nat) (m:M α):Prop:=∀i f a j f',m i f=.ok a j f'->i<=j/\μ a+2*i<=2*j+c
theorem Sz.mono {α:Type} {μ:α->Nat} {c d:Nat} {m:M α} (h:Sz μ c m) (l:c<=d):Sz μ d m:=fun i f a j b e=>by have:=h i f a j b e;omega
theorem qcZ {α:Type} {m:M α} (h:Up m):Sz (fun _=>0) 0 m:=fun i f a j b e=>by have:=(h.ok e).1;simp;omega
theorem jH {α:Type} {μ:α->Nat} {a:α} {c:Nat} (h:μ a<=c):Sz μ c (ret a):=fun i f b j l e=>by
 simp only [ret,Rs.ok.injEq] at e;obtain ⟨rfl,rfl,_⟩:=e;omega
theorem qan {α:Type} {μ:α->Nat} {c:Nat}:Sz μ c (oof:M α):=fun i f b j a e=>by cases e
theorem ju {α β:Type} {μ:α->Nat} {ν:β->Nat} (c d:Nat) {m:M α} {k:α->M β} {e:Nat} (q:Sz μ c m) (p:∀a,Sz ν (μ a+d) (k a)) (y:c+d<=e):Sz ν e (bnd m k):=by
 intro i f b j u h;cases n:m i f with
 |oof=>rw [vc n] at h;cases h
 |no g=>rw [jT n] at h;cases h
 |ok a l g=>
  rw [jS n] at h;have x:=q _ _ _ _ _ n;have t:=p a _ _ _ _ _ h;omega
theorem qbT {α β:Type} {ν:β->Nat} {m:M α} {k:α->M β} {e:Nat} (b:Up m) (c:∀a,Sz ν e (k a)):Sz ν e (bnd m k):=ju 0 e (qcZ b) (fun a=>(c a).mono (by omega)) (by omega)
theorem vV {β:Type} {ν:β->Nat} {s:Bs} {x y:M β} {c:Nat} (l:Sz ν (c+2) x) (a:Sz ν c y):Sz ν c (qt L s x y):=by
 intro i f b j m h;unfold qt at h;split at h
 ·have:=l _ _ _ _ _ h;omega
 ·exact a _ _ _ _ _ h
theorem vW {β:Type} {ν:β->Nat} {s:Bs} {k:Unit->M β} {c:Nat} (n:Sz ν (c+2) (k ())):Sz ν c (bnd (needs L [s]) k):=by
 intro i f b j q h;cases m:needs L [s] i f with
 |oof=>rw [vc m] at h;cases h
 |no g=>rw [jT m] at h;cases h
 |ok a l g=>
  rw [jS m] at h;have t:=jP _ _ _ _ _ m;have p:=n _ _ _ _ _ h;omega
theorem qbS {β:Type} {ν:β->Nat} {k:Bs->M β} {c:Nat} (n:∀s,Sz ν (c+2) (k s)):Sz ν c (bnd (name L) k):=by
 intro i f b j q h;cases m:name L i f with
 |oof=>rw [vc m] at h;cases h
 |no g=>rw [jT m] at h;cases h
 |ok a l g=>
  rw [jS m] at h;have t:=kF _ _ _ _ _ m;have p:=n a _ _ _ _ _ h;omega
theorem qyq {β:Type} {ν:β->Nat} {k:Bs->M β} {c:Nat} (n:∀s,Sz ν (c+2) (k s)):Sz ν c (bnd (op L) k):=by
 intro i f b j q h;cases m:op L i f with
 |oof=>rw [vc m] at h;cases h
 |no g=>rw [jT m] at h;cases h
 |ok a l g=>
  rw [jS m] at h;have t:=qkO _ _ _ _ _ m;have p:=n a _ _ _ _ _ h;omega
def xn (x:T×Nat):Nat:=x.1.size+if x.2=1 then 1 else 0
def xz (x:T×Bool):Nat:=x.1.size+if x.2 then 1 else 0
def wg (t:T):Nat:=t.size+1
theorem qmo {e:M T} (c:Sz T.size 0 e):∀n,Sz sizes 0 (more L e n)
 |0=>qan
 |n+1=>vV (ju 0 2 c (fun a=>ju 0 (a.size+2) (qmo c n) (fun b=>jH (by simp only [sizes];omega)) (by omega)) (by omega)) (jH (by simp [sizes]))
theorem qys {e:M T} (c:Sz T.size 0 e) (n:Nat):Sz sizes 0 (listed L n e):=ju 0 0 c (fun a=>ju 0 a.size (qmo c n) (fun b=>jH (by simp only [sizes];omega)) (by omega)) (by omega)
theorem qc2 {e:M T} (b:Sz T.size 0 e) (n:Nat):Sz sizes 0 (vh L n e):=
 vW (vV (jH (by simp [sizes])) (ju 0 2 (qys b n) (fun a=>vW (jH (by omega))) (by omega)))
theorem jv (d:D) (ks:List T):(T.mk d ks).size=sizes ks+1:=rfl
theorem xY (t:T):sizes [t]=t.size:=by simp [sizes]
theorem yv (t u:T):sizes [t,u]=t.size+u.size:=by simp [sizes]
theorem qhv (t u v:T):sizes [t,u,v]=t.size+(u.size+v.size):=by simp [sizes]
theorem qmp {e:M T} (a:Sz T.size 0 e) (n:Nat):Sz wg 0 (Qb L n e):=qbS fun _=>vV (qbT (vi n) fun _=>vW (ju 0 2 (qc2 a n) (fun ks=>jH (by simp only [wg,jv];omega)) (by omega)))
 (ju 0 2 (qc2 a n) (fun ks=>jH (by simp only [wg,jv];omega)) (by omega))
theorem qmn {e:M T} (a:Sz T.size 0 e) (n:Nat) (o:Bs):Sz wg 0 (zX L n e o):=qyq fun _=>ju 0 2 (qc2 a n) (fun ks=>jH (by simp only [wg,jv];omega)) (by omega)
theorem qmm {e:M T} (a:Sz T.size 0 e) (n:Nat):Sz wg 0 (bnd (ve L n) (zX L n e)):=qbT (qaj n) fun _=>qmn a n _
theorem qc1 {α:Type} {μ:α->Nat} {c:Nat} {p:Nat->Prop} [DecidablePred p] {x y:M α} (m:Sz μ c x) (l:Sz μ c y):Sz μ c (fun i f=>if p i then x i f else y i f):=by
 intro i f a j n h;by_cases b:p i
 ·simp only [b,wh] at h;exact m _ _ _ _ _ h
 ·simp only [b,ud] at h;exact l _ _ _ _ _ h
theorem qmr {e:M T} (a:Sz T.size 0 e) (n:Nat):Sz wg 0 (yg L n e):=qc1 (p:=fun i=>(tk L i).kind=1/\((tk L (i+1)).text=[40]\/(tk L (i+1)).text=[123])) (qmp a n) (qmm a n)
theorem qhf {b:Bool} {m:M T} {c:Nat} (h:Sz wg c m):Sz xz c (xJ b m):=ju c 0 h (fun x=>jH (by cases b<;>simp [xz,wg])) (by omega)
theorem qyo {m:M T} {c:Nat} (h:Sz T.size c m):Sz xz c (xJ false m):=ju c 0 h (fun x=>jH (by simp [xz])) (by omega)
theorem qyr {e:M T} (l:Sz T.size 0 e) (n:Nat):Sz xz 0 (yb L n e):=by
 intro i f a j m h;unfold yb at h;split at h
 ·exact qhf (qmp l n) _ _ _ _ _ h
 ·split at h
  ·cases c:ve L n i f with
   |oof=>rw [c] at h;cases h
   |no g=>rw [c] at h;simp only [Rs.ok.injEq] at h;obtain ⟨rfl,rfl,_⟩:=h;simp [xz,jv,sizes];omega
   |ok s k g=>
    rw [c] at h;have q:=qhf (b:=true) (qmn (L:=L) l n s) _ _ _ _ _ h;have p:=((qaj n).ok c).1;omega
  ·split at h
   ·simp only [Rs.ok.injEq] at h;obtain ⟨rfl,rfl,_⟩:=h;simp [xz,jv,sizes];omega
   ·exact qhf (qmm l n) _ _ _ _ _ h
theorem qmk {e:M T} (b:Sz T.size 0 e) (n:Nat):Sz xz 0 (ki L n e):=by
 intro i f a j p h;unfold ki at h;split at h
 ·simp only [Rs.ok.injEq] at h;obtain ⟨rfl,rfl,_⟩:=h;simp [xz,jv,sizes];omega
 ·refine vV (c:=0) (ν:=xz) (jH (by simp [xz,jv,sizes])) (vV (jH (by simp [xz,jv,sizes])) (vV (jH (by simp [xz,jv,sizes])) ?_)) _ _ _ _ _ h;intro i f a j p h;by_cases l:qo L i [[117,112],[100,111,119,110]]=true
  ·simp only [l,wh] at h;have m:xJ false (qa4 L e) i f=bnd (needs L [[40]]) (fun _=>bnd e fun t=>bnd (needs L [[41]]) fun _=>ret (T.mk {kind:=if qo L i [[100,111,119,110]] then 10 else 9} [t],false)) (i+1) f:=by
    show bnd (bnd _ _) _ (i+1) f=_;simp only [sq,kU,yh]
   rw [m] at h;have:=vW (c:=0) (ν:=xz) (L:=L) (s:=[40]) (k:=fun _=>bnd e fun t=>bnd (needs L [[41]]) fun _=>ret (T.mk {kind:=if qo L i [[100,111,119,110]] then 10 else 9} [t],false))
    (ju 0 2 b (fun t=>vW (jH (by simp only [xz,jv,xY,uk,ud];omega))) (by omega)) _ _ _ _ _ h
   omega
  ·simp only [l,uk,ud] at h;exact vV (c:=0) (ν:=xz) (qyo (ju 0 2 b (fun t=>vW (jH (by omega))) (by omega))) (qyr b n) _ _ _ _ _ h
theorem qhg {e:M T} (a:Sz T.size 0 e):∀n t b,Sz xn (t.size+if b=1 then 1 else 0) (wf L e n t b)
 |0,_,_=>qan
 |n+1,t,b=>vV (ju 0 (t.size+2) a (fun k=>vW ((qhg a n _ _).mono (by simp only [jv,yv,show¬(2:Nat)=1 by decide,ud];omega))) (by omega))
   (vV (qbS fun s=>(qhg a n _ _).mono (by simp only [jv,xY,show¬(3:Nat)=1 by decide,ud];omega)) (jH (kh _)))
theorem qev {e:M T} (a:Sz T.size 0 e) (n:Nat):Sz xn 0 (yC L n e):=ju (μ:=xz) 0 0 (qmk a n) (fun p=>(qhg a n _ _).mono (by unfold xz;cases p.2<;>simp)) (by omega)
theorem qyu {p:M (T×Nat)} (b:Sz xn 0 p):Sz T.size 0 (Jc L p):=vV (ju 0 2 b (fun x=>jH (by simp only [xn,jv,xY];omega)) (by omega)) (ju 0 0 b (fun x=>by
 intro i f a j l h;by_cases c:qo L i QT=true
 ·simp only [c,wh] at h;have:=ju (e:=x.1.size+2) (ν:=T.size) 0 (x.1.size+2) b (k:=fun y=>ret (T.mk {kind:=6,name:=(tk L i).text} [x.1,y.1])) (fun y=>jH (by simp only [xn,jv,yv];omega)) (by omega) _ _ _ _ _ h;simp only [xn];omega
 ·simp only [c,uk,ud,Rs.ok.injEq] at h;obtain ⟨rfl,rfl,_⟩:=h;simp only [xn];omega) (by omega))
theorem qao:∀n,Sz T.size 0 (Qm L n)
 |0=>qan
 |n+1=>qyu (qev (qao n) n)
theorem qmj {s:M T} (c:Sz T.size 0 s):∀n,Sz sizes 0 (xL L s n)
 |0=>qan
 |n+1=>vV (ju 0 2 c (fun a=>ju 0 (a.size+2) (qmj c n) (fun b=>jH (by simp only [sizes];omega)) (by omega)) (by omega)) (jH (by simp [sizes]))
theorem qhi {s:M T} (c:Sz T.size 0 s) (n:Nat):Sz T.size 1 (wv L n s):=qc1 (p:=fun i=>yu L i=true) (x:=bnd s fun x=>bnd (xL L s n) fun xs=>ret (T.mk {kind:=20} (x::xs))) (y:=ret (T.mk {kind:=20} []))
 (ju 0 1 c (fun a=>ju 0 (a.size+1) (qmj c n) (fun b=>jH (by simp only [jv,sizes];omega)) (by omega)) (by omega)) (jH (by simp [jv,sizes]))
theorem qhh {e b:M T} (h:Sz T.size 0 e) (a:Sz T.size 1 b):∀n,Sz T.size 0 (Qp L e b n)
 |0=>qan
 |n+1=>ju 0 0 h (fun x=>vW (ju 1 (x.size+1) a (fun q=>vV
   (ju 0 (x.size+q.size+3) (qhh h a n) (fun c=>jH (by simp only [jv,qhv,xY];omega)) (by omega))
   (vV (ju 1 (x.size+q.size+2) a (fun r=>vW (jH (by simp only [jv,qhv];omega))) (by omega)) (vW (jH (by simp only [jv,yv];omega))))) (by omega))) (by omega)
theorem qmq {b:M T} (a:Sz T.size 1 b):∀n first,Sz sizes 0 (yd L b n first)
 |0,_=>qan
 |n+1,first=>qc1 (p:=fun i=>(qo L i [[119,104,101,110]] ||first)=true) (vW (vV (vW (ju 1 2 a (fun q=>jH (by simp only [xY,jv];omega)) (by omega)))
   (qbS fun s=>vW (ju 1 2 a (fun q=>ju 0 (q.size+2) (qmq a n false) (fun c=>jH (by simp only [sizes,jv];omega)) (by omega)) (by omega))))) (jH (by simp [sizes]))
theorem qyt {b:M T} (c:Sz T.size 1 b) (n:Nat):Sz T.size 0 (Q5 L n b):=by
 intro i f a j m h;have key:∀q:T,Sz T.size (q.size - 1+0) (sq (needs L [[101,120,99,101,112,116]]) (bnd (yd L b n true) fun l=>sq (needs L [[101,110,100]]) (ret (T.mk {kind:=32} (q::l))))):=by
  intro q;have:=q.size_pos;exact vW (ju 0 (q.size - 1+2) (qmq c n true) (fun l=>vW (jH (by simp only [jv,sizes];omega))) (by omega))
 exact ju (e:=0) (μ:=fun t:T=>t.size - 1) (ν:=T.size) 0 0 (fun i f a j m h=>by have:=c _ _ _ _ _ h;have:=a.size_pos;simp only;omega) key (by omega) _ _ _ _ _ h
theorem qmt {b:M T} (a:Sz T.size 1 b) (k:Nat):∀n first,Sz sizes 0 (yP L k b n first)
 |0,_=>qan
 |n+1,first=>qc1 (p:=fun i=>(qo L i [[116,97,103]] ||first)=true) (vW (qbS fun s=>vW (qbS fun v=>vW (qbT (vi k) fun t=>qbT (qq _) fun _=>
   ju 1 2 a (fun q=>ju 0 (q.size+2) (qmt a k n false) (fun c=>jH (by simp only [sizes,jv,xY];omega)) (by omega)) (by omega))))) (jH (by simp [sizes]))
theorem qyv {e b:M T} (a:Sz T.size 0 e) (c:Sz T.size 1 b) (n:Nat):Sz T.size 0 (Je L n e b):=ju 0 0 a (fun x=>ju 0 x.size (qmt c n n true) (fun h=>vW (jH (by simp only [jv,sizes];omega))) (by omega)) (by omega)
theorem qmU (ks:List T) (y:T):sizes (ks++[y])=sizes ks+y.size:=by rw [qau,xY]
theorem qy3 (t:T):sizes t.kids+1=t.size:=by cases t;rfl
theorem qyn {e:M T} {p:M (T×Nat)} (b:Sz T.size 0 e) (q:Sz xn 0 p) (n:Nat):Sz T.size 0 (kX L n e p):=by
 intro i f a j t h;unfold kX at h;split at h
 ·have:=ju (e:=4) (ν:=T.size) 0 4 b (k:=fun x=>ret (T.mk {kind:=22,name:=(tk L i).text} [x])) (fun x=>jH (by simp only [jv,xY];omega)) (by omega) _ _ _ _ _ h;omega
 ·refine ju (e:=0) (ν:=T.size) 0 0 q (fun x=>?_) (by omega) _ _ _ _ _ h;intro i f a j t h;have u:=qy3 x.1;by_cases c:x.2=1/\qo L i [[58,61]]=false
  ·simp only [j0 c,Rs.ok.injEq] at h;obtain ⟨rfl,rfl,_⟩:=h;simp only [xn,c.1,wh,jv,xY];omega
  ·simp only [q3 c] at h;by_cases m:x.2=2/\qo L i [[58,61]]=true
   ·simp only [j0 m] at h;have:=ju (e:=x.1.size+2) (ν:=T.size) 0 (x.1.size+2) b (k:=fun y=>ret (T.mk {kind:=23} (x.1.kids++[y]))) (fun y=>jH (by simp only [jv,qmU];omega)) (by omega) _ _ _ _ _ h;simp only [xn];omega
   ·simp only [q3 m] at h;by_cases l:x.2=3/\qo L i [[58,61]]=true
    ·simp only [j0 l] at h;have:=ju (e:=x.1.size+2) (ν:=T.size) 0 (x.1.size+2) b (k:=fun y=>ret (T.mk {kind:=24,name:=x.1.d.name} (x.1.kids++[y]))) (fun y=>jH (by simp only [jv,qmU];omega)) (by omega) _ _ _ _ _ h;simp only [xn];omega
    ·simp only [q3 l] at h;cases h
theorem qmi {m:M T} {c:Nat} (h:Sz wg c m):Sz T.size c m:=fun i f a j b e=>by have:=h _ _ _ _ _ e;simp only [wg] at this;omega
theorem qyp {e b:M T} {p:M (T×Nat)} (a:Sz T.size 0 e) (l:Sz xn 0 p) (h:Sz T.size 1 b) (n:Nat):Sz T.size 0 (QJ L n e p b):=by
 have j:∀(d:D) (c:Nat),Sz T.size (c+2) (bnd e fun y=>ret (T.mk d [y])):=fun d c=>ju 0 1 a (fun y=>jH (by simp only [jv,xY];omega)) (by omega);refine vV ?_ (vV (j _ 0) (vV ((qhh a h n).mono (by omega)) (vV ?_ (vV ?_ (vV ?_ (vV (j _ 0) (vV ?_ (vV (jH (by simp [jv,sizes])) (vV ((qyt h n).mono (by omega)) (vV ((qyv a h n).mono (by omega)) (qyn a l n)))))))))))
 ·exact qbT (kg n) fun x=>vW (j _ _)
 ·exact ju 0 2 a (fun x=>vW (ju 1 (x.size+3) h (fun q=>vW (jH (by simp only [jv,yv];omega))) (by omega))) (by omega)
 ·exact qbT (kg n) fun x=>vW (ju 0 4 (qmi (qmr a n)) (fun c=>vW (ju 1 (c.size+5) h (fun q=>vW (jH (by simp only [jv,yv];omega))) (by omega))) (by omega))
 ·exact qc1 (p:=fun i=>kV L i=true) (x:=bnd e fun x=>ret (T.mk {kind:=29} [x])) (y:=ret (T.mk {kind:=29} [])) (j _ 0) (jH (by simp [jv,sizes]))
 ·exact qbS fun s=>jH (by simp [jv,sizes])
theorem qc0:∀n,Sz T.size 0 (QK L n)
 |0=>qan
 |n+1=>qyp (qao n) (qev (qao n) n) (qhi (qc0 n) n) n
theorem qms (n:Nat):Sz T.size 1 (block L n):=qhi (qc0 n) n
end
end Go.L02
