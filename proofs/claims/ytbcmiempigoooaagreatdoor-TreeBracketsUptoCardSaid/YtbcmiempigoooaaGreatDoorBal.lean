/- Lemmas for a claim about layer 2 (tree). No conditions but those they state. -/
import Derived.Test.YtbcmiempigoooaaGreatDoorBak
import Derived.Laws.MakeOwn
set_option linter.all false
namespace Go.Eng
open Go.RowKit
def qgk (P:Program) (t:TypeId):Option (TypeId×Value×Nat):=
  match P.underlying t with
  |some (.slice e)=>(P.info? e).bind fun i=>i.zero.bind fun z=>if i.size=1 then some (e,z.cells[0]!,i.bytes) else none
  |_=>none
section
variable {P:Program} {Q:Ks} {d:Option Nat} {ty:TypeId} {K:qa→World→Prop} {ρ:qa} {w:World}
theorem qzS {t e : TypeId} {zc : Value} {bytes n : Nat} {kl kc : IntKind} {x y : Operand} (c : qgk P t = some (e, zc, bytes)) (O : qd ρ x = .int kl n) (R : qd ρ y = .int kc n) (S : bytes * n ≤ 281474976710656) (X : n ≤ 1099511627776)
    (u:∀i z,P.info? e=some i→i.zero=some z→z.cells.size=1)
    (h:∀(B:Nat) (W:World),w.heap.size≤B→qc w W→Blk W B (List.replicate n zc).toArray e→K (qk ρ d (.slice (some ⟨B,0,none⟩) n n)) W):qm P Q d (.makeSlice t x y) ty K ρ w:=by
  unfold qgk at c;split at c
  · rename_i Y J;simp only [Option.bind_eq_some_iff] at c;obtain ⟨i,b,z,I,q⟩:=c;split at q
    · rename_i m;cases q;have C:(i.bytes:Int)*(n:Int)≤281474976710656:=by
        have h:((i.bytes*n:Nat):Int)≤281474976710656:=by omega
        rwa [Int.natCast_mul] at h
      have l:=run_make (P:=P) w t e i z J b I kl kc n n (by omega) (Int.le_refl _) C (by omega);simp only [Int.toNat_natCast,m,Nat.mul_one] at l;have A:=u i z b I;have a:madeCells z.cells n=(List.replicate n z.cells[0]!).toArray:=by
        apply Array.toList_inj.1;apply List.ext_getElem?;intro j;by_cases E:j<n
        · simp [madeCells,E,A,Nat.mod_one]
        · simp [madeCells,E]
      rw [a] at l;refine jk (v:= .slice (some ⟨w.heap.size,0,none⟩) n n) (w':=w.alloc (.cells (List.replicate n z.cells[0]!).toArray e)) ?_ (h w.heap.size _ (Nat.le_refl _) (wU w _) (qcg w _ _));simp only [execOp,qA,O,R,Sem.run_bind,l,Result.andThen_ok,Sem.run_pure]
    · cases q
  · cases c
end
end Go.Eng
namespace Go.Eng
open Go.RowKit
section
variable {ops:Array Oper} {cx:Cx}
end
section
variable {P:Program} {Q:Ks} {K:qa→World→Prop} {F:OT→qa→World→Prop} {ρ:qa} {w:World}
end
theorem QO {P:Program} {f:FuncId} {fn:Func} {V a:List Nat} {ir:IR} {rs:List RV} {args:Array Value} {w:World} {R:Ending→World→Prop} (t:P.funcs[f]? =some fn) (q:fn.body=some (fn.body.getD .skip)) (j:(qN P fn.ntmps V a (fn.body.getD .skip)).map IR.norm=some ir)
    (n:xG fn V=true) (c:vu P V fn.results.toList=some rs) (b:args.size≤fn.ntmps) (h:ir.wp ⟨P,fn.ntmps,V,[]⟩ (qz rs R) (jd rs R) (kn V args) w):Calls P f args w R:=by
  obtain ⟨l,u,m⟩:=Option.map_eq_some_iff.1 j;exact qqo t q u m n c b h
abbrev zv (n:Nat):Ex:= .var n
abbrev zl (e:Ex):Ex:= .op1 .load1 e
abbrev zo (n:Nat) (e:Ex):Ex:= .op1 .load1 (.op1 (.fadr n) e)
abbrev zf (n:Nat) (e:Ex):Ex:= .op1 (.fadr n) e
abbrev zx (n:Nat) (a b:Ex):Ex:= .op2 (.ixa n) a b
abbrev zL (e:Ex):Ex:= .op1 .lenS e
abbrev zT (e:Ex):Ex:= .op1 .lenT e
abbrev zN (e:Ex):Ex:= .op1 .nilc e
abbrev zn (e:Ex):Ex:= .op1 .not e
abbrev ze (n:Nat) (e:Ex):Ex:= .op1 (.ext n) e
abbrev zM (n:Nat) (e:Ex):Ex:= .op1 (.loadN n) e
abbrev zI (o:BinOp) (a b:Ex):Ex:= .op2 (.ibin o .i64) a b
abbrev zB (o:BinOp) (a b:Ex):Ex:= .op2 (.ibin o .u8) a b
abbrev zS (o:BinOp) (a b:Ex):Ex:= .op2 (.sbin o) a b
abbrev zk (n:Int):Value:= .int .i64 n
abbrev zu (n:Int):Value:= .int .u8 n
abbrev zb (b:Bool):Value:= .bool b
abbrev zs (l:Array UInt8):Value:= .string ⟨l⟩
abbrev zt (n:Nat):Operand:= .tmp n
abbrev za (d:Nat) (e:Ex):St:= .asg none d e
abbrev zg (g:Nat) (b:Bool) (d:Nat) (e:Ex):St:= .asg (some (g,b)) d e
abbrev zc (d f:Nat) (a:Array Operand) (t:Array TypeId) (y:TypeId):St:= .eff none (some d) (.call {callee:= .value (.func f),args:=a,argTypes:=t}) y
abbrev zd (f:Nat) (a:Array Operand) (t:Array TypeId) (y:TypeId):St:= .eff none none (.call {callee:= .value (.func f),args:=a,argTypes:=t}) y
abbrev zh (g:Nat) (b:Bool) (d f:Nat) (a:Array Operand) (t:Array TypeId) (y:TypeId):St:= .eff (some (g,b)) (some d) (.call {callee:= .value (.func f),args:=a,argTypes:=t}) y
abbrev zp (d:Nat) (a:Array Operand) (t:Array TypeId) (y:TypeId):St:= .eff none (some d) (.call {callee:= .builtin .append,args:=a,argTypes:=t}) y
abbrev zw (t:TypeId) (p x:Operand):St:= .eff none none (.store t p x) 0
abbrev zE (d:Nat) (o:Op) (y:TypeId):St:= .eff none (some d) o y
abbrev zq (l:List St) (b:IR):IR:= .seq (.reg l) b
abbrev zy (d:Nat) (e:Ex) (o:OT):OT:= .take none d e o
abbrev zm (d n:Nat):St:= .asg none d (.var n)
abbrev zK (n:Int):Ex:= .const (.int .i64 n)
abbrev zQ (b:Bool):Ex:= .const (.bool b)
abbrev zO (n:Int):Operand:= .const (.int .i64 n)
abbrev zY (l:Array UInt8):Operand:= .const (.string ⟨l⟩)
abbrev zA (d:Nat) (t:TypeId):St:= .eff none (some d) (.alloc t) 0
abbrev zV (n:Nat) (g:List Nat):List Nat:=(List.range n).filter fun i=> !g.contains i
end Go.Eng
namespace Go.Eng
open Go.RowKit
section
variable (P:Program) (ops:Array Oper) (V:List Nat)
def qas (sk : List Nat) (n : Nat) : Nat → Bool → Array Bool → Option OT
  |0,_,listed=>if (Region.ready .any ops listed).isEmpty then some .done else none
  | f + 1, hd, listed =>
    if (Region.ready .any ops listed).isEmpty then some .done else
    match (if hd then (Region.ready .any ops listed).find? (fun i=>decide (i<n)&& !sk.contains i&&Region.free .any ops listed i&&(y7 P ops V i).isSome) else none) with
    |some i=>match y7 P ops V i with
      |some (g,d,e)=>(qas sk n f hd (listed.setIfInBounds i true)).map (.take g d e)
      |none=>none
    |none=>wy ((Region.ready .any ops listed).map fun i=>match yl P ops V i with
      |some s=>(qas sk n f (hd&&decide (i<n)) (listed.setIfInBounds i true)).map (.step s (decide (i<n)))
      |none=>none)
end
def qdh (P : Program) (nt : Nat) (V : List Nat) (sk : List Nat) (n : Nat) : Code → Option OT
  | .region _ ops true=>
    if Qm ops nt&&Region.noSelect ops&&P.follows .mixedOrders&&(decide (n=ops.size)||(decide (n<ops.size)&&Region.sinkB .any ops n&&Region.chainB .any ops n)) then qas P ops V sk n ops.size true (Array.replicate ops.size false) else none
  |_=>none
section
variable {cx:Cx} {ops:Array Oper}
theorem qf6 (hr : Region1 cx.n ops) (q : Region.noSelect ops = true) {sk : List Nat} {n : Nat} (hn : n = ops.size ∨ (n < ops.size ∧ Region.sinkB .any ops n = true ∧ Region.chainB .any ops n = true)) {S : World → Prop} {K : qa → World → Prop} {Q : Ks} (I : ¬ Q.rd) (C : Q.df → cx.D ≠ []) :
    ∀(f:Nat) (J:Bool) (listed:Array Bool) (t:OT),qas cx.P ops cx.V sk n f J listed=some t→(∀d∈t.takes,∀ρ v c w,Q.pn (qn ρ d v) c w→Q.pn ρ c w)→(J=true→HeadInv .any ops n listed)→∀(ρ:qa) (a:Act) (w:World),Agree cx.n cx.V ρ a→jQ cx a→(J=true→S w)→
      t.wp cx.P Q S K ρ w→yz cx.P .any ops (xJ cx K Q) S n f listed a w
  |0,J,listed,t,h,_,_,ρ,a,w,O,hD,_,j=>by
    simp only [qas] at h;split at h
    · rename_i Y;cases h;exact ⟨by simpa using Y,hD,ρ,O,j⟩
    · cases h
  | f + 1, J, listed, t, h, hpn, m, ρ, a, w, O, hD, hS, j => by
    simp only [qas] at h;split at h
    · rename_i Y;cases h;have B:Region.ready .any ops listed=[]:=by simpa using Y
      exact ⟨fun _=>⟨hD,ρ,O,j⟩,by rw [B];simp⟩
    · rename_i Y;have B:Region.ready .any ops listed≠[]:=by simpa using Y
      split at h
      · rename_i i A;split at A
        · rename_i R;have z:=List.mem_of_find?_eq_some A;have u:=List.find?_some A;simp only [Bool.and_eq_true,decide_eq_true_eq] at u;obtain ⟨⟨⟨hin,_⟩,E⟩,_⟩:=u;split at h
          · rename_i g d e W;simp only [Option.map_eq_some_iff] at h;obtain ⟨t',b,rfl⟩:=h;simp only [OT.wp] at j;have key:∀v,(if gd ρ g then (∀w',S w'→e.ev ρ w'=some v) else v=undef)→t'.wp cx.P Q S K (qn ρ d v) w→yz cx.P .any ops (xJ cx K Q) S n (f+1) listed a w:=by
              intro v hv hk;obtain ⟨o,ho,Z,hV,hy⟩:=qeq hr W O hv;refine qiO ho (Region.noSelect_spec q) hn hin (fun c a w l=> ?_) f listed a w (m R) (Region.free_spec ho E) z hy (hS R) ?_
              · exact qkR Z hV (hpn d (by simp [OT.takes])) c a w l
              · rw [Z];exact qf6 hr q hn I C f J _ t' b (fun x hx=>hpn x (by simp [OT.takes,hx])) (fun l=>(m l).set z hin) _ _ w (O.put hV v) (fun e=>(wr _ _ _).trans (hD e)) hS hk
            by_cases y:gd ρ g=true
            · rw [if_pos y] at j;unfold z7 at j;split at j
              · obtain ⟨l,h2⟩:=j;exact key _ (by rw [if_pos y];exact l) h2
              · cases j
            · rw [if_neg y] at j;exact key undef (by rw [if_neg y]) j
          · cases h
        · cases A
      · refine ⟨fun h0=>absurd h0 B,fun i A=> ?_⟩;obtain ⟨t',b,hw'⟩:=qib h j _ (List.mem_map.2 ⟨i,A,rfl⟩);split at b
        · rename_i s hs;simp only [Option.map_eq_some_iff] at b;obtain ⟨t2,X,rfl⟩:=b;simp only [OT.wp] at hw';refine wpOp_mono ?_ (qfg hr hs O hD I C hw');rintro a' w' ⟨hD',ρ',ha',hS',hk'⟩;refine ⟨fun hlt=>hS' (by simpa using hlt),qf6 hr q hn I C f _ _ t2 X (fun x hx=>hpn x (qic h (.step s (decide (i<n)) t2) (List.mem_map.2 ⟨i,A,by simp only [hs,X,Option.map_some]⟩) x (by simpa [OT.takes] using hx))) (fun l=> ?_) ρ' a' w' ha' hD' (fun l=> ?_) hk'⟩
          · simp only [Bool.and_eq_true,decide_eq_true_eq] at l;exact (m l.1).set A l.2
          · simp only [Bool.and_eq_true,decide_eq_true_eq] at l;exact hS' (by simpa using l.2)
        · cases b
theorem qt8 {c:Code} {sk:List Nat} {n:Nat} {t:OT} (h:qdh cx.P cx.n cx.V sk n c=some t) (S:World→Prop) {K:qa→World→Prop} {Q:Ks} {ρ:qa} {w:World}
    (z:∀w',qc w w'→w'.heap=w.heap→S w'∧t.wp cx.P Q.noRd S K ρ w') (hpn:∀d∈t.takes,∀ρ v c w,Q.pn (qn ρ d v) c w→Q.pn ρ c w:=by exact fun _ _ _ _ _ _ h=>h):(IR.raw c).wp cx K Q ρ w:=by
  intro a x y j;unfold qdh at h;split at h
  · rename_i id ops;split at h
    · rename_i l;simp only [Bool.and_eq_true,Bool.or_eq_true,decide_eq_true_eq] at l;obtain ⟨⟨⟨B,q⟩,m⟩,b⟩:=l;obtain ⟨A,u⟩:=z {w with drawn:=w.drawn+1} ⟨rfl,rfl,rfl,Nat.le_refl _,fun _ _=>rfl⟩ rfl;refine wp_region_any m (qeI _ _ _ _ (qf6 (qbx B) q (by rcases b with b|b;exact .inl b;exact .inr ⟨b.1.1,b.1.2,b.2⟩) (Q:=Q.noRd) (fun h=>h) j _ _ _ t h hpn (fun _=>qpu) ρ a _ x y (fun _=>A) u))
    · cases h
  · cases h
end
end Go.Eng
namespace Go.Eng
open Go.RowKit
def qab (P:Program) (nt:Nat) (V:List Nat):Code→Option (List (Option St))
  | .region _ ops true=>if Qm ops nt&&P.follows .mixedOrders then some ((List.range ops.size).map (yl P ops V)) else none
  |_=>none
def qee:Code→List (List Nat)
  | .region _ ops _=>ops.toList.map fun o=>(o.after.toList.filter fun e=>Region.binds .any e).map (·.on)
  |_=>[]
def qqa (l:List (List Nat)):Bool:=l.zipIdx.all fun p=>p.1.all fun d=>decide (d<p.2)
section
variable {ops:Array Oper} {cx:Cx}
theorem qiZ {listed : Array Bool} (t : listed.size = ops.size) (l : Region.ready .any ops listed = []) (n : ∀ i o, ops[i]? = some o → ∀ e ∈ o.after, Region.binds .any e = true → e.on < i) : ∀ i, i < ops.size → listed.getD i false = true := by
  intro i
  induction i using Nat.strongRecOn with
  | _ i m =>
    intro j;cases h:listed.getD i false with
    |true=>rfl
    |false=>
      exfalso;have a:i∈Region.ready .any ops listed:=mem_ready.2 ⟨by
        rw [Array.getD_eq_getD_getElem?,Array.getElem?_eq_getElem (by omega)] at h⊢;simpa using h,ops[i],Array.getElem?_eq_getElem j,fun e b q=> ?_⟩
      · rw [l] at a;cases a
      · have c:=n i _ (Array.getElem?_eq_getElem j) e b q;exact m e.on c (by omega)
theorem qiN (hr : Region1 cx.n ops) {J : (Nat → Bool) → qa → World → Prop} {K : qa → World → Prop} {Q : Ks} (y : ¬ Q.rd) (t : Q.df → cx.D ≠ []) (Z : ∀ i o, ops[i]? = some o → ∀ e ∈ o.after, Region.binds .any e = true → e.on < i)
    (j:∀(L:Nat→Bool) (i:Nat) (o:Oper),ops[i]? =some o→L i=false→(∀e∈o.after,Region.binds .any e=true→L e.on=true)→∃s,yl cx.P ops cx.V i=some s∧∀ρ w,J L ρ w→s.wp cx.P Q (J (fun k=>if k=i then true else L k)) ρ w)
    (c:∀L ρ w,(∀i,i<ops.size→L i=true)→J L ρ w→K ρ w):
    ∀(f:Nat) (listed:Array Bool),listed.size=ops.size→listed.toList.count false≤f→∀(ρ:qa) (a:Act) (w:World),Agree cx.n cx.V ρ a→jQ cx a→J (fun k=>listed.getD k false) ρ w→wpAny cx.P .any ops (xJ cx K Q) f listed a w
  |0,listed,q,hc,ρ,a,w,E,I,A=>by
    have C : Region.ready .any ops listed = [] := by
      cases h:Region.ready .any ops listed with
      |nil=>rfl
      |cons x l=>
        exfalso;have B:=(mem_ready.1 (show x∈Region.ready .any ops listed by rw [h];simp)).1;have b:x<listed.size:=by
          rcases Nat.lt_or_ge x listed.size with z|z
          · exact z
          · rw [Array.getD_eq_getD_getElem?,Array.getElem?_eq_none z] at B;simp at B
        rw [Array.getD_eq_getD_getElem?,Array.getElem?_eq_getElem b] at B;have:false∈listed.toList:=by
          have S:listed[x]=false:=by simpa using B
          rw [←S];exact Array.getElem_mem_toList b
        have:=List.count_pos_iff.2 this;omega
    exact ⟨C,I,ρ,E,c _ ρ w (qiZ q C Z) A⟩
  | f + 1, listed, q, hc, ρ, a, w, E, I, A => by
    refine ⟨fun C=>⟨I,ρ,E,c _ ρ w (qiZ q C Z) A⟩,fun i hi=> ?_⟩;obtain ⟨hf,o,ho,u⟩:=mem_ready.1 hi;have b:i<listed.size:=by rw [q];exact (Array.getElem?_eq_some_iff.1 ho).1
    have m:listed.getD i false=false:=by
      rw [Array.getD_eq_getD_getElem?,Array.getElem?_eq_getElem b] at hf⊢;simpa using hf
    obtain ⟨s,aa,hw⟩:=j (fun k=>listed.getD k false) i o ho m u;refine wpOp_mono (fun a' w' h=> ?_) (qfg hr (K0:=K) aa E I y t (hw ρ w A));obtain ⟨W,R,X,O⟩:=h;refine qiN hr y t Z j c f (listed.setIfInBounds i true) (by simpa using q) ?_ R a' w' X W ?_
    · have z:listed[i]=false:=by
       rw [Array.getD_eq_getD_getElem?,Array.getElem?_eq_getElem b] at m;simpa using m
      have S:(listed.setIfInBounds i true).toList=listed.toList.set i true:=by simp
      rw [S,List.count_set (by simpa using b)];have h3:listed.toList[i]'(by simpa using b)=false:=by simpa using z
      have hp:0<listed.toList.count false:=List.count_pos_iff.2 (h3▸List.getElem_mem _);rw [h3];simp;simp at hc;omega
    · have:(fun k=>(listed.setIfInBounds i true).getD k false)=fun k=>if k=i then true else listed.getD k false:=by
       funext k;by_cases Y:k=i
       · subst Y;rw [if_pos rfl,Array.getD_eq_getD_getElem?,Array.getElem?_setIfInBounds_self_of_lt b];rfl
       · rw [if_neg Y,Array.getD_eq_getD_getElem?,Array.getD_eq_getD_getElem?,Array.getElem?_setIfInBounds_ne (Ne.symm Y)]
      rw [this];exact O
theorem qkA {c : Code} {sts : List (Option St)} {b : List (List Nat)} (h : qab cx.P cx.n cx.V c = some sts) (hd : qee c = b) (x : sts.all Option.isSome = true) (t : qqa b = true) (J : (Nat → Bool) → qa → World → Prop) {K : qa → World → Prop} {Q : Ks} {ρ : qa} {w : World}
    (h0:∀w',qc w w'→w'.heap=w.heap→J (fun _=>false) ρ w')
    (j:∀(L:Nat→Bool) (i:Nat) (s:St) (ds:List Nat),sts[i]? =some (some s)→b[i]? =some ds→L i=false→(∀d∈ds,L d=true)→∀ρ w,J L ρ w→s.wp cx.P Q.noRd (J (fun k=>if k=i then true else L k)) ρ w)
    (m:∀L ρ w,(∀i,i<sts.length→L i=true)→J L ρ w→K ρ w):(IR.raw c).wp cx K Q ρ w:=by
  intro a ha hD O;unfold qab at h;split at h
  · rename_i id ops;split at h
    · rename_i hc;simp only [Bool.and_eq_true] at hc;obtain ⟨h1,h3⟩:=hc;cases h;have A:((List.range ops.size).map (yl cx.P ops cx.V)).length=ops.size:=by simp
      have y:∀(i:Nat) (o:Oper),ops[i]? =some o→b[i]? =some ((o.after.toList.filter fun e=>Region.binds .any e).map (·.on)):=fun i o l=>by
        rw [←hd];simp [qee,l]
      have z:∀(o:Oper) e,e∈o.after→Region.binds .any e=true→e.on∈(o.after.toList.filter fun e=>Region.binds .any e).map (·.on):=fun o e u R=>List.mem_map.2 ⟨e,List.mem_filter.2 ⟨by simpa using u,R⟩,rfl⟩;refine wp_region_any h3 (qiN (qbx h1) (Q:=Q.noRd) (J:=J) (fun h=>h) O ?_ ?_ ?_ _ _ (by simp) (by simp) ρ a _ ha hD ?_)
      · intro i o l e u R;have q:=y i o l;unfold qqa at t;have Y:=List.all_eq_true.1 t (_,i) (List.mem_zipIdx_iff_getElem?.2 q);exact of_decide_eq_true (List.all_eq_true.1 Y e.on (z o e u R))
      · intro L i o l S X;have B:=(Array.getElem?_eq_some_iff.1 l).1;have q:((List.range ops.size).map (yl cx.P ops cx.V))[i]? =some (yl cx.P ops cx.V i):=by simp [B]
        have Y:=List.all_eq_true.1 x _ (List.mem_of_getElem? q);obtain ⟨s,Z⟩:=Option.isSome_iff_exists.1 Y;rw [Z] at q;refine ⟨s,Z,fun ρ w E=>j L i s _ q (y i o l) S (fun d W=> ?_) ρ w E⟩;obtain ⟨e,u,rfl⟩:=List.mem_map.1 W;obtain ⟨C,I⟩:=List.mem_filter.1 u;exact X e (by simpa using C) I
      · intro L ρ w S E;exact m L ρ w (fun i B=>S i (by rw [A] at B;exact B)) E
      · have:(fun k=>(Array.replicate ops.size false).getD k false)=fun _=>false:=by
          funext k;rw [Array.getD_eq_getD_getElem?,Array.getElem?_replicate];split<;>rfl
        rw [this];exact h0 _ ⟨rfl,rfl,rfl,Nat.le_refl _,fun _ _=>rfl⟩ rfl
    · cases h
  · cases h
end
end Go.Eng
namespace Go.Eng
open Go.RowKit
inductive Tr (α:Type) where
  |lf
  |nd (v:Option α) (l r:Tr α)
noncomputable def Tr.get {α:Type} (t:Tr α):Nat→Option α:=
  Tr.rec (motive:=fun _=>Nat→Option α) (fun _=>none) (fun v _ _ l r k=>Bool.rec (motive:=fun _=>Option α) (Bool.rec (motive:=fun _=>Option α) (r (Nat.sub (Nat.div k 2) 1)) (l (Nat.div k 2)) (Nat.beq (Nat.mod k 2) 1)) v (Nat.beq k 0)) t
noncomputable def Tr.putS {α:Type} (x:Option α) (ih:Tr α→Nat→Tr α) (v:Option α) (l r:Tr α) (k:Nat):Tr α:=
  Bool.rec (motive:=fun _=>Tr α) (Bool.rec (motive:=fun _=>Tr α) (.nd v l (ih r (Nat.sub (Nat.div k 2) 1))) (.nd v (ih l (Nat.div k 2)) r) (Nat.beq (Nat.mod k 2) 1)) (.nd x l r) (Nat.beq k 0)
noncomputable def Tr.put {α:Type} (f:Nat) (t:Tr α) (k:Nat) (x:Option α):Tr α:=
  Nat.rec (motive:=fun _=>Tr α→Nat→Tr α) (fun t _=>t) (fun _ ih t k=>Tr.rec (motive:=fun _=>Tr α) (Tr.putS x ih none .lf .lf k) (fun v l r _ _=>Tr.putS x ih v l r k) t) f t k
theorem qc3 {β:Type} (a b:Nat) (x y:β):(Bool.rec (motive:=fun _=>β) y x (Nat.beq a b):β)=if a=b then x else y:=by
  by_cases h:a=b
  · subst h;simp
  · rw [if_neg h,show Nat.beq a b=false from by
      cases e:Nat.beq a b
      · rfl
      · exact absurd (Nat.eq_of_beq_eq_true e) h]
theorem qqG {α:Type} (a b:Nat) (x y:α):(bif Nat.beq a b then x else y)=if a=b then x else y:=by
  by_cases h:a=b
  · subst h;simp
  · rw [if_neg h,show Nat.beq a b=false from by
      cases e:Nat.beq a b
      · rfl
      · exact absurd (Nat.eq_of_beq_eq_true e) h];rfl
@[simp] theorem Tr.get_lf {α:Type} (k:Nat):(Tr.lf:Tr α).get k=none:=rfl
theorem Tr.get_nd {α:Type} (v:Option α) (l r:Tr α) (k:Nat):(Tr.nd v l r).get k=if k=0 then v else if k%2=1 then l.get (k / 2) else r.get (k / 2 - 1):=by
  show (Bool.rec (motive:=fun _=>Option α) (Bool.rec (motive:=fun _=>Option α) (r.get (k / 2 - 1)) (l.get (k / 2)) (Nat.beq (k%2) 1)) v (Nat.beq k 0))=_;rw [qc3,qc3]
theorem Tr.putS_eq {α:Type} (x:Option α) (a:Tr α→Nat→Tr α) (v:Option α) (l r:Tr α) (k:Nat):Tr.putS x a v l r k=if k=0 then .nd x l r else if k%2=1 then .nd v (a l (k / 2)) r else .nd v l (a r (k / 2 - 1)):=by
  show (Bool.rec (motive:=fun _=>Tr α) (Bool.rec (motive:=fun _=>Tr α) (.nd v l (a r (k / 2 - 1))) (.nd v (a l (k / 2)) r) (Nat.beq (k%2) 1)) (.nd x l r) (Nat.beq k 0))=_;rw [qc3,qc3]
theorem Tr.put_lf {α:Type} (f k:Nat) (x:Option α):Tr.put (f+1) .lf k x=if k=0 then .nd x .lf .lf else if k%2=1 then .nd none (Tr.put f .lf (k / 2) x) .lf else .nd none .lf (Tr.put f .lf (k / 2 - 1) x):=
  Tr.putS_eq x (fun t k=>Tr.put f t k x) none .lf .lf k
theorem Tr.put_nd {α:Type} (f k:Nat) (x v:Option α) (l r:Tr α):Tr.put (f+1) (.nd v l r) k x=if k=0 then .nd x l r else if k%2=1 then .nd v (Tr.put f l (k / 2) x) r else .nd v l (Tr.put f r (k / 2 - 1) x):=
  Tr.putS_eq x (fun t k=>Tr.put f t k x) v l r k
theorem Tr.get_put {α : Type} : ∀ (f : Nat) (t : Tr α) (k : Nat) (x : Option α), k + 1 < 2 ^ f → ∀ j, (Tr.put f t k x).get j = if j = k then x else t.get j
  |0,t,k,x,h,j=>by simp at h
  | f + 1, t, k, x, h, j => by
    have e:2^(f+1)=2*2^f:=by rw [Nat.pow_succ];omega
    rw [e] at h;have key:∀(v:Option α) (l r:Tr α),(if k=0 then Tr.nd x l r else if k%2=1 then .nd v (Tr.put f l (k / 2) x) r else .nd v l (Tr.put f r (k / 2 - 1) x)).get j=if j=k then x else (Tr.nd v l r).get j:=by
      intro v l r;by_cases m:k=0
      · subst m;by_cases a:j=0
        · subst a;simp [Tr.get_nd]
        · simp [Tr.get_nd,a]
      · rw [if_neg m];by_cases k1:k%2=1
        · rw [if_pos k1];have n:=Tr.get_put f l (k / 2) x (by omega);by_cases a:j=0
          · subst a;rw [if_neg (fun e=>m e.symm)];simp [Tr.get_nd]
          · by_cases c:j%2=1
            · simp only [Tr.get_nd,if_neg a,if_pos c,n];by_cases b:j=k
              · subst b;simp
              · rw [if_neg (by omega),if_neg b]
            · simp only [Tr.get_nd,if_neg a,if_neg c];rw [if_neg (by omega)]
        · rw [if_neg k1];have n:=Tr.get_put f r (k / 2 - 1) x (by omega);by_cases a:j=0
          · subst a;rw [if_neg (fun e=>m e.symm)];simp [Tr.get_nd]
          · by_cases c:j%2=1
            · simp only [Tr.get_nd,if_neg a,if_pos c];rw [if_neg (by omega)]
            · simp only [Tr.get_nd,if_neg a,if_neg c,n];by_cases b:j=k
              · subst b;simp
              · rw [if_neg (by omega),if_neg b]
    cases t with
    |lf=>
      have:=key none .lf .lf;have q:(Tr.nd none .lf .lf:Tr α).get j=(Tr.lf:Tr α).get j:=by
        simp only [Tr.get_nd,Tr.get_lf];split
        · rfl
        · split<;>rfl
      rw [q] at this;rw [Tr.put_lf];exact this
    |nd v l r=>rw [Tr.put_nd];exact key v l r
def vf:Nat:=1048570
noncomputable def Tr.set {α:Type} (t:Tr α) (k:Nat) (x:α):Tr α:=Tr.put 20 t k (some x)
noncomputable def Tr.del {α:Type} (t:Tr α) (k:Nat):Tr α:=Tr.put 20 t k none
theorem Tr.get_set {α:Type} (t:Tr α) {k:Nat} (x:α) (h:k<vf) (j:Nat):(t.set k x).get j=if j=k then some x else t.get j:=Tr.get_put 20 t k _ (by unfold vf at h;simp only [Nat.reducePow];omega) j
theorem Tr.get_del {α:Type} (t:Tr α) {k:Nat} (h:k<vf) (j:Nat):(t.del k).get j=if j=k then none else t.get j:=Tr.get_put 20 t k _ (by unfold vf at h;simp only [Nat.reducePow];omega) j
structure Ob where
  cells:List Value
  ty:TypeId
  sz:Nat
  whole:Bool
  ex:Bool
abbrev vd:=Tr Ob
abbrev Sg:=Nat→Option (Nat×Nat×Nat)
def Sg.le (σ τ:Sg):Prop:=∀k p,σ k=some p→τ k=some p
theorem Sg.le_refl (σ:Sg):σ.le σ:=fun _ _ h=>h
theorem Sg.le_trans {a b c:Sg} (h:a.le b) (k:b.le c):a.le c:=fun i p j=>k i p (h i p j)
def zF:Value→Bool
  | .bool _| .int _ _| .string _| .nilFunc| .nilIface| .pointer none=>true
  | .slice none 0 0=>true
  |_=>false
inductive VR (σ:Sg):Value→Value→Prop
  |pln {v:Value} (h:zF v=true):VR σ v v
  |ptr {i b f x o:Nat} (h:σ i=some (b,f,x)):VR σ (.pointer (some ⟨i,o,none⟩)) (.pointer (some ⟨b,f+o,none⟩))
  |slc {i b f x o n c:Nat} (h:σ i=some (b,f,x)) (hn:n≤c):VR σ (.slice (some ⟨i,o,none⟩) n c) (.slice (some ⟨b,f+o,none⟩) n (c+x))
  |fnc {g:Fn} {fs gs cs ds:Array Value} (h1:fs.size=gs.size) (h2:∀(i:Nat) (x y:Value),fs[i]? =some x→gs[i]? =some y→VR σ x y) (h3:cs.size=ds.size) (h4:∀(i:Nat) (x y:Value),cs[i]? =some x→ds[i]? =some y→VR σ x y):VR σ (.func g fs cs) (.func g gs ds)
  |mp {i b:Nat} (h:σ i=some (b,0,0)):VR σ (.map (some i)) (.map (some b))
  |ifc {t:TypeId} {v v':Value} (h:VR σ v v'):VR σ (.iface t v) (.iface t v')
  |agg {cs ds:Array Value} (h1:cs.size=ds.size) (h2:∀(i:Nat) (x y:Value),cs[i]? =some x→ds[i]? =some y→VR σ x y):VR σ (.agg cs) (.agg ds)
  |tup {cs ds:Array Value} (h1:cs.size=ds.size) (h2:∀(i:Nat) (x y:Value),cs[i]? =some x→ds[i]? =some y→VR σ x y):VR σ (.tuple cs) (.tuple ds)
theorem VR.mono {σ j:Sg} (c:σ.le j) {v l:Value} (h:VR σ v l):VR j v l:=by
  induction h with
  |pln h=>exact .pln h
  |ptr h=>exact .ptr (c _ _ h)
  |slc h q=>exact .slc (c _ _ h) q
  |mp h=>exact .mp (c _ _ h)
  |fnc b _ m _ n i4=>exact .fnc b n m i4
  |ifc _ a=>exact .ifc a
  |agg b _ a=>exact .agg b a
  |tup b _ a=>exact .tup b a
theorem qer {cs ds es:Array Value} {σ:Sg} (j:cs.size=ds.size) (h:∀(i:Nat) (x y:Value),cs[i]? =some x→ds[i]? =some y→∀z,VR σ x z→y=z) (k1:cs.size=es.size) (k2:∀(i:Nat) (x y:Value),cs[i]? =some x→es[i]? =some y→VR σ x y):ds=es:=by
  apply Array.ext
  · omega
  · intro i b c;have a:i<cs.size:=by omega
    exact h i cs[i] ds[i] (Array.getElem?_eq_getElem a) (Array.getElem?_eq_getElem b) es[i] (k2 i cs[i] es[i] (Array.getElem?_eq_getElem a) (Array.getElem?_eq_getElem c))
theorem VR.uniq {σ:Sg} {v a:Value} (h:VR σ v a):∀{b:Value},VR σ v b→a=b:=by
  induction h with
  |pln h=>
    intro b j;cases j with
    |pln _=>rfl
    |ptr _=>cases h
    |slc _ _=>cases h
    |mp _=>cases h
    |fnc _ _ _ _=>cases h
    |ifc _=>cases h
    |agg _ _=>cases h
    |tup _ _=>cases h
  |ptr h=>
    intro b j;cases j with
    |pln c=>cases c
    |ptr c=>rw [h] at c;cases c;rfl
  |slc h B=>
    intro b j;cases j with
    |pln c=>cases c
    |slc c _=>rw [h] at c;cases c;rfl
  |mp h=>
    intro b j;cases j with
    |pln c=>cases c
    |mp c=>rw [h] at c;cases c;rfl
  |fnc t _ u _ A i4=>
    intro b j;cases j with
    |pln c=>cases c
    |fnc k1 k2 k3 k4=>rw [qer t (fun i x y l n z m=>A i x y l n m) k1 k2,qer u (fun i x y l n z m=>i4 i x y l n m) k3 k4]
  |ifc _ q=>
    intro b j;cases j with
    |pln c=>cases c
    |ifc c=>rw [q c]
  |agg t _ q=>
    intro b j;cases j with
    |pln c=>cases c
    |agg k1 k2=>rw [qer t (fun i x y l n z m=>q i x y l n m) k1 k2]
  |tup t _ q=>
    intro b j;cases j with
    |pln c=>cases c
    |tup k1 k2=>rw [qer t (fun i x y l n z m=>q i x y l n m) k1 k2]
def ql (σ:Sg):List Value→List Value→Prop
  |[],[]=>True
  |a::l,b::m=>VR σ a b∧ql σ l m
  |_,_=>False
theorem ql.len {σ:Sg}:∀{l m:List Value},ql σ l m→l.length=m.length
  |[],[],_=>rfl
  |_::l,_::m,h=>by simp [ql.len h.2]
theorem ql.mono {σ b:Sg} (a:σ.le b):∀{l m:List Value},ql σ l m→ql b l m
  |[],[],_=>trivial
  |_::_,_::_,h=>⟨h.1.mono a,ql.mono a h.2⟩
theorem ql.get {σ:Sg}:∀{l m:List Value},ql σ l m→∀(j:Nat) (v:Value),l[j]? =some v→∃n,m[j]? =some n∧VR σ v n
  |[],[],_,j,v,c=>by simp at c
  |a::l,b::m,h,0,v,c=>by simp at c;subst c;exact ⟨b,rfl,h.1⟩
  |a::l,b::m,h,j+1,v,c=>by simpa using ql.get h.2 j v (by simpa using c)
theorem ql.uniq {σ:Sg}:∀{l a b:List Value},ql σ l a→ql σ l b→a=b
  |[],[],[],_,_=>rfl
  |_::_,_::_,_::_,h,k=>by rw [h.1.uniq k.1,ql.uniq h.2 k.2]
theorem ql.app {σ:Sg}:∀{a b c d:List Value},ql σ a b→ql σ c d→ql σ (a++c) (b++d)
  |[],[],_,_,_,k=>k
  |_::_,_::_,_,_,h,k=>⟨h.1,ql.app h.2 k⟩
theorem ql.take {σ:Sg}:∀{a b:List Value} (n:Nat),ql σ a b→ql σ (a.take n) (b.take n)
  |[],[],_,_=>by simp [ql]
  |_::_,_::_,0,_=>by simp [ql]
  |_::_,_::_,n+1,h=>⟨h.1,ql.take n h.2⟩
theorem ql.drop {σ:Sg}:∀{a b:List Value} (n:Nat),ql σ a b→ql σ (a.drop n) (b.drop n)
  |[],[],_,_=>by simp [ql]
  |_::_,_::_,0,h=>h
  |_::_,_::_,n+1,h=>ql.drop n h.2
theorem ql.set {σ:Sg} {v c:Value} (j:VR σ v c):∀{a b:List Value} (n:Nat),ql σ a b→ql σ (a.set n v) (b.set n c)
  |[],[],_,_=>trivial
  |_::_,_::_,0,h=>⟨j,h.2⟩
  |_::_,_::_,n+1,h=>⟨h.1,ql.set j n h.2⟩
theorem ql.of {σ:Sg}:∀{l m:List Value},l.length=m.length→(∀(j:Nat) (x y:Value),l[j]? =some x→m[j]? =some y→VR σ x y)→ql σ l m
  |[],[],_,_=>trivial
  |a::l,b::m,h,c=>⟨c 0 a b rfl rfl,ql.of (by simpa using h) fun j x y q n=>c (j+1) x y (by simpa using q) (by simpa using n)⟩
theorem ql.arr {σ:Sg} {cs ds:Array Value} (h:ql σ cs.toList ds.toList):cs.size=ds.size∧∀(i:Nat) (x y:Value),cs[i]? =some x→ds[i]? =some y→VR σ x y:=by
  refine ⟨by simpa using h.len,fun i x y c a=> ?_⟩;obtain ⟨l,j,b⟩:=h.get i x (by rw [←c];simp);rw [←Array.getElem?_toList,j] at a;cases a;exact b
structure RO (σ:Sg) (w:World) (i:Nat) (o:Ob) (b f x:Nat) (cur:Array Value):Prop where
  at':σ i=some (b,f,x)
  heap:w.heap[b]? =some (.cells cur o.ty (0,0))
  cs:ql σ o.cells ((cur.toList.drop f).take o.cells.length)
  room:f+o.cells.length+x*o.sz≤cur.size
  whole:o.whole=true→f=0∧x=0∧cur.size=o.cells.length
  most:o.whole=false→∃n,o.cells.length=n*o.sz∧n+x≤maxLen
  exact:o.ex=true→f=0∧cur.size=o.cells.length+x*o.sz
def Qt (ps:List (ByteArray×Value)):List Value:=ps.flatMap fun p=>[.string p.1,p.2]
def MO (σ:Sg) (w:World) (i:Nat) (o:Ob):Prop:=∃b ps,σ i=some (b,0,0)∧MapB w b ps∧o.cells=Qt ps∧∀p∈ps,zF p.2=true
def MR (σ:Sg) (H:vd) (w:World):Prop:=∀i o,H.get i=some o→(o.sz=0→MO σ w i o)∧(o.sz≠0→∃b f x cur,RO σ w i o b f x cur)
theorem MO.mono {σ a:Sg} (j:σ.le a) {w:World} {i:Nat} {o:Ob} (h:MO σ w i o):MO a w i o:=by
  obtain ⟨b,ps,c,l⟩:=h;exact ⟨b,ps,j _ _ c,l⟩
theorem RO.mono {σ a:Sg} (c:σ.le a) {w:World} {i:Nat} {o:Ob} {b f x:Nat} {cur:Array Value} (h:RO σ w i o b f x cur):RO a w i o b f x cur:=
  ⟨c _ _ h.at',h.heap,h.cs.mono c,h.room,h.whole,h.most,h.exact⟩
theorem RO.keep {σ:Sg} {w w':World} {i:Nat} {o:Ob} {b f x:Nat} {cur:Array Value} (h:RO σ w i o b f x cur) (a:w'.heap[b]? =w.heap[b]?):RO σ w' i o b f x cur:=
  ⟨h.at',a.trans h.heap,h.cs,h.room,h.whole,h.most,h.exact⟩
theorem RO.lt {σ:Sg} {w:World} {i:Nat} {o:Ob} {b f x:Nat} {cur:Array Value} (h:RO σ w i o b f x cur):b<w.heap.size:=(Array.getElem?_eq_some_iff.1 h.heap).1
theorem MR.ext {σ:Sg} {H:vd} {w w':World} (h:MR σ H w) (j:qc w w'):MR σ H w':=fun i o l=>by
  refine ⟨fun a=> ?_,fun a=> ?_⟩
  · obtain ⟨b,ps,q,n,m⟩:=(h i o l).1 a;exact ⟨b,ps,q,n.ext j,m⟩
  · obtain ⟨b,f,x,cur,c⟩:=(h i o l).2 a;exact ⟨b,f,x,cur,c.keep (j.block b c.lt)⟩
theorem MR.mono {σ c:Sg} {H:vd} {w:World} (h:MR σ H w) (j:σ.le c):MR c H w:=fun i o l=>by
  refine ⟨fun a=>((h i o l).1 a).mono j,fun a=> ?_⟩;obtain ⟨b,f,x,cur,m⟩:=(h i o l).2 a;exact ⟨b,f,x,cur,m.mono j⟩
theorem RO.cell {σ:Sg} {w:World} {i:Nat} {o:Ob} {b f x:Nat} {cur:Array Value} (h:RO σ w i o b f x cur) {j:Nat} {v:Value} (m:o.cells[j]? =some v):∃a,w.cell? ⟨b,f+j,none⟩=some a∧VR σ v a:=by
  obtain ⟨a,l,n⟩:=h.cs.get j v m;refine ⟨a, ?_,n⟩;have c:j<o.cells.length:=(List.getElem?_eq_some_iff.1 m).1;rw [List.getElem?_take_of_lt c,List.getElem?_drop] at l;simpa [World.cell?,h.heap] using l
noncomputable def qei (H:vd) (a:Addr):Option Value:=
  match a.spot with
  |none=>match H.get a.block with|some o=>bif Nat.beq o.sz 0 then none else o.cells[a.off]? |none=>none
  |some _=>none
noncomputable def qbs (H:vd) (a:Addr) (n:Nat):Option (List Value):=
  match a.spot with
  |none=>match H.get a.block with
    |some o=>bif Nat.beq o.sz 0 then none else if ((o.cells.drop a.off).take n).length=n then some ((o.cells.drop a.off).take n) else none
    |none=>none
  |some _=>none
def qbe (sz:Nat) (v:Value) (l h:Int):Option Value:=
  match v with
  | .slice (some ⟨i,o,none⟩) _ c=>if 0≤l∧l≤h∧h≤c∧(l<c∨l=0) then some (.slice (some ⟨i,o+l.toNat*sz,none⟩) (h.toNat - l.toNat) (c - l.toNat)) else none
  | .slice none 0 0=>if l=0∧h=0 then some (.slice none 0 0) else none
  |_=>none
noncomputable def x1 (H:vd):K1→Value→Option Value
  | .same,v=>some v
  | .load1, .pointer (some a)=>qei H a
  | .loadN n, .pointer (some a)=>match qbs H a n with|some l=>some (.agg l.toArray)|none=>none
  | .fadr off, .pointer (some ⟨i,o,none⟩)=>some (.pointer (some ⟨i,o+off,none⟩))
  | .fld off, .agg cs=>cs[off]?
  | .lenS, .slice _ n _=>some (.int .i64 n)
  | .lenT, .string s=>some (.int .i64 s.size)
  | .not, .bool b=>some (.bool !b)
  | .neg, .int k n=>some (.int k (k.wrap (0 - n)))
  | .conv k, .int _ n=>some (.int k (k.wrap n))
  | .ext i, .tuple vs=>vs[i]?
  | .mkif t,v=>some (.iface t v)
  | .nilc, .pointer (some a)=>some (.pointer (some a))
  | .nilc, .iface t v=>some (.iface t v)
  | .strid, .string s=>some (.string s)
  | .b2s, .slice none 0 0=>some (.string (qaY []))
  | .b2s, .slice (some a) n _=>match qbs H a n with
    |some l=>(match kJ l with|some ns=>some (.string (qaY ns))|none=>none)
    |none=>none
  |_,_=>none
def x2:K2→Value→Value→Option Value
  | .ibin op _, .int k a, .int k' b=>if k=k' then (match qaJ op k a b with|some (.int k n)=>some (.int k n)|some (.bool b)=>some (.bool b)|_=>none) else none
  | .sbin op, .string x, .string y=>match kj op x y with|some (.string s)=>some (.string s)|some (.bool b)=>some (.bool b)|_=>none
  | .bbin .eql, .bool a, .bool b=>some (.bool (a==b))
  | .bbin .neq, .bool a, .bool b=>some (.bool (!(a==b)))
  | .ixa sz, .slice (some ⟨i,o,none⟩) n _, .int _ j=>if 0≤j∧j<n then some (.pointer (some ⟨i,o+j.toNat*sz,none⟩)) else none
  | .ixs, .string s, .int _ i=>if 0≤i then (match s[i.toNat]? with|some b=>some (.int .u8 b.toNat)|none=>none) else none
  | .slLo sz, .slice a n c, .int _ l=>qbe sz (.slice a n c) l n
  | .stLo, .string s, .int _ l=>if 0≤l∧l≤s.size then some (.string (s.extract l.toNat s.size)) else none
  |_,_,_=>none
def x3:K3→Value→Value→Value→Option Value
  | .slLoHi sz,v, .int _ l, .int _ h=>qbe sz v l h
  | .stLoHi, .string s, .int _ l, .int _ h=>if 0≤l∧l≤h∧h≤s.size then some (.string (s.extract l.toNat h.toNat)) else none
  |_,_,_,_=>none
def qaT:Value→Bool
  | .func _ fs cs=>fs.isEmpty&&cs.isEmpty
  | .agg cs=>cs.toList.all zF
  | .tuple cs=>cs.toList.all zF
  | .iface _ (.agg cs)=>cs.toList.all zF
  | .iface _ v=>zF v
  |v=>zF v
noncomputable def vL (H:vd) (e:Tr Value):Ex→Option Value
  | .var i=>e.get i
  | .const v=>if qaT v then some v else none
  | .op1 k x=>match vL H e x with|some a=>x1 H k a|none=>none
  | .op2 k x y=>match vL H e x,vL H e y with|some a,some b=>x2 k a b|_,_=>none
  | .op3 k x y z=>match vL H e x,vL H e y,vL H e z with|some a,some b,some c=>x3 k a b c|_,_,_=>none
  | .op4 .. =>none
  | .ite c x y=>match vL H e c with|some (.bool true)=>vL H e x|some (.bool false)=>vL H e y|_=>none
section
variable {σ:Sg} {H:vd} {w:World}
theorem qfW {cs:Array Value} (h:cs.toList.all zF=true):∀(i:Nat) (x y:Value),cs[i]? =some x→cs[i]? =some y→VR σ x y:=fun i x y b a=>by
  rw [b] at a;cases a;exact .pln (List.all_eq_true.1 h x (by rw [Array.mem_toList_iff];exact Array.mem_of_getElem? b))
theorem wX {v:Value} (h:qaT v=true):VR σ v v:=by
  unfold qaT at h;split at h
  · simp only [Bool.and_eq_true,Array.isEmpty_iff] at h;obtain ⟨rfl,rfl⟩:=h;exact .fnc rfl (fun i x y a=>by simp at a) rfl (fun i x y a=>by simp at a)
  · exact .agg rfl (qfW h)
  · exact .tup rfl (qfW h)
  · exact .ifc (.agg rfl (qfW h))
  · exact .ifc (.pln h)
  · exact .pln h
theorem qqj (z:MR σ H w) {a:Addr} {v l:Value} (y:VR σ (.pointer (some a)) l) (h:qei H a=some v):∃u,qJ w .load1 l=some u∧VR σ v u:=by
  cases y with
  |pln t=>cases t
  |ptr m=>
    simp only [qei] at h;split at h
    · rename_i o n;rw [qqG] at h;by_cases c:o.sz=0
      · rw [if_pos c] at h;cases h
      rw [if_neg c] at h;obtain ⟨b,f,x,cur,j⟩:=(z _ o n).2 c;have:=j.at';rw [m] at this;cases this;obtain ⟨u,q,A⟩:=j.cell h;exact ⟨u,q,A⟩
    · cases h
theorem qfF (O : MR σ H w) {i o : Nat} {b f x : Nat} (I : σ i = some (b, f, x)) {n : Nat} {l : List Value} (h : qbs H ⟨i, o, none⟩ n = some l) : ∃ B, jq w ⟨b, f + o, none⟩ 0 n = some B ∧ ql σ l B ∧ l.length = n := by
  simp only [qbs] at h;split at h
  · rename_i ob z;rw [qqG] at h;by_cases u:ob.sz=0
    · rw [if_pos u] at h;cases h
    rw [if_neg u] at h;split at h
    · rename_i C;cases h;obtain ⟨S,R,x',cur,q⟩:=(O _ ob z).2 u;have:=q.at';rw [I] at this;cases this;have E:=(q.cs.drop o).take n;have c:=E.len;rw [C] at c;refine ⟨_, ?_,E,C⟩;have A:=qal (w:=w) (a:=⟨b,f+o,none⟩) (l:=(((cur.toList.drop f).take ob.cells.length).drop o).take n) (i:=0) fun j J=>by
        have y:j<n:=by omega
        have m:(((cur.toList.drop f).take ob.cells.length).drop o)[j]? =some ((((cur.toList.drop f).take ob.cells.length).drop o).take n)[j]:=by
          rw [←List.getElem?_take_of_lt y,List.getElem?_eq_getElem J]
        rw [List.getElem?_drop] at m;have t:o+j<ob.cells.length:=by
          have:=(List.getElem?_eq_some_iff.1 m).1;simp at this;omega
        rw [List.getElem?_take_of_lt t,List.getElem?_drop] at m;simp only [xp,Nat.zero_add];simpa [World.cell?,q.heap,Nat.add_assoc] using m
      rw [←c] at A;exact A
    · cases h
  · cases h
theorem qqs : ∀ {l q : List Value} {c : List Int}, ql σ l q → kJ l = some c → kJ q = some c
  |[],[],c,_,h=>h
  | a :: l, b :: m, c, u, h => by
    unfold kJ at h;split at h
    · rename_i e;cases e
    · rename_i n y e;cases e;obtain ⟨x,t⟩:=u;cases x with
      |pln _=>
        simp only [Option.map_eq_some_iff] at h;obtain ⟨z,j,rfl⟩:=h;simp [kJ,qqs t j]
    · cases h
theorem qcO {a:Option Addr} {n c:Nat} {b:Value} (h:VR σ (.slice a n c) b):qt b=true∧qh b=n:=by
  cases h with
  |pln h=>
    unfold zF at h;split at h<;>simp_all [qt,qh]
  |slc _ j=>exact ⟨by simp [qt];omega,rfl⟩
theorem qa5 (I : MR σ H w) {k : K1} {v A u : Value} (j : VR σ v A) (h : x1 H k v = some u) : ∃ O, qJ w k A = some O ∧ VR σ u O := by
  unfold x1 at h;split at h
  · cases h;exact ⟨A,rfl,j⟩
  · exact qqj I j h
  · rename_i n a;split at h
    · rename_i l J;cases h;cases j with
      |pln m=>cases m
      |ptr t=>
        obtain ⟨E,y,q,_⟩:=qfF I t J;refine ⟨.agg E.toArray,by simp only [qJ,y];rfl, ?_⟩;obtain ⟨k1,k2⟩:=ql.arr (cs:=l.toArray) (ds:=E.toArray) (by simpa using q);exact .agg k1 k2
    · cases h
  · cases h;cases j with
    |pln m=>cases m
    |ptr t=>exact ⟨_,rfl,by rw [xp,Nat.add_assoc];exact .ptr t⟩
  · rename_i off cs;cases j with
    |pln m=>cases m
    |agg y q=>
      rename_i ds;have C:off<cs.size:=(Array.getElem?_eq_some_iff.1 h).1;have z:ds[off]? =some ds[off]:=Array.getElem?_eq_getElem (by omega);exact ⟨ds[off],z,q off u _ h z⟩
  · cases h;obtain ⟨y,q⟩:=qcO j;refine ⟨_, ?_, .pln rfl⟩;show (if qt A=true then some (Value.int .i64 (qh A)) else none)=_;rw [if_pos y,q]
  · cases h;cases j with|pln _=>exact ⟨_,rfl, .pln rfl⟩
  · cases h;cases j with|pln _=>exact ⟨_,rfl, .pln rfl⟩
  · cases h;cases j with|pln _=>exact ⟨_,rfl, .pln rfl⟩
  · cases h;cases j with|pln _=>exact ⟨_,rfl, .pln rfl⟩
  · rename_i i vs;cases j with
    |pln m=>cases m
    |tup y q=>
      rename_i ds;have C:i<vs.size:=(Array.getElem?_eq_some_iff.1 h).1;have z:ds[i]? =some ds[i]:=Array.getElem?_eq_getElem (by omega);exact ⟨ds[i],z,q i u _ h z⟩
  · cases h;exact ⟨_,rfl, .ifc j⟩
  · cases h;cases j with
    |pln m=>cases m
    |ptr t=>exact ⟨_,rfl, .ptr t⟩
  · cases h;cases j with
    |pln m=>cases m
    |ifc S=>exact ⟨_,rfl, .ifc S⟩
  · cases h;cases j with|pln _=>exact ⟨_,rfl, .pln rfl⟩
  · cases h;cases j with|pln _=>exact ⟨_,rfl, .pln rfl⟩
  · rename_i a n c;split at h
    · rename_i l J;split at h
      · rename_i R B;cases h;cases j with
        |pln m=>cases m
        |slc t W=>
          rename_i b f x o;obtain ⟨E,y,q,_⟩:=qfF I t J;refine ⟨.string (qaY R), ?_, .pln rfl⟩;have g:qt (.slice (some ⟨b,f+o,none⟩) n (c+x))=true:=by simp [qt];omega
          show (if qt (.slice (some ⟨b,f+o,none⟩) n (c+x))=true then (jq w (qM (.slice (some ⟨b,f+o,none⟩) n (c+x)) 0) 0 (qh (.slice (some ⟨b,f+o,none⟩) n (c+x)))).bind _ else none)=_;rw [if_pos g];simp [qM,qh,y,qqs q B]
      · cases h
    · cases h
  · cases h
theorem qsP (b o n c sz l h:Nat) (a:l<c∨l=0):qL (.slice (some ⟨b,o,none⟩) n c) sz l h c= .slice (some ⟨b,o+l*sz,none⟩) (h - l) (c - l):=by
  unfold qL;by_cases e:c=l
  · have:l=0:=by omega
    subst this;subst e;simp
  · simp [e]
theorem qfc {sz : Nat} {v j u : Value} {l h : Int} (q : VR σ v j) (a : qbe sz v l h = some u) :
    qt j=true∧0≤l∧l≤h∧h≤qx j∧∃t,qL j sz l.toNat h.toNat (qx j)=t∧VR σ u t:=by
  unfold qbe at a;split at a
  · rename_i i o n c;split at a
    · rename_i m;cases a;obtain ⟨B,z,C,E⟩:=m;cases q with
      |pln A=>cases A
      |slc y I=>
        rename_i b f x;refine ⟨by simp [qt];omega,B,z,by simp only [qx];omega,_,rfl, ?_⟩;rw [show qx (.slice (some ⟨b,f+o,none⟩) n (c+x))=c+x from rfl,qsP _ _ _ _ _ _ _ (by omega)];have e:c+x - l.toNat=(c - l.toNat)+x:=by omega
        rw [e,Nat.add_assoc];exact .slc y (by omega)
    · cases a
  · split at a
    · rename_i m;cases a;obtain ⟨rfl,rfl⟩:=m;cases q with
      |pln _=>exact ⟨rfl,by simp,by simp,by simp [qx],_,rfl, .pln rfl⟩
    · cases a
  · cases a
theorem qrl {k : K2} {a b z I u : Value} (m : VR σ a z) (q : VR σ b I) (h : x2 k a b = some u) : ∃ B, jA w k z I = some B ∧ VR σ u B := by
  unfold x2 at h;split at h
  · rename_i op k1 x k2 y;cases m with
    | pln _ => cases q with
      |pln _=>
        simp only [jA];split at h
        · rename_i S;rw [if_pos S];split at h
          · rename_i k3 n t;cases h;exact ⟨_,t, .pln rfl⟩
          · rename_i E t;cases h;exact ⟨_,t, .pln rfl⟩
          · cases h
        · cases h
  · rename_i op x y;cases m with
    |pln _=>cases q with
      |pln _=>
        simp only [jA];split at h
        · rename_i s t;cases h;exact ⟨_,t, .pln rfl⟩
        · rename_i E t;cases h;exact ⟨_,t, .pln rfl⟩
        · cases h
  · cases h;cases m with|pln _=>cases q with|pln _=>exact ⟨_,rfl, .pln rfl⟩
  · cases h;cases m with|pln _=>cases q with|pln _=>exact ⟨_,rfl, .pln rfl⟩
  · rename_i sz i o n c k2 j;split at h
    · rename_i A;cases h;cases m with
      |pln W=>cases W
      |slc J t=>
        rename_i b f x;cases q with
        |pln _=>
          refine ⟨.pointer (some ⟨b,f+o+j.toNat*sz,none⟩), ?_,by rw [Nat.add_assoc];exact .ptr J⟩;show (if qt (.slice (some ⟨b,f+o,none⟩) n (c+x))=true∧0≤j∧j<qh (.slice (some ⟨b,f+o,none⟩) n (c+x)) then some (Value.pointer (some (qM (.slice (some ⟨b,f+o,none⟩) n (c+x)) (j.toNat*sz)))) else none)=_;rw [if_pos ⟨by simp [qt];omega,A.1,A.2⟩];rfl
    · cases h
  · split at h
    · rename_i A;split at h
      · rename_i E C;cases h;cases m with
        |pln _=>cases q with
          |pln _=>exact ⟨_,by simp only [jA];rw [if_pos A,C];rfl, .pln rfl⟩
      · cases h
    · cases h
  · rename_i sz a0 n c k2 l;obtain ⟨Z,O,h3,h4,B,R,X⟩:=qfc m h;obtain ⟨g1,Y⟩:=qcO m;cases q with
    |pln _=>
      refine ⟨B, ?_,X⟩;show (if qt z=true∧0≤l∧l≤qh z then some (qL z sz l.toNat (qh z) (qx z)) else none)=_;rw [if_pos ⟨Z,O,by omega⟩,←R,Y];rfl
  · split at h
    · rename_i A;cases h;cases m with
      |pln _=>cases q with
        |pln _=>exact ⟨_,by simp only [jA];rw [if_pos A], .pln rfl⟩
    · cases h
  · cases h
theorem qrk {k : K3} {a b c j z x u : Value} (y : VR σ a j) (t : VR σ b z) (q : VR σ c x) (h : x3 k a b c = some u) : ∃ n, wq w k j z x = some n ∧ VR σ u n := by
  unfold x3 at h;split at h
  · rename_i sz k1 l k2 m;obtain ⟨O,C,A,B,n,I,J⟩:=qfc y h;cases t with
    |pln _=>cases q with
      |pln _=>
        refine ⟨n, ?_,J⟩;have e:wq w (.slLoHi sz) j (.int k1 l) (.int k2 m)=if qt j=true∧0≤l∧l≤m∧m≤qx j then some (qL j sz l.toNat m.toNat (qx j)) else none:=by cases j<;>rfl
        rw [e,if_pos ⟨O,C,A,B⟩,I]
  · split at h
    · rename_i E;cases h;cases y with
      |pln _=>cases t with
        |pln _=>cases q with
          |pln _=>exact ⟨_,by simp only [wq];rw [if_pos E], .pln rfl⟩
    · cases h
  · cases h
def ER (σ:Sg) (e:Tr Value) (ρ:qa):Prop:=∀i v,e.get i=some v→VR σ v (ρ i)
theorem xS (m : MR σ H w) {e : Tr Value} {ρ : qa} (l : ER σ e ρ) : ∀ {ex : Ex} {u : Value}, vL H e ex = some u → ∃ j, ex.ev ρ w = some j ∧ VR σ u j
  | .var i,u,h=>⟨ρ i,rfl,l i u h⟩
  | .const v,u,h=>by
    simp only [vL] at h;split at h
    · rename_i B;cases h;exact ⟨_,rfl,wX B⟩
    · cases h
  | .op1 k x,u,h=>by
    simp only [vL] at h;split at h
    · rename_i a C;obtain ⟨R,A,t⟩:=xS m l C;obtain ⟨j,n,q⟩:=qa5 m t h;exact ⟨j,by simp only [Ex.ev,A,Option.bind_some,n],q⟩
    · cases h
  | .op2 k x y,u,h=>by
    simp only [vL] at h;split at h
    · rename_i a b C I;obtain ⟨R,A,t⟩:=xS m l C;obtain ⟨W,n,q⟩:=xS m l I;obtain ⟨j,E,J⟩:=qrl (w:=w) t q h;exact ⟨j,by simp only [Ex.ev,A,n,Option.bind_some,E],J⟩
    · cases h
  | .op3 k x y z,u,h=>by
    simp only [vL] at h;split at h
    · rename_i a b c C I B;obtain ⟨R,A,t⟩:=xS m l C;obtain ⟨W,n,q⟩:=xS m l I;obtain ⟨O,E,J⟩:=xS m l B;obtain ⟨j,S,X⟩:=qrk (w:=w) t q J h;exact ⟨j,by simp only [Ex.ev,A,n,E,Option.bind_some,S],X⟩
    · cases h
  | .op4 ..,u,h=>by simp [vL] at h
  | .ite c x y,u,h=>by
    simp only [vL] at h;split at h
    · rename_i B;obtain ⟨O,A,t⟩:=xS m l B;cases t with
      |pln _=>
        obtain ⟨j,n,q⟩:=xS m l h;exact ⟨j,by simp only [Ex.ev,A,Option.bind_some,qap,n],q⟩
    · rename_i B;obtain ⟨O,A,t⟩:=xS m l B;cases t with
      |pln _=>
        obtain ⟨j,n,q⟩:=xS m l h;exact ⟨j,by simp only [Ex.ev,A,Option.bind_some,qap,n],q⟩
    · cases h
end
end Go.Eng
namespace Go.Eng
open Go.RowKit
section
variable (V:Nat→Bool)
def yq:Operand→Bool
  | .tmp t=> !V t
  |_=>false
def qfY:Op→Option (Operand×Operand×Value×Bool)
  | .pick c (.const va) b=>if yq V b then some (c,b,va,false) else none
  | .pick c a (.const vb)=>if yq V a then some (c,a,vb,true) else none
  |_=>none
variable (P:Program) (ops:Array Oper)
def qbC (rec : Nat → Option (Ex × Nat)) (g : Option (Nat × Bool)) (x : Operand) (pos : Nat) : Option (Ex × Nat) :=
  if yq V x then
    match x,pos with
    | .tmp t,p+1=>if jZ ops p=some t∧(ops[p]?).map (·.guard)=some g then rec p else none
    |_,_=>none
  else some (xL x,pos)
def qbB (rec:Nat→Option (Ex×Nat)) (g:Option (Nat×Bool)):List Operand→Nat→Option (List Ex×Nat)
  |[],pos=>some ([],pos)
  |x::xs,pos=>(qbB rec g xs pos).bind fun (es,j)=>(qbC V ops rec g x j).bind fun (e,j')=>some (e::es,j')
def qfS (rec : Nat → Option (Ex × Nat)) (o : Oper) (k : Nat) : Option (Ex × Nat) :=
  match qfY V o.op with
  | some (c, y, cv, want) =>
    match k,c,y with
    | p + 1, .tmp tc, .tmp ty =>
      match (ops[p]?).bind (·.guard) with
      |some (i,want')=>
        if want'=want∧jZ ops p=some ty∧jZ ops i=some tc∧(o.guard=none∨yq V c=true) then
          (rec p).bind fun (ey,jy)=>(qbC V ops rec o.guard c jy).bind fun (ec,jc)=>some (if want then .ite ec ey (.const cv) else .ite ec (.const cv) ey,jc)
        else none
      |none=>none
    |_,_,_=>none
  |none=>
    match o.op with
    | .pick c a b=>if yq V a||yq V b then none else (qbC V ops rec o.guard c k).bind fun (ec,jc)=>some (.ite ec (xL a) (xL b),jc)
    |op=>(qcB P op).bind fun p=>(qbB V ops rec o.guard p.opds k).bind fun (es,j)=>(p.mk es).map fun e=>(e,j)
def pxQ:Nat→Nat→Option (Ex×Nat)
  |0,_=>none
  |fuel+1,k=>(ops[k]?).bind fun o=>(qfS V P ops (pxQ fuel) o k).bind fun (e,j)=>if vV o.guard j then some (e,j) else none
def tgQ (g : Option (Nat × Bool)) (j : Nat) : Option (Option (Nat × Bool)) :=
  match g with
  |none=>some none
  |some (i,want)=>match jZ ops i with
    |some t=>if V t=true∧i<j then some (some (t,want)) else none
    |none=>none
def qhH (o:Oper):Bool:=
  (o.op.operands.toList.all fun x=> !yq V x)&&(match o.op with| .select .. =>false|_=>true)&&(match o.dst with|some d=>V d|none=>true)
def qad : Nat → Nat → Option (List St)
  |_,0=>some []
  |0,_+1=>none
  |fuel+1,k+1=>
    match ops[k]? with
    |none=>none
    |some o=>
      match pxQ V P ops (k+1) k,o.dst with
      |some (e,j),some d=>if V d then (tgQ V ops o.guard j).bind fun g=>(qad fuel j).map (· ++[.asg g d e]) else none
      |_,_=>if qhH V o then (tgQ V ops o.guard k).bind fun g=>(qad fuel k).map (· ++[.eff g o.dst o.op o.type]) else none
end
def kq (V : Nat → Bool) (P : Program) (n : Nat) (rawIds : List Nat) : Code → Option IR
  | .skip=>some .skip
  | .region id ops draw=>
    if rawIds.contains id then some (.raw (.region id ops draw)) else
    if Qm ops n then
      match qad V P ops ops.size ops.size with
      |none=>none
      |some l=>if draw then (if Region.lexB .any ops&&P.follows .mixedOrders then some (.drw l) else none) else some (.reg l)
    else none
  | .seq a b=>match kq V P n rawIds a,kq V P n rawIds b with
    |some x,some y=>some (.seq x y)
    |_,_=>none
  | .cond c a b=>if yq V c then none else match kq V P n rawIds a,kq V P n rawIds b with
    |some x,some y=>some (.cond (xL c) x y)
    |_,_=>none
  | .block id a=>match kq V P n rawIds a with
    |some x=>some (.block id x)
    |none=>none
  | .loop a=>match kq V P n rawIds a with
    |some x=>some (.loop x)
    |none=>none
  | .exit id=>some (.exit id)
  | .ret=>some .ret
  |c=>some (.raw c)
section
variable (V:List Nat) (P:Program) (ops:Array Oper)
theorem qb4:yq (fun t=>V.contains t)=vF V:=by funext x;cases x<;>rfl
theorem quq:qfY (fun t=>V.contains t)=qbH V:=by
  funext o;unfold qfY qbH;rw [qb4];rfl
theorem qkD:qbC (fun t=>V.contains t) ops=Qq ops V:=by
  funext rec g x pos;unfold qbC Qq;rw [qb4];rfl
theorem qkC (rec:Nat→Option (Ex×Nat)) (g:Option (Nat×Bool)):∀(l:List Operand) (pos:Nat),qbB (fun t=>V.contains t) ops rec g l pos=yK ops V rec g l pos
  |[],_=>rfl
  |x::xs,pos=>by
    unfold qbB yK;rw [qkC rec g xs pos,qkD]
theorem quc:qfS (fun t=>V.contains t) P ops=qbD P ops V:=by
  funext rec o k;unfold qfS qbD;rw [quq,qkD,qb4];have:∀g l pos,qbB (fun t=>V.contains t) ops rec g l pos=yK ops V rec g l pos:=fun g l pos=>qkC V ops rec g l pos;simp only [this];rfl
theorem qkE:∀(a k:Nat),pxQ (fun t=>V.contains t) P ops a k=px P ops V a k
  |0,_=>rfl
  |a+1,k=>by
    unfold pxQ px;have:pxQ (fun t=>V.contains t) P ops a=px P ops V a:=by funext k;exact qkE a k
    rw [this,quc]
theorem qr2:tgQ (fun t=>V.contains t) ops=tg ops V:=by
  funext g j;unfold tgQ tg;rfl
theorem qz1:qhH (fun t=>V.contains t)=y3 V:=by
  funext o;unfold qhH y3;rw [qb4];rfl
theorem qjJ:∀(a k:Nat),qad (fun t=>V.contains t) P ops a k=kk P ops V a k
  |0,0=>rfl
  |_+1,0=>rfl
  |0,_+1=>rfl
  |a+1,k+1=>by
    unfold qad kk;have:qad (fun t=>V.contains t) P ops a=kk P ops V a:=by funext k;exact qjJ a k
    rw [this,qr2,qz1,qkE];rfl
end
theorem QN (V:List Nat) (P:Program) (n:Nat) (h:List Nat):∀c:Code,kq (fun t=>V.contains t) P n h c=qN P n V h c
  | .skip=>rfl
  | .region id ops draw=>by
    unfold kq qN;rw [qjJ];rfl
  | .seq a b=>by
    unfold kq qN;rw [QN V P n h a,QN V P n h b];rfl
  | .cond c a b=>by
    unfold kq qN;rw [QN V P n h a,QN V P n h b,qb4];rfl
  | .block id a=>by
    unfold kq qN;rw [QN V P n h a];rfl
  | .loop a=>by
    unfold kq qN;rw [QN V P n h a];rfl
  | .exit id=>rfl
  | .ret=>rfl
  | .scope _| .rangeFunc .. | .label _| .refuse _| .goto _=>rfl
theorem qAA (P:Program) (n:Nat) (a:List Nat) (c:Code):kq (fun t=>Nat.blt t n) P n a c=qN P n (List.range n) a c:=by
  rw [←QN];congr 1;funext t;cases h:Nat.blt t n with
  |true=>symm;simpa [Nat.blt_eq] using h
  |false=>
    symm
    have:¬t<n:=fun e=>by rw [←Nat.blt_eq,h] at e;cases e
    simpa using this
end Go.Eng
namespace Go.Eng
open Go.RowKit
noncomputable section All
structure Sx where
  H:vd
  nx:Nat
  rs:List Nat
def qqf (v:Value):Option Value:=bif qaT v then some v else none
def vw (e:Tr Value):Operand→Option Value
  | .tmp t=>e.get t
  |x=>qqf (QL x)
def yM (e:Tr Value):List Operand→Option (List Value)
  |[]=>some []
  |x::l=>match vw e x,yM e l with|some v,some vs=>some (v::vs)|_,_=>none
def qbm (e:Tr Value) (d:Nat) (v:Value):Option (Tr Value):=bif Nat.blt d vf then some (e.set d v) else none
def qkH (e:Tr Value) (d:Option Nat) (v:Value):Option (Tr Value):=
  match d with
  |none=>some e
  |some d=>qbm e d v
def gdX (e:Tr Value):Option (Nat×Bool)→Option Bool
  |none=>some true
  |some (t,want)=>match e.get t with|some (.bool b)=>some (b==want)|some (.tuple _)=>some false|_=>none
def xj (s:Sx) (k:Option Nat) (o:Ob):Option (Nat×Sx):=
  match k with
  |none=>bif Nat.blt s.nx vf then some (s.nx,⟨s.H.set s.nx o,Nat.succ s.nx,s.rs⟩) else none
  |some k=>bif s.rs.contains k&&Nat.blt k vf then some (k,⟨s.H.set k o,s.nx,s.rs.filter fun i=> !(i==k)⟩) else none
def wP (v:Value):Bool:=match v with| .agg _| .tuple _=>false|_=>true
def qfT (cs:List Value) (o:Nat) (vs:List Value):List Value:=cs.take o++vs++cs.drop (o+vs.length)
def yF (H:vd) (sz:Nat):Value→Option (List Value)
  | .slice none 0 0=>some []
  | .slice (some a) n _=>qbs H a (n*sz)
  |_=>none
def qbI (e:Tr Value):List (Nat×Operand)→Option (List (Nat×Value))
  |[]=>some []
  |(k,x)::l=>match vw e x,qbI e l with|some v,some vs=>some ((k,v)::vs)|_,_=>none
def qc8 (p:Option (Nat×Sx)):Option (Value×Sx):=match p with|some (i,s)=>some (.pointer (some ⟨i,0,none⟩),s)|none=>none
def qbt (n:Nat) (p:Option (Nat×Sx)):Option (Value×Sx):=match p with|some (i,s)=>some (.slice (some ⟨i,0,none⟩) n n,s)|none=>none
def qhQ (e:Tr Value) (s:Sx) (k:Option Nat) (t:TypeId) (x:Operand):Option (Value×Sx):=
  match vw e x with
  |some v=>qc8 (xj s k ⟨v.cells.toList,t,1,true,false⟩)
  |none=>none
def qhT (P:Program) (s:Sx) (k:Option Nat) (t:TypeId):Option (Value×Sx):=
  match vh P t with
  |some z=>bif z.toList.all zF then qc8 (xj s k ⟨z.toList,t,1,true,false⟩) else none
  |none=>none
def qff (s:Sx) (i o:Nat) (vs:List Value):Option (Value×Sx):=
  match s.H.get i with
  |some ob=>bif Nat.ble (Nat.add o vs.length) ob.cells.length&&Nat.blt i vf&& !(Nat.beq ob.sz 0) then some (undef,⟨s.H.set i ⟨qfT ob.cells o vs,ob.ty,ob.sz,ob.whole,ob.ex⟩,s.nx,s.rs⟩) else none
  |none=>none
def qhF (P:Program) (e:Tr Value) (s:Sx) (t:TypeId) (p x:Operand):Option (Value×Sx):=
  match vw e p,vw e x with
  |some (.pointer (some ⟨i,o,none⟩)),some v=>bif jo P t v.cells.size&&v.cells.toList.all wP then qff s i o v.cells.toList else none
  |_,_=>none
def qhN (e:Tr Value) (s:Sx) (fn:Fn) (fs cs:List Operand):Option (Value×Sx):=
  match yM e fs,yM e cs with
  |some a,some b=>some (.func fn a.toArray b.toArray,s)
  |_,_=>none
def qiG (P:Program) (t:TypeId):Bool:=
  match P.info? t with
  |some it=>match it.zero with|some z=>z.cells.toList.all zF|none=>true
  |none=>true
def qhP (P:Program) (e:Tr Value) (s:Sx) (t:TypeId) (ps:List (Nat×Operand)):Option (Value×Sx):=
  match qbI e ps with
  |some l=>bif qiG P t then (match P.built t l with|some cs=>some (.agg cs,s)|none=>none) else none
  |none=>none
def qhM (P : Program) (e : Tr Value) (s : Sx) (k : Option Nat) (t : TypeId) (n : Nat) (ps : List (Nat × Operand)) : Option (Value × Sx) :=
  match qbI e ps,xX P t with
  |some l,some (ty,sz)=>
    bif Nat.ble (n*sz) 1000&&(l.map (·.1)==List.range n)&&l.all (fun p=>p.2.cells.size==sz)&&Nat.ble 1 sz then
      qbt n (xj s k ⟨l.flatMap (fun p=>p.2.cells.toList),ty,sz,false,false⟩)
    else none
  |_,_=>none
def qh3 (H : vd) (ty : TypeId) (sz : Nat) : Value → Option vd
  | .slice (some a) _ c=>match H.get a.block with
    |some ob=>bif ob.ty==ty&&ob.sz==sz&& !ob.whole&&Nat.blt a.block vf&&Nat.ble (a.off+c*sz) ob.cells.length then some (H.del a.block) else none
    |none=>none
  | .slice none 0 0=>some H
  |_=>none
def qqS (s : Sx) (k : Option Nat) (ty : TypeId) (sz bytes : Nat) (av : Value) (xs ys : List Value) : Option (Value × Sx) :=
  bif Nat.ble 1 (xs.length+ys.length)&&Nat.blt (xs.length+ys.length) 4611686018427387904&&Nat.ble ((xs.length+ys.length)*bytes) (140737488355328*sz)&&ys.all wP&&Nat.ble 1 sz then
    match qh3 s.H ty sz av with
    |some H=>qbt ((xs.length+ys.length) / sz) (xj ⟨H,s.nx,s.rs⟩ k ⟨xs++ys,ty,sz,false,false⟩)
    |none=>none
  else none
def qhS (P : Program) (e : Tr Value) (s : Sx) (k : Option Nat) (t : TypeId) (a b : Operand) : Option (Value × Sx) :=
  match kF P t,vw e a,vw e b with
  |some (ty,sz,bytes),some av,some bv=>
    match yF s.H sz av,yF s.H sz bv with
    |some xs,some ys=>qqS s k ty sz bytes av xs ys
    |_,_=>none
  |_,_,_=>none
def qd9 (e:Tr Value) (s:Sx) (mx:Bool) (a b:Operand):Option (Value×Sx):=
  match vw e a,vw e b with
  |some (.int k x),some (.int k' y)=>bif k==k' then some (.int k (bif mx then (if y>x then y else x) else (if y<x then y else x)),s) else none
  |_,_=>none
def qhO (P:Program) (e:Tr Value) (s:Sx) (k:Option Nat):Callee→List Operand→List TypeId→Option (Value×Sx)
  | .builtin .append,[a,b],[t,t']=>bif t==t' then qhS P e s k t a b else none
  | .builtin .max,[a,b],[t,t']=>bif t==t' then qd9 e s true a b else none
  | .builtin .min,[a,b],_=>qd9 e s false a b
  |_,_,_=>none
def qhK (P : Program) (e : Tr Value) (s : Sx) (k : Option Nat) (t : TypeId) (x y : Operand) : Option (Value × Sx) :=
  match qgk P t,vw e x,vw e y with
  |some (ty,z,bytes),some (.int _ n),some (.int _ m)=>
    bif n==m&&decide (0≤n)&&decide (n≤100000)&&Nat.ble bytes 1000&&zF z&&wP z&&(match P.info? ty with|some i=>(match i.zero with|some z=>z.cells.size==1|none=>false)|none=>false) then
      qbt n.toNat (xj s k ⟨List.replicate n.toNat z,ty,1,false,false⟩)
    else none
  |_,_,_=>none
def qhJ (s:Sx) (k:Option Nat):Option (Nat)→Option (Value×Sx)
  |none=>match xj s k ⟨[],0,0,true,false⟩ with|some (i,s')=>some (.map (some i),s')|none=>none
  |some _=>none
def kC (a b:ByteArray):Bool:=a.data.toList.map (·.toNat)==b.data.toList.map (·.toNat)
def qds:List Value→ByteArray→Option Value
  | .string a::v::l,k=>bif kC a k then some v else qds l k
  |_,_=>none
def qhL (P : Program) (e : Tr Value) (s : Sx) (t : TypeId) (m x : Operand) : Option (Value × Sx) :=
  match vw e m,vw e x,P.underlying t with
  |some (.map (some i)),some (.string b),some (.map kt et)=>
    match s.H.get i,P.underlying kt,(P.info? et).bind fun i=>i.zero with
    |some ob,some .string,some z=>bif Nat.beq ob.sz 0&&zF z then some ((qds ob.cells b).getD z,s) else none
    |_,_,_=>none
  |_,_,_=>none
def qdq:List Value→ByteArray→Value→List Value
  | .string a::v::l,k,x=>bif kC a k then .string k::x::l else .string a::v::qdq l k x
  |_,k,x=>[.string k,x]
def qhD (P : Program) (e : Tr Value) (s : Sx) (t : TypeId) (m x y : Operand) : Option (Value × Sx) :=
  match vw e m,vw e x,vw e y with
  |some (.map (some i)),some (.string b),some v=>
    match P.underlying t with
    |some (.map kt _)=>match s.H.get i,P.underlying kt with
      |some ob,some .string=>bif Nat.beq ob.sz 0&&zF v&&Nat.blt i vf then some (undef,⟨s.H.set i ⟨qdq ob.cells b v,ob.ty,ob.sz,ob.whole,ob.ex⟩,s.nx,s.rs⟩) else none
      |_,_=>none
    |_=>none
  |_,_,_=>none
def qcy (eq : Bool) (s : Sx) : Value → Value → Option (Value × Sx)
  | .agg xs, .agg ys=>match xs.toList,ys.toList with
    |[.int .i64 a, .int .i64 b],[.int .i64 c, .int .i64 d]=>some (.bool (bif eq then (a==c&&b==d) else !(a==c&&b==d)),s)
    |_,_=>none
  |_,_=>none
def qlt:Value→Option Bool
  | .slice (some _) _ _=>some false
  | .slice none 0 0=>some true
  |_=>none
def qjQ (P:Program) (t:TypeId):Bool:=match P.underlying t with|some (.slice _)=>true|_=>false
def qhI (P : Program) (e : Tr Value) (s : Sx) (op : BinOp) (t : TypeId) (x : Operand) : Option (Value × Sx) :=
  match vw e x with
  |some v=>match qlt v,op with
    |some b, .eql=>bif qjQ P t then some (.bool b,s) else none
    |_,_=>none
  |none=>none
def qgf:Operand→Bool
  | .const (.slice none 0 0)=>true
  |_=>false
def qhE (pr : TypeId → Bool) (e : Tr Value) (s : Sx) (op : BinOp) (t : TypeId) (x y : Operand) : Option (Value × Sx) :=
  match vw e x,vw e y with
  |some v,some u=>bif pr t then (match op with
    | .eql=>qcy true s v u
    | .neq=>qcy false s v u
    |_=>none) else none
  |_,_=>none
def qhR (P:Program) (pr:TypeId→Bool) (e:Tr Value) (s:Sx) (op:BinOp) (t u:TypeId) (x y:Operand):Option (Value×Sx):=
  bif qgf y then (bif t==u then qhI P e s op t x else none) else qhE pr e s op t x y
def qb9 (P:Program) (pr:TypeId→Bool) (e:Tr Value) (s:Sx) (k:Option Nat):Op→Option (Value×Sx)
  | .box t x=>qhQ e s k t x
  | .alloc t=>qhT P s k t
  | .store t p x=>qhF P e s t p x
  | .makeFunc fn fs cs=>qhN e s fn fs.toList cs.toList
  | .build t ps=>qhP P e s t ps.toList
  | .buildSlice t n ps=>qhM P e s k t n ps.toList
  | .call c=>qhO P e s k c.callee c.args.toList c.argTypes.toList
  | .makeSlice t x y=>qhK P e s k t x y
  | .makeMap _ r=>qhJ s k (r.map fun _=>0)
  | .lookup t m x ok=>bif ok then none else qhL P e s t m x
  | .mapUpdate t m x y=>qhD P e s t m x y
  | .binOp op t x y u=>qhR P pr e s op t u x y
  |_=>none
inductive Ou where
  |go (e:Tr Value) (s:Sx)
  |ex (i:Nat) (e:Tr Value) (s:Sx)
  |rt (e:Tr Value) (s:Sx)
  |pn (c:List PanicEntry) (s:Sx)
  |ret (v:Value) (s:Sx)
structure Fx where
  f:FuncId
  nt:Nat
  V:List Nat
  ir:IR
  rs:List RV
structure Fa where
  k:K1
  a:Value
  v:Value
inductive Tk where
  |ir (F:Fx) (a:IR) (e:Tr Value)
  |sts (l:List St) (e:Tr Value)
  |ord (L:Option (List Fa)) (bs:Option Nat) (t:OT) (e:Tr Value)
  |call (f:FuncId) (args:List Value)
def y6:Code→List Nat
  | .region id _ true=>[id]
  | .seq a b=>y6 a++y6 b
  | .cond _ a b=>y6 a++y6 b
  | .block _ a=>y6 a
  | .loop a=>y6 a
  | .scope a=>y6 a
  |_=>[]
def qji (ops:Array Oper):Nat:=((List.range ops.size).find? fun n=>Region.sinkB .any ops n&&Region.chainB .any ops n).getD ops.size
def qBm (c:Code):Code:=match c with| .scope c=>c|c=>c
def fnX (P : Program) (f : FuncId) : Option Fx :=
  match P.funcs[f]? with
  |none=>none
  |some fn=>match fn.body with
    |none=>none
    |some c=>
      match kq (fun t=>Nat.blt t fn.ntmps) P fn.ntmps (y6 c) (qBm c),vu P (List.range fn.ntmps) fn.results.toList with
      |some ir,some rs=>bif Nat.ble fn.ntmps 1000000000 then some ⟨f,fn.ntmps,List.range fn.ntmps,ir,rs⟩ else none
      |_,_=>none
def kg (H : vd) : OT → Tr Value → List Fa
  | .take g d ex t, e => match gdX e g with
    |some true=>match vL H e ex with
      |some v=>(match ex with
        | .op1 k x=>(match vL .lf e x with
          |some a=>(match x1 .lf k a with|some _=>[] |none=>[⟨k,a,v⟩])
          |none=>[])
        |_=>[])++(match qbm e d v with|some e'=>kg H t e'|none=>[])
      |none=>[]
    |some false=>(match qbm e d undef with|some e'=>kg H t e'|none=>[])
    |none=>[]
  |_,_=>[]
def zr : Nat → Value → Value → Bool
  |0,_,_=>false
  |n+1,a,b=>match a,b with
    | .bool a, .bool b=>a==b
    | .int k a, .int l b=>k==l&&a==b
    | .string a, .string b=>kC a b
    | .pointer none, .pointer none=>true
    | .pointer (some ⟨i,o,none⟩), .pointer (some ⟨j,p,none⟩)=>i==j&&o==p
    | .slice none n c, .slice none m d=>n==m&&c==d
    | .slice (some ⟨i,o,none⟩) n c, .slice (some ⟨j,p,none⟩) m d=>i==j&&o==p&&n==m&&c==d
    | .map (some i), .map (some j)=>i==j
    | .nilFunc, .nilFunc=>true
    | .nilIface, .nilIface=>true
    | .func (.func f) as bs, .func (.func g) cs ds=>f==g&&all2 (zr n) as.toList cs.toList&&all2 (zr n) bs.toList ds.toList
    | .agg as, .agg bs=>all2 (zr n) as.toList bs.toList
    | .tuple as, .tuple bs=>all2 (zr n) as.toList bs.toList
    | .iface t a, .iface u b=>t==u&&zr n a b
    |_,_=>false
where all2 (f:Value→Value→Bool):List Value→List Value→Bool
  |[],[]=>true
  |a::l,b::m=>f a b&&all2 f l m
  |_,_=>false
def Qw (a b:Ob):Bool:=zr.all2 (zr 4) a.cells b.cells&&a.ty==b.ty&&a.sz==b.sz&&a.whole==b.whole&&a.ex==b.ex
def qdA:K1→K1→Bool
  | .load1, .load1=>true
  | .loadN n, .loadN m=>n==m
  | .b2s, .b2s=>true
  |_,_=>false
def qfv (H:vd) (L:List Fa):Bool:=L.all fun f=>match x1 H f.k f.a with|some u=>zr 4 u f.v|none=>false
def qd5:List Fa→K1→Value→Option Value
  |[],_,_=>none
  |f::l,k,a=>bif qdA f.k k&&zr 4 f.a a then some f.v else qd5 l k a
def evF (L : List Fa) (e : Tr Value) : Ex → Option Value
  | .op1 k x=>match vL .lf e x with
    |some a=>(match x1 .lf k a with|some v=>some v|none=>qd5 L k a)
    |none=>none
  |ex=>vL .lf e ex
def qlf {α:Type} (f:α→α→Bool):Option α→Option α→Bool
  |none,none=>true
  |some a,some b=>f a b
  |_,_=>false
def Tr.noneB {α:Type}:Tr α→Bool
  | .lf=>true
  | .nd none l r=>l.noneB&&r.noneB
  | .nd (some _) _ _=>false
def Tr.eqB {α:Type} (f:α→α→Bool):Tr α→Tr α→Bool
  | .nd v l r, .nd u m q=>qlf f v u&&l.eqB f m&&r.eqB f q
  | .lf,t=>t.noneB
  |t, .lf=>t.noneB
def qel:OT→Bool
  | .both .. =>true
  | .take _ _ _ t=>qel t
  | .step _ _ t=>qel t
  | .done=>false
def yZ:OT→List Nat
  | .both x _=>yZ x
  | .take _ _ _ t=>yZ t
  | .step (.eff _ (some d) _ _) _ t=>d::yZ t
  | .step _ _ t=>yZ t
  | .done=>[]
def qgb (H:vd) (e:Tr Value):RV→Option Value
  | .tmp t=>e.get t
  | .cell1 t=>match e.get t with|some v=>x1 H .load1 v|none=>none
  | .cellN t n=>match e.get t with|some v=>x1 H (.loadN n) v|none=>none
def qc2 (H : vd) (e : Tr Value) : List RV → Option (List Value)
  |[]=>some []
  |r::rs=>match qgb H e r,qc2 H e rs with
    |some v,some vs=>some (v::vs)
    |_,_=>none
def QP:List Value→Nat→Tr Value→Tr Value
  |[],_,e=>e
  |v::l,k,e=>QP l (Nat.succ k) (e.set k v)
structure TrP where
  f:FuncId
  tp:TypeId
  tb:TypeId
  ti:TypeId
  tt:TypeId
  tx:TypeId
abbrev qa3:=FuncId→List Value→Sx→Option (Value×Sx)
section
variable (P:Program) (prim:qa3) (tr:Option TrP) (sk:FuncId→Nat→List Nat) (pr:TypeId→Bool)
variable (r:Sx→Tk→Option Ou) (s:Sx)
def qd7 (rs:List RV) (e:Tr Value) (s:Sx):Option Ou:=
  match qc2 s.H e rs with
  |some vs=>some (.ret (kR vs) s)
  |none=>none
def qgn (F:Fx):Option Ou→Option Ou
  |some (.go e s)=>qd7 F.rs e s
  |some (.rt e s)=>qd7 F.rs e s
  |some (.pn c s)=>some (.pn c s)
  |_=>none
def qem (args:List Value):Option Fx→Option Ou
  |some F=>bif Nat.ble args.length F.nt&&Nat.blt args.length vf then qgn F (r s (.ir F F.ir (QP args 0 .lf))) else none
  |none=>none
def qqK (q : TrP) (b iY : Nat) (at0 : Int) (n : Nat) (s : Sx) : Option Ou :=
  match s.H.get b with
  |some ob=>match ob.cells with
    |[tv, .int .i64 i, .int .i64 far, .slice a m c]=>match qbe 6 (.slice a m c) 0 n with
      |some nv2=>bif decide (0≤i)&&decide (0≤far)&&Nat.ble n m&&Nat.blt b vf&&Nat.blt iY vf&&Qw ob ⟨[tv, .int .i64 i, .int .i64 far, .slice a m c],q.tt,1,true,false⟩ then
          some (.ret (.bool false) ⟨(s.H.set b ⟨[tv, .int .i64 at0, .int .i64 far,nv2],q.tt,1,true,false⟩).del iY,s.nx,s.rs⟩) else none
      |none=>none
    |_=>none
  |none=>none
def QB (s:Sx) (i:Nat) (o:Ob):Bool:=match s.H.get i with|some p=>Qw p o|none=>false
def chainB (q:TrP):List PanicEntry→Bool
  |[p]=>(match p.v with| .iface t (.agg cs)=>t==q.tx&&cs.isEmpty|_=>false)&& !p.recovered&& !p.goexit
  |_=>false
def qrN (q : TrP) (b iA iY iN iM : Nat) (at0 : Int) (n : Nat) : Option Ou → Option Ou
  |some (.ret v s)=>bif QB s iY ⟨[.bool false],q.tb,1,true,false⟩&&Nat.blt iY vf&&(match v with| .tuple cs=>cs.isEmpty|_=>false) then some (.ret (.bool true) ⟨s.H.del iY,s.nx,s.rs⟩) else none
  |some (.pn c s)=>
    bif chainB q c&&QB s iA ⟨[.pointer (some ⟨b,0,none⟩)],q.tp,1,true,false⟩&&QB s iY ⟨[.bool false],q.tb,1,true,false⟩&&QB s iN ⟨[.int .i64 at0],q.ti,1,true,false⟩&&QB s iM ⟨[.int .i64 n],q.ti,1,true,false⟩&& !(Nat.beq b iY) then
      qqK q b iY at0 n s else none
  |_=>none
def qeQ (q : TrP) (b g : Nat) (cs : List Value) (at0 : Int) (n : Nat) : Option Ou :=
  match xj s none ⟨[.pointer (some ⟨b,0,none⟩)],q.tp,1,true,false⟩ with
  |none=>none
  |some (iA,s1)=>match xj s1 none ⟨[.bool false],q.tb,1,true,false⟩ with
    |none=>none
    |some (iY,s2)=>match xj s2 none ⟨[.int .i64 at0],q.ti,1,true,false⟩ with
      |none=>none
      |some (iN,s3)=>match xj s3 none ⟨[.int .i64 n],q.ti,1,true,false⟩ with
        |none=>none
        |some (iM,s4)=>qrN q b iA iY iN iM at0 n (r s4 (.call g cs))
def qi3 (P:Program) (q:TrP) (b:Nat) (ob:Ob) (g:FuncId) (fs cs:Array Value):Option Ou:=
  match ob.cells with
  |[tv, .int .i64 at0, .int .i64 far, .slice a n c]=>bif fs.isEmpty&&decide (0≤at0)&&decide (0≤far)&&qf P g&&Qw ob ⟨[tv, .int .i64 at0, .int .i64 far, .slice a n c],q.tt,1,true,false⟩ then qeQ r s q b g cs.toList at0 n else none
  |_=>none
def qeP (q : TrP) : List Value → Option Ou
  |[.pointer (some ⟨b,0,none⟩), .func (.func g) fs cs]=>match s.H.get b with
    |some ob=>qi3 r s P q b ob g fs cs
    |none=>none
  |_=>none
def qii (f : FuncId) (args : List Value) : Option Ou :=
  match prim f args s with
  |some (v,s')=>some (.ret v s')
  |none=>match tr with
    |some q=>bif Nat.beq q.f f then qeP P r s q args else qem r s args (fnX P f)
    |none=>qem r s args (fnX P f)
def qaS (l:List St) (d:Option Nat) (e:Tr Value) (v:Value) (s:Sx):Option Ou:=
  match qkH e d v with|some e'=>r s (.sts l e')|none=>none
def qqL (l:List St) (d:Option Nat) (e:Tr Value):Option Ou→Option Ou
  |some (.ret v s)=>qaS r l d e v s
  |some (.pn c s)=>some (.pn c s)
  |_=>none
def qfi (l:List St) (d:Option Nat) (e:Tr Value):Option Value→Option (List Value)→Option Ou
  |some (.func (.func f) fs cs),some vs=>bif qf P f then qqL r l d e (r s (.call f (fs.toList++(vs++cs.toList)))) else none
  |_,_=>none
def qjP:Option Value→Option Ou
  |some v=>match v with| .iface .. =>bif qaT v then some (.pn [{v:=v,recovered:=false}] s) else none|_=>none
  |none=>none
def qef (l:List St) (d:Option Nat) (e:Tr Value):Option (Value×Sx)→Option Ou
  |some (v,s)=>qaS r l d e v s
  |none=>none
def qfh (k : Option Nat) (l : List St) (d : Option Nat) (e : Tr Value) : Op → Option Ou
  | .panic x=>qjP s (vw e x)
  | .call c=>match c.callee with
    | .value f=>qfi P r s l d e (vw e f) (yM e c.args.toList)
    |_=>qef r l d e (qb9 P pr e s k (.call c))
  |op=>qef r l d e (qb9 P pr e s k op)
def qfj (l:List St) (d:Nat) (e:Tr Value):Option Value→Option Ou
  |some v=>qaS r l (some d) e v s
  |none=>none
def qbf (k : Option Nat) (e : Tr Value) : List St → Option Ou
  |[]=>some (.go e s)
  | .asg g d x::l=>match gdX e g with
    |some true=>qfj r s l d e (vL s.H e x)
    |some false=>qfj r s l d e (some undef)
    |none=>none
  | .eff g d op _::l=>match gdX e g with
    |some true=>qfh P pr r s k l d e op
    |some false=>qaS r l d e undef s
    |none=>none
def qdi (L:Option (List Fa)) (bs:Option Nat) (t:OT) (e:Tr Value) (d:Nat):Option Value→Option Ou
  |some v=>match qbm e d v with|some e'=>r s (.ord L bs t e')|none=>none
  |none=>none
def qle (L : Option (List Fa)) (bs : Option Nat) (t : OT) (b : Bool) : Option Ou → Option Ou
  |some (.go e' s')=>
    bif b then (match L with
      |some l=>bif qfv s'.H l then r s' (.ord L bs t e') else none
      |none=>none)
    else r s' (.ord none bs t e')
  |some (.pn c s')=>some (.pn c s')
  |_=>none
def qqB:Option Ou→Option Ou→Option Ou
  |some (.go e1 s1),some (.go e2 s2)=>bif e1.eqB (zr 4) e2&&s1.H.eqB Qw s2.H&&Nat.beq s1.nx s2.nx&&s1.rs==s2.rs then some (.go e1 s1) else none
  |_,_=>none
def qlm (bs:Option Nat):St→Option Nat
  | .eff _ (some d) _ _=>bs.map (· +d)
  |_=>none
def qf5 (L : Option (List Fa)) (bs : Option Nat) (e : Tr Value) : OT → Option Ou
  | .done=>some (.go e s)
  | .take g d x t=>match L with
    |none=>none
    |some l=>match gdX e g with
      |some true=>qdi r s L bs t e d (evF l e x)
      |some false=>qdi r s L bs t e d (some undef)
      |none=>none
  | .step x b t=>qle r L bs t b (qbf P pr r s (qlm bs x) e [x])
  | .both x y=>qqB (r s (.ord L bs x e)) (r s (.ord L bs y e))
def qfP (F:Fx) (e:Tr Value):Option OT→Option Ou
  |some t=>bif qel t&&(yZ t).all (fun d=>Nat.blt d F.nt) then r ⟨s.H,s.nx+F.nt,s.rs++(yZ t).map (s.nx+ ·)⟩ (.ord (some (kg s.H t e)) (some s.nx) t e)
      else r s (.ord (some (kg s.H t e)) none t e)
  |none=>none
def qfq (F:Fx) (b:IR):Option Ou→Option Ou
  |some (.go e' s')=>r s' (.ir F b e')
  |o=>o
def qBn (i:Nat):Option Ou→Option Ou
  |some (.ex j e' s')=>bif Nat.beq j i then some (.go e' s') else some (.ex j e' s')
  |o=>o
def qqh (F:Fx) (e:Tr Value) (a b:IR):Option Value→Option Ou
  |some (.bool c)=>bif c then r s (.ir F a e) else r s (.ir F b e)
  |_=>none
def irX (F : Fx) (e : Tr Value) : IR → Option Ou
  | .skip=>some (.go e s)
  | .reg l=>r s (.sts l e)
  | .drw _=>none
  | .seq a b=>qfq r F b (r s (.ir F a e))
  | .cond c a b=>qqh r s F e a b (vL s.H e c)
  | .block i a=>qBn i (r s (.ir F a e))
  | .loop a=>qfq r F (.loop a) (r s (.ir F a e))
  | .exit i=>some (.ex i e s)
  | .ret=>some (.rt e s)
  | .raw c=>match c with
    | .label _=>some (.go e s)
    | .region id ops true=>qfP r s F e (qdh P F.nt F.V (sk F.f id) (qji ops) (.region id ops true))
    |_=>none
def qjK:Tk→Option Ou
  | .ir F a e=>irX P sk r s F e a
  | .sts l e=>qbf P pr r s none e l
  | .ord L bs t e=>qf5 P pr r s L bs e t
  | .call f args=>qii P prim tr r s f args
end
def kE (P:Program) (prim:qa3) (tr:Option TrP) (sk:FuncId→Nat→List Nat) (pr:TypeId→Bool):Nat→Sx→Tk→Option Ou
  |0,_,_=>none
  |n+1,s,t=>qjK P prim tr sk pr (kE P prim tr sk pr n) s t
end All
end Go.Eng
namespace Go.Eng
open Go.RowKit
theorem qZ {α:Type} {b:Bool} {x:Option α} {v:α} (h:(bif b then x else none)=some v):b=true∧x=some v:=by
  cases b
  · cases h
  · exact ⟨rfl,h⟩
theorem kK {n:Nat} (h:Nat.blt n vf=true):n<vf:=by simpa [Nat.blt_eq] using h
section
variable {σ:Sg} {e:Tr Value} {ρ:qa}
theorem qAv {v u:Value} (h:qqf v=some u):VR σ u v:=by
  obtain ⟨b,a⟩:=qZ h;cases a;exact wX b
theorem vU (a:ER σ e ρ) {x:Operand} {v:Value} (h:vw e x=some v):VR σ v (qd ρ x):=by
  unfold vw at h;split at h
  · exact a _ _ h
  · cases x with
    |tmp t=>rename_i b;exact absurd rfl (b t)
    |_=>exact qAv h
theorem qf8 (b:ER σ e ρ):∀{l:List Operand} {vs:List Value},yM e l=some vs→ql σ vs (l.map (qd ρ))
  |[],vs,h=>by cases h;trivial
  | x :: l, vs, h => by
    unfold yM at h;split at h
    · rename_i v j c a;cases h;exact ⟨vU b c,qf8 b a⟩
    · cases h
theorem qcS (m:ER σ e ρ) {d:Nat} {v c:Value} (n:VR σ v c) {j:Tr Value} (h:qbm e d v=some j):ER σ j (qn ρ d c):=by
  obtain ⟨q,l⟩:=qZ h;cases l;intro i u a;rw [Tr.get_set _ _ (kK q)] at a;unfold qn;split at a
  · rename_i b;cases a;rw [if_pos b];exact n
  · rename_i b;rw [if_neg b];exact m i u a
theorem quf (b:ER σ e ρ) {d:Option Nat} {v a:Value} (j:VR σ v a) {c:Tr Value} (h:qkH e d v=some c):ER σ c (qk ρ d a):=by
  cases d with
  |none=>cases h;exact b
  |some d=>exact qcS b j h
theorem ER.mono {a:Sg} (b:ER σ e ρ) (c:σ.le a):ER a e ρ:=fun i v h=>(b i v h).mono c
theorem qaL (l:ER σ e ρ) {g:Option (Nat×Bool)} {b:Bool} (h:gdX e g=some b):gd ρ g=b:=by
  cases g with
  |none=>cases h;rfl
  |some p=>
    obtain ⟨t,j⟩:=p;simp only [gdX] at h;split at h
    · rename_i m c;cases h;have:=l _ _ c;generalize a:ρ t=r at this;cases this;simp [gd,a]
    · rename_i cs c;cases h;have:=l _ _ c;generalize a:ρ t=r at this;cases this with
      |pln h=>cases h
      |tup _ _=>simp [gd,a]
    · cases h
theorem Q3:VR σ undef undef:=wX (v:=undef) rfl
theorem qaW {v c:Value} (h:VR σ v c):ql σ v.cells.toList c.cells.toList:=by
  cases h with
  |pln h=>
    have:v.cells= #[v]:=by
      unfold zF at h;split at h<;>first|rfl|cases h
    rw [this];exact ⟨.pln h,trivial⟩
  |ptr h=>exact ⟨.ptr h,trivial⟩
  |slc h q=>exact ⟨.slc h q,trivial⟩
  |mp h=>exact ⟨.mp h,trivial⟩
  |fnc b a l m=>exact ⟨.fnc b a l m,trivial⟩
  |ifc h=>exact ⟨.ifc h,trivial⟩
  | @agg cs ds b a=>
    show ql σ cs.toList ds.toList;exact ql.of (by simpa using b) fun j x y n t=>a j x y (by simpa using n) (by simpa using t)
  |tup b a=>exact ⟨.tup b a,trivial⟩
theorem qie {v a:Value} (h:VR σ v a):a.cells.size=v.cells.size:=by
  have:=(qaW h).len;simpa using this.symm
theorem qbM {v a:Value} (h:VR σ v a) (b:wP v=true):a.oneCell=true:=by
  cases h with
  |pln h=>
    unfold zF at h;split at h<;>first|rfl|cases h
  |agg _ _=>cases b
  |tup _ _=>cases b
  |_=>rfl
theorem qga:∀{l m:List Value},ql σ l m→l.all wP=true→∀v∈m,v.oneCell=true
  |[],[],_,_,v,c=>by simp at c
  |a::l,b::m,h,j,v,c=>by
    simp only [List.all_cons,Bool.and_eq_true] at j;rcases List.mem_cons.1 c with rfl|c
    · exact qbM h.1 j.1
    · exact qga h.2 j.2 v c
theorem Qs:∀{l:List Value},l.all zF=true→ql σ l l
  |[],_=>trivial
  |a::l,h=>by
    simp only [List.all_cons,Bool.and_eq_true] at h;exact ⟨.pln h.1,Qs h.2⟩
end
structure Iv (σ:Sg) (w0:World) (s:Sx) (w:World):Prop where
  mr:MR σ s.H w
  dom:∀i p,σ i=some p→i<s.nx∧i∉s.rs
  res:∀i∈s.rs,i<s.nx
  ap:∀i j oi oj pi pj,s.H.get i=some oi→s.H.get j=some oj→σ i=some pi→σ j=some pj→pi.1=pj.1→i=j
  ext:qc w0 w
  own:∀i o p,s.H.get i=some o→σ i=some p→w0.heap.size≤p.1
section
variable {σ:Sg} {w0 w:World} {s:Sx}
theorem Iv.toExt (h:Iv σ w0 s w) {w':World} (a:qc w w'):Iv σ w0 s w':=⟨h.mr.ext a,h.dom,h.res,h.ap,h.ext.trans' a,h.own⟩
theorem MR.at' {H:vd} (h:MR σ H w) {i:Nat} {o:Ob} (c:H.get i=some o):∃p,σ i=some p∧p.1<w.heap.size:=by
  by_cases j:o.sz=0
  · obtain ⟨b,ps,m,l,_⟩:=(h i o c).1 j;exact ⟨_,m,l.lt⟩
  · obtain ⟨b,f,x,cur,a⟩:=(h i o c).2 j;exact ⟨_,a.at',a.lt⟩
theorem MR.keep {H H':vd} (h:MR σ H w) {w':World} (l:∀i o,H'.get i=some o→H.get i=some o) (m:∀i o p,H'.get i=some o→σ i=some p→w'.heap[p.1]? =w.heap[p.1]?):MR σ H' w':=fun i o a=>by
  refine ⟨fun c=> ?_,fun c=> ?_⟩
  · obtain ⟨b,ps,n,t,q⟩:=(h i o (l i o a)).1 c;exact ⟨b,ps,n,t.block (m i o _ a n),q⟩
  · obtain ⟨b,f,x,cur,j⟩:=(h i o (l i o a)).2 c;exact ⟨b,f,x,cur,j.keep (m i o _ a j.at')⟩
theorem qgg (t : Iv σ w0 s w) {k : Option Nat} {o : Ob} {i : Nat} {s' : Sx} (h : xj s k o = some (i, s')) {b f x : Nat} {W : World} (hW : MR σ s.H W) (hE : qc w0 W) (Z : w0.heap.size ≤ b)
    (I:∀j u A,s.H.get j=some u→σ j=some A→A.1≠b) (ho:∀n,σ.le n→n i=some (b,f,x)→(o.sz=0→MO n W i o)∧(o.sz≠0→∃cur,RO n W i o b f x cur)):
    ∃n,σ.le n∧n i=some (b,f,x)∧Iv n w0 s' W∧s'.H=s.H.set i o∧i<vf∧∀j p,n j=some p→j≠i→σ j=some p:=by
  have key:i<vf∧s'.H=s.H.set i o∧σ i=none∧i<s'.nx∧i∉s'.rs∧s.nx≤s'.nx∧(∀j∈s'.rs,j∈s.rs):=by
    unfold xj at h;split at h
    · obtain ⟨O,S⟩:=qZ h;cases S;refine ⟨kK O,rfl, ?_,Nat.lt_succ_self _,fun E=> ?_,Nat.le_succ _,fun j c=>c⟩
      · cases R:σ s.nx with
        |none=>rfl
        |some p=>exact absurd (t.dom _ _ R).1 (Nat.lt_irrefl _)
      · exact absurd (t.res _ E) (Nat.lt_irrefl _)
    · rename_i k;obtain ⟨O,S⟩:=qZ h;cases S;simp only [Bool.and_eq_true] at O;have E:i∈s.rs:=by simpa using O.1
      refine ⟨kK O.2,rfl, ?_,t.res _ E,by simp,Nat.le_refl _,fun j c=>(List.mem_filter.1 c).1⟩;cases R:σ i with
      |none=>rfl
      |some p=>exact absurd E (t.dom _ _ R).2
  obtain ⟨k1,k2,k3,k4,k5,k6,k7⟩:=key;have B:σ.le (fun j=>if j=i then some (b,f,x) else σ j):=fun j p y=>by
    have:j≠i:=fun e=>by rw [e,k3] at y;cases y
    simp [this,y]
  have C:∀j,s'.H.get j=if j=i then some o else s.H.get j:=fun j=>by rw [k2,Tr.get_set _ _ k1]
  refine ⟨_,B,by simp,⟨?_, ?_,fun j c=>Nat.lt_of_lt_of_le (t.res j (k7 j c)) k6, ?_,hE, ?_⟩,k2,k1,fun j p y X=>by simpa [X] using y⟩
  · intro j u c;rw [C] at c;split at c
    · rename_i e;cases c;subst e;obtain ⟨a1,a2⟩:=ho _ B (by simp);exact ⟨a1,fun hz=>let ⟨cur,hc⟩:=a2 hz;⟨b,f,x,cur,hc⟩⟩
    · exact (hW.mono B) j u c
  · intro j p y;split at y
    · rename_i e;subst e;exact ⟨k4,k5⟩
    · have:=t.dom j p y;exact ⟨Nat.lt_of_lt_of_le this.1 k6,fun E=>this.2 (k7 j E)⟩
  · intro j l u ol A pl c J a m Y;rw [C] at c J;split at c
    · rename_i q;rw [if_pos q] at a;cases a;split at J
      · rename_i z;rw [q,z]
      · rename_i z;rw [if_neg z] at m;exact absurd Y.symm (I l ol pl J m)
    · rename_i q;rw [if_neg q] at a;split at J
      · rename_i z;rw [if_pos z] at m;cases m;exact absurd Y (I j u A c a)
      · rename_i z;rw [if_neg z] at m;exact t.ap j l u ol A pl c J a m Y
  · intro j u A c a;rw [C] at c;split at c
    · rename_i q;rw [if_pos q] at a;cases a;exact Z
    · rename_i q;rw [if_neg q] at a;exact t.own j u A c a
theorem qdo (z:Iv σ w0 s w) {k:Option Nat} {o:Ob} {i:Nat} {s':Sx} (h:xj s k o=some (i,s')) {b f x:Nat} {W:World} (y:MR σ s.H W) (t:qc w0 W) (l:w0.heap.size≤b)
    (c:∀j A m,s.H.get j=some A→σ j=some m→m.1≠b) (u:∀a,σ.le a→a i=some (b,f,x)→(o.sz=0→MO a W i o)∧(o.sz≠0→∃cur,RO a W i o b f x cur)):
    ∃a,σ.le a∧a i=some (b,f,x)∧Iv a w0 s' W:=by
  obtain ⟨a,B,q,n,_⟩:=qgg z h y t l c u;exact ⟨a,B,q,n⟩
theorem qc7 (n:Iv σ w0 s w) {cs cs':List Value} {t:TypeId} {i:Nat} {s':Sx} (h:xj s none ⟨cs,t,1,true,false⟩=some (i,s')) {b:Nat} (q:w0.heap.size≤b) (m:∀j S z,s.H.get j=some S→σ j=some z→z.1≠b) (C:Blk w b cs'.toArray t) (c:ql σ cs cs'):
    ∃a,σ.le a∧a i=some (b,0,0)∧Iv a w0 s' w∧∀j o p,s'.H.get j=some o→a j=some p→p.1=b∨(s.H.get j=some o∧σ j=some p):=by
  obtain ⟨a,Y,y,A,B,J,R⟩:=qgg n h (b:=b) (f:=0) (x:=0) n.mr n.ext q m fun a W X=>⟨(fun I=>by cases I),fun _=>⟨cs'.toArray,X,C.heap,by
    simp only [List.drop_zero];rw [List.take_of_length_le (by rw [c.len];exact Nat.le_refl _)];exact c.mono W,by simp [c.len],fun _=>⟨rfl,rfl,by simp [c.len]⟩,(fun O=>by cases O),(fun E=>by cases E)⟩⟩
  refine ⟨a,Y,y,A,fun j o p l u=> ?_⟩;rw [B,Tr.get_set _ _ J] at l;split at l
  · rename_i e;subst e;rw [y] at u;cases u;exact .inl rfl
  · rename_i e;exact .inr ⟨l,R j p u e⟩
theorem qcf (j:Iv σ w0 s w) {i:Nat} {ob:Ob} (h:s.H.get i=some ob) (l:ob.whole=true) (m:ob.sz≠0):∃b cs',σ i=some (b,0,0)∧ql σ ob.cells cs'∧Blk w b cs'.toArray ob.ty:=by
  obtain ⟨b,f,x,cur,a⟩:=(j.mr i ob h).2 m;obtain ⟨rfl,rfl,c⟩:=a.whole l;refine ⟨b,cur.toList,a.at', ?_,⟨by simpa using a.heap⟩⟩;have:=a.cs;simp only [List.drop_zero] at this
  rwa [List.take_of_length_le (by simp [c])] at this
theorem qqc (c:Iv σ w0 s w) {i:Nat} {ob:Ob} (u:s.H.get i=some ob) (m:i<vf) {b f x:Nat} (n:σ i=some (b,f,x)) {W:World} (q:Only b w W):Iv σ w0 ⟨s.H.del i,s.nx,s.rs⟩ W:=by
  have h:∀j o,(s.H.del i).get j=some o→j≠i∧s.H.get j=some o:=fun j o a=>by
    rw [Tr.get_del _ m] at a;split at a
    · cases a
    · rename_i e;exact ⟨e,a⟩
  exact ⟨c.mr.keep (fun j o a=>(h j o a).2) fun j o p a z=>q.block _ fun e=>(h j o a).1 (c.ap j i o ob p _ (h j o a).2 u z n e),c.dom,c.res,fun j l t ol y pl a A=>c.ap j l t ol y pl (h j t a).2 (h l ol A).2,q.ext c.ext (c.own i ob _ u n),fun j o p a=>c.own j o p (h j o a).2⟩
theorem qeu (c:Iv σ w0 s w) {k:Option Nat} {cs cs':List Value} {t:TypeId} {sz:Nat} {x:Bool} {i:Nat} {s':Sx} (h:xj s k ⟨cs,t,sz,x,false⟩=some (i,s')) (m:ql σ cs cs') (q:sz≠0) {W:World} (u:qc w W) {b:Nat} (E:w.heap.size≤b) (z:Blk W b cs'.toArray t) (I:x=false→∃n,cs.length=n*sz∧n≤maxLen):
    ∃l,σ.le l∧l i=some (b,0,0)∧Iv l w0 s' W:=by
  refine qdo c h (c.mr.ext u) (c.ext.trans' u) (Nat.le_trans c.ext.size E) (fun j oj Y y O Z=> ?_) fun l R S=>⟨fun C=>absurd C q,fun _=>⟨cs'.toArray,S,z.heap, ?_, ?_,fun _=>⟨rfl,rfl, ?_⟩,fun J=> ?_,(fun h=>by cases h)⟩⟩
  · obtain ⟨p,a,B⟩:=c.mr.at' y;rw [O] at a;cases a;omega
  · simp only [List.drop_zero];have:(cs'.take cs.length)=cs':=List.take_of_length_le (by rw [m.len];exact Nat.le_refl _);rw [this];exact m.mono R
  · simp [m.len]
  · simp [m.len]
  · obtain ⟨n,X,A⟩:=I J;exact ⟨n,X,by simpa using A⟩
theorem qif (m : Iv σ w0 s w) {i : Nat} {ob : Ob} (X : s.H.get i = some ob) {a : Ob} (A : i < vf) {b f x : Nat} (B : σ i = some (b, f, x)) {W : World} (hO : Only b w W) (Z : (a.sz = 0 → MO σ W i a) ∧ (a.sz ≠ 0 → ∃ cur, RO σ W i a b f x cur)) :
    Iv σ w0 ⟨s.H.set i a,s.nx,s.rs⟩ W:=by
  have C:∀j,(s.H.set i a).get j=if j=i then some a else s.H.get j:=fun j=>Tr.get_set _ _ A j
  have n:∀j o,(s.H.set i a).get j=some o→∃o',s.H.get j=some o':=fun j o h=>by
    rw [C] at h;split at h
    · rename_i e;rw [e];exact ⟨_,X⟩
    · exact ⟨_,h⟩
  refine ⟨fun j t h=> ?_,m.dom,m.res,fun j l t ol O pl h hl q J S=> ?_,hO.ext m.ext (m.own i ob _ X B),fun j t O h q=> ?_⟩
  · have c:=h;dsimp only at c;rw [C] at c;split at c
    · rename_i e;cases c;subst e;exact ⟨Z.1,fun y=>let ⟨cur,hc⟩:=Z.2 y;⟨b,f,x,cur,hc⟩⟩
    · rename_i e;have z:∀p,σ j=some p→W.heap[p.1]? =w.heap[p.1]? :=fun p hp=>hO.block _ fun S=>e (m.ap j i t ob p _ c X hp B S);refine ⟨fun y=> ?_,fun y=> ?_⟩
      · obtain ⟨E,ps,u,I,h3⟩:=(m.mr j t c).1 y;exact ⟨E,ps,u,I.block (z _ u),h3⟩
      · obtain ⟨E,f1,x1,cur,Y⟩:=(m.mr j t c).2 y;exact ⟨E,f1,x1,cur,Y.keep (z _ Y.at')⟩
  · obtain ⟨R,u⟩:=n j t h;obtain ⟨o2,I⟩:=n l ol hl;exact m.ap j l R o2 O pl u I q J S
  · obtain ⟨R,u⟩:=n j t h;exact m.own j R O u q
end
end Go.Eng
namespace Go.Eng
open Go.RowKit
theorem qrt {α:Type} {C vs:List α} {f m o:Nat} (j:o+vs.length≤m) (c:f+m≤C.length):
    ((C.take (f+o)++vs++C.drop (f+o+vs.length)).drop f).take m=((C.drop f).take m).take o++vs++((C.drop f).take m).drop (o+vs.length):=by
  obtain ⟨A,D,rfl,rfl⟩:∃A D,C=A++D∧A.length=f:=⟨C.take f,C.drop f,by simp,by rw [List.length_take];omega⟩;have h:m≤D.length:=by rw [List.length_append] at c;omega
  have a:(A++D).take (A.length+o)=A++D.take o:=by rw [List.take_append,List.take_of_length_le (by omega),Nat.add_sub_cancel_left]
  have b:(A++D).drop (A.length+o+vs.length)=D.drop (o+vs.length):=by
    rw [List.drop_append,List.drop_eq_nil_of_le (by omega),List.nil_append,show A.length+o+vs.length - A.length=o+vs.length by omega]
  have l1:(D.take o).length=o:=by rw [List.length_take];omega
  rw [a,b,List.drop_left,List.append_assoc,List.append_assoc,List.drop_left,List.take_append,List.take_of_length_le (l:=D.take o) (by omega),l1,List.take_append,List.take_of_length_le (l:=vs) (by omega),
    List.take_take,Nat.min_eq_left (by omega),List.append_assoc,List.drop_take,Nat.sub_sub]
section
variable {P:Program} {Q:Ks} {K:qa→World→Prop} {ρ:qa} {w w0:World} {σ:Sg} {e:Tr Value} {s s':Sx} {k:Option Nat} {d:Option Nat} {ty:TypeId} {v:Value}
def Kn (σ:Sg) (w0:World) (s':Sx) (v:Value) (d:Option Nat) (K:qa→World→Prop) (ρ:qa):Prop:=∀τ v' W,σ.le τ→Iv τ w0 s' W→VR τ v v'→K (qk ρ d v') W
theorem qkI {p:Option (Nat×Sx)} (h:qc8 p=some (v,s')):∃i,p=some (i,s')∧v= .pointer (some ⟨i,0,none⟩):=by
  unfold qc8 at h;split at h
  · cases h;exact ⟨_,rfl,rfl⟩
  · cases h
theorem qfG {n:Nat} {p:Option (Nat×Sx)} (h:qbt n p=some (v,s')):∃i,p=some (i,s')∧v= .slice (some ⟨i,0,none⟩) n n:=by
  unfold qbt at h;split at h
  · cases h;exact ⟨_,rfl,rfl⟩
  · cases h
theorem yL {a:Sg} {i b:Nat} (h:a i=some (b,0,0)):VR a (.pointer (some ⟨i,0,none⟩)) (.pointer (some ⟨b,0,none⟩)):= .ptr (o:=0) h
theorem qjR {a:Sg} {i b n:Nat} (h:a i=some (b,0,0)):VR a (.slice (some ⟨i,0,none⟩) n n) (.slice (some ⟨b,0,none⟩) n n):= .slc (o:=0) h (Nat.le_refl _)
theorem qBl (y:Iv σ w0 s w) (n:ER σ e ρ) {t:TypeId} {x:Operand} (h:qhQ e s k t x=some (v,s')) (c:Kn σ w0 s' v d K ρ):qm P Q d (.box t x) ty K ρ w:=by
  unfold qhQ at h;split at h
  · rename_i u l;obtain ⟨i,C,rfl⟩:=qkI h;refine vY fun B W b j m _=> ?_;obtain ⟨q,z,A,a⟩:=qeu y C (qaW (vU n l)) (by decide) j b (by simpa using m) (by simp);exact c q _ W z a (yL A)
  · cases h
theorem qvF (q:Iv σ w0 s w) {t:TypeId} (h:qhT P s k t=some (v,s')) (c:Kn σ w0 s' v d K ρ):qm P Q d (.alloc t) ty K ρ w:=by
  unfold qhT at h;split at h
  · rename_i z l;obtain ⟨u,h⟩:=qZ h;obtain ⟨i,A,rfl⟩:=qkI h;refine qK l fun B W b j m _=> ?_;obtain ⟨n,x,y,a⟩:=qeu q A (Qs u) (by decide) j b (by simpa using m) (by simp);exact c n _ W x a (yL y)
  · cases h
theorem qsD (J:Iv σ w0 s w) {i o b f x:Nat} {vs a:List Value} (O:ql σ vs a) (h1:∀u∈a,u.oneCell=true) (n:σ i=some (b,f,x)) (h:qff s i o vs=some (v,s')) {K:World→Prop} (X:v=undef→∀W,Iv σ w0 s' W→K W):kS ⟨b,f+o,none⟩ a 0 K w:=by
  unfold qff at h;split at h
  · rename_i ob y;obtain ⟨E,h⟩:=qZ h;cases h;simp only [Bool.and_eq_true,Nat.ble_eq,Bool.not_eq_true',Nat.add_eq] at E;obtain ⟨⟨h2,R⟩,B⟩:=E;have I:ob.sz≠0:=fun e=>by rw [e] at B;cases B
    obtain ⟨b1,f1,x1,cur,j⟩:=(J.mr i ob y).2 I;have q:=j.at';rw [n] at q;cases q;have t:=O.len;have z:=j.room;refine qfe _ _ _ ?_;refine qbh _ _ w cur ⟨j.heap⟩ (by omega) h1 fun W Z S=>X rfl W ?_;have l:(cur.toList.take (f+o)++a++cur.toList.drop (f+o+a.length)).toArray.size=cur.size:=by simp;omega
    have c:(qfT ob.cells o vs).length=ob.cells.length:=by simp [qfT];omega
    refine qif J y (kK R) n Z ⟨fun e=>absurd e I,fun _=>⟨_,n,S.heap, ?_, ?_,fun A=> ?_, ?_,fun Y=> ?_⟩⟩
    · rw [c];have:=qrt (C:=cur.toList) (vs:=a) (f:=f) (m:=ob.cells.length) (o:=o) (by omega) (by simp;omega);simp only [Nat.add_zero];rw [this];rw [←t];exact ((j.cs.take o).app O).app (j.cs.drop _)
    · simp only [Nat.add_zero];rw [l,c];exact j.room
    · simp only [Nat.add_zero];rw [l];rw [c];exact j.whole A
    · intro A;rw [c];exact j.most A
    · simp only [Nat.add_zero];rw [l,c];exact j.exact Y
  · cases h
theorem qsC (A:Iv σ w0 s w) (m:ER σ e ρ) {t:TypeId} {p x:Operand} (h:qhF P e s t p x=some (v,s')) (n:Kn σ w0 s' v d K ρ):qm P Q d (.store t p x) ty K ρ w:=by
  unfold qhF at h;split at h
  · rename_i i o u B y;obtain ⟨c,h⟩:=qZ h;simp only [Bool.and_eq_true] at c;have b:=vU m B;have a:=vU m y;show jo P t (qd ρ x).cells.size=true∧yn (qd ρ p) _;rw [qie a];refine ⟨c.1, ?_⟩;generalize qd ρ p=q at b;cases b with
    |pln z=>cases z
    |ptr l=>exact qsD A (qaW a) (qga (qaW a) c.2) l h fun C W j=>by subst C;exact n σ _ W (Sg.le_refl σ) j Q3
  · cases h
theorem qlg (a:ER σ e ρ) {l:Array Operand} {vs:List Value} (h:yM e l.toList=some vs):vs.toArray.size=(l.map (qd ρ)).size∧∀(i:Nat) (x y:Value),vs.toArray[i]? =some x→(l.map (qd ρ))[i]? =some y→VR σ x y:=
  ql.arr (by simpa using qf8 a h)
theorem qzv (n:Iv σ w0 s w) (c:ER σ e ρ) {fn:Fn} {fs cs:Array Operand} (h:qhN e s fn fs.toList cs.toList=some (v,s')) (t:Kn σ w0 s' v d K ρ):qm P Q d (.makeFunc fn fs cs) ty K ρ w:=by
  unfold qhN at h;split at h
  · rename_i a b l q;cases h;obtain ⟨x,u⟩:=qlg c l;obtain ⟨j,m⟩:=qlg c q;exact t σ _ w (Sg.le_refl σ) n (.fnc x u j m)
  · cases h
def QW (σ:Sg):List (Nat×Value)→List (Nat×Value)→Prop
  |[],[]=>True
  |a::l,b::m=>(a.1=b.1∧VR σ a.2 b.2)∧QW σ l m
  |_,_=>False
theorem qfZ (b:ER σ e ρ):∀{l:List (Nat×Operand)} {vs:List (Nat×Value)},qbI e l=some vs→QW σ vs (l.map fun p=>(p.1,qd ρ p.2))
  |[],vs,h=>by cases h;trivial
  |(k,x)::l,vs,h=>by
    unfold qbI at h;split at h
    · rename_i u j c a;cases h;exact ⟨⟨rfl,vU b c⟩,qfZ b a⟩
    · cases h
theorem qj4:∀{vs c:List Value} {o off:Nat} {cs ds:Array Value},ql σ vs c→ql σ cs.toList ds.toList→
    ql σ ((vs.zipIdx o).foldl (fun (cs:Array Value) (x:Value×Nat)=>cs.setIfInBounds (off+x.2) x.1) cs).toList ((c.zipIdx o).foldl (fun (cs:Array Value) (x:Value×Nat)=>cs.setIfInBounds (off+x.2) x.1) ds).toList
  |[],[],_,_,_,_,_,h=>h
  |a::l,b::m,o,off,cs,ds,j,h=>by
    simp only [List.zipIdx_cons,List.foldl_cons];exact qj4 j.2 (by simp only [Array.toList_setIfInBounds];exact h.set j.1 _)
theorem qhq {c : Nat → Option (Nat × Nat)} : ∀ {l x : List (Nat × Value)} {cs ds t : Array Value}, QW σ l x → ql σ cs.toList ds.toList → Instr.fill c cs l = some t → ∃ q, Instr.fill c ds x = some q ∧ ql σ t.toList q.toList
  |[],[],cs,ds,t,_,h,n=>by simp only [Instr.fill] at n⊢;cases n;exact ⟨_,rfl,h⟩
  | (i, a) :: l, (j, b) :: m, cs, ds, t, u, h, n => by
    obtain ⟨⟨rfl,y⟩,u⟩:=u;simp only [Instr.fill] at n⊢;split at n
    · cases n
    · rename_i off size A;split at n
      · cases n
      · rename_i E;have z:=qie y;have B:ds.size=cs.size:=by have:=h.len;simpa using this.symm
        have C:=qj4 (o:=0) (off:=off) (qaW y) h;rw [if_neg (by rw [z,B];exact E)];refine qhq u ?_ n;rw [←Array.foldl_toList,←Array.foldl_toList];simpa using C
theorem qAX {t:TypeId} {l q:List (Nat×Value)} {cs:Array Value} (m:∀b z,P.info? t=some b→b.zero=some z→z.cells.toList.all zF=true) (u:QW σ l q) (h:P.built t l=some cs):∃cs',P.built t q=some cs'∧ql σ cs.toList cs'.toList:=by
  unfold Program.built at h⊢;split at h
  · rename_i b n A hit j;split at h
    · rename_i z B a x;exact qhq u (Qs (m b z hit a)) h
    · cases h
  · rename_i b fields hit j;split at h
    · rename_i z c a y;exact qhq u (Qs (m b z hit a)) h
    · cases h
  · cases h
theorem qly (A:Iv σ w0 s w) (z:ER σ e ρ) {mx:Bool} {a b:Operand} {t:TypeId} {u:Array TypeId} (m:mx=true→u= #[t,t]) (h:qd9 e s mx a b=some (v,s')) (q:Kn σ w0 s' v d K ρ):qm P Q d (.call {callee:= .builtin (if mx then .max else .min),args:= #[a,b],argTypes:=u}) ty K ρ w:=by
  unfold qd9 at h;split at h
  · rename_i k1 x k2 y C E;have l:k1=k2:=by
      cases l:(k1==k2) with
      |false=>rw [l] at h;cases h
      |true=>simpa using l
    subst l;rw [show (k1==k1)=true by simp] at h;cases h;have B:=vU z C;have n:=vU z E;generalize c:qd ρ a=J at B;generalize j:qd ρ b=I at n;cases B;cases n;cases mx with
    |true=>
      obtain rfl:=m rfl;exact qhy c j (q σ _ w (Sg.le_refl σ) A (.pln rfl))
    |false=>
      show jV P Q d _ ty K ρ w;refine jk (v:= .int k1 (if y<x then y else x)) (w':=w) ?_ (q σ _ w (Sg.le_refl σ) A (.pln rfl));simp [execOp,qA,resolve,invoke,builtin,c,j,Builtin.min_,Builtin.min2]
  · cases h
theorem qA0 (x:Iv σ w0 s w) (u:ER σ e ρ) {t:TypeId} {ps:Array (Nat×Operand)} (h:qhP P e s t ps.toList=some (v,s')) (q:Kn σ w0 s' v d K ρ):qm P Q d (.build t ps) ty K ρ w:=by
  unfold qhP at h;split at h
  · rename_i l y;obtain ⟨j,h⟩:=qZ h;split at h
    · rename_i cs b;cases h;have A:=qfZ u y;obtain ⟨cs',c,a⟩:=qAX (fun B z c a=>by unfold qiG at j;simpa only [c,a] using j) A b;show jF (P.built t (ps.map fun p=>(p.1,qd ρ p.2)).toList) _;rw [Array.toList_map,c];obtain ⟨m,n⟩:=ql.arr a;exact q σ _ w (Sg.le_refl σ) x (.agg m n)
    · cases h
  · cases h
theorem qkJ:∀{l m:List (Nat×Value)},QW σ l m→l.map (·.1)=m.map (·.1)
  |[],[],_=>rfl
  |_::_,_::_,h=>by simp only [List.map_cons];rw [h.1.1,qkJ h.2]
theorem qkM {sz:Nat}:∀{l m:List (Nat×Value)},QW σ l m→(l.all fun p=>p.2.cells.size==sz)=true→∀p∈m,p.2.cells.size=sz
  |[],[],_,_,p,c=>by simp at c
  |a::l,b::m,h,j,p,c=>by
    simp only [List.all_cons,Bool.and_eq_true,beq_iff_eq] at j;rcases List.mem_cons.1 c with rfl|c
    · rw [qie h.1.2];exact j.1
    · exact qkM h.2 j.2 p c
theorem qkL:∀{l m:List (Nat×Value)},QW σ l m→ql σ (l.flatMap fun p=>p.2.cells.toList) (m.flatMap fun p=>p.2.cells.toList)
  |[],[],_=>trivial
  |_::_,_::_,h=>(qaW h.1.2).app (qkL h.2)
theorem qkK {sz:Nat}:∀{l:List (Nat×Value)},(l.all fun p=>p.2.cells.size==sz)=true→(l.flatMap fun p=>p.2.cells.toList).length=l.length*sz
  |[],_=>by simp
  |a::l,b=>by
    simp only [List.all_cons,Bool.and_eq_true,beq_iff_eq] at b;rw [List.flatMap_cons,List.length_append,qkK b.2,Array.length_toList,b.1,List.length_cons,Nat.succ_mul];omega
theorem qv8 (X:Iv σ w0 s w) (O:ER σ e ρ) {t:TypeId} {n:Nat} {ps:Array (Nat×Operand)} (h:qhM P e s k t n ps.toList=some (v,s')) (C:Kn σ w0 s' v d K ρ):qm P Q d (.buildSlice t n ps) ty K ρ w:=by
  unfold qhM at h;split at h
  · rename_i l t1 sz Y m;obtain ⟨y,h⟩:=qZ h;simp only [Bool.and_eq_true,Nat.ble_eq,beq_iff_eq] at y;obtain ⟨⟨⟨z,x⟩,u⟩,h4⟩:=y;obtain ⟨i,I,rfl⟩:=qfG h;have q:=qfZ O Y;have S:=qkJ q;have a:l.length=n:=by have:=congrArg List.length x;simpa using this
    refine xc m z ?_ ?_ fun B W A E J _=> ?_
    · rw [←x,S,List.map_map];rfl
    · intro p b;exact qkM q u (p.1,qd ρ p.2) (List.mem_map.2 ⟨p,b,rfl⟩)
    · obtain ⟨R,c,Z,j⟩:=qeu (cs':=ps.toList.flatMap fun p=>(qd ρ p.2).cells.toList) X I (by have:=qkL q;rwa [List.flatMap_map] at this) (by omega) E A J fun _=>⟨n,by rw [qkK u,a],Nat.le_trans (Nat.le_trans (Nat.le_mul_of_pos_right n (by omega)) z) (by decide)⟩;exact C R _ W c j (qjR Z)
  · cases h
theorem qkq {a:Addr}:∀{n i:Nat} {l:List Value},jq w a i n=some l→∀j (h:j<l.length),w.cell? (a.add (i+j))=some l[j]
  |0,i,l,h,j,b=>by simp only [jq,Option.some.injEq] at h;subst h;simp at b
  | n + 1, i, l, h, j, b => by
    simp only [jq,Option.bind_eq_some_iff,Option.map_eq_some_iff] at h;obtain ⟨u,m,r,c,h⟩:=h;cases h;cases j with
    |zero=>exact m
    |succ j=>
      have:=qkq c j (by simpa using b);rw [show i+(j+1)=i+1+j by omega];exact this
theorem qbk (A : Iv σ w0 s w) {sz : Nat} {v u : Value} (t : VR σ v u) {l : List Value} (h : yF s.H sz v = some l) : ∃ b, Cells w u sz b ∧ ql σ l b := by
  unfold yF at h;split at h
  · cases h;cases t with
    |pln _=>exact ⟨[],⟨rfl,by simp [qh],fun j m=>by simp at m⟩,trivial⟩
  · rename_i a n c;cases t with
    |pln z=>cases z
    |slc y C=>
      obtain ⟨b,B,q,x⟩:=qfF A.mr y h;refine ⟨b,⟨by simp [qt];omega, ?_,fun j m=> ?_⟩,q⟩
      · rw [←q.len,x];rfl
      · have:=qkq B j m;rw [Nat.zero_add,xp] at this;exact this
  · cases h
theorem qvm:∀{l m:List Value},ql σ l m→l.all wP=true→∀v∈m,v.oneCell'=true:=fun h a v b=>by
  have:=qga h a v b;cases v<;>first|rfl|(exfalso;simp [Value.oneCell] at this)
theorem get_del {H:vd} {i:Nat} (h:i<vf) {j:Nat} {o:Ob} (a:(H.del i).get j=some o):j≠i∧H.get j=some o:=by
  rw [Tr.get_del _ h] at a;split at a
  · cases a
  · rename_i e;exact ⟨e,a⟩
theorem qzW {t e sz bytes:Nat} (C:kF P t=some (e,sz,bytes)) {base:Nat} (b:base≤w.heap.size) {s x:Operand} {sv xv:Value} (y:qd ρ s=sv) (B:qd ρ x=xv) {xs news:List Value}
    (j:Own base e sz w sv xs) (l:Cells w xv sz news) (n:∀u∈news,u.oneCell'=true)
    (m:xs.length+news.length<4611686018427387904) (a:(xs.length+news.length)*bytes≤140737488355328*sz)
    (h:∀c W,Own base e sz W c (xs++news)→w.grownBy W sv.ownBlock→(c.ownBlock=sv.ownBlock∨c.ownBlock=some w.heap.size)→K (qk ρ d c) W):qm P Q d (.call {callee:= .builtin .append,args:= #[s,x],argTypes:= #[t,t]}) ty K ρ w:=by
  obtain ⟨c,W,n,A,q,z⟩:=qcY (ty:=ty) C j l n m a b;refine jk (v:=c) (w':=W) ?_ (h c W A q z);simp [execOp,qA,resolve,invoke,builtin,y,B,n]
theorem qAe (hI : Iv σ w0 s w) {t : TypeId} {sz : Nat} (C : sz ≠ 0) {v J : Value} {H : vd} (hv : VR σ v J) (h : qh3 s.H t sz v = some H) {xs m : List Value} (hx : yF s.H sz v = some xs) (S : Cells w J sz m) (hvs : ql σ xs m) :
    Own w0.heap.size t sz w J m∧(∀j o,H.get j=some o→s.H.get j=some o)∧(∀j o p,H.get j=some o→σ j=some p→some p.1≠J.ownBlock):=by
  unfold qh3 at h;split at h
  · rename_i a n c;split at h
    · rename_i ob z;obtain ⟨hb,h⟩:=qZ h;cases h;simp only [Bool.and_eq_true,beq_iff_eq,Bool.not_eq_true',Nat.ble_eq] at hb;obtain ⟨⟨⟨⟨h1,R⟩,h3⟩,I⟩,X⟩:=hb;have I:=kK I;cases hv with
      |pln h'=>cases h'
      | slc O hn =>
        rename_i i b f x o hq;obtain ⟨b1,f1,x1,cur,A⟩:=(hI.mr i ob z).2 (by rw [R];exact C);have E:=A.at';rw [O] at E;cases E;have y:=A.room;rw [R] at y;obtain ⟨n0,Z,hm0⟩:=A.most h3;rw [R] at Z;have u:=S.len;have hcn:c≤n0:=by
          have:c*sz≤n0*sz:=by dsimp only at X;omega
          exact Nat.le_of_mul_le_mul_right this (Nat.pos_of_ne_zero C)
        refine ⟨.inr ⟨b,f+o,n,c+x,cur,rfl,hI.own i ob _ z O,by rw [←h1];exact A.heap,u,by omega,by omega, ?_, ?_⟩,fun j oj B=>(get_del I B).2,fun j oj p B hp he=> ?_⟩
        · dsimp only at X;rw [Nat.add_mul];omega
        · have hxl:m.length=n*sz:=u;dsimp only at X;have hnc:n*sz≤c*sz:=Nat.mul_le_mul_right _ hn;refine List.ext_getElem? fun j=> ?_;by_cases B:j<n*sz
          · have q:=S.cell j (by omega);simp only [qM,World.cell?,A.heap] at q;rw [List.getElem?_take_of_lt B,List.getElem?_drop,List.getElem?_eq_getElem (l:=m) (by omega)];simpa using q
          · rw [List.getElem?_eq_none (by simp;omega),List.getElem?_eq_none (by omega)]
        · obtain ⟨Y,W⟩:=get_del I B;refine Y (hI.ap j i oj ob p _ W z hp O ?_);simpa [Value.ownBlock] using he
    · cases h
  · cases h;cases hv with
    |pln _=>
      have:m=[]:=List.length_eq_zero_iff.1 (by rw [S.len];simp [qh]);subst this;exact ⟨Own.nil _ _ _ _,fun _ _ h=>h,fun _ _ _ _ _=>by simp [Value.ownBlock]⟩
  · cases h
theorem qBw (m : Iv σ w0 s w) (he : ER σ e ρ) {t : TypeId} {a b : Operand} (h : qhS P e s k t a b = some (v, s')) (hK : Kn σ w0 s' v d K ρ) : qm P Q d (.call { callee := .builtin .append, args := #[a, b], argTypes := #[t, t] }) ty K ρ w := by
  unfold qhS at h;split at h
  · rename_i t1 sz bytes av bv hri ha hb;split at h
    · rename_i xs ys hxs hys;unfold qqS at h;obtain ⟨hc,h⟩:=qZ h;simp only [Bool.and_eq_true,Nat.ble_eq,Nat.blt_eq] at hc;obtain ⟨⟨⟨⟨h1,h2⟩,h3⟩,h4⟩,h5⟩:=hc;split at h
      · rename_i H hH;obtain ⟨i,h6,rfl⟩:=qfG h;have Z:=vU he ha;have hvb:=vU he hb;obtain ⟨xs',hcx,J⟩:=qbk m Z hxs;obtain ⟨ys',hcy,S⟩:=qbk m hvb hys;obtain ⟨I,u,hne⟩:=qAe m (by omega) Z hH hxs hcx J;have lx:=J.len;have ly:=S.len;refine qzW hri m.ext.size rfl rfl I hcy (qvm S h4) (by omega) (by rw [←lx,←ly];exact h3) fun v' W ho Y hr=> ?_;have X:Iv σ w0 ⟨H,s.nx,s.rs⟩ w:=⟨m.mr.keep u fun _ _ _ _ _=>rfl,m.dom,m.res,fun j l oj ol pj pl A hl=>m.ap j l oj ol pj pl (u j oj A) (u l ol hl),m.ext,fun j o p A=>m.own j o p (u j o A)⟩;rcases ho with ⟨_,hnil⟩|⟨g,off,y,cap,cur,rfl,hgb,hgh,hl,hnc,hcm,hroom,R⟩
        · have:=congrArg List.length hnil;rw [List.length_append,List.length_nil] at this;omega
        · have B:xs.length+ys.length=y*sz:=by rw [List.length_append] at hl;omega
          have hn':(xs.length+ys.length) / sz=y:=by rw [B,Nat.mul_div_cancel _ (by omega)]
          rw [hn'] at hK;have C:∀j o p,H.get j=some o→σ j=some p→p.1<w.heap.size:=fun j o p A O=>by
            obtain ⟨q,hq,C⟩:=X.mr.at' A;rw [O] at hq;cases hq;exact C
          have hW:MR σ H W:=X.mr.keep (fun _ _ h=>h) fun j o p A O=>Y.block _ (C j o p A O) (hne j o p A O);have hE:qc w0 W:=⟨Y.os.trans m.ext.os,Y.tape.trans m.ext.tape,Y.output.trans m.ext.output,Nat.le_trans m.ext.size Y.size,fun q hq=>by
            refine (Y.block q (Nat.lt_of_lt_of_le hq m.ext.size) fun e=> ?_).trans (m.ext.block q hq);have:=(I.blk q e.symm).1;omega⟩
          have hro:∀E:Sg,σ.le E→E i=some (g,off,cap - y)→RO E W i ⟨xs++ys,t1,sz,false,false⟩ g off (cap - y) cur:=fun E z hi=>by
            refine ⟨hi,hgh, ?_, ?_,(fun hw=>by cases hw),fun _=>⟨y,by rw [List.length_append];exact B,by omega⟩,(fun hx=>by cases hx)⟩
            · rw [List.length_append,B,R];exact (J.app S).mono z
            · rw [List.length_append,B];have:y*sz+(cap - y)*sz=cap*sz:=by rw [←Nat.add_mul];congr 1;omega
              dsimp only;omega
          obtain ⟨E,z,hi,hI'⟩:=qdo X h6 (b:=g) (f:=off) (x:=cap - y) (W:=W) hW hE hgb (fun j oj pj A O e=>by
            rcases hr with hr|hr
            · exact hne j oj pj A O (by rw [←hr,e];rfl)
            · have:=C j oj pj A O;simp [Value.ownBlock] at hr;omega) fun E z hi=>⟨fun hz=>absurd hz (by dsimp only;omega),fun _=>⟨cur,hro E z hi⟩⟩
          refine hK E _ W z hI' ?_;have:=VR.slc (σ:=E) (o:=0) (n:=y) (c:=y) hi (Nat.le_refl _)
          rwa [show y+(cap - y)=cap by omega] at this
      · cases h
    · cases h
  · cases h
theorem qvR (hI:Iv σ w0 s w) (S:ER σ e ρ) {t:TypeId} {x y:Operand} (h:qhK P e s k t x y=some (v,s')) (hK:Kn σ w0 s' v d K ρ):qm P Q d (.makeSlice t x y) ty K ρ w:=by
  unfold qhK at h;split at h
  · rename_i t1 z bytes kx n ky m q hx hy
    replace h:=qZ h
    obtain ⟨J,Y⟩:=h;simp only [Bool.and_eq_true,Nat.ble_eq,beq_iff_eq,decide_eq_true_eq] at J;obtain ⟨⟨⟨⟨⟨⟨I,j⟩,h3⟩,X⟩,h5⟩,h6⟩,l⟩:=J;subst I;obtain ⟨i,h8,rfl⟩:=qfG Y;have a:=vU S hx;have b:=vU S hy;generalize c:qd ρ x=q1 at a;generalize A:qd ρ y=q2 at b;cases a;cases b;have R:((n.toNat:Nat):Int)=n:=Int.toNat_of_nonneg j;have O:bytes*n.toNat≤1000*100000:=Nat.mul_le_mul X (by omega);refine qzS (n:=n.toNat) (kl:=kx) (kc:=ky) q (by rw [c,R]) (by rw [A,R]) (by omega) (by omega) (fun i z I j=> ?_) fun B W Z hE O=> ?_
    · rw [I] at l;simp only [j,beq_iff_eq] at l;exact l
    · obtain ⟨τ,C,hi,E⟩:=qeu (cs':=List.replicate n.toNat z) hI h8 (Qs (by rw [List.all_eq_true];intro u hu;rw [(List.mem_replicate.1 hu).2];exact h5)) (by decide) hE Z O fun _=>⟨n.toNat,by simp,Nat.le_trans (show n.toNat≤100000 by omega) (by decide)⟩;exact hK τ _ W C E (qjR hi)
  · cases h
theorem qvQ (l : Iv σ w0 s w) {t : TypeId} {r : Option Operand} (h : qhJ s k (r.map fun _ => 0) = some (v, s')) (C : Kn σ w0 s' v d K ρ) : qm P Q d (.makeMap t r) ty K ρ w := by
  cases r with
  |some _=>cases h
  |none=>
    unfold qhJ at h;dsimp only [Option.map_none] at h;split at h
    · rename_i i R O;cases h;refine qhA fun B W A u J _=> ?_;obtain ⟨y,c,q,m⟩:=qdo l O (b:=B) (f:=0) (x:=0) (l.mr.ext u) (l.ext.trans' u) (Nat.le_trans l.ext.size A) (fun j Y S z n X=>by
        obtain ⟨p,a,E⟩:=l.mr.at' z;rw [n] at a;cases a;omega) fun y c q=>⟨fun _=>⟨B,[],q,J,rfl,fun p n=>by simp at n⟩,fun I=>absurd rfl I⟩
      exact C y _ W c m (.mp q)
    · cases h
theorem Qi {a b:ByteArray}:kC a b=true↔a=b:=by
  unfold kC;rw [beq_iff_eq];constructor
  · intro h;have j:a.data.toList=b.data.toList:=List.map_inj_right (fun x y c=>UInt8.toNat_inj.1 c)|>.1 h
    cases a;cases b;congr 1;exact Array.toList_inj.1 j
  · rintro rfl;rfl
theorem qlD (b:ByteArray):∀ps:List (ByteArray×Value),qds (Qt ps) b=jN ps b
  |[]=>rfl
  | p :: ps => by
    rw [xl];show (bif kC p.1 b then some p.2 else qds (Qt ps) b)=_;by_cases a:p.1=b
    · rw [if_pos a,Qi.2 a];rfl
    · rw [if_neg a,←qlD b ps];cases c:kC p.1 b with
      |true=>exact absurd (Qi.1 c) a
      |false=>rfl
theorem qkF (b:ByteArray) (x:Value):∀ps:List (ByteArray×Value),qdq (Qt ps) b x=Qt (jX ps b x)
  |[]=>rfl
  | p :: ps => by
    show (bif kC p.1 b then .string b::x::Qt ps else .string p.1::p.2::qdq (Qt ps) b x)=_;unfold jX;by_cases a:p.1=b
    · rw [if_pos a,Qi.2 a];rfl
    · rw [if_neg a,qkF b x ps];cases c:kC p.1 b with
      |true=>exact absurd (Qi.1 c) a
      |false=>rfl
theorem qj3 {b : ByteArray} {x : Value} : ∀ {ps : List (ByteArray × Value)} {p : ByteArray × Value}, p ∈ jX ps b x → p ∈ ps ∨ p.2 = x
  |[],p,h=>by simp [jX] at h;exact .inr (by rw [h])
  | q :: ps, p, h => by
    unfold jX at h;split at h
    · rcases List.mem_cons.1 h with rfl|h
      · exact .inr rfl
      · exact .inl (List.mem_cons_of_mem _ h)
    · rcases List.mem_cons.1 h with rfl|h
      · exact .inl (by simp)
      · rcases qj3 h with h|h
        · exact .inl (List.mem_cons_of_mem _ h)
        · exact .inr h
theorem qvW {b:ByteArray} {x:Value} {ps:List (ByteArray×Value)} (h:jN ps b=some x):∃p∈ps,p.2=x:=by
  unfold jN at h;simp only [Option.map_eq_some_iff] at h;obtain ⟨p,a,rfl⟩:=h;exact ⟨p,List.mem_of_find?_eq_some a,rfl⟩
theorem qvU (O : Iv σ w0 s w) (J : ER σ e ρ) {t : TypeId} {m x : Operand} (h : qhL P e s t m x = some (v, s')) (I : Kn σ w0 s' v d K ρ) : qm P Q d (.lookup t m x false) ty K ρ w := by
  unfold qhL at h;split at h
  · rename_i i b kt et hm Y q;split at h
    · rename_i ob z C n Z;obtain ⟨l,h⟩:=qZ h;cases h;simp only [Bool.and_eq_true] at l;have A:=Nat.eq_of_beq_eq_true l.1;obtain ⟨B,ps,W,X,R,S⟩:=(O.mr i ob C).1 A;have a:=vU J hm;have c:=vU J Y;generalize j:qd ρ m=q1 at a;generalize y:qd ρ x=q2 at c;cases a with
      |pln h'=>cases h'
      |mp E=>
        rw [W] at E;cases E;cases c;refine qhB q n Z j y X false ?_;rw [R,qlD] at I;refine I σ _ w (Sg.le_refl σ) O (.pln ?_);cases hl:jN ps b with
        |none=>exact l.2
        |some u=>
          obtain ⟨p,hp,rfl⟩:=qvW hl;exact S p hp
    · cases h
  · cases h
theorem qry (S : Iv σ w0 s w) (J : ER σ e ρ) {t : TypeId} {m x y : Operand} (h : qhD P e s t m x y = some (v, s')) (hK : Kn σ w0 s' v d K ρ) : qm P Q d (.mapUpdate t m x y) ty K ρ w := by
  unfold qhD at h;split at h
  · rename_i i b u hm hx hy;split at h
    · rename_i kt et E;split at h
      · rename_i ob n C;obtain ⟨c,h⟩:=qZ h;cases h;simp only [Bool.and_eq_true] at c;have l:=Nat.eq_of_beq_eq_true c.1.1;obtain ⟨B,ps,z,Z,X,Y⟩:=(S.mr i ob n).1 l;have a:=vU J hm;have j:=vU J hx;have O:=vU J hy;generalize A:qd ρ m=q1 at a;generalize I:qd ρ x=q2 at j;cases a with
        |pln h'=>cases h'
        |mp R=>
          rw [z] at R;cases R;cases j;have hu:qd ρ y=u:=O.uniq (.pln c.1.2);refine qhz E C A I Z fun W hO hb=>hK σ _ W (Sg.le_refl σ) ?_ Q3;refine qif S n (kK c.2) z hO ⟨fun _=>⟨B,jX ps b u,z,by rw [←hu];exact hb, ?_,fun p q=> ?_⟩,fun hz=>absurd l hz⟩
          · rw [X,qkF]
          · rcases qj3 q with q|q
            · exact Y p q
            · rw [q];exact c.1.2
      · cases h
    · cases h
  · cases h
end
end Go.Eng
namespace Go.Eng
open Go.RowKit
def yv (P:Program) (pr:TypeId→Bool):Prop:=∀t,pr t=true→P.eqGuardType P.depth t=false∧∀(a b c d:Int) (w:World),(Op.equalIn 10000 t (.agg #[.int .i64 a, .int .i64 b]) (.agg #[.int .i64 c, .int .i64 d])).run P w= .ok (decide (a=c)&&decide (b=d)) w
section
variable {P:Program} {Q:Ks} {K:qa→World→Prop} {ρ:qa} {w w0:World} {σ:Sg} {e:Tr Value} {s s':Sx} {k:Option Nat} {d:Option Nat} {ty:TypeId} {v:Value} {pr:TypeId→Bool}
theorem qvE (A : Iv σ w0 s w) (z : ER σ e ρ) {op : BinOp} {t : TypeId} {x : Operand} (h : qhI P e s op t x = some (v, s')) (m : Kn σ w0 s' v d K ρ) : qm P Q d (.binOp op t x (.const (.slice none 0 0)) t) ty K ρ w := by
  unfold qhI at h;split at h
  · rename_i u n;split at h
    · rename_i b a;obtain ⟨c,h⟩:=qZ h;cases h;have l:=vU z n;unfold qjQ at c;split at c
      · rename_i E j;have key:qt (qd ρ x)=true∧qaE (qd ρ x)=b:=by
          generalize qd ρ x=q at l;unfold qlt at a;split at a
          · cases a;cases l with
            |pln y=>cases y
            |slc B C=>exact ⟨by simp [qt];omega,rfl⟩
          · cases a;cases l with
            |pln _=>exact ⟨rfl,rfl⟩
          · cases a
        refine qzV j key.1 ?_;rw [key.2];exact m σ _ w (Sg.le_refl σ) A (.pln rfl)
      · cases c
    · cases h
  · cases h
theorem yg {b:Bool} {u j:Value} (h:qcy b s u j=some (v,s')):∃a c c1 c2,u= .agg #[.int .i64 a, .int .i64 c]∧j= .agg #[.int .i64 c1, .int .i64 c2]∧v= .bool (if b then (decide (a=c1)&&decide (c=c2)) else !(decide (a=c1)&&decide (c=c2)))∧s'=s:=by
  unfold qcy at h;split at h
  · rename_i xs ys;split at h
    · rename_i a c c1 c2 m l;cases h;refine ⟨a,c,c1,c2,by rw [←Array.toList_inj.1 (show xs.toList=(#[.int .i64 a, .int .i64 c]:Array Value).toList from m)],by rw [←Array.toList_inj.1 (show ys.toList=(#[.int .i64 c1, .int .i64 c2]:Array Value).toList from l)], ?_,rfl⟩;cases b<;>rfl
    · cases h
  · cases h
theorem qcz {a b:Int} {q:Value} (h:VR σ (.agg #[.int .i64 a, .int .i64 b]) q):q= .agg #[.int .i64 a, .int .i64 b]:=h.uniq (wX (v:= .agg #[.int .i64 a, .int .i64 b]) rfl)
theorem qBo (A : yv P pr) (q : Iv σ w0 s w) (n : ER σ e ρ) {op : BinOp} {t u : TypeId} {x y : Operand} (h : qhR P pr e s op t u x y = some (v, s')) (l : Kn σ w0 s' v d K ρ) : qm P Q d (.binOp op t x y u) ty K ρ w := by
  unfold qhR at h;cases j:qgf y with
  |true=>
    rw [j] at h;obtain ⟨c,O⟩:=qZ (b:=t==u) h;have c:t=u:=by simpa using c
    subst c;have:y= .const (.slice none 0 0):=by
      unfold qgf at j;split at j
      · rfl
      · cases j
    subst this;exact qvE q n O l
  |false=>
    rw [j] at h
    replace h:qhE pr e s op t x y=some (v,s'):=h
    unfold qhE at h;split at h
    · rename_i a b S R;obtain ⟨J,h⟩:=qZ h;obtain ⟨C,B⟩:=A t J;have I:=vU n S;have E:=vU n R;split at h
      · obtain ⟨m,z,c1,c2,rfl,rfl,rfl,rfl⟩:=yg h;exact qzU (qcz I) (qcz E) C (B m z c1 c2 w) (l σ _ w (Sg.le_refl σ) q (.pln rfl))
      · obtain ⟨m,z,c1,c2,rfl,rfl,rfl,rfl⟩:=yg h;exact qhx (qcz I) (qcz E) C (B m z c1 c2 w) (l σ _ w (Sg.le_refl σ) q (.pln rfl))
      · cases h
    · cases h
theorem qch {α:Type} {xs:Array α} {a b:α} (h:xs.toList=[a,b]):xs= #[a,b]:=Array.toList_inj.1 h
theorem qAR (q:Iv σ w0 s w) (u:ER σ e ρ) {c:Call} (h:qhO P e s k c.callee c.args.toList c.argTypes.toList=some (v,s')) (z:Kn σ w0 s' v d K ρ):qm P Q d (.call c) ty K ρ w:=by
  obtain ⟨A,as,B⟩:=c;unfold qhO at h;split at h
  · rename_i a b t y l j n;obtain ⟨m,x⟩:=qZ h;have m:t=y:=by simpa using m
    subst m;dsimp only at l j n;subst l;rw [qch j,qch n];exact qBw q u x z
  · rename_i a b t y l j n;obtain ⟨m,x⟩:=qZ h;have m:t=y:=by simpa using m
    subst m;dsimp only at l j n;subst l;rw [qch j,qch n];exact qly (mx:=true) q u (fun _=>rfl) x z
  · rename_i a b l j;dsimp only at l j;subst l;rw [qch j];exact qly (mx:=false) (t:=0) q u (fun h=>by cases h) h z
  · cases h
theorem qzY (j:yv P pr) (a:Iv σ w0 s w) (c:ER σ e ρ) {op:Op} (h:qb9 P pr e s k op=some (v,s')) (b:Kn σ w0 s' v d K ρ):qm P Q d op ty K ρ w:=by
  unfold qb9 at h;split at h
  · exact qBl a c h b
  · exact qvF a h b
  · exact qsC a c h b
  · exact qzv a c h b
  · exact qA0 a c h b
  · exact qv8 a c h b
  · exact qAR a c h b
  · exact qvR a c h b
  · exact qvQ a h b
  · rename_i t m x ok;cases ok with
    |true=>cases h
    |false=>exact qvU a c h b
  · exact qry a c h b
  · exact qBo j a c h b
  · cases h
end
end Go.Eng
namespace Go.Eng
open Go.RowKit
theorem qir {f:Value→Value→Bool} (c:∀a b,f a b=true→a=b):∀{l m:List Value},zr.all2 f l m=true→l=m
  |[],[],_=>rfl
  |a::l,b::m,h=>by
    simp only [zr.all2,Bool.and_eq_true] at h;rw [c a b h.1,qir c h.2]
  |[],_::_,h=>by simp [zr.all2] at h
  |_::_,[],h=>by simp [zr.all2] at h
theorem qev {f:Value→Value→Bool} (c:∀a b,f a b=true→a=b) {a b:Array Value} (h:zr.all2 f a.toList b.toList=true):a=b:=Array.toList_inj.1 (qir c h)
theorem wD:∀(n:Nat) (a b:Value),zr n a b=true→a=b
  |0,_,_,h=>by simp [zr] at h
  | n + 1, a, b, h => by
    unfold zr at h;split at h
    · simpa using h
    · simpa using h
    · rw [Qi.1 h]
    · rfl
    · simpa using h
    · simpa using h
    · simpa [and_assoc] using h
    · simpa using h
    · rfl
    · rfl
    · simp only [Bool.and_eq_true,beq_iff_eq] at h;rw [h.1.1,qev (wD n) h.1.2,qev (wD n) h.2]
    · rw [qev (wD n) h]
    · rw [qev (wD n) h]
    · simp only [Bool.and_eq_true,beq_iff_eq] at h;rw [h.1,wD n _ _ h.2]
    · cases h
theorem qbN {a b:Ob} (h:Qw a b=true):a=b:=by
  unfold Qw at h;simp only [Bool.and_eq_true,beq_iff_eq] at h;cases a;cases b;simp only [Ob.mk.injEq];exact ⟨qir (wD 4) h.1.1.1.1,h.1.1.1.2,h.1.1.2,h.1.2,h.2⟩
theorem Tr.noneB_ok {α:Type}:∀{t:Tr α},t.noneB=true→∀k,t.get k=none
  | .lf,_,_=>rfl
  | .nd none l r,h,k=>by
    simp only [Tr.noneB,Bool.and_eq_true] at h;rw [Tr.get_nd,Tr.noneB_ok h.1,Tr.noneB_ok h.2];simp
  | .nd (some _) _ _,h,k=>by simp [Tr.noneB] at h
theorem Tr.eqB_ok {α:Type} {f:α→α→Bool} (c:∀a b,f a b=true→a=b):∀{t u:Tr α},t.eqB f u=true→∀k,t.get k=u.get k
  | .nd v l r, .nd u m q,h,k=>by
    simp only [Tr.eqB,Bool.and_eq_true] at h;rw [Tr.get_nd,Tr.get_nd,Tr.eqB_ok c h.1.2,Tr.eqB_ok c h.2];have:v=u:=by
      have:=h.1.1;unfold qlf at this;split at this
      · rfl
      · rw [c _ _ this]
      · cases this
    rw [this]
  | .lf,t,h,k=>by
    have j:t.noneB=true:=by cases t<;>exact h
    rw [Tr.noneB_ok j k];rfl
  | .nd v l r, .lf,h,k=>by
    have j:(Tr.nd v l r).noneB=true:=h;rw [Tr.noneB_ok j k];rfl
def vI (σ:Sg) (w0:World) (K:qa→World→Prop) (Q:Ks):Ou→Prop
  | .go e s=>∀τ ρ w,σ.le τ→Iv τ w0 s w→ER τ e ρ→K ρ w
  | .ex i e s=>∀τ ρ w,σ.le τ→Iv τ w0 s w→ER τ e ρ→Q.ex i ρ w
  | .rt e s=>∀τ ρ w,σ.le τ→Iv τ w0 s w→ER τ e ρ→Q.rt ρ w
  | .pn c s=>∀τ ρ w,σ.le τ→Iv τ w0 s w→Q.pn ρ c w
  | .ret _ _=>False
theorem vI.le {σ l:Sg} {w0:World} {K:qa→World→Prop} {Q:Ks} {o:Ou} (h:vI σ w0 K Q o) (j:σ.le l):vI l w0 K Q o:=by
  cases o with
  |go e s=>exact fun b ρ w a=>h b ρ w (Sg.le_trans j a)
  |ex i e s=>exact fun b ρ w a=>h b ρ w (Sg.le_trans j a)
  |rt e s=>exact fun b ρ w a=>h b ρ w (Sg.le_trans j a)
  |pn c s=>exact fun b ρ w a=>h b ρ w (Sg.le_trans j a)
  |ret v s=>exact h
def vN (σ:Sg) (w0:World):Ou→Ending→World→Prop
  | .ret v s=>fun e w=>∃τ v',σ.le τ∧Iv τ w0 s w∧VR τ v v'∧e= .returned v'
  | .pn c s=>fun e w=>∃τ,σ.le τ∧Iv τ w0 s w∧e= .panicked c
  |_=>fun _ _=>False
def Qn (Q:Ks):Prop:=∀ρ ρ' c w,Q.pn ρ c w→Q.pn ρ' c w
def ku (σ:Sg) (L:List Fa) (w:World):Prop:=∀f∈L,∀a',VR σ f.a a'→∃v',qJ w f.k a'=some v'∧VR σ f.v v'
def Grd (σ:Sg) (L:List Fa):Prop:=∀f∈L,(∃a',VR σ f.a a')∧∃v',VR σ f.v v'
structure Sound (P:Program) (G0:World→Prop) (r:Sx→Tk→Option Ou):Prop where
  ir:∀F a e s o,r s (.ir F a e)=some o→∀(σ:Sg) (w0:World) (ρ:qa) (w:World) (K:qa→World→Prop) (Q:Ks),G0 w0→Iv σ w0 s w→ER σ e ρ→Qn Q→vI σ w0 K Q o→a.wp ⟨P,F.nt,F.V,[]⟩ K Q ρ w
  sts:∀l e s o,r s (.sts l e)=some o→∀(σ:Sg) (w0:World) (ρ:qa) (w:World) (K:qa→World→Prop) (Q:Ks),G0 w0→Iv σ w0 s w→ER σ e ρ→Qn Q→vI σ w0 K Q o→qQ P Q l K ρ w
  ord:∀L bs t e s o,r s (.ord L bs t e)=some o→∀(σ0 σ:Sg) (w0:World) (ρ:qa) (w:World) (K:qa→World→Prop) (Q:Ks) (S:World→Prop),G0 w0→Iv σ w0 s w→ER σ e ρ→Qn Q→vI σ w0 K Q o→σ0.le σ→
    (∀l,L=some l→Grd σ0 l∧ku σ0 l w∧S=ku σ0 l)→t.wp P Q S K ρ w
  call:∀f args s o,r s (.call f args)=some o→∀(σ:Sg) (w0 w:World) (args':List Value),G0 w0→Iv σ w0 s w→ql σ args args'→Calls P f args'.toArray w (vN σ w0 o)
section
variable {P:Program} {G0:World→Prop} {r:Sx→Tk→Option Ou} {σ:Sg} {w0 w:World} {ρ:qa} {e:Tr Value} {s:Sx} {K:qa→World→Prop} {Q:Ks} {o:Ou} {pr:TypeId→Bool}
theorem qcb (c:Sound P G0 r) (u:G0 w0) (j:Qn Q) {l:List St} {d:Option Nat} {v b:Value} (q:ER σ e ρ) (n:Iv σ w0 s w) (x:VR σ v b) (h:qaS r l d e v s=some o) (m:vI σ w0 K Q o):qQ P Q l K (qk ρ d b) w:=by
  unfold qaS at h;split at h
  · rename_i t a;exact c.sts l t s o h σ w0 _ w K Q u n (quf q x a) j m
  · cases h
theorem qz0 {d:Option Nat} {ty:TypeId} {c:Operand} {args:Array Operand} {a:Array TypeId} {f:FuncId} {fs cs:Array Value} (h:qf P f=true) (j:qd ρ c= .func (.func f) fs cs) (l:Calls P f (fs++args.map (qd ρ)++cs) w (jR Q d K ρ)):
    qm P Q d (.call {callee:= .value c,args:=args,argTypes:=a}) ty K ρ w:=by
  have key:jV P Q d (.call {callee:= .value c,args:=args,argTypes:=a}) ty K ρ w:=by
    unfold jV;rw [qkj (P:=P) h j];exact l.mono fun e w' m=>by cases e<;>exact m
  cases c with
  |func g=>
    have b:Value.func (.func g) #[] #[]= .func (.func f) fs cs:=j;cases b;refine ⟨h, ?_⟩;simpa using l
  |_=>exact key
theorem qsL (hr : Sound P G0 r) (hg : G0 w0) (hq : Qn Q) {l : List St} {d : Option Nat} {ty : TypeId} {c : Operand} {args : Array Operand} {t : Array TypeId} (X : ER σ e ρ) (hI : Iv σ w0 s w) (h : qfi P r s l d e (vw e c) (yM e args.toList) = some o) (ha : vI σ w0 K Q o) :
    qm P Q d (.call {callee:= .value c,args:=args,argTypes:=t}) ty (qQ P Q l K) ρ w:=by
  unfold qfi at h;split at h
  · rename_i f fs cs vs hc J;obtain ⟨C,h⟩:=qZ h;have z:=vU X hc;have R:=qf8 X J;generalize I:qd ρ c=q at z;cases z with
    |pln h'=>cases h'
    | fnc h1 h2 h3 h4 =>
      rename_i b cs';have E:ql σ fs.toList b.toList:=ql.of (by simpa using h1) fun j x y O hy=>h2 j x y (by simpa using O) (by simpa using hy);have W:ql σ cs.toList cs'.toList:=ql.of (by simpa using h3) fun j x y O hy=>h4 j x y (by simpa using O) (by simpa using hy);unfold qqL at h;have key:∀S,r s (.call f (fs.toList++(vs++cs.toList)))=some S→(∀A w',vN σ w0 S A w'→jR Q d (qQ P Q l K) ρ A w')→qm P Q d (.call {callee:= .value c,args:=args,argTypes:=t}) ty (qQ P Q l K) ρ w:=by
        intro S Y hk;have a:=hr.call _ _ _ _ Y σ w0 w (b.toList++(args.toList.map (qd ρ)++cs'.toList)) hg hI (E.app (R.app W));have u:(b.toList++(args.toList.map (qd ρ)++cs'.toList)).toArray=b++args.map (qd ρ)++cs':=by
          apply Array.toList_inj.1;simp
        rw [u] at a;exact qz0 C I (a.mono hk)
      split at h
      · rename_i v s' m;refine key _ m ?_;rintro A w' ⟨τ,v',B,n,Z,rfl⟩;exact qcb hr hg hq (X.mono B) n Z h (ha.le B)
      · rename_i c1 s' m;cases h;refine key _ m ?_;rintro A w' ⟨τ,B,n,rfl⟩;exact ha τ ρ w' B n
      · cases h
  · cases h
theorem qsK (y : yv P pr) (A : Sound P G0 r) (C : G0 w0) (B : Qn Q) {k : Option Nat} {l : List St} {d : Option Nat} {ty : TypeId} {op : Op} (b : ER σ e ρ) (q : Iv σ w0 s w) (h : qfh P pr r s k l d e op = some o) (m : vI σ w0 K Q o) : qm P Q d op ty (qQ P Q l K) ρ w := by
  have eff:∀x,qef r l d e x=some o→(∀v s',x=some (v,s')→qb9 P pr e s k op=some (v,s'))→qm P Q d op ty (qQ P Q l K) ρ w:=by
    intro x a j;unfold qef at a;split at a
    · rename_i v s';exact qzY y q b (j v s' rfl) fun R S W E n z=>qcb A C B (b.mono E) n z a (m.le E)
    · cases a
  unfold qfh at h;split at h
  · rename_i x;unfold qjP at h;split at h
    · rename_i v z;split at h
      · rename_i t u;obtain ⟨I,h⟩:=qZ h;cases h;have a:=(vU b z).uniq (wX I);exact qhw a (m σ ρ w (Sg.le_refl σ) q)
      · cases h
    · cases h
  · rename_i c;obtain ⟨J,as,O⟩:=c;dsimp only at h;split at h
    · rename_i f;exact qsL A C B b q h m
    · exact eff _ h fun v s' a=>a
  · exact eff _ h fun v s' a=>a
theorem qjC (t : yv P pr) (m : Sound P G0 r) (q : G0 w0) (n : Qn Q) {k : Option Nat} {l : List St} (b : ER σ e ρ) (c : Iv σ w0 s w) (h : qbf P pr r s k e l = some o) (j : vI σ w0 K Q o) : qQ P Q l K ρ w := by
  unfold qbf at h;split at h
  · cases h;exact j σ ρ w (Sg.le_refl σ) c b
  · rename_i g d x l;show (if gd ρ g=true then z7 (x.ev ρ w) (fun v=>qQ P Q l K (qn ρ d v) w) else qQ P Q l K (qn ρ d undef) w);split at h
    · rename_i a;rw [if_pos (qaL b a)];unfold qfj at h;split at h
      · rename_i v y;obtain ⟨A,z,u⟩:=xS c.mr b y;rw [z];exact qcb (d:=some d) m q n b c u h j
      · cases h
    · rename_i a;rw [if_neg (by rw [qaL b a];decide)];exact qcb (d:=some d) m q n b c Q3 h j
    · cases h
  · rename_i g d op ty l;show (if gd ρ g=true then qm P Q d op ty (qQ P Q l K) ρ w else qQ P Q l K (qk ρ d undef) w);split at h
    · rename_i a;rw [if_pos (qaL b a)];exact qsK t m q n b c h j
    · rename_i a;rw [if_neg (by rw [qaL b a];decide)];exact qcb m q n b c Q3 h j
    · cases h
theorem ku.up {l:Sg} {L:List Fa} (h:ku σ L w) (t:Grd σ L) (c:σ.le l):ku l L w:=fun f a j n=>by
  obtain ⟨⟨a0,b⟩,_⟩:=t f a;have:j=a0:=n.uniq (b.mono c);subst this;obtain ⟨m,q,u⟩:=h f a j b;exact ⟨m,q,u.mono c⟩
theorem qbS:MR σ .lf w:=fun i o h=>by cases h
theorem qws {a b:K1} (h:qdA a b=true):a=b:=by
  unfold qdA at h;split at h
  · rfl
  · simpa using h
  · rfl
  · cases h
theorem qpH:∀{L:List Fa} {k:K1} {a v:Value},qd5 L k a=some v→∃f∈L,f.k=k∧f.a=a∧f.v=v
  |[],_,_,_,h=>by cases h
  | f :: l, k, a, v, h => by
    unfold qd5 at h;cases b:(qdA f.k k&&zr 4 f.a a) with
    |true=>
      rw [b] at h;cases h;simp only [Bool.and_eq_true] at b;exact ⟨f,by simp,qws b.1,wD 4 _ _ b.2,rfl⟩
    |false=>
      rw [b] at h;obtain ⟨g,j,c⟩:=qpH h;exact ⟨g,List.mem_cons_of_mem _ j,c⟩
theorem qpS {L : List Fa} (z : ku σ L w) (n : ER σ e ρ) {x : Ex} {v : Value} (h : evF L e x = some v) : ∃ b, x.ev ρ w = some b ∧ VR σ v b := by
  unfold evF at h;split at h
  · rename_i k x;split at h
    · rename_i a y;obtain ⟨B,q,m⟩:=xS (qbS (w:=w)) n y;split at h
      · rename_i u t;cases h;obtain ⟨A,c,j⟩:=qa5 (qbS (w:=w)) m t;exact ⟨A,by simp only [Ex.ev,q,Option.bind_some,c],j⟩
      · obtain ⟨f,l,rfl,rfl,rfl⟩:=qpH h;obtain ⟨b,c,j⟩:=z f l B m;exact ⟨b,by simp only [Ex.ev,q,Option.bind_some,c],j⟩
    · cases h
  · exact xS qbS n h
theorem qeY {H : vd} (n : MR σ H w) : ∀ {t : OT} {e : Tr Value} {ρ : qa}, ER σ e ρ → ∀ f ∈ kg H t e, ((∃ j, VR σ f.a j) ∧ ∃ h, VR σ f.v h) ∧ ∀ j, VR σ f.a j → ∃ h, qJ w f.k j = some h ∧ VR σ f.v h
  | .take g d ex t, e, ρ, l, f, b => by
    unfold kg at b;split at b
    · split at b
      · rename_i v C;obtain ⟨h,E,m⟩:=xS n l C;rcases List.mem_append.1 b with b|b
        · split at b
          · rename_i k x;split at b
            · rename_i a z;obtain ⟨j,y,u⟩:=xS (qbS (w:=w)) l z;split at b
              · simp at b
              · simp only [List.mem_singleton] at b;subst b;refine ⟨⟨⟨j,u⟩,⟨h,m⟩⟩,fun A q=> ?_⟩;have:A=j:=q.uniq u;subst this;refine ⟨h, ?_,m⟩;simpa only [Ex.ev,y,Option.bind_some] using E
            · simp at b
          · simp at b
        · split at b
          · rename_i B c;exact qeY n (qcS l m c) f b
          · simp at b
      · simp at b
    · split at b
      · rename_i B c;exact qeY n (qcS l Q3 c) f b
      · simp at b
    · simp at b
  | .done,_,_,_,f,b=>by simp [kg] at b
  | .step ..,_,_,_,f,b=>by simp [kg] at b
  | .both ..,_,_,_,f,b=>by simp [kg] at b
theorem qtc {j:Sg} {L:List Fa} {H:vd} (q:Grd σ L) (m:σ.le j) (z:MR j H w) (h:qfv H L=true):ku σ L w:=fun f c A y=>by
  have b:=List.all_eq_true.1 h f c;split at b
  · rename_i u x;have:=wD 4 _ _ b;subst this;obtain ⟨l,t,n⟩:=qa5 z (y.mono m) x;obtain ⟨_,v0,a⟩:=q f c;have:l=v0:=n.uniq (a.mono m);subst this;exact ⟨l,t,a⟩
  · cases b
theorem qzK {c l:Sx} (h:∀k,c.H.get k=l.H.get k) (n:c.nx=l.nx) (m:c.rs=l.rs) (a:Iv σ w0 l w):Iv σ w0 c w:=
  ⟨fun i o b=>a.mr i o (by rw [←h];exact b),by rw [n,m];exact a.dom,by rw [n,m];exact a.res,fun i j x q t u b y=>a.ap i j x q t u (by rw [←h];exact b) (by rw [←h];exact y),a.ext,fun i o p b=>a.own i o p (by rw [←h];exact b)⟩
theorem qvi (hpr : yv P pr) (W : Sound P G0 r) (Y : G0 w0) (X : Qn Q) {L : Option (List Fa)} {bs : Option Nat} {t : OT} {j : Sg} {S : World → Prop} (u : ER σ e ρ) (hI : Iv σ w0 s w) (h : qf5 P pr r s L bs e t = some o) (O : vI σ w0 K Q o) (B : j.le σ)
    (hS:∀l,L=some l→Grd j l∧ku j l w∧S=ku j l):t.wp P Q S K ρ w:=by
  unfold qf5 at h;split at h
  · cases h;exact O σ ρ w (Sg.le_refl σ) hI u
  · rename_i g d x t;split at h
    · cases h
    · rename_i l;obtain ⟨q,hfa,z⟩:=hS l rfl;have C:∀v v',VR σ v v'→qdi r s (some l) bs t e d (some v)=some o→t.wp P Q S K (qn ρ d v') w:=by
        intro v v' E hk;unfold qdi at hk;dsimp only at hk;split at hk
        · rename_i e' n;exact W.ord _ _ _ _ _ _ hk j σ w0 _ w K Q S Y hI (qcS u E n) X O B hS
        · cases hk
      show (if gd ρ g=true then z7 (x.ev ρ w) (fun v=>(∀w',S w'→x.ev ρ w'=some v)∧t.wp P Q S K (qn ρ d v) w) else t.wp P Q S K (qn ρ d undef) w);split at h
      · rename_i I;rw [if_pos (qaL u I)];cases E:evF l e x with
        |none=>rw [E] at h;cases h
        |some v=>
          rw [E] at h;obtain ⟨v',R,h2⟩:=qpS (hfa.up q B) u E;rw [R];refine ⟨fun w' hw'=> ?_,C v v' h2 h⟩;rw [z] at hw';obtain ⟨u',h3,h4⟩:=qpS (hw'.up q B) u E;rw [h3,h4.uniq h2]
      · rename_i I;rw [if_neg (by rw [qaL u I];decide)];exact C undef undef Q3 h
      · cases h
  · rename_i x b t;show x.wp P Q (fun a w'=>(b=true→S w')∧t.wp P Q S K a w') ρ w;have go:∀o1,qbf P pr r s (qlm bs x) e [x]=some o1→vI σ w0 (fun a w'=>(b=true→S w')∧t.wp P Q S K a w') Q o1→x.wp P Q (fun a w'=>(b=true→S w')∧t.wp P Q S K a w') ρ w:=fun o1 R h2=>qjC hpr W Y X u hI R h2;unfold qle at h;split at h
    · rename_i e' s' R;refine go _ R fun Z a w' A m n=> ?_;cases b with
      |true=>
        cases L with
        |none=>cases h
        |some l=>
          obtain ⟨q,hfa,z⟩:=hS l rfl;obtain ⟨hsm,h⟩:=qZ (b:=qfv s'.H l) h;have hf2:=qtc q (Sg.le_trans B A) m.mr hsm;exact ⟨fun _=>by rw [z];exact hf2,W.ord _ _ _ _ _ _ h j Z w0 _ w' K Q S Y m n X (O.le A) (Sg.le_trans B A) fun l' J=>by cases J;exact ⟨q,hf2,z⟩⟩
      |false=>
        exact ⟨(fun hb=>by cases hb),W.ord _ _ _ _ _ _ h j Z w0 _ w' K Q S Y m n X (O.le A) (Sg.le_trans B A) (fun l' J=>by cases J)⟩
    · rename_i c s' R;cases h;exact go _ R fun Z a w' A m=>O Z a w' A m
    · cases h
  · rename_i x y;unfold qqB at h;split at h
    · rename_i e1 s1 e2 s2 hx hy;obtain ⟨hc,h⟩:=qZ h;cases h;simp only [Bool.and_eq_true,beq_iff_eq] at hc;obtain ⟨⟨⟨c1,c2⟩,c3⟩,c4⟩:=hc;have g1:=Tr.eqB_ok (wD 4) c1;have g2:=Tr.eqB_ok (fun _ _ h=>qbN h) c2;refine ⟨W.ord _ _ _ _ _ _ hx j σ w0 ρ w K Q S Y hI u X O B hS,W.ord _ _ _ _ _ _ hy j σ w0 ρ w K Q S Y hI u X ?_ B hS⟩;exact fun Z a w' A m n=>O Z a w' A (qzK g2 (Nat.eq_of_beq_eq_true c3) c4 m) fun i v E=>n i v (by rw [←g1];exact E)
    · cases h
end
end Go.Eng
namespace Go.Eng
open Go.RowKit
theorem qwb {p:Nat→Prop}:∀n,p n→∃m,p m∧∀k,p k→m≤k:=by
  intro n
  induction n using Nat.strongRecOn with
  | _ n c =>
    intro b;by_cases h:∃k,k<n∧p k
    · obtain ⟨k,a,l⟩:=h;exact c k a l
    · exact ⟨n,b,fun k a=>Nat.le_of_not_lt fun j=>h ⟨k,j,a⟩⟩
section
variable {cx:Cx} {K:qa→World→Prop} {Q:Ks} {ρ:qa} {w:World}
theorem qvS (I:Nat→qa→World→Prop) (u:Nat) {a:IR} (z:I u ρ w) (h:∀m b w',I m b w'→a.wp cx (fun c j=>∃n,n<m∧I n c j) Q b w'):(IR.loop a).wp cx K Q ρ w:=by
  have E:∀b w',∃m,(∃k,I k b w')→I m b w'∧∀k,I k b w'→m≤k:=fun b w'=>by
    by_cases y:∃k,I k b w'
    · obtain ⟨k,A⟩:=y;obtain ⟨m,t⟩:=qwb (p:=fun k=>I k b w') k A;exact ⟨m,fun _=>t⟩
    · exact ⟨0,fun h=>absurd h y⟩
  obtain ⟨μ,q⟩:∃μ:qa→World→Nat,∀b w',(∃k,I k b w')→I (μ b w') b w'∧∀k,I k b w'→μ b w'≤k:=by
    obtain ⟨f,B⟩:=Classical.axiomOfChoice (r:=fun (x:qa×World) m=>(∃k,I k x.1 x.2)→I m x.1 x.2∧∀k,I k x.1 x.2→m≤k) fun x=>E x.1 x.2;exact ⟨fun b w'=>f (b,w'),fun b w'=>B (b,w')⟩
  refine yR (fun b w'=>∃k,I k b w') μ ⟨u,z⟩ fun b w' C=> ?_;obtain ⟨J,_⟩:=q b w' C;refine IR.wp_mono (h _ b w' J) ?_ (fun _ _ _ h=>h) (fun _ _ h=>h) (fun _ _ _ h=>h) (fun h=>h) ⟨fun h=>h,fun h=>h⟩;rintro c j ⟨n,t,l⟩;exact ⟨⟨n,l⟩,Nat.lt_of_le_of_lt ((q c j ⟨n,l⟩).2 n l) t⟩
end
end Go.Eng
namespace Go.Eng
open Go.RowKit
def qeB (P:Program) (G0:World→Prop) (prim:qa3):Prop:=∀f args s v s',prim f args s=some (v,s')→∀(σ:Sg) (w0 w:World) (args':List Value),G0 w0→Iv σ w0 s w→ql σ args args'→Calls P f args'.toArray w (vN σ w0 (.ret v s'))
def qix (P:Program) (G0:World→Prop) (tr:Option TrP):Prop:=∀q,tr=some q→∀r,Sound P G0 r→∀s args o,qeP P r s q args=some o→∀(σ:Sg) (w0 w:World) (args':List Value),G0 w0→Iv σ w0 s w→ql σ args args'→Calls P q.f args'.toArray w (vN σ w0 o)
section
variable {P:Program} {G0:World→Prop} {r:Sx→Tk→Option Ou} {σ:Sg} {w0 w:World} {ρ:qa} {e:Tr Value} {s:Sx} {K:qa→World→Prop} {Q:Ks} {o:Ou} {pr:TypeId→Bool} {prim:qa3} {tr:Option TrP} {sk:FuncId→Nat→List Nat}
theorem qvn (j:Iv σ w0 s w) (a:ER σ e ρ) {rv:RV} {v:Value} (h:qgb s.H e rv=some v):∃c,rv.val ρ w=some c∧VR σ v c:=by
  unfold qgb at h;split at h
  · exact ⟨_,rfl,a _ _ h⟩
  · split at h
    · rename_i u b;exact qa5 j.mr (a _ _ b) h
    · cases h
  · split at h
    · rename_i u b;exact qa5 j.mr (a _ _ b) h
    · cases h
theorem qkx (j:Iv σ w0 s w) (l:ER σ e ρ):∀{rs:List RV} {vs:List Value},qc2 s.H e rs=some vs→∃a,vj ρ w rs=some a∧ql σ vs a
  |[],vs,h=>by cases h;exact ⟨[],rfl,trivial⟩
  | r :: rs, vs, h => by
    unfold qc2 at h;split at h
    · rename_i v y u b;cases h;obtain ⟨m,x,q⟩:=qvn j l u;obtain ⟨c,n,t⟩:=qkx j l b;exact ⟨m::c,by simp only [vj,x,Option.bind_some,n,Option.map_some],q,t⟩
    · cases h
theorem qrL:∀{vs j:List Value},ql σ vs j→VR σ (kR vs) (kR j)
  |[],[],_=> .tup rfl fun i x y h=>by simp at h
  |[_],[_],h=>h.1
  |a::b::l,c::d::m,h=>by
    obtain ⟨q,n⟩:=ql.arr (cs:=(a::b::l).toArray) (ds:=(c::d::m).toArray) (by simpa using h);exact .tup q n
  |[],_::_,h=>h.elim
  |_::_,[],h=>h.elim
  |[_],_::_::_,h=>h.2.elim
  |_::_::_,[_],h=>h.2.elim
theorem qqR:∀(l:List Value) (k:Nat) (e:Tr Value),k+l.length≤vf→∀i,(QP l k e).get i=if k≤i∧i<k+l.length then l[i - k]? else e.get i
  |[],k,e,_,i=>by
    rw [if_neg (by simp only [List.length_nil];omega)];rfl
  | v :: l, k, e, h, i => by
    simp only [List.length_cons] at h;show (QP l (k+1) (e.set k v)).get i=_;rw [qqR l (k+1) _ (by omega) i,Tr.get_set _ _ (by omega)];by_cases b:k+1≤i∧i<k+1+l.length
    · rw [if_pos b,if_pos (by simp;omega),show i - k=(i - (k+1))+1 by omega];simp
    · rw [if_neg b];by_cases a:i=k
      · subst a;simp
      · rw [if_neg a,if_neg (by simp;omega)]
theorem qqC (hr : Sound P G0 r) (hg : G0 w0) {f : FuncId} {args a : List Value} (hI : Iv σ w0 s w) (hv : ql σ args a) (h : qem r s args (fnX P f) = some o) : Calls P f a.toArray w (vN σ w0 o) := by
  unfold qem at h;split at h
  · rename_i F j;obtain ⟨Y,h⟩:=qZ h;simp only [Bool.and_eq_true,Nat.ble_eq,Nat.blt_eq] at Y;unfold fnX at j;split at j
    · cases j
    · rename_i fn A;split at j
      · cases j
      · rename_i c hb;split at j
        · rename_i ir rs b z;rw [qAA] at b;obtain ⟨t,j⟩:=qZ j;cases j;simp only [Nat.ble_eq] at t;dsimp only at Y;have Z:xG fn (List.range fn.ntmps)=true:=by
            simp only [xG,Bool.and_eq_true,decide_eq_true_eq,List.all_eq_true];exact ⟨t,fun x hx=>List.mem_range.1 hx⟩
          have hlen:=hv.len;have q:a.toArray.size≤fn.ntmps:=by simp;omega
          have W:ER σ (QP args 0 .lf) (kn (List.range fn.ntmps) a.toArray):=by
            intro i v E;rw [qqR args 0 _ (by omega)] at E;split at E
            · rename_i hi2;rw [Nat.sub_zero] at E;obtain ⟨v',X,O⟩:=hv.get i v E;have:kn (List.range fn.ntmps) a.toArray i=v':=by
                unfold kn;rw [if_neg (by unfold gS;omega),if_pos (List.mem_range.2 (by omega))];simp [X]
              rw [this];exact O
            · cases E
          have hQ:∀R:Ending→World→Prop,Qn (jd rs R):=fun R _ _ _ _ h=>h;have B:∀(R:Ending→World→Prop),(∀n,r s (.ir ⟨f,fn.ntmps,List.range fn.ntmps,ir,rs⟩ ir (QP args 0 .lf))=some n→vI σ w0 (qz rs R) (jd rs R) n)→ir.norm.wp ⟨P,fn.ntmps,List.range fn.ntmps,[]⟩ (qz rs R) (jd rs R) (kn (List.range fn.ntmps) a.toArray) w:=by
            intro R hR;rw [IR.norm_wp];cases u:r s (.ir ⟨f,fn.ntmps,List.range fn.ntmps,ir,rs⟩ ir (QP args 0 .lf)) with
            |none=>unfold qgn at h;rw [u] at h;cases h
            |some n=>exact hr.ir _ _ _ _ _ u σ w0 _ w _ _ hg hI W (hQ R) (hR n u)
          have fin:ir.norm.wp ⟨P,fn.ntmps,List.range fn.ntmps,[]⟩ (qz rs (vN σ w0 o)) (jd rs (vN σ w0 o)) (kn (List.range fn.ntmps) a.toArray) w:=by
            refine B _ fun n u=> ?_;unfold qgn at h;rw [u] at h;have y:∀e s',qd7 rs e s'=some o→∀m ρ w,σ.le m→Iv m w0 s' w→ER m e ρ→qz rs (vN σ w0 o) ρ w:=by
              intro e s' I m ρ w S l C;unfold qd7 at I;split at I
              · rename_i vs J;cases I;obtain ⟨vs',X,O⟩:=qkx l C J;unfold qz;rw [X];exact ⟨m,_,S,l,qrL O,rfl⟩
              · cases I
            cases n with
            |go e s'=>exact y e s' h
            |rt e s'=>exact y e s' h
            |pn c s'=>
              cases h;exact fun m ρ w S l=>⟨m,S,l,rfl⟩
            |ex i e s'=>cases h
            |ret v s'=>cases h
          cases c with
          |scope c'=>exact qqm A hb b rfl Z z q fin
          |_=>exact qqo A hb b rfl Z z q fin
        · cases j
  · cases h
theorem qAS (u : qeB P G0 prim) (t : qix P G0 tr) (l : Sound P G0 r) (c : G0 w0) {f : FuncId} {args a : List Value} (b : Iv σ w0 s w) (j : ql σ args a) (h : qii P prim tr r s f args = some o) : Calls P f a.toArray w (vN σ w0 o) := by
  unfold qii at h;split at h
  · rename_i v s' n;cases h;exact u f args s v s' n σ w0 w a c b j
  · split at h
    · rename_i q;cases m:Nat.beq q.f f with
      |true=>
        rw [m] at h;have:=t q rfl r l s args o h σ w0 w a c b j
        rwa [Nat.eq_of_beq_eq_true m] at this
      |false=>
        rw [m] at h;exact qqC l c b j h
    · exact qqC l c b j h
theorem qt9 (Z : yv P pr) (I : Sound P G0 r) (O : G0 w0) (J : Qn Q) {F : Fx} {id : Nat} {ops : Array Oper} (B : ER σ e ρ) (X : Iv σ w0 s w) (h : qfP r s F e (qdh P F.nt F.V (sk F.f id) (qji ops) (.region id ops true)) = some o) (W : vI σ w0 K Q o) :
    (IR.raw (.region id ops true)).wp ⟨P,F.nt,F.V,[]⟩ K Q ρ w:=by
  unfold qfP at h;split at h
  · rename_i t R;have hpn:∀d∈t.takes,∀(ρ:qa) v c w,Q.pn (qn ρ d v) c w→Q.pn ρ c w:=fun _ _ _ _ _ _ h=>J _ _ _ _ h;have m:Qn Q.noRd:=J;have j:vI σ w0 K Q.noRd o:=by cases o<;>exact W
    refine qt8 (cx:=⟨P,F.nt,F.V,[]⟩) R (ku σ (kg s.H t e)) (fun w' S hh=> ?_) hpn;have a:=X.toExt S;have n:=qeY (H:=s.H) a.mr (t:=t) B;have C:Grd σ (kg s.H t e):=fun f A=>(n f A).1;have u:ku σ (kg s.H t e) w':=fun f A=>(n f A).2;refine ⟨u, ?_⟩;have q:∀l,some (kg s.H t e)=some l→Grd σ l∧ku σ l w'∧ku σ (kg s.H t e)=ku σ l:=fun l Y=>by cases Y;exact ⟨C,u,rfl⟩
    cases x:(qel t&&(yZ t).all (fun d=>Nat.blt d F.nt)) with
    |true=>
      rw [x] at h;simp only [Bool.and_eq_true] at x;have z:∀d∈yZ t,d<F.nt:=fun d y=>by simpa [Nat.blt_eq] using List.all_eq_true.1 x.2 d y
      refine I.ord _ _ _ _ _ _ h σ σ w0 ρ w' K Q.noRd _ O ?_ B m j (Sg.le_refl σ) q;refine ⟨a.mr,fun i p E=> ?_,fun i E=> ?_,a.ap,a.ext,a.own⟩
      · have:=a.dom i p E;refine ⟨by dsimp only;omega,fun b=> ?_⟩;rcases List.mem_append.1 b with b|b
        · exact this.2 b
        · obtain ⟨d,_,y⟩:=List.mem_map.1 b;omega
      · rcases List.mem_append.1 E with b|b
        · have:=a.res i b;dsimp only;omega
        · obtain ⟨d,y,rfl⟩:=List.mem_map.1 b;have:=z d y;dsimp only;omega
    |false=>
      rw [x] at h;exact I.ord _ _ _ _ _ _ h σ σ w0 ρ w' K Q.noRd _ O a B m j (Sg.le_refl σ) q
  · cases h
theorem qwC (S : yv P pr) (y : Sound P G0 r) (A : G0 w0) (z : Qn Q) {F : Fx} {a : IR} (C : ∀ b, a = .loop b → (IR.loop b).wp ⟨P, F.nt, F.V, []⟩ K Q ρ w) (n : ER σ e ρ) (q : Iv σ w0 s w) (h : irX P sk r s F e a = some o) (l : vI σ w0 K Q o) : a.wp ⟨P, F.nt, F.V, []⟩ K Q ρ w := by
  unfold irX at h;split at h
  · cases h;exact l σ ρ w (Sg.le_refl σ) q n
  · exact y.sts _ _ _ _ h σ w0 ρ w K Q A q n z l
  · cases h
  · rename_i a b;have go:∀x,r s (.ir F a e)=some x→vI σ w0 (fun m w'=>b.wp ⟨P,F.nt,F.V,[]⟩ K Q m w') Q x→(IR.seq a b).wp ⟨P,F.nt,F.V,[]⟩ K Q ρ w:=fun x W R=>y.ir _ _ _ _ _ W σ w0 ρ w _ Q A q n z R;cases B:r s (.ir F a e) with
    |none=>rw [B] at h;cases h
    |some x=>
      rw [B] at h;refine go x B ?_;cases x with
      |go E s'=>exact fun J m w' O u t=>y.ir _ _ _ _ _ h J w0 m w' K Q A u t z (l.le O)
      |ex i E s'=>cases h;exact l
      |rt E s'=>cases h;exact l
      |pn c s'=>cases h;exact l
      |ret v s'=>cases h;exact l
  · rename_i c a b;show QM (c.ev ρ w) _ _;unfold qqh at h;split at h
    · rename_i Y X;obtain ⟨Z,W,R⟩:=xS q.mr n X;rw [W];cases R;cases Y with
      |true=>exact y.ir _ _ _ _ _ h σ w0 ρ w K Q A q n z l
      |false=>exact y.ir _ _ _ _ _ h σ w0 ρ w K Q A q n z l
    · cases h
  · rename_i i a;cases B:r s (.ir F a e) with
    |none=>rw [B] at h;cases h
    |some x=>
      rw [B] at h;refine y.ir _ _ _ _ _ B σ w0 ρ w K _ A q n (fun ρ m c w=>z ρ m c w) ?_;cases x with
      |go E s'=>cases h;exact l
      |ex j E s'=>
        intro J m w' O u t;dsimp only
        replace h:(bif Nat.beq j i then some (Ou.go E s') else some (Ou.ex j E s'))=some o:=h
        cases I:Nat.beq j i with
        |true=>
          rw [I] at h;cases h;rw [if_pos (Nat.eq_of_beq_eq_true I)];exact l J m w' O u t
        |false=>
          rw [I] at h;cases h;rw [if_neg (fun e=>by subst e;simp at I)];exact l J m w' O u t
      |rt E s'=>cases h;exact l
      |pn c s'=>cases h;exact l
      |ret v s'=>cases h;exact l
  · exact C _ rfl
  · cases h;exact l σ ρ w (Sg.le_refl σ) q n
  · cases h;exact l σ ρ w (Sg.le_refl σ) q n
  · split at h
    · cases h;exact qkz (l σ ρ w (Sg.le_refl σ) q n)
    · exact qt9 S y A z n q h l
    · cases h
theorem qj8 (A : yv P pr) (hp : qeB P G0 prim) (ht : qix P G0 tr) : ∀ n, Sound P G0 (kE P prim tr sk pr n) := by
  intro n
  induction n using Nat.strongRecOn with
  | _ n ih =>
    cases n with
    |zero=>exact ⟨fun _ _ _ _ _ h=>by simp [kE] at h,fun _ _ _ _ h=>by simp [kE] at h,fun _ _ _ _ _ _ h=>by simp [kE] at h,fun _ _ _ _ h=>by simp [kE] at h⟩
    |succ n=>
      have R:=ih n (Nat.lt_succ_self n);refine ⟨fun F a e s o h σ w0 ρ w K Q u y E B C=> ?_,fun l e s o h σ w0 ρ w K Q u y E B C=>qjC A R u B E y h C,fun L bs t e s o h σ0 σ w0 ρ w K Q S u y E B C h0 hS=>qvi A R u B E y h C h0 hS,fun f args s o h σ w0 w W u y hv=>qAS hp ht R u y hv h⟩;refine qwC (sk:=sk) A R u B (fun b hb=> ?_) E y h C;subst hb;refine qvS (fun m z w'=>m≤n+1∧∃J O s',kE P prim tr sk pr m s' (.ir F (.loop b) O)=some o∧σ.le J∧Iv J w0 s' w'∧ER J O z) (n+1) ⟨Nat.le_refl _,σ,e,s,h,Sg.le_refl σ,y,E⟩ fun m z w' hm=> ?_;obtain ⟨hmn,J,O,s',x,hl,hI',X⟩:=hm;cases m with
      |zero=>simp [kE] at x
      |succ m=>
        have hrm:=ih m (by omega);have j:qfq (kE P prim tr sk pr m) F (.loop b) (kE P prim tr sk pr m s' (.ir F b O))=some o:=x;cases Z:kE P prim tr sk pr m s' (.ir F b O) with
        |none=>rw [Z] at j;cases j
        |some o1=>
          rw [Z] at j;refine hrm.ir _ _ _ _ _ Z J w0 z w' _ Q u hI' X B ?_;have q:=C.le hl;cases o1 with
          |go e2 I=>exact fun υ ρ2 w2 hl2 aa Y=>⟨m,Nat.lt_succ_self m,by omega,υ,e2,I,j,Sg.le_trans hl hl2,aa,Y⟩
          |ex i e2 I=>cases j;exact q
          |rt e2 I=>cases j;exact q
          |pn c I=>cases j;exact q
          |ret v I=>cases j;exact q
end
end Go.Eng
namespace Go.L01
open Go.Eng
abbrev Bs:=List UInt8
structure Tok where
 kind:Nat
 text:Bs
 line:Int
 deriving DecidableEq
def jb (c:UInt8):Bool:=decide (97≤c.toNat)&&decide (c.toNat≤122)
def qw (c:UInt8):Bool:=decide (48≤c.toNat)&&decide (c.toNat≤57)
def part (c:UInt8):Bool:=jb c||qw c
def xe (c:UInt8):Bool:=decide (c=32)||decide (c=9)||decide (c=10)
def zR:List Bs:=
 [[97,110,100],[97,114,114,97,121],[98,101,103,105,110],[98,111,111,108],[98,114,101,97,107],[99,108,117,115,116,101,114],[100,111],[100,111,119,110],[101,108,115,101],[101,108,115,101,105,102],[101,110,100],[101,120,99,101,112,116],[102,97,108,115,101],[102,111,114],[104,97,115],[105,102],[105,110],[105,110,116],[105,115],[105,116,101,114],[109,111,100],[110,105,108],[110,111,116],[110,117,108,108],[111,110,101,111,102],[111,114],[111,116,104,101,114,115],[112,114,111,99],[112,117,116],[114,101,99,111,114,100],[114,101,112],[114,101,116,117,114,110],[114,101,116,117,114,110,115],[115,105,103,110,97,108],[115,105,103,110,97,108,115],[116,97,103],[116,97,103,99,97,115,101],[116,104,101,110],[116,114,117,101],[117,112],[118,97,114],[119,104,101,110],[119,104,101,114,101],[119,104,105,108,101],[121,105,101,108,100],[121,105,101,108,100,115]]
def qU:List Bs:=
 [[36],[40],[41],[42],[43],[44],[45],[46],[47],[58],[58,61],[59],[60],[60,61],[61],[63],[91],[93],[95],[123],[125]]
def qC (s:Bs):Nat:=(s.takeWhile part).length
def q9 (s:Bs):Nat:=(s.takeWhile qw).length
def je (s:Bs):Bool:=zR.contains s
def qo (s:Bs):Bool:=decide (0<s.length)&&decide (s.length≤12)&&jb (s.getD 0 0)&&decide (qC s=s.length)&& !je s
def most:Bs:=[49,48,48,48,48,48,48,48,48,48]
def qY (s:Bs):Bool:=
 !(decide (s.length=0)||decide (10<s.length)||decide (q9 s≠s.length)||(decide (1<s.length)&&decide (s.getD 0 0=48)))&&(decide (s.length<10)||decide (s=most))
def qy (s:Bs):Bool:=qU.contains s
def right (k:Nat) (s:Bs):Bool:=
 if k=1 then qo s else if k=2 then je s else if k=3 then qY s else if k=4 then qy s else false
def first (s:Bs):Nat×Nat×Int:=
 if jb (s.getD 0 0) then (if je (s.take (qC s)) then (2,qC s,0) else if 12<qC s then (0,0,12) else (1,qC s,0))
 else if qw (s.getD 0 0) then (if qY (s.take (q9 s)) then (3,q9 s,0) else (0,0,11))
 else if 1<s.length∧qy (s.take 2)=true then (4,2,0) else if qy (s.take 1) then (4,1,0) else (0,0,10)
def jt (s:Bs):Nat:=(s.takeWhile fun c=>decide (c≠10)).length
inductive Res where
 |bad (e line:Int)
 |ok (ts:List Tok) (cs:List Bs)
 deriving DecidableEq
def Res.add (out:List Tok) (com:List Bs):Res→Res
 | .bad e l=> .bad e l
 | .ok ts cs=> .ok (out++ts) (com++cs)
def kU:Nat→Bs→Int→Res
 |0,_,_=> .ok [] []
 |_+1,[],_=> .ok [] []
 |f+1,c::r,l=>
  if c=10 then kU f r (l+1)
  else if c=32∨c=9 then kU f r l
  else if c=37 then (kU f ((c::r).drop (jt (c::r))) l).add [] [(c::r).take (jt (c::r))]
  else if (first (c::r)).2.2≠0 then .bad (first (c::r)).2.2 l
  else (kU f ((c::r).drop (first (c::r)).2.1) l).add [⟨(first (c::r)).1,(c::r).take (first (c::r)).2.1,l⟩] []
def qp (s:Bs) (l:Int):Res:=kU s.length s l
def qr (s:Bs):Res:=if 20000<s.length then .bad 2 0 else qp s 1
def Res.toks:Res→List Tok| .ok ts _=>ts|_=>[]
def Res.coms:Res→List Bs| .ok _ cs=>cs|_=>[]
def Res.err:Res→Int| .bad e _=>e|_=>0
def Res.at:Res→Int| .bad _ l=>l|_=>0
theorem qkl {s:Bs} (h:jb (s.getD 0 0)=true):0<qC s:=by
 cases s with
 |nil=>simp [jb] at h
 |cons c r=>
  have a:part c=true:=by simp [part];exact .inl (by simpa using h)
  simp [qC,List.takeWhile_cons,a]
theorem qAf {s:Bs} (h:qw (s.getD 0 0)=true):0<q9 s:=by
 cases s with
 |nil=>simp [qw] at h
 |cons c r=>
  have a:qw c=true:=by simpa using h
  simp [q9,List.takeWhile_cons,a]
theorem Q5 {α:Type} (p:α→Bool) (s:List α):(s.takeWhile p).length≤s.length:=(List.takeWhile_sublist p).length_le
theorem qb6 {s:Bs} (h:(first s).2.2=0) (q:s≠[]):0<(first s).2.1∧(first s).2.1≤s.length:=by
 have t:0<s.length:=List.length_pos_iff.2 q;unfold first at h⊢
 split
 ·rename_i c;rw [if_pos c] at h;have b:=qkl c;have a:qC s≤s.length:=Q5 _ _;split
  ·exact ⟨b,a⟩
  ·rename_i n;rw [if_neg n] at h;split
   ·rename_i l;rw [if_pos l] at h;cases h
   ·exact ⟨b,a⟩
 ·rename_i c;rw [if_neg c] at h;split
  ·rename_i j;rw [if_pos j] at h;have b:=qAf j;have a:q9 s≤s.length:=Q5 _ _;split
   ·exact ⟨b,a⟩
   ·rename_i m;rw [if_neg m] at h;cases h
  ·rename_i j;rw [if_neg j] at h;split
   ·rename_i a;exact ⟨by simp,by simp;omega⟩
   ·rename_i a;rw [if_neg a] at h;split
    ·exact ⟨by simp,by simp;omega⟩
    ·rename_i b;rw [if_neg b] at h;cases h
theorem qid (r:Bs):0<jt (37::r):=by simp [jt,List.takeWhile_cons]
theorem qAD (s:Bs):jt s≤s.length:=Q5 _ _
theorem qai:∀(f g:Nat) (s:Bs) (l:Int),s.length≤f→s.length≤g→kU f s l=kU g s l
 |0,g,s,l,a,_=>by
  have:s=[]:=List.length_eq_zero_iff.1 (by omega);subst this;cases g<;>rfl
 |f+1,0,s,l,_,b=>by
  have:s=[]:=List.length_eq_zero_iff.1 (by omega);subst this;rfl
 |f+1,g+1,[],l,_,_=>rfl
 |f+1,g+1,c::r,l,a,b=>by
  simp only [List.length_cons] at a b;unfold kU;split
  ·exact qai f g r _ (by omega) (by omega)
  ·split
   ·exact qai f g r _ (by omega) (by omega)
   ·split
    ·rename_i h;subst h;have m:=qid r;rw [qai f g _ _ (by simp only [List.length_drop,List.length_cons];omega) (by simp only [List.length_drop,List.length_cons];omega)]
    ·split
     ·rfl
     ·rename_i j;have m:=qb6 (s:=c::r) (by simpa using j) (by simp);rw [qai f g _ _ (by simp only [List.length_drop,List.length_cons];omega) (by simp only [List.length_drop,List.length_cons];omega)]
theorem qbp (l:Int):qp [] l= .ok [] []:=rfl
theorem Qj (c:UInt8) (r:Bs) (l:Int):qp (c::r) l=
  if c=10 then qp r (l+1)
  else if c=32∨c=9 then qp r l
  else if c=37 then (qp ((c::r).drop (jt (c::r))) l).add [] [(c::r).take (jt (c::r))]
  else if (first (c::r)).2.2≠0 then .bad (first (c::r)).2.2 l
  else (qp ((c::r).drop (first (c::r)).2.1) l).add [⟨(first (c::r)).1,(c::r).take (first (c::r)).2.1,l⟩] []:=by
 show kU (r.length+1) (c::r) l=_;rw [kU];split
 ·rfl
 ·split
  ·rfl
  ·split
   ·rename_i a;subst a;have h:=qid r;rw [qp,qai r.length _ _ _ (by simp only [List.length_drop,List.length_cons];omega) (Nat.le_refl _)]
   ·split
    ·rfl
    ·rename_i b;have h:=qb6 (s:=c::r) (by simpa using b) (by simp);rw [qp,qai r.length _ _ _ (by simp only [List.length_drop,List.length_cons];omega) (Nat.le_refl _)]
theorem Res.add_add (a b:List Tok) (c d:List Bs) (r:Res):(r.add b d).add a c=r.add (a++b) (c++d):=by
 cases r<;>simp [Res.add]
@[simp] theorem Res.add_nil (r:Res):r.add [] []=r:=by cases r<;>rfl
end Go.L01
namespace Go.L02
open Go.Eng
open Go.L01 (Bs Tok)
structure D where
 kind:Nat
 name:Bs:=[]
 vr:Bs:=[]
 typ:Bs:=[]
 n:Int:=0
 deriving DecidableEq
inductive T where
 |mk (d:D) (kids:List T)
def T.d:T→D| .mk d _=>d
def T.kids:T→List T| .mk _ ks=>ks
structure Nd where
 d:D
 kids:List Int
 deriving DecidableEq
mutual
def T.size:T→Nat| .mk _ ks=>sizes ks+1
def sizes:List T→Nat|[]=>0|t::ts=>t.size+sizes ts
end
def qu:Nat→List T→List Int
 |_,[]=>[]
 |b,t::ts=>((b:Int)+t.size - 1)::qu (b+t.size) ts
mutual
def T.flat:Nat→T→List Nd|b, .mk d ks=>flats b ks++[⟨d,qu b ks⟩]
def flats:Nat→List T→List Nd|_,[]=>[] |b,t::ts=>t.flat b++flats (b+t.size) ts
end
structure Sig where
 iter:Bool:=false
 args:List Bs:=[]
 result:Bs:=[]
 signals:List Bs:=[]
 deriving DecidableEq
structure Rout where
 name:Bs
 sig:Sig
 params:List Bs
 nodes:List Nd
 deriving DecidableEq
structure Need where
 op:Bs
 sig:Sig
 deriving DecidableEq
structure Opn where
 name:Bs
 sig:Sig:={}
 deriving DecidableEq
structure Face where
 name:Bs
 kind:Nat
 param:Bool
 needs:List Need
 ops:List Opn
 deriving DecidableEq
structure Mod where
 face:Face
 rep:Bs
 routs:List Rout
 deriving DecidableEq
inductive Rs (α:Type) where
 |ok (a:α) (i f:Nat)
 |no (f:Nat)
 |oof
def Rs.andThen {α β:Type} (r:Rs α) (k:α→Nat→Nat→Rs β):Rs β:=match r with| .ok a i f=>k a i f| .no f=> .no f| .oof=> .oof
abbrev M (α:Type):=Nat→Nat→Rs α
def ret {α:Type} (a:α):M α:=fun i f=> .ok a i f
def oof {α:Type}:M α:=fun _ _=> .oof
def QI {α:Type}:M α:=fun i f=> .no (max f i)
def bnd {α β:Type} (m:M α) (k:α→M β):M β:=fun i f=>(m i f).andThen k
def sq {α β:Type} (m:M α) (k:M β):M β:=bnd m fun _=>k
section
variable (L:List Tok)
def tk (i:Nat):Tok:=L.getD i ⟨0,[],0⟩
def qg (i:Nat) (ss:List Bs):Bool:=(decide ((tk L i).kind=2)||decide ((tk L i).kind=4))&&ss.contains (tk L i).text
def qe {α:Type} (s:Bs) (x y:M α):M α:=fun i f=>if qg L i [s] then x (i+1) f else y i f
def needs:List Bs→M Unit
 |[]=>ret ()
 |s::ss=>qe L s (needs ss) QI
def name:M Bs:=fun i f=>if (tk L i).kind=1 then .ok (tk L i).text (i+1) f else .no (max f i)
def param:M Unit:=fun i f=>if (tk L i).kind=1∧(tk L i).text=[116] then .ok () (i+1) f else .no (max f i)
def fin:M Unit:=fun i f=>if i<L.length then .no (max f i) else .ok () i f
def more {α:Type} (one:M α):Nat→M (List α)
 |0=>oof
 |n+1=>qe L [44] (bnd one fun x=>bnd (more one n) fun xs=>ret (x::xs)) (ret [])
def listed {α:Type} (n:Nat) (one:M α):M (List α):=bnd one fun x=>bnd (more L one n) fun xs=>ret (x::xs)
def vM {α:Type} (n:Nat) (one:M α):M (List α):=
 sq (needs L [[40]]) (qe L [41] (ret []) (bnd (listed L n one) fun xs=>sq (needs L [[41]]) (ret xs)))
def z6 (k:M Unit):M Bs:=sq (name L) (sq (needs L [[58]]) (sq k (ret [])))
def kind:Nat→M Unit
 |0=>oof
 |n+1=>
  qe L [105,110,116] (ret ()) (qe L [98,111,111,108] (ret ()) (qe L [110,117,108,108] (ret ()) (qe L [97,114,114,97,121] (sq (needs L [[91]]) (sq (kind n) (needs L [[93]])))
  (qe L [114,101,99,111,114,100] (sq (needs L [[91]]) (sq (listed L n (z6 L (kind n))) (needs L [[93]])))
  (qe L [111,110,101,111,102] (sq (needs L [[91]]) (sq (listed L n (z6 L (kind n))) (needs L [[93]])))
  (qe L [63] (param L) (sq (name L) (qe L [91] (sq (kind n) (needs L [[93]])) (ret ())))))))))
def vm (l:List Tok):Bs:=(l.map (·.text)).flatten
def vZ (i j:Nat):List Tok:=(L.take j).drop i
def jw (n:Nat):M Bs:=fun i f=>(kind L n i f).andThen fun _ j g=> .ok (vm (vZ L i j)) j g
def ke:List Bs:=[[109,111,100],[97,110,100],[111,114],[110,111,116]]
def op:M Bs:=fun i f=>if (tk L i).kind=2∧ke.contains (tk L i).text then .ok (tk L i).text (i+1) f
 else (bnd (name L) fun s=>qe L [95] (bnd (name L) fun u=>ret (s++([95]++u))) (ret s)) i f
def q7 (n:Nat):M Bs:=bnd (jw L n) fun s=>sq (needs L [[36]]) (ret s)
def xx:List Bs:=[[43],[45],[42],[47],[109,111,100],[60],[60,61],[61],[97,110,100],[111,114]]
def qbQ (s:Bs):Int:=s.foldl (fun n c=>10*n+((c.toNat:Int) - 48)) 0
def xC (e:M T):M T:=fun i f=>
 (sq (needs L [[40]]) (bnd e fun t=>sq (needs L [[41]]) (ret (T.mk {kind:=if qg L i [[100,111,119,110]] then 10 else 9} [t])))) (i+1) f
def wO (e:M T):M T:=bnd e fun t=>sq (needs L [[41]]) (ret t)
def x6 (n:Nat) (e:M T):M T:=bnd (name L) fun nm=>
 qe L [123] (bnd (jw L n) fun t=>sq (needs L [[125]]) (bnd (vM L n e) fun ks=>ret (T.mk {kind:=5,name:=nm,typ:=t} ks)))
  (bnd (vM L n e) fun ks=>ret (T.mk {kind:=5,name:=nm} ks))
def vk (n:Nat) (e:M T) (o:Bs):M T:=bnd (op L) fun nm=>bnd (vM L n e) fun ks=>ret (T.mk {kind:=5,vr:=o,name:=nm} ks)
def qAT (n:Nat) (e:M T):M T:=fun i f=>
 if (tk L i).kind=1∧((tk L (i+1)).text=[40]∨(tk L (i+1)).text=[123]) then x6 L n e i f else (bnd (q7 L n) (vk L n e)) i f
def q8 {α:Type} (b:Bool) (m:M α):M (α×Bool):=bnd m fun x=>ret (x,b)
def jp (n:Nat) (e:M T):M (T×Bool):=fun i f=>
 if (tk L i).kind=1∧((tk L (i+1)).text=[40]∨(tk L (i+1)).text=[123]) then q8 true (x6 L n e) i f
 else if (tk L i).kind=1∧(tk L (i+1)).text=[91] then
  match q7 L n i f with
  | .ok s j g=>q8 true (vk L n e s) j g
  | .no g=> .ok (T.mk {kind:=4,name:=(tk L i).text} [],false) (i+1) g
  | .oof=> .oof
 else if (tk L i).kind=1∧(tk L (i+1)).text≠[36] then .ok (T.mk {kind:=4,name:=(tk L i).text} [],false) (i+1) f
 else q8 true (bnd (q7 L n) (vk L n e)) i f
def jz (n:Nat) (e:M T):M (T×Bool):=fun i f=>
 if (tk L i).kind=3 then .ok (T.mk {kind:=1,n:=qbQ (tk L i).text} [],false) (i+1) f
 else (qe L [116,114,117,101] (ret (T.mk {kind:=2,n:=1} [],false)) (qe L [102,97,108,115,101] (ret (T.mk {kind:=2} [],false)) (qe L [110,105,108] (ret (T.mk {kind:=3} [],false))
  fun i f=>if qg L i [[117,112],[100,111,119,110]] then q8 false (xC L e) i f else qe L [40] (q8 false (wO L e)) (jp L n e) i f))) i f
def zC (e:M T):Nat→T→Nat→M (T×Nat)
 |0,_,_=>oof
 |n+1,t,fm=>qe L [91] (bnd e fun k=>sq (needs L [[93]]) (zC e n (T.mk {kind:=7} [t,k]) 2))
   (qe L [46] (bnd (name L) fun s=>zC e n (T.mk {kind:=8,name:=s} [t]) 3) (ret (t,fm)))
def zZ (n:Nat) (e:M T):M (T×Nat):=bnd (jz L n e) fun p=>zC L e n p.1 (if p.2 then 1 else 0)
def xR (p:M (T×Nat)):M T:=
 qe L [110,111,116] (bnd p fun x=>ret (T.mk {kind:=6,name:=[110,111,116]} [x.1]))
  (bnd p fun x=>fun i f=>if qg L i xx then (bnd p fun y=>ret (T.mk {kind:=6,name:=(tk L i).text} [x.1,y.1])) (i+1) f else .ok x.1 i f)
def qH:Nat→M T
 |0=>oof
 |n+1=>xR L (zZ L n (qH n))
def qqI (i:Nat):Bool:=decide ((tk L i).kind=1)||decide ((tk L i).kind=3)||
 qg L i [[116,114,117,101],[102,97,108,115,101],[110,105,108],[117,112],[100,111,119,110],[40],[110,111,116],[105,110,116],[98,111,111,108],[110,117,108,108],[97,114,114,97,121],[114,101,99,111,114,100],[111,110,101,111,102],[63]]
def qsJ (i:Nat):Bool:=qg L i [[118,97,114],[112,117,116],[105,102],[119,104,105,108,101],[102,111,114],[114,101,116,117,114,110],[121,105,101,108,100],[115,105,103,110,97,108],[98,114,101,97,107],[98,101,103,105,110],[116,97,103,99,97,115,101]] ||(qqI L i&& !qg L i [[110,111,116]])
def qjI (s:M T):Nat→M (List T)
 |0=>oof
 |n+1=>qe L [59] (bnd s fun x=>bnd (qjI s n) fun xs=>ret (x::xs)) (ret [])
def qqF (n:Nat) (s:M T):M T:=fun i f=>
 if qsJ L i then (bnd s fun x=>bnd (qjI L s n) fun xs=>ret (T.mk {kind:=20} (x::xs))) i f else .ok (T.mk {kind:=20} []) i f
def qh5 (n:Nat):M (Bs×Bs):=bnd (name L) fun nm=>sq (needs L [[58]]) (bnd (jw L n) fun t=>ret (nm,t))
def qqg (e b:M T):Nat→M T
 |0=>oof
 |n+1=>bnd e fun x=>sq (needs L [[116,104,101,110]]) (bnd b fun q=>
   qe L [101,108,115,101,105,102] (bnd (qqg e b n) fun c=>ret (T.mk {kind:=26} [x,q,T.mk {kind:=20} [c]]))
    (qe L [101,108,115,101] (bnd b fun r=>sq (needs L [[101,110,100]]) (ret (T.mk {kind:=26} [x,q,r]))) (sq (needs L [[101,110,100]]) (ret (T.mk {kind:=26} [x,q])))))
def qpv (b:M T):Nat→Bool→M (List T)
 |0,_=>oof
 |n+1,first=>fun i f=>if qg L i [[119,104,101,110]] ||first then
   (sq (needs L [[119,104,101,110]]) (qe L [111,116,104,101,114,115] (sq (needs L [[58]]) (bnd b fun q=>ret [T.mk {kind:=33} [q]]))
    (bnd (name L) fun s=>sq (needs L [[58]]) (bnd b fun q=>bnd (qpv b n false) fun ws=>ret (T.mk {kind:=33,name:=s} [q]::ws))))) i f
  else .ok [] i f
def qzo (n:Nat) (b:M T):M T:=bnd b fun q=>sq (needs L [[101,120,99,101,112,116]]) (bnd (qpv L b n true) fun ws=>sq (needs L [[101,110,100]]) (ret (T.mk {kind:=32} (q::ws))))
def qqQ (k:Nat) (b:M T):Nat→Bool→M (List T)
 |0,_=>oof
 |n+1,first=>fun i f=>if qg L i [[116,97,103]] ||first then
   (sq (needs L [[116,97,103]]) (bnd (name L) fun s=>sq (needs L [[40]]) (bnd (name L) fun v=>sq (needs L [[58]]) (bnd (jw L k) fun t=>sq (needs L [[41],[58]])
    (bnd b fun q=>bnd (qqQ k b n false) fun ws=>ret (T.mk {kind:=36,name:=s,vr:=v,typ:=t} [q]::ws)))))) i f
  else .ok [] i f
def qBu (n:Nat) (e b:M T):M T:=bnd e fun x=>bnd (qqQ L n b n true) fun ws=>sq (needs L [[101,110,100]]) (ret (T.mk {kind:=35} (x::ws)))
def qrm (n:Nat) (e:M T) (p:M (T×Nat)):M T:=fun i f=>
 if (tk L i).kind=1∧(tk L (i+1)).text=[58,61] then (bnd e fun x=>ret (T.mk {kind:=22,name:=(tk L i).text} [x])) (i+2) f
 else (bnd p fun x=>fun i f=>
  if x.2=1∧qg L i [[58,61]]=false then .ok (T.mk {kind:=25} [x.1]) i f
  else if x.2=2∧qg L i [[58,61]]=true then (bnd e fun y=>ret (T.mk {kind:=23} (x.1.kids++[y]))) (i+1) f
  else if x.2=3∧qg L i [[58,61]]=true then (bnd e fun y=>ret (T.mk {kind:=24,name:=x.1.d.name} (x.1.kids++[y]))) (i+1) f
  else .no (max f i)) i f
def qsI (n:Nat) (e:M T) (p:M (T×Nat)) (b:M T):M T:=
 qe L [118,97,114] (bnd (qh5 L n) fun x=>sq (needs L [[58,61]]) (bnd e fun y=>ret (T.mk {kind:=21,name:=x.1,typ:=x.2} [y])))
 (qe L [112,117,116] (bnd e fun y=>ret (T.mk {kind:=37} [y]))
 (qe L [105,102] (qqg L e b n)
 (qe L [119,104,105,108,101] (bnd e fun x=>sq (needs L [[100,111]]) (bnd b fun q=>sq (needs L [[101,110,100]]) (ret (T.mk {kind:=27} [x,q]))))
 (qe L [102,111,114] (bnd (qh5 L n) fun x=>sq (needs L [[105,110]]) (bnd (qAT L n e) fun c=>sq (needs L [[100,111]]) (bnd b fun q=>sq (needs L [[101,110,100]]) (ret (T.mk {kind:=28,name:=x.1,typ:=x.2} [c,q])))))
 (qe L [114,101,116,117,114,110] (fun i f=>if qqI L i then (bnd e fun x=>ret (T.mk {kind:=29} [x])) i f else .ok (T.mk {kind:=29} []) i f)
 (qe L [121,105,101,108,100] (bnd e fun y=>ret (T.mk {kind:=30} [y]))
 (qe L [115,105,103,110,97,108] (bnd (name L) fun s=>ret (T.mk {kind:=31,name:=s} []))
 (qe L [98,114,101,97,107] (ret (T.mk {kind:=34} []))
 (qe L [98,101,103,105,110] (qzo L n b)
 (qe L [116,97,103,99,97,115,101] (qBu L n e b) (qrm L n e p)))))))))))
def qjL:Nat→M T
 |0=>oof
 |n+1=>qsI L n (qH L n) (zZ L n (qH L n)) (qqF L n (qjL n))
def block (n:Nat):M T:=qqF L n (qjL L n)
def signals (n:Nat):M (List Bs):=qe L [115,105,103,110,97,108,115] (sq (needs L [[40]]) (bnd (listed L n (name L)) fun l=>sq (needs L [[41]]) (ret l))) (ret [])
def qqH (n:Nat) (iter:Bool):M (Bs×List Bs):=
 if iter then sq (needs L [[121,105,101,108,100,115]]) (bnd (jw L n) fun t=>bnd (signals L n) fun l=>ret (t,l))
 else qe L [114,101,116,117,114,110,115] (bnd (jw L n) fun t=>bnd (signals L n) fun l=>ret (t,l)) (bnd (signals L n) fun l=>ret ([],l))
def qfl:M Bool:=qe L [105,116,101,114] (ret true) (sq (needs L [[112,114,111,99]]) (ret false))
def head (n:Nat) (iter:Bool):M (Sig×List Bs):=bnd (vM L n (qh5 L n)) fun l=>bnd (qqH L n iter) fun b=>
 ret (⟨iter,l.map (·.2),b.1,b.2⟩,l.map (·.1))
def qqD (n:Nat):M (List Nd):=sq (needs L [[105,115]]) (bnd (block L n) fun t=>sq (needs L [[101,110,100]]) (ret (t.flat 0)))
def qvG (n:Nat):M Need:=bnd (name L) fun o=>sq (needs L [[58]]) (bnd (qfl L) fun it=>bnd (vM L n (jw L n)) fun ws=>bnd (qqH L n it) fun b=>
 ret ⟨o,⟨it,ws,b.1,b.2⟩⟩)
def qiQ (n:Nat):M (List Need):=qe L [119,104,101,114,101] (sq (param L) (sq (needs L [[104,97,115]]) (listed L n (qvG L n)))) (ret [])
def params:M Bool:=qe L [91] (sq (param L) (sq (needs L [[93]]) (ret true))) (ret false)
def qtX (n:Nat):M Rout:=bnd (qfl L) fun it=>bnd (name L) fun nm=>bnd (head L n it) fun h=>bnd (qqD L n) fun l=>ret ⟨nm,h.1,h.2,l⟩
def routs (n:Nat):Nat→M (List Rout)
 |0=>oof
 |k+1=>bnd (qtX L n) fun r=>fun i f=>if qg L i [[112,114,111,99],[105,116,101,114]] then (bnd (routs n k) fun rs=>ret (r::rs)) i f else .ok [r] i f
def qlh (names:List Bs) (rs:List Rout):List Opn:=names.mapIdx fun i s=>⟨s,match rs[i]? with|some r=>r.sig|none=>{}⟩
def qAE (n:Nat):M Mod:=bnd (name L) fun nm=>bnd (params L) fun pr=>sq (needs L [[105,115]]) (bnd (listed L n (name L)) fun names=>bnd (qiQ L n) fun ws=>
 sq (needs L [[114,101,112],[61]]) (bnd (jw L n) fun rep=>bnd (routs L n n) fun rs=>sq (needs L [[101,110,100]]) (ret ⟨⟨nm,3,pr,ws,qlh names rs⟩,rep,rs⟩)))
def qvo (n:Nat):M Mod:=qe L [99,108,117,115,116,101,114] (qAE L n) (bnd (qfl L) fun it=>bnd (name L) fun nm=>bnd (params L) fun pr=>bnd (head L n it) fun h=>
 bnd (qiQ L n) fun ws=>bnd (qqD L n) fun l=>ret ⟨⟨nm,if it then 2 else 1,pr,ws,[⟨nm,h.1⟩]⟩,[],[⟨nm,h.1,h.2,l⟩]⟩)
def Qz (at':Nat):Int:=if L.length=0 then 1 else (tk L (min at' (L.length - 1))).line
end
inductive Ro (α:Type) where
 |val (o:Option α) (i f:Nat)
 |oof
def Ro.andThen {α β:Type} (r:Ro α) (k:α→Nat→Nat→Ro β):Ro β:=match r with| .val (some a) i f=>k a i f| .val none i f=> .val none i f| .oof=> .oof
abbrev N (α:Type):=Nat→Nat→Ro α
def qqE {α β:Type} (m:N α) (k:α→N β):N β:=fun i f=>(m i f).andThen k
section
variable (L:List Tok)
def kI (i k:Nat) (s:Bs):Bool:=decide (i<L.length)&&decide ((tk L i).kind=k)&&(decide (s=[])||decide ((tk L i).text=s))
def rif {α:Type} (k:Nat) (s:Bs) (x y:N α):N α:=fun i f=>if kI L i k s then x (i+1) f else y i (max f i)
def seen {α:Type} (k:Nat) (x:Bs→N α) (y:N α):List Bs→N α
 |[]=>y
 |s::ss=>rif L k s (x s) (seen k x y ss)
end
end Go.L02
namespace Go.L01
open Go.Eng
theorem qur {c:UInt8} (h:xe c=true):part c=false:=by
 simp only [xe,Bool.or_eq_true,decide_eq_true_eq] at h;rcases h with (rfl|rfl)|rfl<;>decide
theorem qAh {c:UInt8} (h:xe c=true):qw c=false:=by
 simp only [xe,Bool.or_eq_true,decide_eq_true_eq] at h;rcases h with (rfl|rfl)|rfl<;>decide
theorem qAg {c:UInt8} (h:qw c=true):part c=true:=by simp [part,h]
theorem qak {p:UInt8→Bool} {s r b:Bs} (h:((s++r).takeWhile p).length=s.length) (n:b=[]∨∃c x,b=c::x∧(p c=false∨∃y,r=c::y)):((s++b).takeWhile p).length=s.length:=by
 have a:∀x∈s,p x=true:=by
  have C:(s++r).takeWhile p=s:=by
   have u:=List.takeWhile_prefix p (l:=s++r);have q:s<+:s++r:=List.prefix_append _ _;exact List.prefix_of_prefix_length_le u q (by omega)|>.eq_of_length h
  intro x A;have t:x∈(s++r).takeWhile p:=by rw [C];exact A
  exact List.all_eq_true.1 (List.all_takeWhile (p:=p) (l:=s++r)) x t
 rw [List.takeWhile_append_of_pos a,List.length_append];rw [List.takeWhile_append_of_pos a,List.length_append] at h;have m:(r.takeWhile p)=[]:=List.length_eq_zero_iff.1 (by omega);rcases n with rfl|⟨c,x,rfl,z|⟨y,rfl⟩⟩
 ·simp
 ·simp [List.takeWhile_cons,z]
 ·have j:p c=false:=by
   cases B:p c with
   |false=>rfl
   |true=>rw [List.takeWhile_cons,B] at m;simp at m
  simp [List.takeWhile_cons,j]
theorem yG:∀s∈qU,(s.length=1∨s.length=2)∧jb (s.getD 0 0)=false∧qw (s.getD 0 0)=false∧(s.length=2→xe (s.getD 1 0)=false)∧(∀c∈s,c≠10∧c≠37∧c≠32∧c≠9):=by decide
theorem qcq:∀s∈zR,jb (s.getD 0 0)=true∧qC s=s.length∧s≠[]:=by decide
theorem qzC {s r A:Bs} {k:Nat} (R:s≠[]) (h:first (s++r)=(k,s.length,0)) (B:A=[]∨∃c x,A=c::x∧(xe c=true∨∃y,r=c::y)):first (s++A)=(k,s.length,0):=by
 obtain ⟨a,s',rfl⟩:∃a s',s=a::s':=by cases s with|nil=>exact absurd rfl R|cons a s'=>exact ⟨a,s',rfl⟩
 have g:∀z:Bs,((a::s')++z).getD 0 0=a:=fun z=>by simp
 unfold first at h⊢
 rw [g] at h⊢;by_cases O:jb a=true
 ·rw [if_pos O] at h⊢;have j:qC ((a::s')++r)=(a::s').length:=by
   split at h
   ·exact (Prod.mk.inj (Prod.mk.inj h).2).1
   ·split at h
    ·have:=(Prod.mk.inj (Prod.mk.inj h).2).2;cases this
    ·exact (Prod.mk.inj (Prod.mk.inj h).2).1
  have l:qC ((a::s')++A)=(a::s').length:=qak j (by
   rcases B with h|⟨c,x,q,m|m⟩
   ·exact .inl h
   ·exact .inr ⟨c,x,q, .inl (qur m)⟩
   ·exact .inr ⟨c,x,q, .inr m⟩)
  rw [j] at h;rw [l];rw [List.take_left] at h⊢;exact h
 ·rw [if_neg O] at h⊢;by_cases J:qw a=true
  ·rw [if_pos J] at h⊢;have j:q9 ((a::s')++r)=(a::s').length:=by
    split at h
    ·exact (Prod.mk.inj (Prod.mk.inj h).2).1
    ·have:=(Prod.mk.inj (Prod.mk.inj h).2).2;cases this
   have l:q9 ((a::s')++A)=(a::s').length:=qak j (by
    rcases B with h|⟨c,x,q,m|m⟩
    ·exact .inl h
    ·exact .inr ⟨c,x,q, .inl (qAh m)⟩
    ·exact .inr ⟨c,x,q, .inr m⟩)
   rw [j] at h;rw [l];rw [List.take_left] at h⊢;exact h
  ·rw [if_neg J] at h⊢;by_cases m:1<((a::s')++r).length∧qy (((a::s')++r).take 2)=true
   ·rw [if_pos m] at h;have n:(a::s').length=2:=(Prod.mk.inj (Prod.mk.inj h).2).1.symm;have I:k=4:=(Prod.mk.inj h).1.symm;obtain ⟨b,rfl⟩:∃b,s'=[b]:=by
     cases s' with
     |nil=>simp at n
     |cons b t=>cases t with
      |nil=>exact ⟨b,rfl⟩
      |cons _ _=>simp at n
    have e:∀z:Bs,([a,b]++z).take 2=[a,b]:=fun z=>by simp
    rw [e] at m⊢;rw [if_pos ⟨by simp,m.2⟩,I];rfl
   ·rw [if_neg m] at h;by_cases q:qy (((a::s')++r).take 1)=true
    ·rw [if_pos q] at h;have n:(a::s').length=1:=(Prod.mk.inj (Prod.mk.inj h).2).1.symm;have I:k=4:=(Prod.mk.inj h).1.symm;obtain rfl:s'=[]:=List.length_eq_zero_iff.1 (by simpa using n);have S:∀z:Bs,([a]++z).take 1=[a]:=fun z=>by simp
     rw [S] at q⊢;have X:¬(1<([a]++A).length∧qy (([a]++A).take 2)=true):=by
      rintro ⟨C,u⟩;rcases B with rfl|⟨c,x,rfl,W|⟨y,rfl⟩⟩
      ·simp at C
      ·have E:([a]++c::x).take 2=[a,c]:=by simp
       rw [E] at u;have:=(yG [a,c] (by simpa [qy] using u)).2.2.2.1 rfl;simp at this;rw [W] at this;cases this
      ·have E:∀z,([a]++c::z).take 2=[a,c]:=fun z=>by simp
       rw [E] at u m;exact m ⟨by simp,u⟩
     rw [if_neg X,if_pos q,I];rfl
    ·rw [if_neg q] at h;have:=(Prod.mk.inj (Prod.mk.inj h).2).2;cases this
theorem jB {k:Nat} {s:Bs} (h:right k s=true):s≠[]∧first s=(k,s.length,0):=by
 unfold right at h;split at h
 ·rename_i c;subst c;simp only [qo,Bool.and_eq_true,decide_eq_true_eq,Bool.not_eq_true'] at h;obtain ⟨⟨⟨⟨j,n⟩,l⟩,t⟩,x⟩:=h;refine ⟨by rintro rfl;simp at j, ?_⟩;unfold first
  rw [if_pos l,t,List.take_length,x,if_neg (by simp),if_neg (by omega)]
 ·split at h
  ·rename_i c;subst c;obtain ⟨j,n,l⟩:=qcq s (by simpa [je] using h);refine ⟨l, ?_⟩;unfold first
   rw [if_pos j,n,List.take_length,if_pos h]
  ·split at h
   ·rename_i c;subst c;have y:=h;simp only [qY,Bool.and_eq_true,Bool.not_eq_true',Bool.or_eq_false_iff,decide_eq_false_iff_not,Decidable.not_not] at h;obtain ⟨⟨⟨⟨j,n⟩,l⟩,t⟩,x⟩:=h;have u:s≠[]:=by rintro rfl;simp at j
    obtain ⟨a,s',rfl⟩:∃a s',s=a::s':=by cases s with|nil=>exact absurd rfl u|cons a s'=>exact ⟨a,s',rfl⟩
    have m:qw a=true:=by
     cases m:qw a with
     |true=>rfl
     |false=>simp [q9,List.takeWhile_cons,m] at l
    have q:jb a=false:=by
     simp only [qw,Bool.and_eq_true,decide_eq_true_eq] at m;simp only [jb,Bool.and_eq_false_iff,decide_eq_false_iff_not];omega
    refine ⟨u, ?_⟩;unfold first
    have g:(a::s').getD 0 0=a:=rfl;rw [g,if_neg (by rw [q];simp),if_pos m,l,List.take_length,if_pos y]
   ·split at h
    ·rename_i c;subst c;obtain ⟨b,q,m,_,_⟩:=yG s (by simpa [qy] using h);refine ⟨by rintro rfl;simp at b, ?_⟩;unfold first
     rw [if_neg (by rw [q];simp),if_neg (by rw [m];simp)];rcases b with j|n
     ·rw [if_neg (by omega),←j,List.take_length,if_pos h]
     ·rw [←n,List.take_length,if_pos ⟨by omega,h⟩]
    ·cases h
theorem qjg {p:UInt8→Bool} (s:Bs):(s.take (s.takeWhile p).length)=s.takeWhile p:=by
 have h:=List.takeWhile_prefix p (l:=s);exact (List.prefix_iff_eq_take.1 h).symm
theorem qr4 {p:UInt8→Bool} (s:Bs):((s.takeWhile p).takeWhile p)=s.takeWhile p:=by
 induction s with
 |nil=>rfl
 |cons a s b=>
  by_cases h:p a=true
  ·simp [List.takeWhile_cons,h,b]
  ·simp [List.takeWhile_cons,h]
theorem qpG {s:Bs} (A:s≠[]) (h:(first s).2.2=0):right (first s).1 (s.take (first s).2.1)=true∧((first s).1=1∨(first s).1=2∨(first s).1=3∨(first s).1=4):=by
 obtain ⟨a,t,rfl⟩:∃a t,s=a::t:=by cases s with|nil=>exact absurd rfl A|cons a t=>exact ⟨a,t,rfl⟩
 have g:(a::t).getD 0 0=a:=rfl;unfold first at h⊢
 rw [g] at h⊢;by_cases l:jb a=true
 ·rw [if_pos l] at h⊢;have z:0<qC (a::t):=qkl (by rw [g];exact l);have q:(a::t).take (qC (a::t))=(a::t).takeWhile part:=qjg _;by_cases j:je ((a::t).take (qC (a::t)))=true
  ·rw [if_pos j];exact ⟨by simpa [right] using j,by simp⟩
  ·rw [if_neg j] at h⊢;by_cases b:12<qC (a::t)
   ·rw [if_pos b] at h;cases h
   ·rw [if_neg b];refine ⟨?_,by simp⟩;simp only [right,if_true,qo,Bool.and_eq_true,decide_eq_true_eq,Bool.not_eq_true'];have B:qC (a::t)≤(a::t).length:=Q5 _ _;have c:((a::t).take (qC (a::t))).length=qC (a::t):=by rw [List.length_take];omega
    refine ⟨⟨⟨⟨by omega,by omega⟩, ?_⟩, ?_⟩,by simpa using j⟩
    ·obtain ⟨m,C⟩:∃m,qC (a::t)=m+1:=⟨qC (a::t) - 1,by omega⟩;rw [C];simpa using l
    ·rw [c,q];show ((List.takeWhile part (a::t)).takeWhile part).length=_;rw [qr4];rfl
 ·rw [if_neg l] at h⊢;by_cases y:qw a=true
  ·rw [if_pos y] at h⊢;by_cases u:qY ((a::t).take (q9 (a::t)))=true
   ·rw [if_pos u];exact ⟨by simpa [right] using u,by simp⟩
   ·rw [if_neg u] at h;cases h
  ·rw [if_neg y] at h⊢;by_cases n:1<(a::t).length∧qy ((a::t).take 2)=true
   ·rw [if_pos n];exact ⟨by simpa [right] using n.2,by simp⟩
   ·rw [if_neg n] at h⊢;by_cases x:qy ((a::t).take 1)=true
    ·rw [if_pos x];exact ⟨by simpa [right] using x,by simp⟩
    ·rw [if_neg x] at h;cases h
theorem wo {k:Nat} {s:Bs} (h:right k s=true):∀c∈s,c≠10∧c≠37∧c≠32∧c≠9:=by
 have n:∀c:UInt8,part c=true→c≠10∧c≠37∧c≠32∧c≠9:=by
  intro c a;refine ⟨?_, ?_, ?_, ?_⟩<;>rintro rfl<;>revert a<;>decide
 have b:qC s=s.length→∀c∈s,part c=true:=by
  intro t c a;have j:=List.takeWhile_prefix part (l:=s);have m:=j.eq_of_length t;exact List.all_eq_true.1 (List.all_takeWhile (p:=part) (l:=s)) c (by rw [m];exact a)
 unfold right at h;split at h
 ·simp only [qo,Bool.and_eq_true,decide_eq_true_eq] at h;exact fun c a=>n c (b h.1.2 c a)
 ·split at h
  ·obtain ⟨_,j,_⟩:=qcq s (by simpa [je] using h);exact fun c a=>n c (b j c a)
  ·split at h
   ·simp only [qY,Bool.and_eq_true,Bool.not_eq_true',Bool.or_eq_false_iff,decide_eq_false_iff_not,Decidable.not_not] at h;obtain ⟨⟨⟨⟨y,j⟩,m⟩,u⟩,x⟩:=h;have q:=(List.takeWhile_prefix qw (l:=s)).eq_of_length m;exact fun c a=>n c (qAg (List.all_eq_true.1 (List.all_takeWhile (p:=qw) (l:=s)) c (by rw [q];exact a)))
   ·split at h
    ·exact (yG s (by simpa [qy] using h)).2.2.2.2
    ·cases h
theorem ym {k:Nat} {s r:Bs} {l:Int} (j:s≠[]) (h:first (s++r)=(k,s.length,0)) (m:∀c∈s,c≠10∧c≠37∧c≠32∧c≠9):qp (s++r) l=(qp r l).add [⟨k,s,l⟩] []:=by
 obtain ⟨a,t,rfl⟩:∃a t,s=a::t:=by cases s with|nil=>exact absurd rfl j|cons a t=>exact ⟨a,t,rfl⟩
 obtain ⟨b,b2,b3,b4⟩:=m a (by simp);rw [List.cons_append] at h⊢;rw [Qj,if_neg b,if_neg (by rintro (h|h)<;>contradiction),if_neg b2,h];rw [if_neg (by simp)];have e:a::(t++r)=(a::t)++r:=rfl;simp only [e];rw [List.drop_left,List.take_left]
theorem qcT {P:Bs→Int→Prop} (B:∀l,P [] l) (Y:∀r l,P r (l+1)→P (10::r) l) (R:∀c r l,(c=32∨c=9)→P r l→P (c::r) l)
  (J:∀a r l,(∀c∈a,c≠10)→(r=[]∨∃x,r=10::x)→P r l→P (37::a++r) l)
  (O:∀c r l,c≠10→c≠32→c≠9→c≠37→(first (c::r)).2.2≠0→P (c::r) l)
  (W:∀k s r l,right k s=true→first (s++r)=(k,s.length,0)→P r l→P (s++r) l):∀s l,P s l:=by
 have key:∀n,∀s:Bs,s.length≤n→∀l,P s l:=by
  intro n
  induction n with
  |zero=>
   intro s z l;have:s=[]:=List.length_eq_zero_iff.1 (by omega);subst this;exact B l
  |succ n m=>
   intro s z l;cases s with
   |nil=>exact B l
   |cons c r=>
    simp only [List.length_cons] at z;by_cases A:c=10
    ·subst A;exact Y r l (m r (by omega) _)
    ·by_cases t:c=32∨c=9
     ·exact R c r l t (m r (by omega) _)
     ·by_cases E:c=37
      ·subst E;have X:r=r.takeWhile (fun c=>decide (c≠10))++r.dropWhile (fun c=>decide (c≠10)):=List.takeWhile_append_dropWhile.symm;have u:(r.dropWhile (fun c=>decide (c≠10))).length≤r.length:=(List.dropWhile_sublist _).length_le;have h:=J (r.takeWhile (fun c=>decide (c≠10))) (r.dropWhile (fun c=>decide (c≠10))) l (fun c S=>by
        have:=List.all_eq_true.1 (List.all_takeWhile (p:=fun c=>decide (c≠10)) (l:=r)) c S;simpa using this) ?_ (m _ (by omega) _)
       ·rw [List.cons_append,←X] at h;exact h
       ·cases C:r.dropWhile (fun c=>decide (c≠10)) with
        |nil=>exact .inl rfl
        |cons x y=>
         refine .inr ⟨y, ?_⟩;have:=List.head_dropWhile_not (p:=fun c=>decide (c≠10)) (l:=r) (by rw [C];simp);simp only [C,List.head_cons] at this;rw [show x=10 by simpa using this]
      ·by_cases q:(first (c::r)).2.2=0
       ·obtain ⟨I,_⟩:=qpG (s:=c::r) (by simp) q;obtain ⟨Z,u⟩:=qb6 (s:=c::r) q (by simp);have b:(c::r)=(c::r).take (first (c::r)).2.1++(c::r).drop (first (c::r)).2.1:=(List.take_append_drop _ _).symm;have j:((c::r).take (first (c::r)).2.1).length=(first (c::r)).2.1:=by rw [List.length_take];omega
        have h:=W (first (c::r)).1 ((c::r).take (first (c::r)).2.1) ((c::r).drop (first (c::r)).2.1) l I (by rw [←b,j,←q]) (m _ (by simp only [List.length_drop,List.length_cons];omega) _);rw [←b] at h;exact h
       ·exact O c r l A (fun h=>t (.inl h)) (fun h=>t (.inr h)) E q
 exact fun s l=>key s.length s (Nat.le_refl _) l
theorem wm (r:Bs) (l:Int):qp (10::r) l=qp r (l+1):=by rw [Qj,if_pos rfl]
theorem wN {c:UInt8} (r:Bs) (l:Int) (h:c=32∨c=9):qp (c::r) l=qp r l:=by
 rw [Qj,if_neg (by rcases h with rfl|rfl<;>decide),if_pos h]
theorem qAC {a r:Bs} (j:∀c∈a,c≠10) (h:r=[]∨∃x,r=10::x):jt (37::a++r)=(37::a).length:=by
 unfold jt;rw [List.takeWhile_append_of_pos (fun c b=>by
  rcases List.mem_cons.1 b with rfl|b
  ·decide
  ·simpa using j c b)]
 rcases h with rfl|⟨x,rfl⟩<;>simp
theorem qaj {a r:Bs} (l:Int) (j:∀c∈a,c≠10) (b:r=[]∨∃x,r=10::x):qp (37::a++r) l=(qp r l).add [] [37::a]:=by
 have h:=qAC j b;rw [List.cons_append] at h⊢;rw [Qj,if_neg (by decide),if_neg (by decide),if_pos rfl,h];have e:(37:UInt8)::(a++r)=(37::a)++r:=rfl;simp only [e];rw [List.drop_left,List.take_left]
theorem qbq {c:UInt8} {r:Bs} (l:Int) (b:c≠10) (m:c≠32) (j:c≠9) (a:c≠37) (h:(first (c::r)).2.2≠0):qp (c::r) l= .bad (first (c::r)).2.2 l:=by
 rw [Qj,if_neg b,if_neg (by rintro (h|h)<;>contradiction),if_neg a,if_pos h]
end Go.L01
namespace Go.L02
open Go.Eng
open Go.L01 (Bs Tok je qY qo qy right)
def jv (L:List Tok):Prop:=∀t∈L,right t.kind t.text=true
def qq8 {β:Type} (f:Nat) (D:Nat→Nat→Prop):Ro β→Prop
 | .oof=>True
 | .val none _ g=>f=g
 | .val (some _) j g=>f=max g j∧D f j
def Sim {α β:Type} (i:Nat) (D:Nat→Nat→Prop) (V:Nat→α→β→Prop) (r:Rs α):Ro β→Prop
 | .oof=>True
 | .val o j' g=>match r with
  | .oof=>True
  | .no f=>i≤f∧qq8 f D (.val o j' g)
  | .ok a j f=>∃b,o=some b∧j'=j∧i≤j∧max f j=max g j∧V j a b
section
variable {α β γ δ:Type} {i:Nat} {D D':Nat→Nat→Prop} {V:Nat→α→β→Prop} {U:Nat→γ→δ→Prop}
theorem Sim.no {f:Nat} {s:Ro β} (a:i≤f) (h:qq8 f D s):Sim i D V (.no f:Rs α) s:=by
 cases s with
 |oof=>trivial
 |val o j g=>exact ⟨a,h⟩
end
section
variable {L:List Tok}
theorem kz {i:Nat} (h:i<L.length):tk L i=L[i]:=by simp [tk,h]
theorem kw {i:Nat} (h:L.length≤i):tk L i=⟨0,[],0⟩:=by simp [tk,h]
theorem jv.tk (b:jv L) {i:Nat} (h:(tk L i).kind≠0):i<L.length∧right (tk L i).kind (tk L i).text=true:=by
 by_cases a:i<L.length
 ·exact ⟨a,by rw [kz a];exact b _ (List.getElem_mem a)⟩
 ·rw [kw (by omega)] at h;exact absurd rfl h
end
section
variable {L:List Tok} {α β:Type} {i f g:Nat} {D:Nat→Nat→Prop} {V:Nat→α→β→Prop}
theorem qgz {k:Nat} {s:Bs} (h:kI L i k s=true) (a:s≠[]):i<L.length∧(tk L i).kind=k∧(tk L i).text=s:=by
 simpa [kI,a,and_assoc] using h
end
theorem x9 {α β γ:Type} (m:M α) (k:α→M β) (l:β→M γ):bnd (bnd m k) l=bnd m fun x=>bnd (k x) l:=by
 funext i f;unfold bnd;cases m i f<;>rfl
theorem wc {α β:Type} (a:α) (k:α→M β):bnd (ret a) k=k a:=rfl
theorem Ql {α:Type} (m:M α):(bnd m fun x=>ret x)=m:=by
 funext i f;unfold bnd ret;cases m i f<;>rfl
theorem qcF {α β:Type} {L:List Tok} (s:Bs) (x y:M α) (k:α→M β):bnd (qe L s x y) k=qe L s (bnd x k) (bnd y k):=by
 funext i f;unfold bnd qe;split<;>rfl
section
variable {L:List Tok}
end
section
variable {L:List Tok}
theorem qwB {i k m:Nat} {s t:Bs} (h:kI L i k s=true) (j:s≠[]) (n:t≠[]) (a:¬(k=m∧s=t)):kI L i m t=false:=by
 obtain ⟨_,u,q⟩:=qgz h j;cases b:kI L i m t with
 |false=>rfl
 |true=>
  obtain ⟨_,c,l⟩:=qgz b n;exact absurd ⟨u.symm.trans c,q.symm.trans l⟩ a
def qq9 {α:Type} (m:M α):Prop:=∀i,(∃a k,∀f,m i f= .ok a k f)∨(∃p,∀f,m i f= .no (max f p))∨∀f,m i f= .oof
theorem qq9.all {α:Type} {m:M α} (h:qq9 m) {i k f n:Nat} {a:α} (c:m i f= .ok a k n):n=f∧∀g,m i g= .ok a k g:=by
 rcases h i with ⟨b,l,j⟩|⟨p,j⟩|j
 ·rw [j] at c;cases c;exact ⟨rfl,j⟩
 ·rw [j] at c;cases c
 ·rw [j] at c;cases c
def Up {α:Type} (m:M α):Prop:=∀i f,match m i f with| .ok _ j f'=>i≤j∧f≤f'| .no f'=>i≤f'∧f≤f'| .oof=>True
theorem Up.ok {α:Type} {m:M α} (h:Up m) {i f j b:Nat} {a:α} (e:m i f= .ok a j b):i≤j∧f≤b:=by have:=h i f;rw [e] at this;exact this
theorem Up.no {α:Type} {m:M α} (h:Up m) {i f a:Nat} (e:m i f= .no a):i≤a∧f≤a:=by have:=h i f;rw [e] at this;exact this
theorem jL {α:Type} (a:α):Up (ret a):=fun i f=>⟨Nat.le_refl _,Nat.le_refl _⟩
theorem qcs {α:Type}:Up (oof:M α):=fun i f=>trivial
theorem qrG {α:Type}:Up (QI:M α):=fun i f=>⟨Nat.le_max_right _ _,Nat.le_max_left _ _⟩
theorem qW {α β:Type} {m:M α} {k:α→M β} (t:Up m) (n:∀a,Up (k a)):Up (bnd m k):=by
 intro i f;unfold bnd;cases h:m i f with
 |oof=>trivial
 |no q=>exact t.no h
 |ok a j q=>
  obtain ⟨A,z⟩:=t.ok h;simp only [Rs.andThen];cases c:k a j q with
  |oof=>trivial
  |no x=>obtain ⟨u,y⟩:=(n a).no c;exact ⟨by omega,by omega⟩
  |ok b l x=>obtain ⟨u,y⟩:=(n a).ok c;exact ⟨by omega,by omega⟩
theorem qeN {α:Type} {x:M α} (b:Up x) (i f n:Nat):match x (i+n) f with| .ok _ j a=>i≤j∧f≤a| .no a=>i≤a∧f≤a| .oof=>True:=by
 have:=b (i+n) f;split<;>rename_i h<;>rw [h] at this
 ·exact ⟨by omega,this.2⟩
 ·exact ⟨by omega,this.2⟩
 ·trivial
theorem vO {α:Type} {s:Bs} {x y:M α} (b:Up x) (a:Up y):Up (qe L s x y):=by
 intro i f;unfold qe;cases h:qg L i [s] with
 |true=>exact qeN b i f 1
 |false=>exact a i f
theorem jC:∀ss:List Bs,Up (needs L ss)
 |[]=>jL _
 |s::ss=>vO (jC ss) qrG
theorem kf:Up (name L):=by
 intro i f;unfold name;by_cases h:(tk L i).kind=1
 ·simp only [h,if_true];exact ⟨by omega,Nat.le_refl _⟩
 ·simp only [h,if_false];exact ⟨by omega,by omega⟩
theorem qrC:Up (param L):=by
 intro i f;unfold param;by_cases h:(tk L i).kind=1∧(tk L i).text=[116]
 ·rw [if_pos h];exact ⟨by omega,Nat.le_refl _⟩
 ·rw [if_neg h];exact ⟨by omega,by omega⟩
theorem qct {α:Type} {m:M α} (h:Up m):∀n,Up (more L m n)
 |0=>qcs
 |n+1=>vO (qW h fun _=>qW (qct h n) fun _=>jL _) (jL _)
theorem qcu {α:Type} {m:M α} (h:Up m) (n:Nat):Up (listed L n m):=qW h fun _=>qW (qct h n) fun _=>jL _
theorem wE:∀n,Up (kind L n)
 |0=>qcs
 |n+1=>by
  have a:=wE n;have b:Up (sq (needs L [[91]]) (sq (listed L n (z6 L (kind L n))) (needs L [[93]]))):=qW (jC _) fun _=>qW
   (qcu (qW kf fun _=>qW (jC _) fun _=>qW a fun _=>jL _) n) fun _=>jC _
  exact vO (jL _) (vO (jL _) (vO (jL _) (vO (qW (jC _) fun _=>qW a fun _=>jC _)
   (vO b (vO b (vO qrC (qW kf fun _=>vO (qW a fun _=>jC _) (jL _))))))))
def qeC {α:Type} (k g:Nat):Ro α→Prop
 | .oof=>True
 | .val none _ g'=>g'=g
 | .val (some _) k' g'=>k'=k∧g'=g
theorem qeC.bnd {α β:Type} {k g l i b:Nat} {m:N α} {x:α→N β} (h:qeC k g (m i b)) (n:∀a,qeC l g (x a k g)):qeC l g (qqE m x i b):=by
 unfold qqE;cases c:m i b with
 |oof=>trivial
 |val o j q=>
  rw [c] at h;cases o with
  |none=>exact h
  |some a=>obtain ⟨rfl,rfl⟩:=h;exact n a
end
section
variable {L:List Tok}
abbrev D1 (L:List Tok):Nat→Nat→Prop:=fun _ j=>kI L j 4 [36]=true∨kI L j 4 [40]=true∨kI L j 4 [123]=true
theorem D1.no {f j:Nat} (h:D1 L f j) {k:Nat} {s:Bs} (b:s≠[]) (a:[[36],[40],[123]].contains s=false):kI L j k s=false:=by
 rcases h with h|h|h<;>exact qwB h (by decide) b (by rintro ⟨_,rfl⟩;revert a;decide)
theorem D1.kind {f j:Nat} (h:D1 L f j):(tk L j).kind=4:=by
 rcases h with h|h|h<;>exact (qgz h (by decide)).2.1
theorem qT {α β:Type} {m:M α} {k:α→M β} {i f j b:Nat} {a:α} (h:m i f= .ok a j b):bnd m k i f=k a j b:=by unfold bnd;rw [h];rfl
theorem qvI {i f:Nat} (h:(tk L i).kind=1):name L i f= .ok (tk L i).text (i+1) f:=by unfold name;rw [if_pos h]
theorem qvj {i f:Nat} (h:(tk L i).kind=2) (a:ke.contains (tk L i).text=true):op L i f= .ok (tk L i).text (i+1) f:=by unfold op;rw [if_pos ⟨h,a⟩]
theorem qvk {α:Type} {k:Bs→M α} {i f:Nat} (h:¬((tk L i).kind=2∧ke.contains (tk L i).text=true)):bnd (op L) k i f=
  bnd (name L) (fun s=>qe L [95] (bnd (name L) fun u=>k (s++([95]++u))) (k s)) i f:=by
 have a:(bnd (name L) fun s=>qe L [95] (bnd (name L) fun u=>k (s++([95]++u))) (k s))=
   bnd (bnd (name L) fun s=>qe L [95] (bnd (name L) fun u=>ret (s++([95]++u))) (ret s)) k:=by
  simp only [x9,qcF,wc]
 rw [a];show Rs.andThen (op L i f) _=Rs.andThen _ _;unfold op;rw [if_neg h]
theorem QZ (n:Nat):Up (jw L n):=by
 intro i f;have:=wE (L:=L) n i f;unfold jw;cases h:kind L n i f<;>rw [h] at this<;>exact this
theorem qrD:Up (op L):=by
 intro i f;unfold op;by_cases h:(tk L i).kind=2∧ke.contains (tk L i).text=true
 ·rw [if_pos h];exact ⟨by omega,Nat.le_refl _⟩
 ·rw [if_neg h];exact (qW kf fun _=>vO (qW kf fun _=>jL _) (jL _)) i f
theorem yB (n:Nat):Up (q7 L n):=qW (QZ n) fun _=>qW (jC _) fun _=>jL _
theorem Q0 {α:Type} {e:M α} (a:Up e) (n:Nat):Up (vM L n e):=qW (jC _) fun _=>vO (jL _) (qW (qcu a n) fun _=>qW (jC _) fun _=>jL _)
theorem qiX {e:M T} (a:Up e) (n:Nat):Up (x6 L n e):=qW kf fun _=>vO (qW (QZ n) fun _=>qW (jC _) fun _=>qW (Q0 a n) fun _=>jL _) (qW (Q0 a n) fun _=>jL _)
theorem qeM {e:M T} (a:Up e) (n:Nat) (o:Bs):Up (vk L n e o):=qW qrD fun _=>qW (Q0 a n) fun _=>jL _
theorem qiW {e:M T} (a:Up e) (n:Nat):Up (bnd (q7 L n) (vk L n e)):=qW (yB n) fun _=>qeM a n _
theorem qba {α:Type} {b:Bool} {m:M α} (h:Up m):Up (q8 b m):=qW h fun _=>jL _
theorem qrE {e:M T} (c:Up e) (n:Nat):Up (jp L n e):=by
 intro i f;unfold jp;by_cases h:(tk L i).kind=1∧((tk L (i+1)).text=[40]∨(tk L (i+1)).text=[123])
 ·rw [if_pos h];exact qba (qiX c n) i f
 ·rw [if_neg h];by_cases m:(tk L i).kind=1∧(tk L (i+1)).text=[91]
  ·rw [if_pos m];have:=yB (L:=L) n i f;cases l:q7 L n i f with
   |oof=>trivial
   |no g=>rw [l] at this;exact ⟨by omega,this.2⟩
   |ok s j g=>
    rw [l] at this;have a:=qba (b:=true) (qeM (L:=L) c n s) j g;simp only;cases q:q8 true (vk L n e s) j g<;>rw [q] at a<;>first|trivial|exact ⟨by omega,by omega⟩
  ·rw [if_neg m];by_cases a:(tk L i).kind=1∧(tk L (i+1)).text≠[36]
   ·rw [if_pos a];exact ⟨by omega,Nat.le_refl _⟩
   ·rw [if_neg a];exact qba (qiW c n) i f
theorem qrB {e:M T} (a:Up e):Up (xC L e):=fun i f=>qeN (qW (jC _) fun _=>qW a fun _=>qW (jC _) fun _=>jL _) i f 1
theorem qiV {e:M T} (a:Up e):Up (wO L e):=qW a fun _=>qW (jC _) fun _=>jL _
theorem qiY {α:Type} {m x:M α} {i f:Nat} (e:m i f=x i f) (h:Up x):match m i f with| .ok _ j a=>i≤j∧f≤a| .no a=>i≤a∧f≤a| .oof=>True:=by rw [e];exact h i f
theorem qrF {α:Type} {c:Nat→Bool} {x y:M α} (b:Up x) (a:Up y):Up (fun i f=>if c i then x i f else y i f):=by
 intro i f;by_cases h:c i=true
 ·exact qiY (m:=fun i f=>if c i then x i f else y i f) (x:=x) (if_pos h) b
 ·exact qiY (m:=fun i f=>if c i then x i f else y i f) (x:=y) (if_neg h) a
theorem qiT {e:M T} (a:Up e) (n:Nat):Up (jz L n e):=by
 intro i f;unfold jz;by_cases h:(tk L i).kind=3
 ·rw [if_pos h];exact ⟨by omega,Nat.le_refl _⟩
 ·rw [if_neg h];exact (vO (jL _) (vO (jL _) (vO (jL _) (qrF (c:=fun i=>qg L i [[117,112],[100,111,119,110]]) (qba (qrB a)) (vO (qba (qiV a)) (qrE a n)))))) i f
theorem qeL {e:M T} (a:Up e):∀n t fm,Up (zC L e n t fm)
 |0,_,_=>qcs
 |n+1,t,fm=>vO (qW a fun _=>qW (jC _) fun _=>qeL a n _ _) (vO (qW kf fun _=>qeL a n _ _) (jL _))
theorem qiU {e:M T} (a:Up e) (n:Nat):Up (zZ L n e):=qW (qiT a n) fun _=>qeL a n _ _
theorem qrH {p:M (T×Nat)} (a:Up p):Up (xR L p):=vO (qW a fun _=>jL _) (qW a fun x=>by
 intro i f;by_cases h:qg L i xx=true
 ·simp only [if_pos h];exact qeN (qW a fun _=>jL _) i f 1
 ·simp only [if_neg h];exact ⟨Nat.le_refl _,Nat.le_refl _⟩)
theorem qcv:∀n,Up (qH L n)
 |0=>qcs
 |n+1=>qrH (qiU (qcv n) n)
end
section
variable {L:List Tok}
theorem jJ {α β:Type} {m:M α} {k:α→M β} {i f a:Nat} (h:m i f= .no a):bnd m k i f= .no a:=by unfold bnd;rw [h];rfl
theorem vg {α β:Type} {m:M α} {k:α→M β} {i f:Nat} (h:m i f= .oof):bnd m k i f= .oof:=by unfold bnd;rw [h];rfl
end
section
variable {L:List Tok}
def D2 (L:List Tok):Nat→Nat→Prop:=fun _ j=>kI L j 4 [59]=false∧∀s∈[[101,110,100],[101,108,115,101,105,102],[101,108,115,101],[101,120,99,101,112,116],[119,104,101,110],[116,97,103]],kI L j 2 s=false
theorem D1.two {f j:Nat} (h:D1 L f j):D2 L f j:=⟨h.no (by decide) (by decide),fun s a=>h.no (by rintro rfl;revert a;decide) (by revert s;decide)⟩
theorem D2.far {f a j:Nat} (h:D2 L f j):D2 L a j:=h
def RU {α:Type} (m:N α):Prop:=∀i g,match m i g with| .val _ j g'=>i≤j∧g≤g'| .oof=>True
theorem RU.val {α:Type} {m:N α} (h:RU m) {i g j a:Nat} {o:Option α} (e:m i g= .val o j a):i≤j∧g≤a:=by have:=h i g;rw [e] at this;exact this
end
section
variable {L:List Tok}
theorem D2.w {F j:Nat} (h:D2 L F j) {s:Bs} (a:[[101,110,100],[101,108,115,101,105,102],[101,108,115,101],[101,120,99,101,112,116],[119,104,101,110],[116,97,103]].contains s=true):kI L j 2 s=false:=h.2 s (by simpa using a)
end
section
variable {L:List Tok}
def qO {α:Type} (L:List Tok) (N:Nat) (m:M α):Prop:=∀i f,L.length - i<N→m i f≠ .oof
def Con {α:Type} (L:List Tok) (m:M α):Prop:=∀i f a j f',m i f= .ok a j f'→i<j∧i<L.length
theorem qO.mono {α:Type} {N K:Nat} {m:M α} (h:qO L N m) (b:K≤N):qO L K m:=fun i f a=>h i f (by omega)
theorem ve {α:Type} (a:α) (N:Nat):qO L N (ret a):=fun i f _ h=>by cases h
theorem qrW {α:Type} (N:Nat):qO L N (QI:M α):=fun i f _ h=>by cases h
theorem qcC {α:Type} (m:M α):qO L 0 m:=fun i f h=>by omega
theorem jh {α β:Type} {N:Nat} {m:M α} {k:α→M β} (c:qO L N m) (l:Up m) (q:∀a,qO L N (k a)):qO L N (bnd m k):=by
 intro i f n;cases h:m i f with
 |oof=>exact absurd h (c i f n)
 |no b=>rw [jJ h];simp
 |ok a j b=>rw [qT h];exact q a j b (by have:=(l.ok h).1;omega)
theorem qcE {α β:Type} {N:Nat} {m:M α} {k:α→M β} (l:qO L N m) (c:Con L m) (q:∀a,qO L (N - 1) (k a)):qO L N (bnd m k):=by
 intro i f n;cases h:m i f with
 |oof=>exact absurd h (l i f n)
 |no b=>rw [jJ h];simp
 |ok a j b=>rw [qT h];exact q a j b (by have:=c _ _ _ _ _ h;omega)
theorem xn {i:Nat} {ss:List Bs} (h:qg L i ss=true):i<L.length:=by
 by_cases a:i<L.length
 ·exact a
 ·unfold qg at h;rw [kw (by omega)] at h;simp at h
theorem xM {i:Nat} {k:Nat} (h:(tk L i).kind=k) (b:k≠0):i<L.length:=by
 by_cases a:i<L.length
 ·exact a
 ·rw [kw (by omega)] at h;exact absurd h.symm b
theorem zz {α:Type} {N:Nat} {s:Bs} {x y:M α} (c:qO L (N - 1) x) (b:qO L N y):qO L N (qe L s x y):=by
 intro i f a;unfold qe;split
 ·rename_i h;have:=xn h;exact c _ _ (by omega)
 ·exact b _ _ a
theorem xW (N:Nat):∀ss:List Bs,qO L N (needs L ss)
 |[]=>ve _ _
 |s::ss=>zz (xW (N - 1) ss) (qrW _)
theorem qaU {s:Bs}:Con L (needs L [s]):=by
 intro i f a j c h;unfold needs qe at h;split at h
 ·rename_i b;simp only [needs,ret,Rs.ok.injEq] at h;have:=xn b;omega
 ·cases h
theorem Q4 (N:Nat):qO L N (name L):=by
 intro i f _ h;unfold name at h;split at h<;>cases h
theorem qaV:Con L (name L):=by
 intro i f a j c h;unfold name at h;split at h
 ·rename_i b;simp only [Rs.ok.injEq] at h;have:=xM b (by decide);omega
 ·cases h
theorem qrR (N:Nat):qO L N (param L):=by
 intro i f _ h;unfold param at h;split at h<;>cases h
theorem qAy {α β:Type} {m:M α} {k:α→M β} (u:Con L m) (t:∀a,Up (k a)):Con L (bnd m k):=by
 intro i f a j y h;cases c:m i f with
 |oof=>rw [vg c] at h;cases h
 |no q=>rw [jJ c] at h;cases h
 |ok b l q=>
  rw [qT c] at h;have n:=u _ _ _ _ _ c;have x:=((t b).ok h).1;exact ⟨by omega,n.2⟩
theorem qi8 {α:Type} {e:M α} (a:Up e):∀n N,N≤n→qO L (N - 1) e→qO L N (more L e n)
 |0,N,h,_=>by
  obtain rfl:N=0:=by omega
  exact qcC _
 |n+1,N,h,b=>zz (jh b a fun _=>jh (qi8 a n (N - 1) (by omega) (b.mono (by omega))) (qct a n) fun _=>ve _ _) (ve _ _)
theorem qi9 {α:Type} {e:M α} (a:Up e) {n N:Nat} (h:N≤n) (b:qO L N e):qO L N (listed L n e):=jh b a fun _=>jh (qi8 a n N h (b.mono (by omega))) (qct a n) fun _=>ve _ _
theorem qeV {α:Type} {e:M α} (a:Up e) {n N:Nat} (h:N≤n) (b:qO L (N - 1) e):qO L N (vM L n e):=
 qcE (xW _ _) qaU fun _=>zz (ve _ _) (jh (qi9 a (by omega) b) (qcu a n) fun _=>jh (xW _ _) (jC _) fun _=>ve _ _)
theorem qbb {k:M Unit} (h:Up k):Up (z6 L k):=qW kf fun _=>qW (jC _) fun _=>qW h fun _=>jL _
theorem qeU:∀n,qO L n (kind L n)
 |0=>qcC _
 |n+1=>by
  have b:=qeU n;have a:=wE (L:=L) n;have h:qO L n (z6 L (kind L n)):=jh (Q4 _) kf fun _=>jh (xW _ _) (jC _) fun _=>jh b a fun _=>ve _ _;have c:qO L n (sq (needs L [[91]]) (sq (listed L n (z6 L (kind L n))) (needs L [[93]]))):=jh (xW _ _) (jC _) fun _=>jh (qi9 (qbb a) (Nat.le_refl _) h) (qcu (qbb a) n) fun _=>xW _ _;exact zz (ve _ _) (zz (ve _ _) (zz (ve _ _) (zz (jh (xW _ _) (jC _) fun _=>jh b a fun _=>xW _ _)
   (zz c (zz c (zz (qrR _) (qcE (Q4 _) qaV fun _=>zz (jh (b.mono (by omega)) a fun _=>xW _ _) (ve _ _))))))))
theorem qi6 (n:Nat):qO L n (jw L n):=by
 intro i f l h;unfold jw at h;cases b:kind L n i f with
 |oof=>exact qeU n i f l b
 |no c=>rw [b] at h;cases h
 |ok a j c=>rw [b] at h;cases h
theorem qeT (n:Nat):qO L n (q7 L n):=jh (qi6 n) (QZ n) fun _=>jh (xW _ _) (jC _) fun _=>ve _ _
theorem qrT (N:Nat):qO L N (op L):=by
 intro i f a;unfold op;split
 ·simp
 ·exact (jh (Q4 N) kf fun _=>zz (jh (Q4 _) kf fun _=>ve _ _) (ve _ _)) i f a
theorem qia:Con L (op L):=by
 intro i f a j c h;unfold op at h;split at h
 ·rename_i b;simp only [Rs.ok.injEq] at h;have:=xM b.1 (by decide);omega
 ·exact qAy qaV (fun _=>vO (qW kf fun _=>jL _) (jL _)) _ _ _ _ _ h
theorem qrV {e:M T} (a:Up e) {n N:Nat} (h:N≤n) (b:qO L (N - 1) e):qO L N (x6 L n e):=qcE (Q4 _) qaV fun _=>
 zz (jh ((qi6 n).mono (by omega)) (QZ n) fun _=>jh (xW _ _) (jC _) fun _=>jh (qeV a (by omega) (b.mono (by omega))) (Q0 a n) fun _=>ve _ _)
  (jh (qeV a (by omega) (b.mono (by omega))) (Q0 a n) fun _=>ve _ _)
theorem qi7 {e:M T} (a:Up e) {n N:Nat} (h:N≤n) (b:qO L (N - 1) e) (o:Bs):qO L N (vk L n e o):=qcE (qrT _) qia fun _=>jh (qeV a (by omega) (b.mono (by omega))) (Q0 a n) fun _=>ve _ _
theorem qrS {e:M T} (b:Up e) {n N:Nat} (h:N≤n) (a:qO L (N - 1) e):qO L N (bnd (q7 L n) (vk L n e)):=jh ((qeT n).mono h) (yB n) fun _=>qi7 b h a _
theorem qcD {α:Type} {b:Bool} {m:M α} {N:Nat} (h:qO L N m) (a:Up m):qO L N (q8 b m):=jh h a fun _=>ve _ _
theorem qrU {e:M T} (a:Up e) {n:Nat} (b:qO L (n - 1) e):qO L n (jp L n e):=by
 intro i f c;unfold jp;split
 ·exact qcD (qrV a (Nat.le_refl _) b) (qiX a n) i f c
 ·split
  ·cases h:q7 L n i f with
   |oof=>exact absurd h (qeT n i f c)
   |no g=>simp
   |ok s j g=>exact qcD (qi7 a (Nat.le_refl _) b s) (qeM a n s) j g (by have:=((yB n).ok h).1;omega)
  ·split
   ·simp
   ·exact qcD (qrS a (Nat.le_refl _) b) (qiW a n) i f c
theorem qrP {e:M T} (a:Up e) {n:Nat} (b:qO L (n - 1) e):qO L n (jz L n e):=by
 intro i f c;unfold jz;split
 ·simp
 ·refine zz (N:=n) (ve _ _) (zz (ve _ _) (zz (ve _ _) ?_)) i f c;intro i f c;show ite _ _ _≠_;split
  ·rename_i h;have:=xn h;have j:q8 false (xC L e) i f=bnd (needs L [[40]]) (fun _=>bnd e fun t=>bnd (needs L [[41]]) fun _=>ret (T.mk {kind:=if qg L i [[100,111,119,110]] then 10 else 9} [t],false)) (i+1) f:=by
    show bnd (bnd _ _) _ (i+1) f=_;simp only [sq,x9,wc]
   rw [j];exact jh (N:=n - 1) (xW _ _) (jC _) (fun _=>jh b a fun _=>jh (xW _ _) (jC _) fun _=>ve _ _) _ _ (by omega)
  ·exact zz (qcD (jh b a fun _=>jh (xW _ _) (jC _) fun _=>ve _ _) (qiV a)) (qrU a b) i f c
theorem qeS {e:M T} (b:Up e):∀n N t fm,N≤n→qO L (N - 1) e→qO L N (zC L e n t fm)
 |0,N,t,fm,h,_=>by
  obtain rfl:N=0:=by omega
  exact qcC _
 |n+1,N,t,fm,h,a=>zz (jh a b fun _=>jh (xW _ _) (jC _) fun _=>qeS b n _ _ _ (by omega) (a.mono (by omega)))
   (zz (jh (Q4 _) kf fun _=>qeS b n _ _ _ (by omega) (a.mono (by omega))) (ve _ _))
theorem qrQ {e:M T} (a:Up e) {n:Nat} (b:qO L (n - 1) e):qO L n (zZ L n e):=jh (qrP a b) (qiT a n) fun _=>qeS a n n _ _ (Nat.le_refl _) b
theorem qrX {p:M (T×Nat)} (a:Up p) {N:Nat} (b:qO L N p):qO L N (xR L p):=by
 refine zz (jh (b.mono (by omega)) a fun _=>ve _ _) (jh b a fun x=> ?_);intro i f h;show ite _ _ _≠_;split
 ·rename_i c;have:=xn c;exact jh (N:=N) b a (fun _=>ve _ _) _ _ (by omega)
 ·simp
theorem qja:∀n,qO L (n - 1) (qH L n)
 |0=>qcC _
 |n+1=>qrX (qiU (qcv n) n) (qrQ (qcv n) (qja n))
end
section
variable {L:List Tok}
theorem qhs {n:Nat} (h:L.length+3≤n) (f:Nat):qH L n 0 f≠ .oof:=qja n 0 f (by omega)
theorem qwm {n:Nat} (h:L.length+3≤n) (f:Nat):kind L n 0 f≠ .oof:=qeU n 0 f (by omega)
def qiy {α:Type} (L:List Tok) (N:Nat) (m:Go.L02.N α):Prop:=∀i g,L.length - i<N→m i g≠ .oof
theorem qiy.mono {α:Type} {N K:Nat} {m:Go.L02.N α} (h:qiy L N m) (b:K≤N):qiy L K m:=fun i g a=>h i g (by omega)
end
end Go.L02
namespace Go.L01
open Go.Eng
set_option maxRecDepth 100000
def wj:Int→List Tok→Prop
 |_,[]=>True
 |last,t::ts=>last≤t.line∧right t.kind t.text=true∧wj t.line ts
theorem wj.mono {a b:Int} {c:List Tok} (h:wj b c) (j:a≤b):wj a c:=by
 cases c with
 |nil=>trivial
 |cons t c=>exact ⟨Int.le_trans j h.1,h.2.1,h.2.2⟩
theorem wj.right {a:Int}:∀{c:List Tok},wj a c→∀t∈c,L01.right t.kind t.text=true∧a≤t.line
 |[],_,t,b=>by simp at b
 |x::xs,h,t,b=>by
  rcases List.mem_cons.1 b with rfl|b
  ·exact ⟨h.2.1,h.1⟩
  ·have:=wj.right (h.2.2.mono h.1) t b;exact this
theorem wj.at {a:Int}:∀{c:List Tok},wj a c→∀i (b:i+1<c.length),c[i].line≤c[i+1].line
 |[],_,i,b=>by simp at b
 |[x],_,i,b=>by simp at b
 |x::y::xs,h,0,b=>h.2.2.1
 |x::y::xs,h,i+1,b=>by
  have:=wj.at h.2.2 i (by simpa using b);simpa using this
theorem qsM (s:Bs) (l:Int):wj l (qp s l).toks∧∀t∈(qp s l).toks,t.line≤l+s.length:=by
 refine qcT (P:=fun s l=>wj l (qp s l).toks∧∀t∈(qp s l).toks,t.line≤l+s.length) ?_ ?_ ?_ ?_ ?_ ?_ s l
 ·intro l;exact ⟨trivial,by simp [qbp,Res.toks]⟩
 ·intro r l h;rw [wm];exact ⟨h.1.mono (by omega),fun t b=>by have:=h.2 t b;simp only [List.length_cons];omega⟩
 ·intro c r l y h;rw [wN r l y];exact ⟨h.1,fun t b=>by have:=h.2 t b;simp only [List.length_cons];omega⟩
 ·intro a r l A j h;rw [qaj l A j];cases m:qp r l with
  |bad e x=>exact ⟨trivial,by simp [Res.add,Res.toks]⟩
  |ok z cs=>
   rw [m] at h;refine ⟨by simpa [Res.add,Res.toks] using h.1,fun t b=> ?_⟩;have:=h.2 t (by simpa [Res.add,Res.toks] using b);simp only [List.length_append,List.length_cons];omega
 ·intro c r l C u n q h;rw [qbq l C u n q h];exact ⟨trivial,by simp [Res.toks]⟩
 ·intro k s r l j B h;rw [ym (jB j).1 B (wo j)];cases m:qp r l with
  |bad e x=>exact ⟨trivial,by simp [Res.add,Res.toks]⟩
  |ok z cs=>
   rw [m] at h;refine ⟨⟨Int.le_refl _,j,by simpa [Res.toks] using h.1⟩,fun t b=> ?_⟩;simp only [Res.add,Res.toks,List.cons_append,List.nil_append,List.mem_cons] at b;rcases b with rfl|b
   ·show l≤_;omega
   ·have:=h.2 t b;simp only [List.length_append];omega
theorem qlU {k m:Nat} {s:Bs} (h:right k s=true) (g:right m s=true):k=m:=by
 have a:=(jB h).2;rw [(jB g).2] at a;exact (Prod.mk.inj a).1.symm
def zG (s:Bs):Nat:=(s.filter fun c=>decide (c=10)).length
def Res.shift (d:Int):Res→Res
 | .bad e l=> .bad e (l+d)
 | .ok ts cs=> .ok (ts.map fun t=>⟨t.kind,t.text,t.line+d⟩) cs
theorem qjZ (d:Int) (a:List Tok) (c:List Bs) (r:Res):(r.add a c).shift d=(r.shift d).add (a.map fun t=>⟨t.kind,t.text,t.line+d⟩) c:=by
 cases r<;>simp [Res.add,Res.shift]
theorem qs5 (s:Bs) (l d:Int):qp s (l+d)=(qp s l).shift d:=by
 refine qcT (P:=fun s l=>qp s (l+d)=(qp s l).shift d) ?_ ?_ ?_ ?_ ?_ ?_ s l
 ·intro l;rfl
 ·intro r l h;rw [wm,wm,←h];congr 1;omega
 ·intro c r l j h;rw [wN r _ j,wN r _ j,h]
 ·intro a r l n b h;rw [qaj _ n b,qaj _ n b,h,qjZ];rfl
 ·intro c r l x q m t h;rw [qbq _ x q m t h,qbq _ x q m t h];rfl
 ·intro k s r l b u h;rw [ym (jB b).1 u (wo b),ym (jB b).1 u (wo b),h,qjZ];rfl
theorem qlL (a b:Bs):zG (a++b)=zG a+zG b:=by simp [zG]
theorem qlK {a:Bs} (h:∀c∈a,c≠10):zG a=0:=by
 unfold zG;rw [List.length_eq_zero_iff,List.filter_eq_nil_iff];intro c b;simpa using h c b
theorem qs8 (two one:Bs) (l:Int):∀b cs,qp one l= .ok b cs→qp (one++10::two) l=(qp two (l+zG one+1)).add b cs:=by
 refine qcT (P:=fun one l=>∀b cs,qp one l= .ok b cs→qp (one++10::two) l=(qp two (l+zG one+1)).add b cs) ?_ ?_ ?_ ?_ ?_ ?_ one l
 ·intro l b cs h;rw [qbp] at h;cases h;rw [List.nil_append,wm,Res.add_nil];simp [zG]
 ·intro r l q b cs h;rw [wm] at h;rw [List.cons_append,wm,q b cs h];have:zG (10::r)=zG r+1:=by simp [zG]
  rw [this];congr 2;omega
 ·intro c r l m q b cs h;rw [wN r l m] at h;rw [List.cons_append,wN _ l m,q b cs h];have:zG (c::r)=zG r:=by rcases m with rfl|rfl<;>simp [zG]
  rw [this]
 ·intro a r l u j q b cs h;rw [qaj l u j] at h;rw [List.append_assoc,qaj l u (by rcases j with rfl|⟨x,rfl⟩<;>simp)];cases n:qp r l with
  |bad e x=>rw [n] at h;cases h
  |ok t cs'=>
   rw [n] at h;simp only [Res.add,Res.ok.injEq] at h;obtain ⟨rfl,rfl⟩:=h;rw [q t cs' n,Res.add_add];have:zG (37::a++r)=zG r:=by
    rw [qlL,qlK (a:=37::a) (by
     intro c m;rcases List.mem_cons.1 m with rfl|m
     ·decide
     ·exact u c m)];omega
   rw [this]
 ·intro c r l I C A B E b cs h;rw [qbq l I C A B E] at h;cases h
 ·intro k s r l j z q b cs h;rw [ym (jB j).1 z (wo j)] at h;have y:first (s++(r++10::two))=(k,s.length,0):=by
   refine qzC (jB j).1 z ?_;cases r with
   |nil=>exact .inr ⟨10,two,rfl, .inl (by decide)⟩
   |cons c x=>exact .inr ⟨c,x++10::two,rfl, .inr ⟨x,rfl⟩⟩
  rw [List.append_assoc,ym (jB j).1 y (wo j)];cases n:qp r l with
  |bad e x=>rw [n] at h;cases h
  |ok t cs'=>
   rw [n] at h;simp only [Res.add,Res.ok.injEq] at h;obtain ⟨rfl,rfl⟩:=h;rw [q t cs' n,Res.add_add];have:zG (s++r)=zG r:=by
    rw [qlL,qlK (a:=s) fun c m=>(wo j c m).1];omega
   rw [this]
end Go.L01
namespace Go.L02
open Go.Eng
open Go.L01 (Bs Tok je qY qo qr qy right)
def xN (s:Bs):Bool:=
 match qr s with
 | .ok ts _=>decide (s.length≤100)&&(match kind ts (ts.length+3) 0 0 with| .ok _ j _=>decide (ts.length≤j)|_=>false)&&decide (vm ts=s)
 | .bad _ _=>false
def qca (s:Bs):Option Nat:=s.findIdx? (fun c=>decide (c=95))
def wa (s:Bs):Bool:=ke.contains s||(match qca s with|none=>qo s|some k=>qo (s.take k)&&qo (s.drop (k+1)))
theorem qd2 {s:Bs} {a:List Tok} {cs:List Bs} (h:qr s= .ok a cs):jv a:=by
 intro t c;have b:=(L01.qsM s 1).1.right;unfold qr at h;split at h
 ·cases h
 ·rw [show L01.qp s 1=_ from h] at b;exact (b t c).1
def js (k:Nat):Bool:=decide (1≤k)&&decide (k≤10)
def qaD (k:Nat):Bool:=(decide (21≤k)&&decide (k≤31))||decide (k=32)||decide (k=34)||decide (k=35)||decide (k=37)
structure Row where
 name:Option (Bs→Bool):=none
 vr:Option (Bs→Bool):=none
 typ:Option (Bs→Bool):=none
 n:Option (Int→Bool):=none
 first:List (Nat→Bool):=[]
 more:Option (Nat→Bool):=none
 least:Nat:=0
 most:Nat:=0
def yf (m:Int) (n:Int):Bool:=decide (0≤n)&&decide (n≤m)
def vy (k:Nat) (j:Nat):Bool:=decide (j=k)
def y8 (_:Bs):Bool:=true
def Qv:List Bs:=[[110,111,116],[43],[45],[42],[47],[109,111,100],[60],[60,61],[61],[97,110,100],[111,114]]
def jU (r:Row) (l:List (Nat→Bool)):Row:={r with first:=l,least:=l.length,most:=l.length}
def qbr:List (Option Row):=
 let nm:Row:={name:=some qo}
 let ty:Row:={name:=some qo,typ:=some xN}
 [none,some (jU {n:=some (yf 1000000000)} []),some (jU {n:=some (yf 1)} []),some (jU {} []),some (jU nm []),
  some {name:=some y8,vr:=some y8,typ:=some y8,more:=some js,most:=6},
  some {name:=some Qv.contains,first:=[js,js],least:=1,most:=2},
  some (jU {} [js,js]),some (jU nm [js]),some (jU {} [js]),some (jU {} [js]),
  none,none,none,none,none,none,none,none,none,
  some {more:=some qaD,most:=400},some (jU ty [js]),some (jU nm [js]),some (jU {} [js,js,js]),some (jU nm [js,js]),some (jU {} [vy 5]),
  some {first:=[js,vy 20,vy 20],least:=2,most:=3},some (jU {} [js,vy 20]),some (jU ty [vy 5,vy 20]),some {first:=[js],most:=1},some (jU {} [js]),some (jU nm []),
  some {first:=[vy 20],more:=some (vy 33),least:=2,most:=400},some (jU {name:=some y8} [vy 20]),some (jU {} []),
  some {first:=[js],more:=some (vy 36),least:=2,most:=400},some (jU {name:=some qo,vr:=some qo,typ:=some xN} [vy 20]),some (jU {} [js])]
def xu (k:Nat):Option Row:=(qbr[k]?).join
def vQ (s:Bs) (p:Option (Bs→Bool)):Bool:=match p with|none=>decide (s=[])|some f=>f s
def yV (l:List Nd) (k:Int):Nat:=match l[k.toNat]? with|some x=>x.d.kind|none=>0
def yU (l:List Nd) (k:Int):Bs:=match l[k.toNat]? with|some x=>x.d.name|none=>[]
def kH (l:List Nd) (r:Row):Nat→List Int→Bool
 |_,[]=>true
 |i,k::ks=>(match r.first[i]? with|some f=>f (yV l k)|none=>(match r.more with|some f=>f (yV l k)|none=>false))&&kH l r (i+1) ks
def qcc (d:D):Bool:=if d.vr=[] then qo d.name&&(decide (d.typ=[])||xN d.typ) else xN d.vr&&wa d.name&&decide (d.typ=[])
def yd (l:List Nd) (n:Nat):Nat→List Int→Bool
 |_,[]=>true
 |i,k::ks=>(qo (yU l k)|| !(!decide (yU l k=[])||decide (i+2<n)))&&yd l n (i+1) ks
def vJ (l:List Nd) (x:Nd):Bool:=
 if x.d.kind=5 then qcc x.d
 else if x.d.kind=6 then decide (x.d.name=[110,111,116])==decide (x.kids.length=1)
 else if x.d.kind=32 then yd l x.kids.length 0 (x.kids.drop 1) else true
def xF (l:List Nd) (x:Nd):Bool:=
 match xu x.d.kind with
 |none=>false
 |some r=>vQ x.d.name r.name&&vQ x.d.vr r.vr&&vQ x.d.typ r.typ&&(match r.n with|none=>decide (x.d.n=0)|some f=>f x.d.n)&&
   (decide (r.least≤x.kids.length)&&decide (x.kids.length≤r.most))&&kH l r 0 x.kids&&vJ l x
def zW:List Nd→Nat→List Int→Option (List Int)
 |[],_,open'=>some open'
 |x::xs,i,open'=>if x.kids.length≤open'.length∧open'.drop (open'.length - x.kids.length)=x.kids then zW xs (i+1) (open'.take (open'.length - x.kids.length)++[(i:Int)]) else none
def kX (l:List Nd):Bool:=match zW l 0 [] with|some o=>decide (o.length=1)|none=>false
def qbv (l:List Nd):Nat:=match l.getLast? with|some x=>x.d.kind|none=>0
def whole (l:List Nd) (root:Nat→Bool):Bool:=decide (1≤l.length)&&decide (l.length≤400)&&kX l&&root (qbv l)&&l.all (xF l)
theorem wM:∀(a b:List T),sizes (a++b)=sizes a+sizes b
 |[],b=>by simp [sizes]
 |t::a,b=>by simp [sizes,wM a b];omega
theorem qfL:∀(a b:List T) (k:Nat),qu k (a++b)=qu k a++qu (k+sizes a) b
 |[],b,k=>by simp [qu,sizes]
 |t::a,b,k=>by simp [qu,sizes,qfL a b,Nat.add_assoc]
theorem qd3:∀(a b:List T) (k:Nat),flats k (a++b)=flats k a++flats (k+sizes a) b
 |[],b,k=>by simp [flats,sizes]
 |t::a,b,k=>by simp [flats,sizes,qd3 a b,Nat.add_assoc]
theorem wn:∀(a:List T) (k:Nat),(qu k a).length=a.length
 |[],_=>rfl
 |t::a,k=>by simp [qu,wn a]
mutual
theorem T.flat_len:∀(t:T) (k:Nat),(t.flat k).length=t.size
 | .mk d ks,k=>by simp [T.flat,T.size,flats_len ks]
theorem flats_len:∀(a:List T) (k:Nat),(flats k a).length=sizes a
 |[],_=>rfl
 |t::a,k=>by simp [flats,sizes,T.flat_len t,flats_len a]
end
theorem T.size_pos (t:T):0<t.size:=by cases t;simp [T.size]
theorem qjN:∀(l:List Nd) (j:List T) (o:List Int),zW l (sizes j) (qu 0 j)=some o→∃n,flats 0 j++l=flats 0 n∧o=qu 0 n
 |[],j,o,h=>by simp only [zW,Option.some.injEq] at h;exact ⟨j,by simp,h.symm⟩
 |x::xs,j,o,h=>by
  unfold zW at h;split at h
  ·rename_i t;rw [wn] at t h;obtain ⟨J,A⟩:=t;have c:j=j.take (j.length - x.kids.length)++j.drop (j.length - x.kids.length):=(List.take_append_drop _ _).symm;generalize E:j.take (j.length - x.kids.length)=a at c;generalize I:j.drop (j.length - x.kids.length)=b at c;have m:a.length=j.length - x.kids.length:=by rw [←E,List.length_take];omega
   have q:qu 0 j=qu 0 a++qu (sizes a) b:=by rw [c,qfL];simp
   have C:x.kids=qu (sizes a) b:=by
    rw [←A,q,List.drop_append,List.drop_eq_nil_of_le (by rw [wn];omega),wn,m];simp
   have B:(qu 0 j).take (j.length - x.kids.length)++[((sizes j:Nat):Int)]=qu 0 (a++[T.mk x.d b]):=by
    rw [q,List.take_append,List.take_of_length_le (by rw [wn];omega),wn,m,qfL];simp only [Nat.sub_self,List.take_zero,List.append_nil,Nat.zero_add,qu,T.size];congr 2;rw [c,wM]
    push_cast;omega
   have y:sizes j+1=sizes (a++[T.mk x.d b]):=by
    rw [wM];simp only [sizes,T.size]
    conv=>lhs;rw [c,wM]
    omega
   rw [B,y] at h;obtain ⟨n,u,z⟩:=qjN xs _ _ h;refine ⟨n, ?_,z⟩;rw [←u,qd3];simp only [flats,T.flat,List.append_nil,Nat.zero_add];rw [c,qd3];simp only [Nat.zero_add];rw [←C];simp
  ·cases h
theorem qul {l:List Nd} (h:kX l=true):∃t:T,l=t.flat 0:=by
 unfold kX at h;cases a:zW l 0 [] with
 |none=>rw [a] at h;cases h
 |some o=>
  rw [a] at h;obtain ⟨c,j,b⟩:=qjN l [] o a;subst b;simp only [wn,decide_eq_true_eq] at h
  match c,h with
  |[t],_=>exact ⟨t,by simpa [flats] using j⟩
theorem qjO (x:Nd) (xs:List Nd) (i:Nat) (o:List Int):zW (x::xs) i o=if x.kids.length≤o.length∧o.drop (o.length - x.kids.length)=x.kids then zW xs (i+1) (o.take (o.length - x.kids.length)++[(i:Int)]) else none:=rfl
mutual
theorem qjM:∀(t:T) (b:Nat) (o:List Int) (xs:List Nd),zW (t.flat b++xs) b o=zW xs (b+t.size) (o++[(b:Int)+t.size - 1])
 | .mk d ks,b,o,xs=>by
  simp only [T.flat,T.size];rw [List.append_assoc,stack_trees ks b o];show zW ((⟨d,qu b ks⟩:Nd)::xs) _ _=_;rw [qjO];have h:(o++qu b ks).length - (qu b ks).length=o.length:=by simp
  simp only [h];rw [if_pos ⟨by simp,by simp⟩];have a:(o++qu b ks).take o.length=o:=by simp
  have c:b+sizes ks+1=b+(sizes ks+1):=by omega
  have j:((b+sizes ks:Nat):Int)=(b:Int)+((sizes ks+1:Nat):Int) - 1:=by omega
  rw [a,c,j]
theorem stack_trees:∀(a:List T) (b:Nat) (o:List Int) (xs:List Nd),zW (flats b a++xs) b o=zW xs (b+sizes a) (o++qu b a)
 |[],b,o,xs=>by simp [flats,sizes,qu]
 |t::a,b,o,xs=>by
  simp only [flats,sizes,qu];rw [List.append_assoc,qjM t b o,stack_trees a];simp [Nat.add_assoc]
end
theorem qun (t:T):kX (t.flat 0)=true:=by
 unfold kX;have:=qjM t 0 [] [];simp only [List.append_nil] at this;rw [this];simp [zW]
theorem qpF (t:T) (b:Nat):(t.flat b).getLast? =some ⟨t.d,qu b t.kids⟩:=by
 cases t;simp [T.flat,T.d,T.kids]
theorem qkv (t:T):qbv (t.flat 0)=t.d.kind:=by unfold qbv;rw [qpF]
section
variable {L:List Tok}
def Sz {α:Type} (μ:α→Nat) (c:Nat) (m:M α):Prop:=∀i f a j f',m i f= .ok a j f'→i≤j∧μ a+2*i≤2*j+c
theorem Sz.mono {α:Type} {μ:α→Nat} {c d:Nat} {m:M α} (h:Sz μ c m) (l:c≤d):Sz μ d m:=fun i f a j b e=>by have:=h i f a j b e;omega
theorem qjo {α:Type} {m:M α} (h:Up m):Sz (fun _=>0) 0 m:=fun i f a j b e=>by have:=(h.ok e).1;simp;omega
theorem xh {α:Type} {μ:α→Nat} {a:α} {c:Nat} (h:μ a≤c):Sz μ c (ret a):=fun i f b j l e=>by
 simp only [ret,Rs.ok.injEq] at e;obtain ⟨rfl,rfl,_⟩:=e;omega
theorem qe7 {α:Type} {μ:α→Nat} {c:Nat}:Sz μ c (oof:M α):=fun i f b j a e=>by cases e
theorem xi {α β:Type} {μ:α→Nat} {ν:β→Nat} (c d:Nat) {m:M α} {k:α→M β} {e:Nat} (t:Sz μ c m) (q:∀a,Sz ν (μ a+d) (k a)) (z:c+d≤e):Sz ν e (bnd m k):=by
 intro i f b j y h;cases n:m i f with
 |oof=>rw [vg n] at h;cases h
 |no g=>rw [jJ n] at h;cases h
 |ok a l g=>
  rw [qT n] at h;have x:=t _ _ _ _ _ n;have u:=q a _ _ _ _ _ h;omega
theorem qjv {α β:Type} {ν:β→Nat} {m:M α} {k:α→M β} {e:Nat} (b:Up m) (c:∀a,Sz ν e (k a)):Sz ν e (bnd m k):=xi 0 e (qjo b) (fun a=>(c a).mono (by omega)) (by omega)
theorem wG {β:Type} {ν:β→Nat} {s:Bs} {x y:M β} {c:Nat} (l:Sz ν (c+2) x) (a:Sz ν c y):Sz ν c (qe L s x y):=by
 intro i f b j m h;unfold qe at h;split at h
 ·have:=l _ _ _ _ _ h;omega
 ·exact a _ _ _ _ _ h
theorem Qg {β:Type} {ν:β→Nat} {s:Bs} {k:Unit→M β} {c:Nat} (n:Sz ν (c+2) (k ())):Sz ν c (bnd (needs L [s]) k):=by
 intro i f b j u h;cases m:needs L [s] i f with
 |oof=>rw [vg m] at h;cases h
 |no g=>rw [jJ m] at h;cases h
 |ok a l g=>
  rw [qT m] at h;have t:=qaU _ _ _ _ _ m;have q:=n _ _ _ _ _ h;omega
theorem qjt {β:Type} {ν:β→Nat} {k:Bs→M β} {c:Nat} (n:∀s,Sz ν (c+2) (k s)):Sz ν c (bnd (name L) k):=by
 intro i f b j u h;cases m:name L i f with
 |oof=>rw [vg m] at h;cases h
 |no g=>rw [jJ m] at h;cases h
 |ok a l g=>
  rw [qT m] at h;have t:=qaV _ _ _ _ _ m;have q:=n a _ _ _ _ _ h;omega
theorem qsk {β:Type} {ν:β→Nat} {k:Bs→M β} {c:Nat} (n:∀s,Sz ν (c+2) (k s)):Sz ν c (bnd (op L) k):=by
 intro i f b j u h;cases m:op L i f with
 |oof=>rw [vg m] at h;cases h
 |no g=>rw [jJ m] at h;cases h
 |ok a l g=>
  rw [qT m] at h;have t:=qia _ _ _ _ _ m;have q:=n a _ _ _ _ _ h;omega
def wk (x:T×Nat):Nat:=x.1.size+if x.2=1 then 1 else 0
def zU (x:T×Bool):Nat:=x.1.size+if x.2 then 1 else 0
def wl (t:T):Nat:=t.size+1
theorem qju {e:M T} (c:Sz T.size 0 e):∀n,Sz sizes 0 (more L e n)
 |0=>qe7
 |n+1=>wG (xi 0 2 c (fun a=>xi 0 (a.size+2) (qju c n) (fun b=>xh (by simp only [sizes];omega)) (by omega)) (by omega)) (xh (by simp [sizes]))
theorem qsn {e:M T} (c:Sz T.size 0 e) (n:Nat):Sz sizes 0 (listed L n e):=xi 0 0 c (fun a=>xi 0 a.size (qju c n) (fun b=>xh (by simp only [sizes];omega)) (by omega)) (by omega)
theorem qbd {e:M T} (b:Sz T.size 0 e) (n:Nat):Sz sizes 0 (vM L n e):=
 Qg (wG (xh (by simp [sizes])) (xi 0 2 (qsn b n) (fun a=>Qg (xh (by omega))) (by omega)))
theorem xY (d:D) (ks:List T):(T.mk d ks).size=sizes ks+1:=rfl
theorem qfn (t:T):sizes [t]=t.size:=by simp [sizes]
theorem qjT (t u:T):sizes [t,u]=t.size+u.size:=by simp [sizes]
theorem qsm {e:M T} (a:Sz T.size 0 e) (n:Nat):Sz wl 0 (x6 L n e):=qjt fun _=>wG (qjv (QZ n) fun _=>Qg (xi 0 2 (qbd a n) (fun ks=>xh (by simp only [wl,xY];omega)) (by omega)))
 (xi 0 2 (qbd a n) (fun ks=>xh (by simp only [wl,xY];omega)) (by omega))
theorem qjs {e:M T} (a:Sz T.size 0 e) (n:Nat) (o:Bs):Sz wl 0 (vk L n e o):=qsk fun _=>xi 0 2 (qbd a n) (fun ks=>xh (by simp only [wl,xY];omega)) (by omega)
theorem qsj {e:M T} (a:Sz T.size 0 e) (n:Nat):Sz wl 0 (bnd (q7 L n) (vk L n e)):=qjv (yB n) fun _=>qjs a n _
theorem qe5 {b:Bool} {m:M T} {c:Nat} (h:Sz wl c m):Sz zU c (q8 b m):=xi c 0 h (fun x=>xh (by cases b<;>simp [zU,wl])) (by omega)
theorem qsi {m:M T} {c:Nat} (h:Sz T.size c m):Sz zU c (q8 false m):=xi c 0 h (fun x=>xh (by simp [zU])) (by omega)
theorem qsl {e:M T} (l:Sz T.size 0 e) (n:Nat):Sz zU 0 (jp L n e):=by
 intro i f a j q h;unfold jp at h;split at h
 ·exact qe5 (qsm l n) _ _ _ _ _ h
 ·split at h
  ·cases c:q7 L n i f with
   |oof=>rw [c] at h;cases h
   |no g=>rw [c] at h;simp only [Rs.ok.injEq] at h;obtain ⟨rfl,rfl,_⟩:=h;simp [zU,xY,sizes];omega
   |ok s k g=>
    rw [c] at h;have t:=qe5 (b:=true) (qjs (L:=L) l n s) _ _ _ _ _ h;have m:=((yB n).ok c).1;omega
  ·split at h
   ·simp only [Rs.ok.injEq] at h;obtain ⟨rfl,rfl,_⟩:=h;simp [zU,xY,sizes];omega
   ·exact qe5 (qsj l n) _ _ _ _ _ h
theorem qjp {e:M T} (b:Sz T.size 0 e) (n:Nat):Sz zU 0 (jz L n e):=by
 intro i f a j m h;unfold jz at h;split at h
 ·simp only [Rs.ok.injEq] at h;obtain ⟨rfl,rfl,_⟩:=h;simp [zU,xY,sizes];omega
 ·refine wG (c:=0) (ν:=zU) (xh (by simp [zU,xY,sizes])) (wG (xh (by simp [zU,xY,sizes])) (wG (xh (by simp [zU,xY,sizes])) ?_)) _ _ _ _ _ h;intro i f a j m h;by_cases l:qg L i [[117,112],[100,111,119,110]]=true
  ·simp only [l,if_true] at h;have q:q8 false (xC L e) i f=bnd (needs L [[40]]) (fun _=>bnd e fun t=>bnd (needs L [[41]]) fun _=>ret (T.mk {kind:=if qg L i [[100,111,119,110]] then 10 else 9} [t],false)) (i+1) f:=by
    show bnd (bnd _ _) _ (i+1) f=_;simp only [sq,x9,wc]
   rw [q] at h;have:=Qg (c:=0) (ν:=zU) (L:=L) (s:=[40]) (k:=fun _=>bnd e fun t=>bnd (needs L [[41]]) fun _=>ret (T.mk {kind:=if qg L i [[100,111,119,110]] then 10 else 9} [t],false))
    (xi 0 2 b (fun t=>Qg (xh (by simp only [zU,xY,qfn,Bool.false_eq_true,if_false];omega))) (by omega)) _ _ _ _ _ h
   omega
  ·simp only [l,Bool.false_eq_true,if_false] at h;exact wG (c:=0) (ν:=zU) (qsi (xi 0 2 b (fun t=>Qg (xh (by omega))) (by omega))) (qsl b n) _ _ _ _ _ h
theorem qe6 {e:M T} (a:Sz T.size 0 e):∀n t fm,Sz wk (t.size+if fm=1 then 1 else 0) (zC L e n t fm)
 |0,_,_=>qe7
 |n+1,t,fm=>wG (xi 0 (t.size+2) a (fun k=>Qg ((qe6 a n _ _).mono (by simp only [xY,qjT,show¬(2:Nat)=1 by decide,if_false];omega))) (by omega))
   (wG (qjt fun s=>(qe6 a n _ _).mono (by simp only [xY,qfn,show¬(3:Nat)=1 by decide,if_false];omega)) (xh (Nat.le_refl _)))
theorem qjq {e:M T} (a:Sz T.size 0 e) (n:Nat):Sz wk 0 (zZ L n e):=xi (μ:=zU) 0 0 (qjp a n) (fun p=>(qe6 a n _ _).mono (by unfold zU;cases p.2<;>simp)) (by omega)
theorem qso {p:M (T×Nat)} (b:Sz wk 0 p):Sz T.size 0 (xR L p):=wG (xi 0 2 b (fun x=>xh (by simp only [wk,xY,qfn];omega)) (by omega)) (xi 0 0 b (fun x=>by
 intro i f a j l h;by_cases c:qg L i xx=true
 ·simp only [c,if_true] at h;have:=xi (e:=x.1.size+2) (ν:=T.size) 0 (x.1.size+2) b (k:=fun y=>ret (T.mk {kind:=6,name:=(tk L i).text} [x.1,y.1])) (fun y=>xh (by simp only [wk,xY,qjT];omega)) (by omega) _ _ _ _ _ h;simp only [wk];omega
 ·simp only [c,Bool.false_eq_true,if_false,Rs.ok.injEq] at h;obtain ⟨rfl,rfl,_⟩:=h;simp only [wk];omega) (by omega))
theorem qcH:∀n,Sz T.size 0 (qH L n)
 |0=>qe7
 |n+1=>qso (qjq (qcH n) n)
end
end Go.L02
