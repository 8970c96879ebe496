/- Lemmas for a claim about layer 2 (tree). No conditions but those they state. -/
import Derived.Test.YtbcmiempigoooaaGreatDoorGak
import Derived.Laws.MakeOwn
set_option linter.all false
namespace Go.Eng
open Go.RowKit
def qga (P:Program) (t:TypeId):Option (TypeId×Value×Nat):=
  match P.underlying t with
  |some (.slice e)=>(P.info? e).bind fun i=>i.zero.bind fun z=>if i.size=1 then some (e,z.cells[0]!,i.bytes) else none
  |_=>none
section
variable {P:Program} {Q:Ks} {d:Option Nat} {ty:TypeId} {K:qa→World→Prop} {ρ:qa} {w:World}
theorem qC7 {t e : TypeId} {zc : Value} {bytes n : Nat} {kl kc : IntKind} {x y : Operand} (c : qga P t = some (e, zc, bytes)) (S : qd ρ x = .int kl n) (R : qd ρ y = .int kc n) (Z : bytes * n ≤ 281474976710656) (X : n ≤ 1099511627776)
    (A:∀i z,P.info? e=some i→i.zero=some z→z.cells.size=1)
    (h:∀(B:Nat) (W:World),w.heap.size≤B→qb w W→Blk W B (List.replicate n zc).toArray e→K (qm ρ d (.slice (some ⟨B,0,none⟩) n n)) W):qw P Q d (.makeSlice t x y) ty K ρ w:=by
  unfold qga at c;split at c
  · rename_i Y O;simp only [Option.bind_eq_some_iff] at c;obtain ⟨i,b,z,J,l⟩:=c;split at l
    · rename_i u;cases l;have m:(i.bytes:Int)*(n:Int)≤281474976710656:=by
        have h:((i.bytes*n:Nat):Int)≤281474976710656:=by omega
        rwa [Int.natCast_mul] at h
      have p:=run_make (P:=P) w t e i z O b J kl kc n n (by omega) (Int.le_refl _) m (by omega);simp only [Int.toNat_natCast,u,Nat.mul_one] at p;have E:=A i z b J;have a:madeCells z.cells n=(List.replicate n z.cells[0]!).toArray:=by
        apply Array.toList_inj.1;apply List.ext_getElem?;intro j;by_cases I:j<n
        · simp [madeCells,I,E,Nat.mod_one]
        · simp [madeCells,I]
      rw [a] at p;refine ju (v:= .slice (some ⟨w.heap.size,0,none⟩) n n) (w':=w.alloc (.cells (List.replicate n z.cells[0]!).toArray e)) ?_ (h w.heap.size _ (Nat.le_refl _) (wE w _) (qbY w _ _));simp only [execOp,qD,S,R,Sem.run_bind,p,Result.andThen_ok,Sem.run_pure]
    · cases l
  · cases c
end
end Go.Eng
namespace Go.Eng
open Go.RowKit
section
variable {ops:Array Oper} {cx:Cx}
end
section
variable {P:Program} {Q:Ks} {K:qa→World→Prop} {F:OT→qa→World→Prop} {ρ:qa} {w:World}
end
theorem Q0 {P:Program} {f:FuncId} {fn:Func} {V a:List Nat} {ir:IR} {rs:List RV} {args:Array Value} {w:World} {R:Ending→World→Prop} (l:P.funcs[f]? =some fn) (p:fn.body=some (fn.body.getD .skip)) (b:(qY P fn.ntmps V a (fn.body.getD .skip)).map IR.norm=some ir)
    (m:xu fn V=true) (j:vv P V fn.results.toList=some rs) (c:args.size≤fn.ntmps) (h:ir.wp ⟨P,fn.ntmps,V,[]⟩ (qC rs R) (je rs R) (xX V args) w):Calls P f args w R:=by
  obtain ⟨t,n,u⟩:=Option.map_eq_some_iff.1 b;exact qsr l p n u m j c h
abbrev zv (n:Nat):Ex:= .var n
abbrev zl (e:Ex):Ex:= .op1 .load1 e
abbrev zo (n:Nat) (e:Ex):Ex:= .op1 .load1 (.op1 (.fadr n) e)
abbrev zf (n:Nat) (e:Ex):Ex:= .op1 (.fadr n) e
abbrev zx (n:Nat) (a b:Ex):Ex:= .op2 (.ixa n) a b
abbrev zL (e:Ex):Ex:= .op1 .lenS e
abbrev zT (e:Ex):Ex:= .op1 .lenT e
abbrev zN (e:Ex):Ex:= .op1 .nilc e
abbrev zn (e:Ex):Ex:= .op1 .not e
abbrev ze (n:Nat) (e:Ex):Ex:= .op1 (.ext n) e
abbrev zM (n:Nat) (e:Ex):Ex:= .op1 (.loadN n) e
abbrev zI (o:BinOp) (a b:Ex):Ex:= .op2 (.ibin o .i64) a b
abbrev zB (o:BinOp) (a b:Ex):Ex:= .op2 (.ibin o .u8) a b
abbrev zS (o:BinOp) (a b:Ex):Ex:= .op2 (.sbin o) a b
abbrev zk (n:Int):Value:= .int .i64 n
abbrev zu (n:Int):Value:= .int .u8 n
abbrev zb (b:Bool):Value:= .bool b
abbrev zs (l:Array UInt8):Value:= .string ⟨l⟩
abbrev zt (n:Nat):Operand:= .tmp n
abbrev za (d:Nat) (e:Ex):St:= .asg none d e
abbrev zg (g:Nat) (b:Bool) (d:Nat) (e:Ex):St:= .asg (some (g,b)) d e
abbrev zc (d f:Nat) (a:Array Operand) (t:Array TypeId) (y:TypeId):St:= .eff none (some d) (.call {callee:= .value (.func f),args:=a,argTypes:=t}) y
abbrev zd (f:Nat) (a:Array Operand) (t:Array TypeId) (y:TypeId):St:= .eff none none (.call {callee:= .value (.func f),args:=a,argTypes:=t}) y
abbrev zh (g:Nat) (b:Bool) (d f:Nat) (a:Array Operand) (t:Array TypeId) (y:TypeId):St:= .eff (some (g,b)) (some d) (.call {callee:= .value (.func f),args:=a,argTypes:=t}) y
abbrev zp (d:Nat) (a:Array Operand) (t:Array TypeId) (y:TypeId):St:= .eff none (some d) (.call {callee:= .builtin .append,args:=a,argTypes:=t}) y
abbrev zw (t:TypeId) (p x:Operand):St:= .eff none none (.store t p x) 0
abbrev zE (d:Nat) (o:Op) (y:TypeId):St:= .eff none (some d) o y
abbrev zq (l:List St) (b:IR):IR:= .seq (.reg l) b
abbrev zy (d:Nat) (e:Ex) (o:OT):OT:= .take none d e o
abbrev zm (d n:Nat):St:= .asg none d (.var n)
abbrev zK (n:Int):Ex:= .const (.int .i64 n)
abbrev zQ (b:Bool):Ex:= .const (.bool b)
abbrev zO (n:Int):Operand:= .const (.int .i64 n)
abbrev zY (l:Array UInt8):Operand:= .const (.string ⟨l⟩)
abbrev zA (d:Nat) (t:TypeId):St:= .eff none (some d) (.alloc t) 0
abbrev zV (n:Nat) (g:List Nat):List Nat:=(List.range n).filter fun i=> !g.contains i
end Go.Eng
namespace Go.Eng
open Go.RowKit
section
variable (P:Program) (ops:Array Oper) (V:List Nat)
def qac (sk : List Nat) (n : Nat) : Nat → Bool → Array Bool → Option OT
  |0,_,listed=>if (Region.ready .any ops listed).isEmpty then some .done else none
  | f + 1, hd, listed =>
    if (Region.ready .any ops listed).isEmpty then some .done else
    match (if hd then (Region.ready .any ops listed).find? (fun i=>decide (i<n)&& !sk.contains i&&Region.free .any ops listed i&&(Qd P ops V i).isSome) else none) with
    |some i=>match Qd P ops V i with
      |some (g,d,e)=>(qac sk n f hd (listed.setIfInBounds i true)).map (.take g d e)
      |none=>none
    |none=>wg ((Region.ready .any ops listed).map fun i=>match wV P ops V i with
      |some s=>(qac sk n f (hd&&decide (i<n)) (listed.setIfInBounds i true)).map (.step s (decide (i<n)))
      |none=>none)
end
def qc2 (P : Program) (nt : Nat) (V : List Nat) (sk : List Nat) (n : Nat) : Code → Option OT
  | .region _ ops true=>
    if Qx ops nt&&Region.noSelect ops&&P.follows .mixedOrders&&(decide (n=ops.size)||(decide (n<ops.size)&&Region.sinkB .any ops n&&Region.chainB .any ops n)) then qac P ops V sk n ops.size true (Array.replicate ops.size false) else none
  |_=>none
section
variable {cx:Cx} {ops:Array Oper}
theorem qfY (hr : Region1 cx.n ops) (p : Region.noSelect ops = true) {sk : List Nat} {n : Nat} (hn : n = ops.size ∨ (n < ops.size ∧ Region.sinkB .any ops n = true ∧ Region.chainB .any ops n = true)) {S : World → Prop} {K : qa → World → Prop} {Q : Ks} (E : ¬ Q.rd) (I : Q.df → cx.D ≠ []) :
    ∀(f:Nat) (O:Bool) (listed:Array Bool) (t:OT),qac cx.P ops cx.V sk n f O listed=some t→(∀d∈t.takes,∀ρ v c w,Q.pn (qt ρ d v) c w→Q.pn ρ c w)→(O=true→HeadInv .any ops n listed)→∀(ρ:qa) (a:Act) (w:World),Agree cx.n cx.V ρ a→jT cx a→(O=true→S w)→
      t.wp cx.P Q S K ρ w→yo cx.P .any ops (xx cx K Q) S n f listed a w
  |0,O,listed,t,h,_,_,ρ,a,w,R,W,_,j=>by
    simp only [qac] at h;split at h
    · rename_i Z;cases h;exact ⟨by simpa using Z,W,ρ,R,j⟩
    · cases h
  | f + 1, O, listed, t, h, hpn, u, ρ, a, w, R, W, hS, j => by
    simp only [qac] at h;split at h
    · rename_i Z;cases h;have B:Region.ready .any ops listed=[]:=by simpa using Z
      exact ⟨fun _=>⟨W,ρ,R,j⟩,by rw [B];simp⟩
    · rename_i Z;have B:Region.ready .any ops listed≠[]:=by simpa using Z
      split at h
      · rename_i i A;split at A
        · rename_i X;have z:=List.mem_of_find?_eq_some A;have m:=List.find?_some A;simp only [Bool.and_eq_true,decide_eq_true_eq] at m;obtain ⟨⟨⟨hin,_⟩,J⟩,_⟩:=m;split at h
          · rename_i g d e Y;simp only [Option.map_eq_some_iff] at h;obtain ⟨t',b,rfl⟩:=h;simp only [OT.wp] at j;have key:∀v,(if gd ρ g then (∀w',S w'→e.ev ρ w'=some v) else v=undef)→t'.wp cx.P Q S K (qt ρ d v) w→yo cx.P .any ops (xx cx K Q) S n (f+1) listed a w:=by
              intro v hv hk;obtain ⟨o,ho,aa,hV,hy⟩:=qew hr Y R hv;refine qiO ho (Region.noSelect_spec p) hn hin (fun c a w l=> ?_) f listed a w (u X) (Region.free_spec ho J) z hy (hS X) ?_
              · exact qk2 aa hV (hpn d (by simp [OT.takes])) c a w l
              · rw [aa];exact qfY hr p hn E I f O _ t' b (fun x hx=>hpn x (by simp [OT.takes,hx])) (fun l=>(u l).set z hin) _ _ w (R.put hV v) (fun e=>(kY _ _ _).trans (W e)) hS hk
            by_cases y:gd ρ g=true
            · rw [if_pos y] at j;unfold vG at j;split at j
              · obtain ⟨l,h2⟩:=j;exact key _ (by rw [if_pos y];exact l) h2
              · cases j
            · rw [if_neg y] at j;exact key undef (by rw [if_neg y]) j
          · cases h
        · cases A
      · refine ⟨fun h0=>absurd h0 B,fun i A=> ?_⟩;obtain ⟨t',b,ab⟩:=qim h j _ (List.mem_map.2 ⟨i,A,rfl⟩);split at b
        · rename_i s hs;simp only [Option.map_eq_some_iff] at b;obtain ⟨t2,ad,rfl⟩:=b;simp only [OT.wp] at ab;refine wpOp_mono ?_ (qe6 hr hs R W E I ab);rintro a' w' ⟨hD',ρ',ha',ac,hk'⟩;refine ⟨fun hlt=>ac (by simpa using hlt),qfY hr p hn E I f _ _ t2 ad (fun x hx=>hpn x (qin h (.step s (decide (i<n)) t2) (List.mem_map.2 ⟨i,A,by simp only [hs,ad,Option.map_some]⟩) x (by simpa [OT.takes] using hx))) (fun l=> ?_) ρ' a' w' ha' hD' (fun l=> ?_) hk'⟩
          · simp only [Bool.and_eq_true,decide_eq_true_eq] at l;exact (u l.1).set A l.2
          · simp only [Bool.and_eq_true,decide_eq_true_eq] at l;exact ac (by simpa using l.2)
        · cases b
theorem qv4 {c:Code} {sk:List Nat} {n:Nat} {t:OT} (h:qc2 cx.P cx.n cx.V sk n c=some t) (S:World→Prop) {K:qa→World→Prop} {Q:Ks} {ρ:qa} {w:World}
    (A:∀w',qb w w'→w'.heap=w.heap→S w'∧t.wp cx.P Q.noRd S K ρ w') (hpn:∀d∈t.takes,∀ρ v c w,Q.pn (qt ρ d v) c w→Q.pn ρ c w:=by exact fun _ _ _ _ _ _ h=>h):(IR.raw c).wp cx K Q ρ w:=by
  intro a B m j;unfold qc2 at h;split at h
  · rename_i id ops;split at h
    · rename_i l;simp only [Bool.and_eq_true,Bool.or_eq_true,decide_eq_true_eq] at l;obtain ⟨⟨⟨y,x⟩,p⟩,b⟩:=l;obtain ⟨z,u⟩:=A {w with drawn:=w.drawn+1} ⟨rfl,rfl,rfl,Nat.le_refl _,fun _ _=>rfl⟩ rfl;refine wp_region_any p (qeL _ _ _ _ (qfY (qbc y) x (by rcases b with b|b;exact .inl b;exact .inr ⟨b.1.1,b.1.2,b.2⟩) (Q:=Q.noRd) (fun h=>h) j _ _ _ t h hpn (fun _=>qru) ρ a _ B m (fun _=>z) u))
    · cases h
  · cases h
end
end Go.Eng
namespace Go.Eng
open Go.RowKit
def qaR (P:Program) (nt:Nat) (V:List Nat):Code→Option (List (Option St))
  | .region _ ops true=>if Qx ops nt&&P.follows .mixedOrders then some ((List.range ops.size).map (wV P ops V)) else none
  |_=>none
def qij:Code→List (List Nat)
  | .region _ ops _=>ops.toList.map fun o=>(o.after.toList.filter fun e=>Region.binds .any e).map (·.on)
  |_=>[]
def qr7 (l:List (List Nat)):Bool:=l.zipIdx.all fun p=>p.1.all fun d=>decide (d<p.2)
section
variable {ops:Array Oper} {cx:Cx}
theorem qiV {listed : Array Bool} (t : listed.size = ops.size) (m : Region.ready .any ops listed = []) (p : ∀ i o, ops[i]? = some o → ∀ e ∈ o.after, Region.binds .any e = true → e.on < i) : ∀ i, i < ops.size → listed.getD i false = true := by
  intro i
  induction i using Nat.strongRecOn with
  | _ i n =>
    intro j;cases h:listed.getD i false with
    |true=>rfl
    |false=>
      exfalso;have a:i∈Region.ready .any ops listed:=mem_ready.2 ⟨by
        rw [Array.getD_eq_getD_getElem?,Array.getElem?_eq_getElem (by omega)] at h⊢;simpa using h,ops[i],Array.getElem?_eq_getElem j,fun e b l=> ?_⟩
      · rw [m] at a;cases a
      · have c:=p i _ (Array.getElem?_eq_getElem j) e b l;exact n e.on c (by omega)
theorem qiN (hr : Region1 cx.n ops) {J : (Nat → Bool) → qa → World → Prop} {K : qa → World → Prop} {Q : Ks} (p : ¬ Q.rd) (u : Q.df → cx.D ≠ []) (Z : ∀ i o, ops[i]? = some o → ∀ e ∈ o.after, Region.binds .any e = true → e.on < i)
    (j:∀(L:Nat→Bool) (i:Nat) (o:Oper),ops[i]? =some o→L i=false→(∀e∈o.after,Region.binds .any e=true→L e.on=true)→∃s,wV cx.P ops cx.V i=some s∧∀ρ w,J L ρ w→s.wp cx.P Q (J (fun k=>if k=i then true else L k)) ρ w)
    (c:∀L ρ w,(∀i,i<ops.size→L i=true)→J L ρ w→K ρ w):
    ∀(f:Nat) (listed:Array Bool),listed.size=ops.size→listed.toList.count false≤f→∀(ρ:qa) (a:Act) (w:World),Agree cx.n cx.V ρ a→jT cx a→J (fun k=>listed.getD k false) ρ w→wpAny cx.P .any ops (xx cx K Q) f listed a w
  |0,listed,z,hc,ρ,a,w,O,A,E=>by
    have B : Region.ready .any ops listed = [] := by
      cases h:Region.ready .any ops listed with
      |nil=>rfl
      |cons x l=>
        exfalso;have I:=(mem_ready.1 (show x∈Region.ready .any ops listed by rw [h];simp)).1;have b:x<listed.size:=by
          rcases Nat.lt_or_ge x listed.size with y|y
          · exact y
          · rw [Array.getD_eq_getD_getElem?,Array.getElem?_eq_none y] at I;simp at I
        rw [Array.getD_eq_getD_getElem?,Array.getElem?_eq_getElem b] at I;have:false∈listed.toList:=by
          have h2:listed[x]=false:=by simpa using I
          rw [←h2];exact Array.getElem_mem_toList b
        have:=List.count_pos_iff.2 this;omega
    exact ⟨B,A,ρ,O,c _ ρ w (qiV z B Z) E⟩
  | f + 1, listed, z, hc, ρ, a, w, O, A, E => by
    refine ⟨fun B=>⟨A,ρ,O,c _ ρ w (qiV z B Z) E⟩,fun i hi=> ?_⟩;obtain ⟨hf,o,ho,t⟩:=mem_ready.1 hi;have b:i<listed.size:=by rw [z];exact (Array.getElem?_eq_some_iff.1 ho).1
    have m:listed.getD i false=false:=by
      rw [Array.getD_eq_getD_getElem?,Array.getElem?_eq_getElem b] at hf⊢;simpa using hf
    obtain ⟨s,S,hw⟩:=j (fun k=>listed.getD k false) i o ho m t;refine wpOp_mono (fun a' w' h=> ?_) (qe6 hr (K0:=K) S O A p u (hw ρ w E));obtain ⟨W,aa,R,X⟩:=h;refine qiN hr p u Z j c f (listed.setIfInBounds i true) (by simpa using z) ?_ aa a' w' R W ?_
    · have y:listed[i]=false:=by
       rw [Array.getD_eq_getD_getElem?,Array.getElem?_eq_getElem b] at m;simpa using m
      have h2:(listed.setIfInBounds i true).toList=listed.toList.set i true:=by simp
      rw [h2,List.count_set (by simpa using b)];have h3:listed.toList[i]'(by simpa using b)=false:=by simpa using y
      have hp:0<listed.toList.count false:=List.count_pos_iff.2 (h3▸List.getElem_mem _);rw [h3];simp;simp at hc;omega
    · have:(fun k=>(listed.setIfInBounds i true).getD k false)=fun k=>if k=i then true else listed.getD k false:=by
       funext k;by_cases Y:k=i
       · subst Y;rw [if_pos rfl,Array.getD_eq_getD_getElem?,Array.getElem?_setIfInBounds_self_of_lt b];rfl
       · rw [if_neg Y,Array.getD_eq_getD_getElem?,Array.getD_eq_getD_getElem?,Array.getElem?_setIfInBounds_ne (Ne.symm Y)]
      rw [this];exact X
theorem qv5 {c : Code} {sts : List (Option St)} {b : List (List Nat)} (h : qaR cx.P cx.n cx.V c = some sts) (hd : qij c = b) (t : sts.all Option.isSome = true) (m : qr7 b = true) (J : (Nat → Bool) → qa → World → Prop) {K : qa → World → Prop} {Q : Ks} {ρ : qa} {w : World}
    (h0:∀w',qb w w'→w'.heap=w.heap→J (fun _=>false) ρ w')
    (j:∀(L:Nat→Bool) (i:Nat) (s:St) (ds:List Nat),sts[i]? =some (some s)→b[i]? =some ds→L i=false→(∀d∈ds,L d=true)→∀ρ w,J L ρ w→s.wp cx.P Q.noRd (J (fun k=>if k=i then true else L k)) ρ w)
    (u:∀L ρ w,(∀i,i<sts.length→L i=true)→J L ρ w→K ρ w):(IR.raw c).wp cx K Q ρ w:=by
  intro a ha hD I;unfold qaR at h;split at h
  · rename_i id ops;split at h
    · rename_i hc;simp only [Bool.and_eq_true] at hc;obtain ⟨h1,h3⟩:=hc;cases h;have A:((List.range ops.size).map (wV cx.P ops cx.V)).length=ops.size:=by simp
      have x:∀(i:Nat) (o:Oper),ops[i]? =some o→b[i]? =some ((o.after.toList.filter fun e=>Region.binds .any e).map (·.on)):=fun i o l=>by
        rw [←hd];simp [qij,l]
      have p:∀(o:Oper) e,e∈o.after→Region.binds .any e=true→e.on∈(o.after.toList.filter fun e=>Region.binds .any e).map (·.on):=fun o e z X=>List.mem_map.2 ⟨e,List.mem_filter.2 ⟨by simpa using z,X⟩,rfl⟩;refine wp_region_any h3 (qiN (qbc h1) (Q:=Q.noRd) (J:=J) (fun h=>h) I ?_ ?_ ?_ _ _ (by simp) (by simp) ρ a _ ha hD ?_)
      · intro i o l e z X;have y:=x i o l;unfold qr7 at m;have W:=List.all_eq_true.1 m (_,i) (List.mem_zipIdx_iff_getElem?.2 y);exact of_decide_eq_true (List.all_eq_true.1 W e.on (p o e z X))
      · intro L i o l E O;have B:=(Array.getElem?_eq_some_iff.1 l).1;have y:((List.range ops.size).map (wV cx.P ops cx.V))[i]? =some (wV cx.P ops cx.V i):=by simp [B]
        have W:=List.all_eq_true.1 t _ (List.mem_of_getElem? y);obtain ⟨s,hs⟩:=Option.isSome_iff_exists.1 W;rw [hs] at y;refine ⟨s,hs,fun ρ w S=>j L i s _ y (x i o l) E (fun d Y=> ?_) ρ w S⟩;obtain ⟨e,z,rfl⟩:=List.mem_map.1 Y;obtain ⟨R,Z⟩:=List.mem_filter.1 z;exact O e (by simpa using R) Z
      · intro L ρ w E S;exact u L ρ w (fun i B=>E i (by rw [A] at B;exact B)) S
      · have:(fun k=>(Array.replicate ops.size false).getD k false)=fun _=>false:=by
          funext k;rw [Array.getD_eq_getD_getElem?,Array.getElem?_replicate];split<;>rfl
        rw [this];exact h0 _ ⟨rfl,rfl,rfl,Nat.le_refl _,fun _ _=>rfl⟩ rfl
    · cases h
  · cases h
end
end Go.Eng
namespace Go.Eng
open Go.RowKit
inductive Tr (α:Type) where
  |lf
  |nd (v:Option α) (l r:Tr α)
noncomputable def Tr.get {α:Type} (t:Tr α):Nat→Option α:=
  Tr.rec (motive:=fun _=>Nat→Option α) (fun _=>none) (fun v _ _ l r k=>Bool.rec (motive:=fun _=>Option α) (Bool.rec (motive:=fun _=>Option α) (r (Nat.sub (Nat.div k 2) 1)) (l (Nat.div k 2)) (Nat.beq (Nat.mod k 2) 1)) v (Nat.beq k 0)) t
noncomputable def Tr.putS {α:Type} (x:Option α) (ih:Tr α→Nat→Tr α) (v:Option α) (l r:Tr α) (k:Nat):Tr α:=
  Bool.rec (motive:=fun _=>Tr α) (Bool.rec (motive:=fun _=>Tr α) (.nd v l (ih r (Nat.sub (Nat.div k 2) 1))) (.nd v (ih l (Nat.div k 2)) r) (Nat.beq (Nat.mod k 2) 1)) (.nd x l r) (Nat.beq k 0)
noncomputable def Tr.put {α:Type} (f:Nat) (t:Tr α) (k:Nat) (x:Option α):Tr α:=
  Nat.rec (motive:=fun _=>Tr α→Nat→Tr α) (fun t _=>t) (fun _ ih t k=>Tr.rec (motive:=fun _=>Tr α) (Tr.putS x ih none .lf .lf k) (fun v l r _ _=>Tr.putS x ih v l r k) t) f t k
theorem qcK {β:Type} (a b:Nat) (x y:β):(Bool.rec (motive:=fun _=>β) y x (Nat.beq a b):β)=if a=b then x else y:=by
  by_cases h:a=b
  · subst h;simp
  · rw [if_neg h,show Nat.beq a b=false from by
      cases e:Nat.beq a b
      · rfl
      · exact absurd (Nat.eq_of_beq_eq_true e) h]
theorem qsI {α:Type} (a b:Nat) (x y:α):(bif Nat.beq a b then x else y)=if a=b then x else y:=by
  by_cases h:a=b
  · subst h;simp
  · rw [if_neg h,show Nat.beq a b=false from by
      cases e:Nat.beq a b
      · rfl
      · exact absurd (Nat.eq_of_beq_eq_true e) h];rfl
@[simp] theorem Tr.get_lf {α:Type} (k:Nat):(Tr.lf:Tr α).get k=none:=rfl
theorem Tr.get_nd {α:Type} (v:Option α) (l r:Tr α) (k:Nat):(Tr.nd v l r).get k=if k=0 then v else if k%2=1 then l.get (k / 2) else r.get (k / 2 - 1):=by
  show (Bool.rec (motive:=fun _=>Option α) (Bool.rec (motive:=fun _=>Option α) (r.get (k / 2 - 1)) (l.get (k / 2)) (Nat.beq (k%2) 1)) v (Nat.beq k 0))=_;rw [qcK,qcK]
theorem Tr.putS_eq {α:Type} (x:Option α) (a:Tr α→Nat→Tr α) (v:Option α) (l r:Tr α) (k:Nat):Tr.putS x a v l r k=if k=0 then .nd x l r else if k%2=1 then .nd v (a l (k / 2)) r else .nd v l (a r (k / 2 - 1)):=by
  show (Bool.rec (motive:=fun _=>Tr α) (Bool.rec (motive:=fun _=>Tr α) (.nd v l (a r (k / 2 - 1))) (.nd v (a l (k / 2)) r) (Nat.beq (k%2) 1)) (.nd x l r) (Nat.beq k 0))=_;rw [qcK,qcK]
theorem Tr.put_lf {α:Type} (f k:Nat) (x:Option α):Tr.put (f+1) .lf k x=if k=0 then .nd x .lf .lf else if k%2=1 then .nd none (Tr.put f .lf (k / 2) x) .lf else .nd none .lf (Tr.put f .lf (k / 2 - 1) x):=
  Tr.putS_eq x (fun t k=>Tr.put f t k x) none .lf .lf k
theorem Tr.put_nd {α:Type} (f k:Nat) (x v:Option α) (l r:Tr α):Tr.put (f+1) (.nd v l r) k x=if k=0 then .nd x l r else if k%2=1 then .nd v (Tr.put f l (k / 2) x) r else .nd v l (Tr.put f r (k / 2 - 1) x):=
  Tr.putS_eq x (fun t k=>Tr.put f t k x) v l r k
theorem Tr.get_put {α : Type} : ∀ (f : Nat) (t : Tr α) (k : Nat) (x : Option α), k + 1 < 2 ^ f → ∀ j, (Tr.put f t k x).get j = if j = k then x else t.get j
  |0,t,k,x,h,j=>by simp at h
  | f + 1, t, k, x, h, j => by
    have e:2^(f+1)=2*2^f:=by rw [Nat.pow_succ];omega
    rw [e] at h;have key:∀(v:Option α) (l r:Tr α),(if k=0 then Tr.nd x l r else if k%2=1 then .nd v (Tr.put f l (k / 2) x) r else .nd v l (Tr.put f r (k / 2 - 1) x)).get j=if j=k then x else (Tr.nd v l r).get j:=by
      intro v l r;by_cases m:k=0
      · subst m;by_cases a:j=0
        · subst a;simp [Tr.get_nd]
        · simp [Tr.get_nd,a]
      · rw [if_neg m];by_cases k1:k%2=1
        · rw [if_pos k1];have n:=Tr.get_put f l (k / 2) x (by omega);by_cases a:j=0
          · subst a;rw [if_neg (fun e=>m e.symm)];simp [Tr.get_nd]
          · by_cases c:j%2=1
            · simp only [Tr.get_nd,if_neg a,if_pos c,n];by_cases b:j=k
              · subst b;simp
              · rw [if_neg (by omega),if_neg b]
            · simp only [Tr.get_nd,if_neg a,if_neg c];rw [if_neg (by omega)]
        · rw [if_neg k1];have n:=Tr.get_put f r (k / 2 - 1) x (by omega);by_cases a:j=0
          · subst a;rw [if_neg (fun e=>m e.symm)];simp [Tr.get_nd]
          · by_cases c:j%2=1
            · simp only [Tr.get_nd,if_neg a,if_pos c];rw [if_neg (by omega)]
            · simp only [Tr.get_nd,if_neg a,if_neg c,n];by_cases b:j=k
              · subst b;simp
              · rw [if_neg (by omega),if_neg b]
    cases t with
    |lf=>
      have:=key none .lf .lf;have p:(Tr.nd none .lf .lf:Tr α).get j=(Tr.lf:Tr α).get j:=by
        simp only [Tr.get_nd,Tr.get_lf];split
        · rfl
        · split<;>rfl
      rw [p] at this;rw [Tr.put_lf];exact this
    |nd v l r=>rw [Tr.put_nd];exact key v l r
def vj:Nat:=1048570
noncomputable def Tr.set {α:Type} (t:Tr α) (k:Nat) (x:α):Tr α:=Tr.put 20 t k (some x)
noncomputable def Tr.del {α:Type} (t:Tr α) (k:Nat):Tr α:=Tr.put 20 t k none
theorem Tr.get_set {α:Type} (t:Tr α) {k:Nat} (x:α) (h:k<vj) (j:Nat):(t.set k x).get j=if j=k then some x else t.get j:=Tr.get_put 20 t k _ (by unfold vj at h;simp only [Nat.reducePow];omega) j
theorem Tr.get_del {α:Type} (t:Tr α) {k:Nat} (h:k<vj) (j:Nat):(t.del k).get j=if j=k then none else t.get j:=Tr.get_put 20 t k _ (by unfold vj at h;simp only [Nat.reducePow];omega) j
structure Ob where
  cells:List Value
  ty:TypeId
  sz:Nat
  whole:Bool
  ex:Bool
abbrev vg:=Tr Ob
abbrev Sg:=Nat→Option (Nat×Nat×Nat)
def Sg.le (σ τ:Sg):Prop:=∀k p,σ k=some p→τ k=some p
theorem Sg.le_refl (σ:Sg):σ.le σ:=fun _ _ h=>h
theorem Sg.le_trans {a b c:Sg} (h:a.le b) (k:b.le c):a.le c:=fun i p j=>k i p (h i p j)
def zi:Value→Bool
  | .bool _| .int _ _| .string _| .nilFunc| .nilIface| .pointer none=>true
  | .slice none 0 0=>true
  |_=>false
inductive VR (σ:Sg):Value→Value→Prop
  |pln {v:Value} (h:zi v=true):VR σ v v
  |ptr {i b f x o:Nat} (h:σ i=some (b,f,x)):VR σ (.pointer (some ⟨i,o,none⟩)) (.pointer (some ⟨b,f+o,none⟩))
  |slc {i b f x o n c:Nat} (h:σ i=some (b,f,x)) (hn:n≤c):VR σ (.slice (some ⟨i,o,none⟩) n c) (.slice (some ⟨b,f+o,none⟩) n (c+x))
  |fnc {g:Fn} {fs gs cs ds:Array Value} (h1:fs.size=gs.size) (h2:∀(i:Nat) (x y:Value),fs[i]? =some x→gs[i]? =some y→VR σ x y) (h3:cs.size=ds.size) (h4:∀(i:Nat) (x y:Value),cs[i]? =some x→ds[i]? =some y→VR σ x y):VR σ (.func g fs cs) (.func g gs ds)
  |mp {i b:Nat} (h:σ i=some (b,0,0)):VR σ (.map (some i)) (.map (some b))
  |ifc {t:TypeId} {v v':Value} (h:VR σ v v'):VR σ (.iface t v) (.iface t v')
  |agg {cs ds:Array Value} (h1:cs.size=ds.size) (h2:∀(i:Nat) (x y:Value),cs[i]? =some x→ds[i]? =some y→VR σ x y):VR σ (.agg cs) (.agg ds)
  |tup {cs ds:Array Value} (h1:cs.size=ds.size) (h2:∀(i:Nat) (x y:Value),cs[i]? =some x→ds[i]? =some y→VR σ x y):VR σ (.tuple cs) (.tuple ds)
theorem VR.mono {σ j:Sg} (c:σ.le j) {v l:Value} (h:VR σ v l):VR j v l:=by
  induction h with
  |pln h=>exact .pln h
  |ptr h=>exact .ptr (c _ _ h)
  |slc h n=>exact .slc (c _ _ h) n
  |mp h=>exact .mp (c _ _ h)
  |fnc b _ m _ p i4=>exact .fnc b p m i4
  |ifc _ a=>exact .ifc a
  |agg b _ a=>exact .agg b a
  |tup b _ a=>exact .tup b a
theorem qex {cs ds es:Array Value} {σ:Sg} (j:cs.size=ds.size) (h:∀(i:Nat) (x y:Value),cs[i]? =some x→ds[i]? =some y→∀z,VR σ x z→y=z) (k1:cs.size=es.size) (k2:∀(i:Nat) (x y:Value),cs[i]? =some x→es[i]? =some y→VR σ x y):ds=es:=by
  apply Array.ext
  · omega
  · intro i c b;have a:i<cs.size:=by omega
    exact h i cs[i] ds[i] (Array.getElem?_eq_getElem a) (Array.getElem?_eq_getElem c) es[i] (k2 i cs[i] es[i] (Array.getElem?_eq_getElem a) (Array.getElem?_eq_getElem b))
theorem VR.uniq {σ:Sg} {v a:Value} (h:VR σ v a):∀{b:Value},VR σ v b→a=b:=by
  induction h with
  |pln h=>
    intro b j;cases j with
    |pln _=>rfl
    |ptr _=>cases h
    |slc _ _=>cases h
    |mp _=>cases h
    |fnc _ _ _ _=>cases h
    |ifc _=>cases h
    |agg _ _=>cases h
    |tup _ _=>cases h
  |ptr h=>
    intro b j;cases j with
    |pln c=>cases c
    |ptr c=>rw [h] at c;cases c;rfl
  |slc h B=>
    intro b j;cases j with
    |pln c=>cases c
    |slc c _=>rw [h] at c;cases c;rfl
  |mp h=>
    intro b j;cases j with
    |pln c=>cases c
    |mp c=>rw [h] at c;cases c;rfl
  |fnc t _ u _ A i4=>
    intro b j;cases j with
    |pln c=>cases c
    |fnc k1 k2 k3 k4=>rw [qex t (fun i x y n l z m=>A i x y n l m) k1 k2,qex u (fun i x y n l z m=>i4 i x y n l m) k3 k4]
  |ifc _ p=>
    intro b j;cases j with
    |pln c=>cases c
    |ifc c=>rw [p c]
  |agg t _ p=>
    intro b j;cases j with
    |pln c=>cases c
    |agg k1 k2=>rw [qex t (fun i x y n l z m=>p i x y n l m) k1 k2]
  |tup t _ p=>
    intro b j;cases j with
    |pln c=>cases c
    |tup k1 k2=>rw [qex t (fun i x y n l z m=>p i x y n l m) k1 k2]
def ql (σ:Sg):List Value→List Value→Prop
  |[],[]=>True
  |a::l,b::m=>VR σ a b∧ql σ l m
  |_,_=>False
theorem ql.len {σ:Sg}:∀{l m:List Value},ql σ l m→l.length=m.length
  |[],[],_=>rfl
  |_::l,_::m,h=>by simp [ql.len h.2]
theorem ql.mono {σ b:Sg} (a:σ.le b):∀{l m:List Value},ql σ l m→ql b l m
  |[],[],_=>trivial
  |_::_,_::_,h=>⟨h.1.mono a,ql.mono a h.2⟩
theorem ql.get {σ:Sg}:∀{l m:List Value},ql σ l m→∀(j:Nat) (v:Value),l[j]? =some v→∃n,m[j]? =some n∧VR σ v n
  |[],[],_,j,v,c=>by simp at c
  |a::l,b::m,h,0,v,c=>by simp at c;subst c;exact ⟨b,rfl,h.1⟩
  |a::l,b::m,h,j+1,v,c=>by simpa using ql.get h.2 j v (by simpa using c)
theorem ql.uniq {σ:Sg}:∀{l a b:List Value},ql σ l a→ql σ l b→a=b
  |[],[],[],_,_=>rfl
  |_::_,_::_,_::_,h,k=>by rw [h.1.uniq k.1,ql.uniq h.2 k.2]
theorem ql.app {σ:Sg}:∀{a b c d:List Value},ql σ a b→ql σ c d→ql σ (a++c) (b++d)
  |[],[],_,_,_,k=>k
  |_::_,_::_,_,_,h,k=>⟨h.1,ql.app h.2 k⟩
theorem ql.take {σ:Sg}:∀{a b:List Value} (n:Nat),ql σ a b→ql σ (a.take n) (b.take n)
  |[],[],_,_=>by simp [ql]
  |_::_,_::_,0,_=>by simp [ql]
  |_::_,_::_,n+1,h=>⟨h.1,ql.take n h.2⟩
theorem ql.drop {σ:Sg}:∀{a b:List Value} (n:Nat),ql σ a b→ql σ (a.drop n) (b.drop n)
  |[],[],_,_=>by simp [ql]
  |_::_,_::_,0,h=>h
  |_::_,_::_,n+1,h=>ql.drop n h.2
theorem ql.set {σ:Sg} {v c:Value} (j:VR σ v c):∀{a b:List Value} (n:Nat),ql σ a b→ql σ (a.set n v) (b.set n c)
  |[],[],_,_=>trivial
  |_::_,_::_,0,h=>⟨j,h.2⟩
  |_::_,_::_,n+1,h=>⟨h.1,ql.set j n h.2⟩
theorem ql.of {σ:Sg}:∀{l m:List Value},l.length=m.length→(∀(j:Nat) (x y:Value),l[j]? =some x→m[j]? =some y→VR σ x y)→ql σ l m
  |[],[],_,_=>trivial
  |a::l,b::m,h,c=>⟨c 0 a b rfl rfl,ql.of (by simpa using h) fun j x y p n=>c (j+1) x y (by simpa using p) (by simpa using n)⟩
theorem ql.arr {σ:Sg} {cs ds:Array Value} (h:ql σ cs.toList ds.toList):cs.size=ds.size∧∀(i:Nat) (x y:Value),cs[i]? =some x→ds[i]? =some y→VR σ x y:=by
  refine ⟨by simpa using h.len,fun i x y j a=> ?_⟩;obtain ⟨l,c,b⟩:=h.get i x (by rw [←j];simp);rw [←Array.getElem?_toList,c] at a;cases a;exact b
structure RO (σ:Sg) (w:World) (i:Nat) (o:Ob) (b f x:Nat) (cur:Array Value):Prop where
  at':σ i=some (b,f,x)
  heap:w.heap[b]? =some (.cells cur o.ty (0,0))
  cs:ql σ o.cells ((cur.toList.drop f).take o.cells.length)
  room:f+o.cells.length+x*o.sz≤cur.size
  whole:o.whole=true→f=0∧x=0∧cur.size=o.cells.length
  most:o.whole=false→∃n,o.cells.length=n*o.sz∧n+x≤maxLen
  exact:o.ex=true→f=0∧cur.size=o.cells.length+x*o.sz
def QE (ps:List (ByteArray×Value)):List Value:=ps.flatMap fun p=>[.string p.1,p.2]
def MO (σ:Sg) (w:World) (i:Nat) (o:Ob):Prop:=∃b ps,σ i=some (b,0,0)∧MapB w b ps∧o.cells=QE ps∧∀p∈ps,zi p.2=true
def MR (σ:Sg) (H:vg) (w:World):Prop:=∀i o,H.get i=some o→(o.sz=0→MO σ w i o)∧(o.sz≠0→∃b f x cur,RO σ w i o b f x cur)
theorem MO.mono {σ a:Sg} (j:σ.le a) {w:World} {i:Nat} {o:Ob} (h:MO σ w i o):MO a w i o:=by
  obtain ⟨b,ps,c,l⟩:=h;exact ⟨b,ps,j _ _ c,l⟩
theorem RO.mono {σ c:Sg} (a:σ.le c) {w:World} {i:Nat} {o:Ob} {b f x:Nat} {cur:Array Value} (h:RO σ w i o b f x cur):RO c w i o b f x cur:=
  ⟨a _ _ h.at',h.heap,h.cs.mono a,h.room,h.whole,h.most,h.exact⟩
theorem RO.keep {σ:Sg} {w w':World} {i:Nat} {o:Ob} {b f x:Nat} {cur:Array Value} (h:RO σ w i o b f x cur) (a:w'.heap[b]? =w.heap[b]?):RO σ w' i o b f x cur:=
  ⟨h.at',a.trans h.heap,h.cs,h.room,h.whole,h.most,h.exact⟩
theorem RO.lt {σ:Sg} {w:World} {i:Nat} {o:Ob} {b f x:Nat} {cur:Array Value} (h:RO σ w i o b f x cur):b<w.heap.size:=(Array.getElem?_eq_some_iff.1 h.heap).1
theorem MR.ext {σ:Sg} {H:vg} {w w':World} (h:MR σ H w) (l:qb w w'):MR σ H w':=fun i o j=>by
  refine ⟨fun a=> ?_,fun a=> ?_⟩
  · obtain ⟨b,ps,n,p,m⟩:=(h i o j).1 a;exact ⟨b,ps,n,p.ext l,m⟩
  · obtain ⟨b,f,x,cur,c⟩:=(h i o j).2 a;exact ⟨b,f,x,cur,c.keep (l.block b c.lt)⟩
theorem MR.mono {σ l:Sg} {H:vg} {w:World} (h:MR σ H w) (c:σ.le l):MR l H w:=fun i o j=>by
  refine ⟨fun a=>((h i o j).1 a).mono c,fun a=> ?_⟩;obtain ⟨b,f,x,cur,m⟩:=(h i o j).2 a;exact ⟨b,f,x,cur,m.mono c⟩
theorem RO.cell {σ:Sg} {w:World} {i:Nat} {o:Ob} {b f x:Nat} {cur:Array Value} (h:RO σ w i o b f x cur) {j:Nat} {v:Value} (l:o.cells[j]? =some v):∃a,w.cell? ⟨b,f+j,none⟩=some a∧VR σ v a:=by
  obtain ⟨a,m,n⟩:=h.cs.get j v l;refine ⟨a, ?_,n⟩;have c:j<o.cells.length:=(List.getElem?_eq_some_iff.1 l).1;rw [List.getElem?_take_of_lt c,List.getElem?_drop] at m;simpa [World.cell?,h.heap] using m
noncomputable def qem (H:vg) (a:Addr):Option Value:=
  match a.spot with
  |none=>match H.get a.block with|some o=>bif Nat.beq o.sz 0 then none else o.cells[a.off]? |none=>none
  |some _=>none
noncomputable def qa5 (H:vg) (a:Addr) (n:Nat):Option (List Value):=
  match a.spot with
  |none=>match H.get a.block with
    |some o=>bif Nat.beq o.sz 0 then none else if ((o.cells.drop a.off).take n).length=n then some ((o.cells.drop a.off).take n) else none
    |none=>none
  |some _=>none
def qaP (sz:Nat) (v:Value) (l h:Int):Option Value:=
  match v with
  | .slice (some ⟨i,o,none⟩) _ c=>if 0≤l∧l≤h∧h≤c∧(l<c∨l=0) then some (.slice (some ⟨i,o+l.toNat*sz,none⟩) (h.toNat - l.toNat) (c - l.toNat)) else none
  | .slice none 0 0=>if l=0∧h=0 then some (.slice none 0 0) else none
  |_=>none
noncomputable def x1 (H:vg):K1→Value→Option Value
  | .same,v=>some v
  | .load1, .pointer (some a)=>qem H a
  | .loadN n, .pointer (some a)=>match qa5 H a n with|some l=>some (.agg l.toArray)|none=>none
  | .fadr off, .pointer (some ⟨i,o,none⟩)=>some (.pointer (some ⟨i,o+off,none⟩))
  | .fld off, .agg cs=>cs[off]?
  | .lenS, .slice _ n _=>some (.int .i64 n)
  | .lenT, .string s=>some (.int .i64 s.size)
  | .not, .bool b=>some (.bool !b)
  | .neg, .int k n=>some (.int k (k.wrap (0 - n)))
  | .conv k, .int _ n=>some (.int k (k.wrap n))
  | .ext i, .tuple vs=>vs[i]?
  | .mkif t,v=>some (.iface t v)
  | .nilc, .pointer (some a)=>some (.pointer (some a))
  | .nilc, .iface t v=>some (.iface t v)
  | .strid, .string s=>some (.string s)
  | .b2s, .slice none 0 0=>some (.string (qaA []))
  | .b2s, .slice (some a) n _=>match qa5 H a n with
    |some l=>(match kz l with|some ns=>some (.string (qaA ns))|none=>none)
    |none=>none
  |_,_=>none
def x2:K2→Value→Value→Option Value
  | .ibin op _, .int k a, .int k' b=>if k=k' then (match qap op k a b with|some (.int k n)=>some (.int k n)|some (.bool b)=>some (.bool b)|_=>none) else none
  | .sbin op, .string x, .string y=>match ki op x y with|some (.string s)=>some (.string s)|some (.bool b)=>some (.bool b)|_=>none
  | .bbin .eql, .bool a, .bool b=>some (.bool (a==b))
  | .bbin .neq, .bool a, .bool b=>some (.bool (!(a==b)))
  | .ixa sz, .slice (some ⟨i,o,none⟩) n _, .int _ j=>if 0≤j∧j<n then some (.pointer (some ⟨i,o+j.toNat*sz,none⟩)) else none
  | .ixs, .string s, .int _ i=>if 0≤i then (match s[i.toNat]? with|some b=>some (.int .u8 b.toNat)|none=>none) else none
  | .slLo sz, .slice a n c, .int _ l=>qaP sz (.slice a n c) l n
  | .stLo, .string s, .int _ l=>if 0≤l∧l≤s.size then some (.string (s.extract l.toNat s.size)) else none
  |_,_,_=>none
def x3:K3→Value→Value→Value→Option Value
  | .slLoHi sz,v, .int _ l, .int _ h=>qaP sz v l h
  | .stLoHi, .string s, .int _ l, .int _ h=>if 0≤l∧l≤h∧h≤s.size then some (.string (s.extract l.toNat h.toNat)) else none
  |_,_,_,_=>none
def qax:Value→Bool
  | .func _ fs cs=>fs.isEmpty&&cs.isEmpty
  | .agg cs=>cs.toList.all zi
  | .tuple cs=>cs.toList.all zi
  | .iface _ (.agg cs)=>cs.toList.all zi
  | .iface _ v=>zi v
  |v=>zi v
noncomputable def vJ (H:vg) (e:Tr Value):Ex→Option Value
  | .var i=>e.get i
  | .const v=>if qax v then some v else none
  | .op1 k x=>match vJ H e x with|some a=>x1 H k a|none=>none
  | .op2 k x y=>match vJ H e x,vJ H e y with|some a,some b=>x2 k a b|_,_=>none
  | .op3 k x y z=>match vJ H e x,vJ H e y,vJ H e z with|some a,some b,some c=>x3 k a b c|_,_,_=>none
  | .op4 .. =>none
  | .ite c x y=>match vJ H e c with|some (.bool true)=>vJ H e x|some (.bool false)=>vJ H e y|_=>none
section
variable {σ:Sg} {H:vg} {w:World}
theorem qfN {cs:Array Value} (h:cs.toList.all zi=true):∀(i:Nat) (x y:Value),cs[i]? =some x→cs[i]? =some y→VR σ x y:=fun i x y b a=>by
  rw [b] at a;cases a;exact .pln (List.all_eq_true.1 h x (by rw [Array.mem_toList_iff];exact Array.mem_of_getElem? b))
theorem wG {v:Value} (h:qax v=true):VR σ v v:=by
  unfold qax at h;split at h
  · simp only [Bool.and_eq_true,Array.isEmpty_iff] at h;obtain ⟨rfl,rfl⟩:=h;exact .fnc rfl (fun i x y a=>by simp at a) rfl (fun i x y a=>by simp at a)
  · exact .agg rfl (qfN h)
  · exact .tup rfl (qfN h)
  · exact .ifc (.agg rfl (qfN h))
  · exact .ifc (.pln h)
  · exact .pln h
theorem qsm (n:MR σ H w) {a:Addr} {v l:Value} (A:VR σ (.pointer (some a)) l) (h:qem H a=some v):∃u,qS w .load1 l=some u∧VR σ v u:=by
  cases A with
  |pln p=>cases p
  |ptr y=>
    simp only [qem] at h;split at h
    · rename_i o t;rw [qsI] at h;by_cases c:o.sz=0
      · rw [if_pos c] at h;cases h
      rw [if_neg c] at h;obtain ⟨b,f,x,cur,j⟩:=(n _ o t).2 c;have:=j.at';rw [y] at this;cases this;obtain ⟨u,m,z⟩:=j.cell h;exact ⟨u,m,z⟩
    · cases h
theorem qft (O : MR σ H w) {i o : Nat} {b f x : Nat} (R : σ i = some (b, f, x)) {n : Nat} {l : List Value} (h : qa5 H ⟨i, o, none⟩ n = some l) : ∃ A, jk w ⟨b, f + o, none⟩ 0 n = some A ∧ ql σ l A ∧ l.length = n := by
  simp only [qa5] at h;split at h
  · rename_i ob p;rw [qsI] at h;by_cases z:ob.sz=0
    · rw [if_pos z] at h;cases h
    rw [if_neg z] at h;split at h
    · rename_i E;cases h;obtain ⟨X,W,S,cur,u⟩:=(O _ ob p).2 z;have:=u.at';rw [R] at this;cases this;have I:=(u.cs.drop o).take n;have c:=I.len;rw [E] at c;refine ⟨_, ?_,I,E⟩;have B:=Qw (w:=w) (a:=⟨b,f+o,none⟩) (l:=(((cur.toList.drop f).take ob.cells.length).drop o).take n) (i:=0) fun j J=>by
        have y:j<n:=by omega
        have m:(((cur.toList.drop f).take ob.cells.length).drop o)[j]? =some ((((cur.toList.drop f).take ob.cells.length).drop o).take n)[j]:=by
          rw [←List.getElem?_take_of_lt y,List.getElem?_eq_getElem J]
        rw [List.getElem?_drop] at m;have t:o+j<ob.cells.length:=by
          have:=(List.getElem?_eq_some_iff.1 m).1;simp at this;omega
        rw [List.getElem?_take_of_lt t,List.getElem?_drop] at m;simp only [zF,Nat.zero_add];simpa [World.cell?,u.heap,Nat.add_assoc] using m
      rw [←c] at B;exact B
    · cases h
  · cases h
theorem qsu : ∀ {l p : List Value} {c : List Int}, ql σ l p → kz l = some c → kz p = some c
  |[],[],c,_,h=>h
  | a :: l, b :: m, c, u, h => by
    unfold kz at h;split at h
    · rename_i e;cases e
    · rename_i n y e;cases e;obtain ⟨t,x⟩:=u;cases t with
      |pln _=>
        simp only [Option.map_eq_some_iff] at h;obtain ⟨z,j,rfl⟩:=h;simp [kz,qsu x j]
    · cases h
theorem qcq {a:Option Addr} {n c:Nat} {b:Value} (h:VR σ (.slice a n c) b):qn b=true∧qk b=n:=by
  cases h with
  |pln h=>
    unfold zi at h;split at h<;>simp_all [qn,qk]
  |slc _ j=>exact ⟨by simp [qn];omega,rfl⟩
theorem qaI (J : MR σ H w) {k : K1} {v z u : Value} (j : VR σ v z) (h : x1 H k v = some u) : ∃ R, qS w k z = some R ∧ VR σ u R := by
  unfold x1 at h;split at h
  · cases h;exact ⟨z,rfl,j⟩
  · exact qsm J j h
  · rename_i n a;split at h
    · rename_i l O;cases h;cases j with
      |pln m=>cases m
      |ptr y=>
        obtain ⟨E,t,p,_⟩:=qft J y O;refine ⟨.agg E.toArray,by simp only [qS,t];rfl, ?_⟩;obtain ⟨k1,k2⟩:=ql.arr (cs:=l.toArray) (ds:=E.toArray) (by simpa using p);exact .agg k1 k2
    · cases h
  · cases h;cases j with
    |pln m=>cases m
    |ptr y=>exact ⟨_,rfl,by rw [zF,Nat.add_assoc];exact .ptr y⟩
  · rename_i off cs;cases j with
    |pln m=>cases m
    |agg t p=>
      rename_i ds;have B:off<cs.size:=(Array.getElem?_eq_some_iff.1 h).1;have A:ds[off]? =some ds[off]:=Array.getElem?_eq_getElem (by omega);exact ⟨ds[off],A,p off u _ h A⟩
  · cases h;obtain ⟨t,p⟩:=qcq j;refine ⟨_, ?_, .pln rfl⟩;show (if qn z=true then some (Value.int .i64 (qk z)) else none)=_;rw [if_pos t,p]
  · cases h;cases j with|pln _=>exact ⟨_,rfl, .pln rfl⟩
  · cases h;cases j with|pln _=>exact ⟨_,rfl, .pln rfl⟩
  · cases h;cases j with|pln _=>exact ⟨_,rfl, .pln rfl⟩
  · cases h;cases j with|pln _=>exact ⟨_,rfl, .pln rfl⟩
  · rename_i i vs;cases j with
    |pln m=>cases m
    |tup t p=>
      rename_i ds;have B:i<vs.size:=(Array.getElem?_eq_some_iff.1 h).1;have A:ds[i]? =some ds[i]:=Array.getElem?_eq_getElem (by omega);exact ⟨ds[i],A,p i u _ h A⟩
  · cases h;exact ⟨_,rfl, .ifc j⟩
  · cases h;cases j with
    |pln m=>cases m
    |ptr y=>exact ⟨_,rfl, .ptr y⟩
  · cases h;cases j with
    |pln m=>cases m
    |ifc S=>exact ⟨_,rfl, .ifc S⟩
  · cases h;cases j with|pln _=>exact ⟨_,rfl, .pln rfl⟩
  · cases h;cases j with|pln _=>exact ⟨_,rfl, .pln rfl⟩
  · rename_i a n c;split at h
    · rename_i l O;split at h
      · rename_i W I;cases h;cases j with
        |pln m=>cases m
        |slc y X=>
          rename_i b f x o;obtain ⟨E,t,p,_⟩:=qft J y O;refine ⟨.string (qaA W), ?_, .pln rfl⟩;have g:qn (.slice (some ⟨b,f+o,none⟩) n (c+x))=true:=by simp [qn];omega
          show (if qn (.slice (some ⟨b,f+o,none⟩) n (c+x))=true then (jk w (qJ (.slice (some ⟨b,f+o,none⟩) n (c+x)) 0) 0 (qk (.slice (some ⟨b,f+o,none⟩) n (c+x)))).bind _ else none)=_;rw [if_pos g];simp [qJ,qk,t,qsu p I]
      · cases h
    · cases h
  · cases h
theorem qup (b o n c sz l h:Nat) (a:l<c∨l=0):qR (.slice (some ⟨b,o,none⟩) n c) sz l h c= .slice (some ⟨b,o+l*sz,none⟩) (h - l) (c - l):=by
  unfold qR;by_cases e:c=l
  · have:l=0:=by omega
    subst this;subst e;simp
  · simp [e]
theorem qe2 {sz : Nat} {v j u : Value} {l h : Int} (t : VR σ v j) (a : qaP sz v l h = some u) :
    qn j=true∧0≤l∧l≤h∧h≤qo j∧∃p,qR j sz l.toNat h.toNat (qo j)=p∧VR σ u p:=by
  unfold qaP at a;split at a
  · rename_i i o n c;split at a
    · rename_i m;cases a;obtain ⟨z,B,I,E⟩:=m;cases t with
      |pln y=>cases y
      |slc A J=>
        rename_i b f x;refine ⟨by simp [qn];omega,z,B,by simp only [qo];omega,_,rfl, ?_⟩;rw [show qo (.slice (some ⟨b,f+o,none⟩) n (c+x))=c+x from rfl,qup _ _ _ _ _ _ _ (by omega)];have e:c+x - l.toNat=(c - l.toNat)+x:=by omega
        rw [e,Nat.add_assoc];exact .slc A (by omega)
    · cases a
  · split at a
    · rename_i m;cases a;obtain ⟨rfl,rfl⟩:=m;cases t with
      |pln _=>exact ⟨rfl,by simp,by simp,by simp [qo],_,rfl, .pln rfl⟩
    · cases a
  · cases a
theorem qtb {k : K2} {a b z I u : Value} (m : VR σ a z) (t : VR σ b I) (h : x2 k a b = some u) : ∃ B, jI w k z I = some B ∧ VR σ u B := by
  unfold x2 at h;split at h
  · rename_i op k1 x k2 y;cases m with
    | pln _ => cases t with
      |pln _=>
        simp only [jI];split at h
        · rename_i R;rw [if_pos R];split at h
          · rename_i k3 n p;cases h;exact ⟨_,p, .pln rfl⟩
          · rename_i J p;cases h;exact ⟨_,p, .pln rfl⟩
          · cases h
        · cases h
  · rename_i op x y;cases m with
    |pln _=>cases t with
      |pln _=>
        simp only [jI];split at h
        · rename_i s p;cases h;exact ⟨_,p, .pln rfl⟩
        · rename_i J p;cases h;exact ⟨_,p, .pln rfl⟩
        · cases h
  · cases h;cases m with|pln _=>cases t with|pln _=>exact ⟨_,rfl, .pln rfl⟩
  · cases h;cases m with|pln _=>cases t with|pln _=>exact ⟨_,rfl, .pln rfl⟩
  · rename_i sz i o n c k2 j;split at h
    · rename_i A;cases h;cases m with
      |pln X=>cases X
      |slc Z p=>
        rename_i b f x;cases t with
        |pln _=>
          refine ⟨.pointer (some ⟨b,f+o+j.toNat*sz,none⟩), ?_,by rw [Nat.add_assoc];exact .ptr Z⟩;show (if qn (.slice (some ⟨b,f+o,none⟩) n (c+x))=true∧0≤j∧j<qk (.slice (some ⟨b,f+o,none⟩) n (c+x)) then some (Value.pointer (some (qJ (.slice (some ⟨b,f+o,none⟩) n (c+x)) (j.toNat*sz)))) else none)=_;rw [if_pos ⟨by simp [qn];omega,A.1,A.2⟩];rfl
    · cases h
  · split at h
    · rename_i A;split at h
      · rename_i J E;cases h;cases m with
        |pln _=>cases t with
          |pln _=>exact ⟨_,by simp only [jI];rw [if_pos A,E];rfl, .pln rfl⟩
      · cases h
    · cases h
  · rename_i sz a0 n c k2 l;obtain ⟨Y,h2,h3,h4,B,S,W⟩:=qe2 m h;obtain ⟨g1,O⟩:=qcq m;cases t with
    |pln _=>
      refine ⟨B, ?_,W⟩;show (if qn z=true∧0≤l∧l≤qk z then some (qR z sz l.toNat (qk z) (qo z)) else none)=_;rw [if_pos ⟨Y,h2,by omega⟩,←S,O];rfl
  · split at h
    · rename_i A;cases h;cases m with
      |pln _=>cases t with
        |pln _=>exact ⟨_,by simp only [jI];rw [if_pos A], .pln rfl⟩
    · cases h
  · cases h
theorem qta {k : K3} {a b c j x t u : Value} (z : VR σ a j) (y : VR σ b x) (p : VR σ c t) (h : x3 k a b c = some u) : ∃ n, kX w k j x t = some n ∧ VR σ u n := by
  unfold x3 at h;split at h
  · rename_i sz k1 l k2 m;obtain ⟨J,O,B,A,n,E,I⟩:=qe2 z h;cases y with
    |pln _=>cases p with
      |pln _=>
        refine ⟨n, ?_,I⟩;have e:kX w (.slLoHi sz) j (.int k1 l) (.int k2 m)=if qn j=true∧0≤l∧l≤m∧m≤qo j then some (qR j sz l.toNat m.toNat (qo j)) else none:=by cases j<;>rfl
        rw [e,if_pos ⟨J,O,B,A⟩,E]
  · split at h
    · rename_i R;cases h;cases z with
      |pln _=>cases y with
        |pln _=>cases p with
          |pln _=>exact ⟨_,by simp only [kX];rw [if_pos R], .pln rfl⟩
    · cases h
  · cases h
def ER (σ:Sg) (e:Tr Value) (ρ:qa):Prop:=∀i v,e.get i=some v→VR σ v (ρ i)
theorem xC (l : MR σ H w) {e : Tr Value} {ρ : qa} (m : ER σ e ρ) : ∀ {ex : Ex} {u : Value}, vJ H e ex = some u → ∃ j, ex.ev ρ w = some j ∧ VR σ u j
  | .var i,u,h=>⟨ρ i,rfl,m i u h⟩
  | .const v,u,h=>by
    simp only [vJ] at h;split at h
    · rename_i B;cases h;exact ⟨_,rfl,wG B⟩
    · cases h
  | .op1 k x,u,h=>by
    simp only [vJ] at h;split at h
    · rename_i a E;obtain ⟨S,t,A⟩:=xC l m E;obtain ⟨j,p,n⟩:=qaI l A h;exact ⟨j,by simp only [Ex.ev,t,Option.bind_some,p],n⟩
    · cases h
  | .op2 k x y,u,h=>by
    simp only [vJ] at h;split at h
    · rename_i a b E O;obtain ⟨S,t,A⟩:=xC l m E;obtain ⟨W,p,n⟩:=xC l m O;obtain ⟨j,I,J⟩:=qtb (w:=w) A n h;exact ⟨j,by simp only [Ex.ev,t,p,Option.bind_some,I],J⟩
    · cases h
  | .op3 k x y z,u,h=>by
    simp only [vJ] at h;split at h
    · rename_i a b c E O B;obtain ⟨S,t,A⟩:=xC l m E;obtain ⟨W,p,n⟩:=xC l m O;obtain ⟨R,I,J⟩:=xC l m B;obtain ⟨j,X,Y⟩:=qta (w:=w) A n J h;exact ⟨j,by simp only [Ex.ev,t,p,I,Option.bind_some,X],Y⟩
    · cases h
  | .op4 ..,u,h=>by simp [vJ] at h
  | .ite c x y,u,h=>by
    simp only [vJ] at h;split at h
    · rename_i B;obtain ⟨R,t,A⟩:=xC l m B;cases A with
      |pln _=>
        obtain ⟨j,p,n⟩:=xC l m h;exact ⟨j,by simp only [Ex.ev,t,Option.bind_some,QD,p],n⟩
    · rename_i B;obtain ⟨R,t,A⟩:=xC l m B;cases A with
      |pln _=>
        obtain ⟨j,p,n⟩:=xC l m h;exact ⟨j,by simp only [Ex.ev,t,Option.bind_some,QD,p],n⟩
    · cases h
end
end Go.Eng
namespace Go.Eng
open Go.RowKit
section
variable (V:Nat→Bool)
def ye:Operand→Bool
  | .tmp t=> !V t
  |_=>false
def qfO:Op→Option (Operand×Operand×Value×Bool)
  | .pick c (.const va) b=>if ye V b then some (c,b,va,false) else none
  | .pick c a (.const vb)=>if ye V a then some (c,a,vb,true) else none
  |_=>none
variable (P:Program) (ops:Array Oper)
def qbi (rec : Nat → Option (Ex × Nat)) (g : Option (Nat × Bool)) (x : Operand) (pos : Nat) : Option (Ex × Nat) :=
  if ye V x then
    match x,pos with
    | .tmp t,p+1=>if vf ops p=some t∧(ops[p]?).map (·.guard)=some g then rec p else none
    |_,_=>none
  else some (xy x,pos)
def qbh (rec:Nat→Option (Ex×Nat)) (g:Option (Nat×Bool)):List Operand→Nat→Option (List Ex×Nat)
  |[],pos=>some ([],pos)
  |x::xs,pos=>(qbh rec g xs pos).bind fun (es,j)=>(qbi V ops rec g x j).bind fun (e,j')=>some (e::es,j')
def qfJ (rec : Nat → Option (Ex × Nat)) (o : Oper) (k : Nat) : Option (Ex × Nat) :=
  match qfO V o.op with
  | some (c, y, cv, want) =>
    match k,c,y with
    | p + 1, .tmp tc, .tmp ty =>
      match (ops[p]?).bind (·.guard) with
      |some (i,want')=>
        if want'=want∧vf ops p=some ty∧vf ops i=some tc∧(o.guard=none∨ye V c=true) then
          (rec p).bind fun (ey,jy)=>(qbi V ops rec o.guard c jy).bind fun (ec,jc)=>some (if want then .ite ec ey (.const cv) else .ite ec (.const cv) ey,jc)
        else none
      |none=>none
    |_,_,_=>none
  |none=>
    match o.op with
    | .pick c a b=>if ye V a||ye V b then none else (qbi V ops rec o.guard c k).bind fun (ec,jc)=>some (.ite ec (xy a) (xy b),jc)
    |op=>(qcf P op).bind fun p=>(qbh V ops rec o.guard p.opds k).bind fun (es,j)=>(p.mk es).map fun e=>(e,j)
def pxQ:Nat→Nat→Option (Ex×Nat)
  |0,_=>none
  |fuel+1,k=>(ops[k]?).bind fun o=>(qfJ V P ops (pxQ fuel) o k).bind fun (e,j)=>if vR o.guard j then some (e,j) else none
def tgQ (g : Option (Nat × Bool)) (j : Nat) : Option (Option (Nat × Bool)) :=
  match g with
  |none=>some none
  |some (i,want)=>match vf ops i with
    |some t=>if V t=true∧i<j then some (some (t,want)) else none
    |none=>none
def qh4 (o:Oper):Bool:=
  (o.op.operands.toList.all fun x=> !ye V x)&&(match o.op with| .select .. =>false|_=>true)&&(match o.dst with|some d=>V d|none=>true)
def Jh : Nat → Nat → Option (List St)
  |_,0=>some []
  |0,_+1=>none
  |fuel+1,k+1=>
    match ops[k]? with
    |none=>none
    |some o=>
      match pxQ V P ops (k+1) k,o.dst with
      |some (e,j),some d=>if V d then (tgQ V ops o.guard j).bind fun g=>(Jh fuel j).map (· ++[.asg g d e]) else none
      |_,_=>if qh4 V o then (tgQ V ops o.guard k).bind fun g=>(Jh fuel k).map (· ++[.eff g o.dst o.op o.type]) else none
end
def ke (V : Nat → Bool) (P : Program) (n : Nat) (rawIds : List Nat) : Code → Option IR
  | .skip=>some .skip
  | .region id ops draw=>
    if rawIds.contains id then some (.raw (.region id ops draw)) else
    if Qx ops n then
      match Jh V P ops ops.size ops.size with
      |none=>none
      |some l=>if draw then (if Region.lexB .any ops&&P.follows .mixedOrders then some (.drw l) else none) else some (.reg l)
    else none
  | .seq a b=>match ke V P n rawIds a,ke V P n rawIds b with
    |some x,some y=>some (.seq x y)
    |_,_=>none
  | .cond c a b=>if ye V c then none else match ke V P n rawIds a,ke V P n rawIds b with
    |some x,some y=>some (.cond (xy c) x y)
    |_,_=>none
  | .block id a=>match ke V P n rawIds a with
    |some x=>some (.block id x)
    |none=>none
  | .loop a=>match ke V P n rawIds a with
    |some x=>some (.loop x)
    |none=>none
  | .exit id=>some (.exit id)
  | .ret=>some .ret
  |c=>some (.raw c)
section
variable (V:List Nat) (P:Program) (ops:Array Oper)
theorem qbN:ye (fun t=>V.contains t)=vE V:=by funext x;cases x<;>rfl
theorem qwI:qfO (fun t=>V.contains t)=qbo V:=by
  funext o;unfold qfO qbo;rw [qbN];rfl
theorem qkL:qbi (fun t=>V.contains t) ops=QA ops V:=by
  funext rec g x pos;unfold qbi QA;rw [qbN];rfl
theorem qkK (rec:Nat→Option (Ex×Nat)) (g:Option (Nat×Bool)):∀(l:List Operand) (pos:Nat),qbh (fun t=>V.contains t) ops rec g l pos=yK ops V rec g l pos
  |[],_=>rfl
  |x::xs,pos=>by
    unfold qbh yK;rw [qkK rec g xs pos,qkL]
theorem qwy:qfJ (fun t=>V.contains t) P ops=qbj P ops V:=by
  funext rec o k;unfold qfJ qbj;rw [qwI,qkL,qbN];have:∀g l pos,qbh (fun t=>V.contains t) ops rec g l pos=yK ops V rec g l pos:=fun g l pos=>qkK V ops rec g l pos;simp only [this];rfl
theorem qkM:∀(a k:Nat),pxQ (fun t=>V.contains t) P ops a k=px P ops V a k
  |0,_=>rfl
  |a+1,k=>by
    unfold pxQ px;have:pxQ (fun t=>V.contains t) P ops a=px P ops V a:=by funext k;exact qkM a k
    rw [this,qwy]
theorem qtI:tgQ (fun t=>V.contains t) ops=tg ops V:=by
  funext g j;unfold tgQ tg;rfl
theorem qDf:qh4 (fun t=>V.contains t)=Qa V:=by
  funext o;unfold qh4 Qa;rw [qbN];rfl
theorem qju:∀(a k:Nat),Jh (fun t=>V.contains t) P ops a k=xW P ops V a k
  |0,0=>rfl
  |_+1,0=>rfl
  |0,_+1=>rfl
  |a+1,k+1=>by
    unfold Jh xW;have:Jh (fun t=>V.contains t) P ops a=xW P ops V a:=by funext k;exact qju a k
    rw [this,qtI,qDf,qkM];rfl
end
theorem QZ (V:List Nat) (P:Program) (n:Nat) (h:List Nat):∀c:Code,ke (fun t=>V.contains t) P n h c=qY P n V h c
  | .skip=>rfl
  | .region id ops draw=>by
    unfold ke qY;rw [qju];rfl
  | .seq a b=>by
    unfold ke qY;rw [QZ V P n h a,QZ V P n h b];rfl
  | .cond c a b=>by
    unfold ke qY;rw [QZ V P n h a,QZ V P n h b,qbN];rfl
  | .block id a=>by
    unfold ke qY;rw [QZ V P n h a];rfl
  | .loop a=>by
    unfold ke qY;rw [QZ V P n h a];rfl
  | .exit id=>rfl
  | .ret=>rfl
  | .scope _| .rangeFunc .. | .label _| .refuse _| .goto _=>rfl
theorem qDy (P:Program) (n:Nat) (a:List Nat) (c:Code):ke (fun t=>Nat.blt t n) P n a c=qY P n (List.range n) a c:=by
  rw [←QZ];congr 1;funext t;cases h:Nat.blt t n with
  |true=>symm;simpa [Nat.blt_eq] using h
  |false=>
    symm
    have:¬t<n:=fun e=>by rw [←Nat.blt_eq,h] at e;cases e
    simpa using this
end Go.Eng
namespace Go.Eng
open Go.RowKit
noncomputable section All
structure Sx where
  H:vg
  nx:Nat
  rs:List Nat
def qsg (v:Value):Option Value:=bif qax v then some v else none
def vx (e:Tr Value):Operand→Option Value
  | .tmp t=>e.get t
  |x=>qsg (QY x)
def yN (e:Tr Value):List Operand→Option (List Value)
  |[]=>some []
  |x::l=>match vx e x,yN e l with|some v,some vs=>some (v::vs)|_,_=>none
def qaZ (e:Tr Value) (d:Nat) (v:Value):Option (Tr Value):=bif Nat.blt d vj then some (e.set d v) else none
def qkQ (e:Tr Value) (d:Option Nat) (v:Value):Option (Tr Value):=
  match d with
  |none=>some e
  |some d=>qaZ e d v
def gdX (e:Tr Value):Option (Nat×Bool)→Option Bool
  |none=>some true
  |some (t,want)=>match e.get t with|some (.bool b)=>some (b==want)|some (.tuple _)=>some false|_=>none
def z7 (s:Sx) (k:Option Nat) (o:Ob):Option (Nat×Sx):=
  match k with
  |none=>bif Nat.blt s.nx vj then some (s.nx,⟨s.H.set s.nx o,Nat.succ s.nx,s.rs⟩) else none
  |some k=>bif s.rs.contains k&&Nat.blt k vj then some (k,⟨s.H.set k o,s.nx,s.rs.filter fun i=> !(i==k)⟩) else none
def wy (v:Value):Bool:=match v with| .agg _| .tuple _=>false|_=>true
def qfK (cs:List Value) (o:Nat) (vs:List Value):List Value:=cs.take o++vs++cs.drop (o+vs.length)
def yA (H:vg) (sz:Nat):Value→Option (List Value)
  | .slice none 0 0=>some []
  | .slice (some a) n _=>qa5 H a (n*sz)
  |_=>none
def qbp (e:Tr Value):List (Nat×Operand)→Option (List (Nat×Value))
  |[]=>some []
  |(k,x)::l=>match vx e x,qbp e l with|some v,some vs=>some ((k,v)::vs)|_,_=>none
def qcR (p:Option (Nat×Sx)):Option (Value×Sx):=match p with|some (i,s)=>some (.pointer (some ⟨i,0,none⟩),s)|none=>none
def qa6 (n:Nat) (p:Option (Nat×Sx)):Option (Value×Sx):=match p with|some (i,s)=>some (.slice (some ⟨i,0,none⟩) n n,s)|none=>none
def qid (e:Tr Value) (s:Sx) (k:Option Nat) (t:TypeId) (x:Operand):Option (Value×Sx):=
  match vx e x with
  |some v=>qcR (z7 s k ⟨v.cells.toList,t,1,true,false⟩)
  |none=>none
def qig (P:Program) (s:Sx) (k:Option Nat) (t:TypeId):Option (Value×Sx):=
  match vL P t with
  |some z=>bif z.toList.all zi then qcR (z7 s k ⟨z.toList,t,1,true,false⟩) else none
  |none=>none
def qe5 (s:Sx) (i o:Nat) (vs:List Value):Option (Value×Sx):=
  match s.H.get i with
  |some ob=>bif Nat.ble (Nat.add o vs.length) ob.cells.length&&Nat.blt i vj&& !(Nat.beq ob.sz 0) then some (undef,⟨s.H.set i ⟨qfK ob.cells o vs,ob.ty,ob.sz,ob.whole,ob.ex⟩,s.nx,s.rs⟩) else none
  |none=>none
def qh2 (P:Program) (e:Tr Value) (s:Sx) (t:TypeId) (p x:Operand):Option (Value×Sx):=
  match vx e p,vx e x with
  |some (.pointer (some ⟨i,o,none⟩)),some v=>bif jG P t v.cells.size&&v.cells.toList.all wy then qe5 s i o v.cells.toList else none
  |_,_=>none
def qia (e:Tr Value) (s:Sx) (fn:Fn) (fs cs:List Operand):Option (Value×Sx):=
  match yN e fs,yN e cs with
  |some a,some b=>some (.func fn a.toArray b.toArray,s)
  |_,_=>none
def qiI (P:Program) (t:TypeId):Bool:=
  match P.info? t with
  |some it=>match it.zero with|some z=>z.cells.toList.all zi|none=>true
  |none=>true
def qic (P:Program) (e:Tr Value) (s:Sx) (t:TypeId) (ps:List (Nat×Operand)):Option (Value×Sx):=
  match qbp e ps with
  |some l=>bif qiI P t then (match P.built t l with|some cs=>some (.agg cs,s)|none=>none) else none
  |none=>none
def qh9 (P : Program) (e : Tr Value) (s : Sx) (k : Option Nat) (t : TypeId) (n : Nat) (ps : List (Nat × Operand)) : Option (Value × Sx) :=
  match qbp e ps,xo P t with
  |some l,some (ty,sz)=>
    bif Nat.ble (n*sz) 1000&&(l.map (·.1)==List.range n)&&l.all (fun p=>p.2.cells.size==sz)&&Nat.ble 1 sz then
      qa6 n (z7 s k ⟨l.flatMap (fun p=>p.2.cells.toList),ty,sz,false,false⟩)
    else none
  |_,_=>none
def qii (H : vg) (ty : TypeId) (sz : Nat) : Value → Option vg
  | .slice (some a) _ c=>match H.get a.block with
    |some ob=>bif ob.ty==ty&&ob.sz==sz&& !ob.whole&&Nat.blt a.block vj&&Nat.ble (a.off+c*sz) ob.cells.length then some (H.del a.block) else none
    |none=>none
  | .slice none 0 0=>some H
  |_=>none
def qsU (s : Sx) (k : Option Nat) (ty : TypeId) (sz bytes : Nat) (av : Value) (xs ys : List Value) : Option (Value × Sx) :=
  bif Nat.ble 1 (xs.length+ys.length)&&Nat.blt (xs.length+ys.length) 4611686018427387904&&Nat.ble ((xs.length+ys.length)*bytes) (140737488355328*sz)&&ys.all wy&&Nat.ble 1 sz then
    match qii s.H ty sz av with
    |some H=>qa6 ((xs.length+ys.length) / sz) (z7 ⟨H,s.nx,s.rs⟩ k ⟨xs++ys,ty,sz,false,false⟩)
    |none=>none
  else none
def qif (P : Program) (e : Tr Value) (s : Sx) (k : Option Nat) (t : TypeId) (a b : Operand) : Option (Value × Sx) :=
  match xG P t,vx e a,vx e b with
  |some (ty,sz,bytes),some av,some bv=>
    match yA s.H sz av,yA s.H sz bv with
    |some xs,some ys=>qsU s k ty sz bytes av xs ys
    |_,_=>none
  |_,_,_=>none
def qef (e:Tr Value) (s:Sx) (mx:Bool) (a b:Operand):Option (Value×Sx):=
  match vx e a,vx e b with
  |some (.int k x),some (.int k' y)=>bif k==k' then some (.int k (bif mx then (if y>x then y else x) else (if y<x then y else x)),s) else none
  |_,_=>none
def qib (P:Program) (e:Tr Value) (s:Sx) (k:Option Nat):Callee→List Operand→List TypeId→Option (Value×Sx)
  | .builtin .append,[a,b],[t,t']=>bif t==t' then qif P e s k t a b else none
  | .builtin .max,[a,b],[t,t']=>bif t==t' then qef e s true a b else none
  | .builtin .min,[a,b],_=>qef e s false a b
  |_,_,_=>none
def qh7 (P : Program) (e : Tr Value) (s : Sx) (k : Option Nat) (t : TypeId) (x y : Operand) : Option (Value × Sx) :=
  match qga P t,vx e x,vx e y with
  |some (ty,z,bytes),some (.int _ n),some (.int _ m)=>
    bif n==m&&decide (0≤n)&&decide (n≤100000)&&Nat.ble bytes 1000&&zi z&&wy z&&(match P.info? ty with|some i=>(match i.zero with|some z=>z.cells.size==1|none=>false)|none=>false) then
      qa6 n.toNat (z7 s k ⟨List.replicate n.toNat z,ty,1,false,false⟩)
    else none
  |_,_,_=>none
def qh6 (s:Sx) (k:Option Nat):Option (Nat)→Option (Value×Sx)
  |none=>match z7 s k ⟨[],0,0,true,false⟩ with|some (i,s')=>some (.map (some i),s')|none=>none
  |some _=>none
def kj (a b:ByteArray):Bool:=a.data.toList.map (·.toNat)==b.data.toList.map (·.toNat)
def qde:List Value→ByteArray→Option Value
  | .string a::v::l,k=>bif kj a k then some v else qde l k
  |_,_=>none
def qh8 (P : Program) (e : Tr Value) (s : Sx) (t : TypeId) (m x : Operand) : Option (Value × Sx) :=
  match vx e m,vx e x,P.underlying t with
  |some (.map (some i)),some (.string b),some (.map kt et)=>
    match s.H.get i,P.underlying kt,(P.info? et).bind fun i=>i.zero with
    |some ob,some .string,some z=>bif Nat.beq ob.sz 0&&zi z then some ((qde ob.cells b).getD z,s) else none
    |_,_,_=>none
  |_,_,_=>none
def qdc:List Value→ByteArray→Value→List Value
  | .string a::v::l,k,x=>bif kj a k then .string k::x::l else .string a::v::qdc l k x
  |_,k,x=>[.string k,x]
def qh0 (P : Program) (e : Tr Value) (s : Sx) (t : TypeId) (m x y : Operand) : Option (Value × Sx) :=
  match vx e m,vx e x,vx e y with
  |some (.map (some i)),some (.string b),some v=>
    match P.underlying t with
    |some (.map kt _)=>match s.H.get i,P.underlying kt with
      |some ob,some .string=>bif Nat.beq ob.sz 0&&zi v&&Nat.blt i vj then some (undef,⟨s.H.set i ⟨qdc ob.cells b v,ob.ty,ob.sz,ob.whole,ob.ex⟩,s.nx,s.rs⟩) else none
      |_,_=>none
    |_=>none
  |_,_,_=>none
def qcd (eq : Bool) (s : Sx) : Value → Value → Option (Value × Sx)
  | .agg xs, .agg ys=>match xs.toList,ys.toList with
    |[.int .i64 a, .int .i64 b],[.int .i64 c, .int .i64 d]=>some (.bool (bif eq then (a==c&&b==d) else !(a==c&&b==d)),s)
    |_,_=>none
  |_,_=>none
def qlx:Value→Option Bool
  | .slice (some _) _ _=>some false
  | .slice none 0 0=>some true
  |_=>none
def qjC (P:Program) (t:TypeId):Bool:=match P.underlying t with|some (.slice _)=>true|_=>false
def qh5 (P : Program) (e : Tr Value) (s : Sx) (op : BinOp) (t : TypeId) (x : Operand) : Option (Value × Sx) :=
  match vx e x with
  |some v=>match qlx v,op with
    |some b, .eql=>bif qjC P t then some (.bool b,s) else none
    |_,_=>none
  |none=>none
def qf8:Operand→Bool
  | .const (.slice none 0 0)=>true
  |_=>false
def qh1 (pr : TypeId → Bool) (e : Tr Value) (s : Sx) (op : BinOp) (t : TypeId) (x y : Operand) : Option (Value × Sx) :=
  match vx e x,vx e y with
  |some v,some u=>bif pr t then (match op with
    | .eql=>qcd true s v u
    | .neq=>qcd false s v u
    |_=>none) else none
  |_,_=>none
def qie (P:Program) (pr:TypeId→Bool) (e:Tr Value) (s:Sx) (op:BinOp) (t u:TypeId) (x y:Operand):Option (Value×Sx):=
  bif qf8 y then (bif t==u then qh5 P e s op t x else none) else qh1 pr e s op t x y
def qbR (P:Program) (pr:TypeId→Bool) (e:Tr Value) (s:Sx) (k:Option Nat):Op→Option (Value×Sx)
  | .box t x=>qid e s k t x
  | .alloc t=>qig P s k t
  | .store t p x=>qh2 P e s t p x
  | .makeFunc fn fs cs=>qia e s fn fs.toList cs.toList
  | .build t ps=>qic P e s t ps.toList
  | .buildSlice t n ps=>qh9 P e s k t n ps.toList
  | .call c=>qib P e s k c.callee c.args.toList c.argTypes.toList
  | .makeSlice t x y=>qh7 P e s k t x y
  | .makeMap _ r=>qh6 s k (r.map fun _=>0)
  | .lookup t m x ok=>bif ok then none else qh8 P e s t m x
  | .mapUpdate t m x y=>qh0 P e s t m x y
  | .binOp op t x y u=>qie P pr e s op t u x y
  |_=>none
inductive Ou where
  |go (e:Tr Value) (s:Sx)
  |ex (i:Nat) (e:Tr Value) (s:Sx)
  |rt (e:Tr Value) (s:Sx)
  |pn (c:List PanicEntry) (s:Sx)
  |ret (v:Value) (s:Sx)
structure Fx where
  f:FuncId
  nt:Nat
  V:List Nat
  ir:IR
  rs:List RV
structure Fa where
  k:K1
  a:Value
  v:Value
inductive Tk where
  |ir (F:Fx) (a:IR) (e:Tr Value)
  |sts (l:List St) (e:Tr Value)
  |ord (L:Option (List Fa)) (bs:Option Nat) (t:OT) (e:Tr Value)
  |call (f:FuncId) (args:List Value)
def Qc:Code→List Nat
  | .region id _ true=>[id]
  | .seq a b=>Qc a++Qc b
  | .cond _ a b=>Qc a++Qc b
  | .block _ a=>Qc a
  | .loop a=>Qc a
  | .scope a=>Qc a
  |_=>[]
def qjd (ops:Array Oper):Nat:=((List.range ops.size).find? fun n=>Region.sinkB .any ops n&&Region.chainB .any ops n).getD ops.size
def qEa (c:Code):Code:=match c with| .scope c=>c|c=>c
def fnX (P : Program) (f : FuncId) : Option Fx :=
  match P.funcs[f]? with
  |none=>none
  |some fn=>match fn.body with
    |none=>none
    |some c=>
      match ke (fun t=>Nat.blt t fn.ntmps) P fn.ntmps (Qc c) (qEa c),vv P (List.range fn.ntmps) fn.results.toList with
      |some ir,some rs=>bif Nat.ble fn.ntmps 1000000000 then some ⟨f,fn.ntmps,List.range fn.ntmps,ir,rs⟩ else none
      |_,_=>none
def xU (H : vg) : OT → Tr Value → List Fa
  | .take g d ex t, e => match gdX e g with
    |some true=>match vJ H e ex with
      |some v=>(match ex with
        | .op1 k x=>(match vJ .lf e x with
          |some a=>(match x1 .lf k a with|some _=>[] |none=>[⟨k,a,v⟩])
          |none=>[])
        |_=>[])++(match qaZ e d v with|some e'=>xU H t e'|none=>[])
      |none=>[]
    |some false=>(match qaZ e d undef with|some e'=>xU H t e'|none=>[])
    |none=>[]
  |_,_=>[]
def vV : Nat → Value → Value → Bool
  |0,_,_=>false
  |n+1,a,b=>match a,b with
    | .bool a, .bool b=>a==b
    | .int k a, .int l b=>k==l&&a==b
    | .string a, .string b=>kj a b
    | .pointer none, .pointer none=>true
    | .pointer (some ⟨i,o,none⟩), .pointer (some ⟨j,p,none⟩)=>i==j&&o==p
    | .slice none n c, .slice none m d=>n==m&&c==d
    | .slice (some ⟨i,o,none⟩) n c, .slice (some ⟨j,p,none⟩) m d=>i==j&&o==p&&n==m&&c==d
    | .map (some i), .map (some j)=>i==j
    | .nilFunc, .nilFunc=>true
    | .nilIface, .nilIface=>true
    | .func (.func f) as bs, .func (.func g) cs ds=>f==g&&all2 (vV n) as.toList cs.toList&&all2 (vV n) bs.toList ds.toList
    | .agg as, .agg bs=>all2 (vV n) as.toList bs.toList
    | .tuple as, .tuple bs=>all2 (vV n) as.toList bs.toList
    | .iface t a, .iface u b=>t==u&&vV n a b
    |_,_=>false
where all2 (f:Value→Value→Bool):List Value→List Value→Bool
  |[],[]=>true
  |a::l,b::m=>f a b&&all2 f l m
  |_,_=>false
def QG (a b:Ob):Bool:=vV.all2 (vV 4) a.cells b.cells&&a.ty==b.ty&&a.sz==b.sz&&a.whole==b.whole&&a.ex==b.ex
def qdn:K1→K1→Bool
  | .load1, .load1=>true
  | .loadN n, .loadN m=>n==m
  | .b2s, .b2s=>true
  |_,_=>false
def qfh (H:vg) (L:List Fa):Bool:=L.all fun f=>match x1 H f.k f.a with|some u=>vV 4 u f.v|none=>false
def qd7:List Fa→K1→Value→Option Value
  |[],_,_=>none
  |f::l,k,a=>bif qdn f.k k&&vV 4 f.a a then some f.v else qd7 l k a
def evF (L : List Fa) (e : Tr Value) : Ex → Option Value
  | .op1 k x=>match vJ .lf e x with
    |some a=>(match x1 .lf k a with|some v=>some v|none=>qd7 L k a)
    |none=>none
  |ex=>vJ .lf e ex
def qlk {α:Type} (f:α→α→Bool):Option α→Option α→Bool
  |none,none=>true
  |some a,some b=>f a b
  |_,_=>false
def Tr.noneB {α:Type}:Tr α→Bool
  | .lf=>true
  | .nd none l r=>l.noneB&&r.noneB
  | .nd (some _) _ _=>false
def Tr.eqB {α:Type} (f:α→α→Bool):Tr α→Tr α→Bool
  | .nd v l r, .nd u m q=>qlk f v u&&l.eqB f m&&r.eqB f q
  | .lf,t=>t.noneB
  |t, .lf=>t.noneB
def qer:OT→Bool
  | .both .. =>true
  | .take _ _ _ t=>qer t
  | .step _ _ t=>qer t
  | .done=>false
def y9:OT→List Nat
  | .both x _=>y9 x
  | .take _ _ _ t=>y9 t
  | .step (.eff _ (some d) _ _) _ t=>d::y9 t
  | .step _ _ t=>y9 t
  | .done=>[]
def qf4 (H:vg) (e:Tr Value):RV→Option Value
  | .tmp t=>e.get t
  | .cell1 t=>match e.get t with|some v=>x1 H .load1 v|none=>none
  | .cellN t n=>match e.get t with|some v=>x1 H (.loadN n) v|none=>none
def qcI (H : vg) (e : Tr Value) : List RV → Option (List Value)
  |[]=>some []
  |r::rs=>match qf4 H e r,qcI H e rs with
    |some v,some vs=>some (v::vs)
    |_,_=>none
def Q3:List Value→Nat→Tr Value→Tr Value
  |[],_,e=>e
  |v::l,k,e=>Q3 l (Nat.succ k) (e.set k v)
structure TrP where
  f:FuncId
  tp:TypeId
  tb:TypeId
  ti:TypeId
  tt:TypeId
  tx:TypeId
abbrev qaG:=FuncId→List Value→Sx→Option (Value×Sx)
section
variable (P:Program) (prim:qaG) (tr:Option TrP) (sk:FuncId→Nat→List Nat) (pr:TypeId→Bool)
variable (r:Sx→Tk→Option Ou) (s:Sx)
def qea (rs:List RV) (e:Tr Value) (s:Sx):Option Ou:=
  match qcI s.H e rs with
  |some vs=>some (.ret (wq vs) s)
  |none=>none
def qge (F:Fx):Option Ou→Option Ou
  |some (.go e s)=>qea F.rs e s
  |some (.rt e s)=>qea F.rs e s
  |some (.pn c s)=>some (.pn c s)
  |_=>none
def qes (args:List Value):Option Fx→Option Ou
  |some F=>bif Nat.ble args.length F.nt&&Nat.blt args.length vj then qge F (r s (.ir F F.ir (Q3 args 0 .lf))) else none
  |none=>none
def qsL (q : TrP) (b iY : Nat) (at0 : Int) (n : Nat) (s : Sx) : Option Ou :=
  match s.H.get b with
  |some ob=>match ob.cells with
    |[tv, .int .i64 i, .int .i64 far, .slice a m c]=>match qaP 6 (.slice a m c) 0 n with
      |some nv2=>bif decide (0≤i)&&decide (0≤far)&&Nat.ble n m&&Nat.blt b vj&&Nat.blt iY vj&&QG ob ⟨[tv, .int .i64 i, .int .i64 far, .slice a m c],q.tt,1,true,false⟩ then
          some (.ret (.bool false) ⟨(s.H.set b ⟨[tv, .int .i64 at0, .int .i64 far,nv2],q.tt,1,true,false⟩).del iY,s.nx,s.rs⟩) else none
      |none=>none
    |_=>none
  |none=>none
def QM (s:Sx) (i:Nat) (o:Ob):Bool:=match s.H.get i with|some p=>QG p o|none=>false
def chainB (q:TrP):List PanicEntry→Bool
  |[p]=>(match p.v with| .iface t (.agg cs)=>t==q.tx&&cs.isEmpty|_=>false)&& !p.recovered&& !p.goexit
  |_=>false
def qty (q : TrP) (b iA iY iN iM : Nat) (at0 : Int) (n : Nat) : Option Ou → Option Ou
  |some (.ret v s)=>bif QM s iY ⟨[.bool false],q.tb,1,true,false⟩&&Nat.blt iY vj&&(match v with| .tuple cs=>cs.isEmpty|_=>false) then some (.ret (.bool true) ⟨s.H.del iY,s.nx,s.rs⟩) else none
  |some (.pn c s)=>
    bif chainB q c&&QM s iA ⟨[.pointer (some ⟨b,0,none⟩)],q.tp,1,true,false⟩&&QM s iY ⟨[.bool false],q.tb,1,true,false⟩&&QM s iN ⟨[.int .i64 at0],q.ti,1,true,false⟩&&QM s iM ⟨[.int .i64 n],q.ti,1,true,false⟩&& !(Nat.beq b iY) then
      qsL q b iY at0 n s else none
  |_=>none
def qeP (q : TrP) (b g : Nat) (cs : List Value) (at0 : Int) (n : Nat) : Option Ou :=
  match z7 s none ⟨[.pointer (some ⟨b,0,none⟩)],q.tp,1,true,false⟩ with
  |none=>none
  |some (iA,s1)=>match z7 s1 none ⟨[.bool false],q.tb,1,true,false⟩ with
    |none=>none
    |some (iY,s2)=>match z7 s2 none ⟨[.int .i64 at0],q.ti,1,true,false⟩ with
      |none=>none
      |some (iN,s3)=>match z7 s3 none ⟨[.int .i64 n],q.ti,1,true,false⟩ with
        |none=>none
        |some (iM,s4)=>qty q b iA iY iN iM at0 n (r s4 (.call g cs))
def qi1 (P:Program) (q:TrP) (b:Nat) (ob:Ob) (g:FuncId) (fs cs:Array Value):Option Ou:=
  match ob.cells with
  |[tv, .int .i64 at0, .int .i64 far, .slice a n c]=>bif fs.isEmpty&&decide (0≤at0)&&decide (0≤far)&&qg P g&&QG ob ⟨[tv, .int .i64 at0, .int .i64 far, .slice a n c],q.tt,1,true,false⟩ then qeP r s q b g cs.toList at0 n else none
  |_=>none
def qeN (q : TrP) : List Value → Option Ou
  |[.pointer (some ⟨b,0,none⟩), .func (.func g) fs cs]=>match s.H.get b with
    |some ob=>qi1 r s P q b ob g fs cs
    |none=>none
  |_=>none
def qit (f : FuncId) (args : List Value) : Option Ou :=
  match prim f args s with
  |some (v,s')=>some (.ret v s')
  |none=>match tr with
    |some q=>bif Nat.beq q.f f then qeN P r s q args else qes r s args (fnX P f)
    |none=>qes r s args (fnX P f)
def qaw (l:List St) (d:Option Nat) (e:Tr Value) (v:Value) (s:Sx):Option Ou:=
  match qkQ e d v with|some e'=>r s (.sts l e')|none=>none
def qsM (l:List St) (d:Option Nat) (e:Tr Value):Option Ou→Option Ou
  |some (.ret v s)=>qaw r l d e v s
  |some (.pn c s)=>some (.pn c s)
  |_=>none
def qe9 (l:List St) (d:Option Nat) (e:Tr Value):Option Value→Option (List Value)→Option Ou
  |some (.func (.func f) fs cs),some vs=>bif qg P f then qsM r l d e (r s (.call f (fs.toList++(vs++cs.toList)))) else none
  |_,_=>none
def qjA:Option Value→Option Ou
  |some v=>match v with| .iface .. =>bif qax v then some (.pn [{v:=v,recovered:=false}] s) else none|_=>none
  |none=>none
def qei (l:List St) (d:Option Nat) (e:Tr Value):Option (Value×Sx)→Option Ou
  |some (v,s)=>qaw r l d e v s
  |none=>none
def qe8 (k : Option Nat) (l : List St) (d : Option Nat) (e : Tr Value) : Op → Option Ou
  | .panic x=>qjA s (vx e x)
  | .call c=>match c.callee with
    | .value f=>qe9 P r s l d e (vx e f) (yN e c.args.toList)
    |_=>qei r l d e (qbR P pr e s k (.call c))
  |op=>qei r l d e (qbR P pr e s k op)
def qfa (l:List St) (d:Nat) (e:Tr Value):Option Value→Option Ou
  |some v=>qaw r l (some d) e v s
  |none=>none
def qaQ (k : Option Nat) (e : Tr Value) : List St → Option Ou
  |[]=>some (.go e s)
  | .asg g d x::l=>match gdX e g with
    |some true=>qfa r s l d e (vJ s.H e x)
    |some false=>qfa r s l d e (some undef)
    |none=>none
  | .eff g d op _::l=>match gdX e g with
    |some true=>qe8 P pr r s k l d e op
    |some false=>qaw r l d e undef s
    |none=>none
def qc3 (L:Option (List Fa)) (bs:Option Nat) (t:OT) (e:Tr Value) (d:Nat):Option Value→Option Ou
  |some v=>match qaZ e d v with|some e'=>r s (.ord L bs t e')|none=>none
  |none=>none
def qli (L : Option (List Fa)) (bs : Option Nat) (t : OT) (b : Bool) : Option Ou → Option Ou
  |some (.go e' s')=>
    bif b then (match L with
      |some l=>bif qfh s'.H l then r s' (.ord L bs t e') else none
      |none=>none)
    else r s' (.ord none bs t e')
  |some (.pn c s')=>some (.pn c s')
  |_=>none
def qsA:Option Ou→Option Ou→Option Ou
  |some (.go e1 s1),some (.go e2 s2)=>bif e1.eqB (vV 4) e2&&s1.H.eqB QG s2.H&&Nat.beq s1.nx s2.nx&&s1.rs==s2.rs then some (.go e1 s1) else none
  |_,_=>none
def qls (bs:Option Nat):St→Option Nat
  | .eff _ (some d) _ _=>bs.map (· +d)
  |_=>none
def qfX (L : Option (List Fa)) (bs : Option Nat) (e : Tr Value) : OT → Option Ou
  | .done=>some (.go e s)
  | .take g d x t=>match L with
    |none=>none
    |some l=>match gdX e g with
      |some true=>qc3 r s L bs t e d (evF l e x)
      |some false=>qc3 r s L bs t e d (some undef)
      |none=>none
  | .step x b t=>qli r L bs t b (qaQ P pr r s (qls bs x) e [x])
  | .both x y=>qsA (r s (.ord L bs x e)) (r s (.ord L bs y e))
def qfD (F:Fx) (e:Tr Value):Option OT→Option Ou
  |some t=>bif qer t&&(y9 t).all (fun d=>Nat.blt d F.nt) then r ⟨s.H,s.nx+F.nt,s.rs++(y9 t).map (s.nx+ ·)⟩ (.ord (some (xU s.H t e)) (some s.nx) t e)
      else r s (.ord (some (xU s.H t e)) none t e)
  |none=>none
def qfd (F:Fx) (b:IR):Option Ou→Option Ou
  |some (.go e' s')=>r s' (.ir F b e')
  |o=>o
def qEe (i:Nat):Option Ou→Option Ou
  |some (.ex j e' s')=>bif Nat.beq j i then some (.go e' s') else some (.ex j e' s')
  |o=>o
def qsi (F:Fx) (e:Tr Value) (a b:IR):Option Value→Option Ou
  |some (.bool c)=>bif c then r s (.ir F a e) else r s (.ir F b e)
  |_=>none
def irX (F : Fx) (e : Tr Value) : IR → Option Ou
  | .skip=>some (.go e s)
  | .reg l=>r s (.sts l e)
  | .drw _=>none
  | .seq a b=>qfd r F b (r s (.ir F a e))
  | .cond c a b=>qsi r s F e a b (vJ s.H e c)
  | .block i a=>qEe i (r s (.ir F a e))
  | .loop a=>qfd r F (.loop a) (r s (.ir F a e))
  | .exit i=>some (.ex i e s)
  | .ret=>some (.rt e s)
  | .raw c=>match c with
    | .label _=>some (.go e s)
    | .region id ops true=>qfD r s F e (qc2 P F.nt F.V (sk F.f id) (qjd ops) (.region id ops true))
    |_=>none
def qjv:Tk→Option Ou
  | .ir F a e=>irX P sk r s F e a
  | .sts l e=>qaQ P pr r s none e l
  | .ord L bs t e=>qfX P pr r s L bs e t
  | .call f args=>qit P prim tr r s f args
end
def kn (P:Program) (prim:qaG) (tr:Option TrP) (sk:FuncId→Nat→List Nat) (pr:TypeId→Bool):Nat→Sx→Tk→Option Ou
  |0,_,_=>none
  |n+1,s,t=>qjv P prim tr sk pr (kn P prim tr sk pr n) s t
end All
end Go.Eng
namespace Go.Eng
open Go.RowKit
theorem jh {α:Type} {b:Bool} {x:Option α} {v:α} (h:(bif b then x else none)=some v):b=true∧x=some v:=by
  cases b
  · cases h
  · exact ⟨rfl,h⟩
theorem kC {n:Nat} (h:Nat.blt n vj=true):n<vj:=by simpa [Nat.blt_eq] using h
section
variable {σ:Sg} {e:Tr Value} {ρ:qa}
theorem qDu {v u:Value} (h:qsg v=some u):VR σ u v:=by
  obtain ⟨a,b⟩:=jh h;cases b;exact wG a
theorem vP (b:ER σ e ρ) {x:Operand} {v:Value} (h:vx e x=some v):VR σ v (qd ρ x):=by
  unfold vx at h;split at h
  · exact b _ _ h
  · cases x with
    |tmp t=>rename_i a;exact absurd rfl (a t)
    |_=>exact qDu h
theorem qf0 (b:ER σ e ρ):∀{l:List Operand} {vs:List Value},yN e l=some vs→ql σ vs (l.map (qd ρ))
  |[],vs,h=>by cases h;trivial
  | x :: l, vs, h => by
    unfold yN at h;split at h
    · rename_i v j c a;cases h;exact ⟨vP b c,qf0 b a⟩
    · cases h
theorem qcw (n:ER σ e ρ) {d:Nat} {v j:Value} (m:VR σ v j) {c:Tr Value} (h:qaZ e d v=some c):ER σ c (qt ρ d j):=by
  obtain ⟨l,p⟩:=jh h;cases p;intro i u a;rw [Tr.get_set _ _ (kC l)] at a;unfold qt;split at a
  · rename_i b;cases a;rw [if_pos b];exact m
  · rename_i b;rw [if_neg b];exact n i u a
theorem qwA (c:ER σ e ρ) {d:Option Nat} {v b:Value} (j:VR σ v b) {a:Tr Value} (h:qkQ e d v=some a):ER σ a (qm ρ d b):=by
  cases d with
  |none=>cases h;exact c
  |some d=>exact qcw c j h
theorem ER.mono {a:Sg} (c:ER σ e ρ) (b:σ.le a):ER a e ρ:=fun i v h=>(c i v h).mono b
theorem qar (l:ER σ e ρ) {g:Option (Nat×Bool)} {b:Bool} (h:gdX e g=some b):gd ρ g=b:=by
  cases g with
  |none=>cases h;rfl
  |some p=>
    obtain ⟨t,j⟩:=p;simp only [gdX] at h;split at h
    · rename_i m a;cases h;have:=l _ _ a;generalize c:ρ t=r at this;cases this;simp [gd,c]
    · rename_i cs a;cases h;have:=l _ _ a;generalize c:ρ t=r at this;cases this with
      |pln h=>cases h
      |tup _ _=>simp [gd,c]
    · cases h
theorem Jd:VR σ undef undef:=wG (v:=undef) rfl
theorem qay {v c:Value} (h:VR σ v c):ql σ v.cells.toList c.cells.toList:=by
  cases h with
  |pln h=>
    have:v.cells= #[v]:=by
      unfold zi at h;split at h<;>first|rfl|cases h
    rw [this];exact ⟨.pln h,trivial⟩
  |ptr h=>exact ⟨.ptr h,trivial⟩
  |slc h n=>exact ⟨.slc h n,trivial⟩
  |mp h=>exact ⟨.mp h,trivial⟩
  |fnc a b m l=>exact ⟨.fnc a b m l,trivial⟩
  |ifc h=>exact ⟨.ifc h,trivial⟩
  | @agg cs ds a b=>
    show ql σ cs.toList ds.toList;exact ql.of (by simpa using a) fun j x y t p=>b j x y (by simpa using t) (by simpa using p)
  |tup a b=>exact ⟨.tup a b,trivial⟩
theorem qip {v a:Value} (h:VR σ v a):a.cells.size=v.cells.size:=by
  have:=(qay h).len;simpa using this.symm
theorem qxD {v b:Value} (h:VR σ v b) (a:wy v=true):b.oneCell=true:=by
  cases h with
  |pln h=>
    unfold zi at h;split at h<;>first|rfl|cases h
  |agg _ _=>cases a
  |tup _ _=>cases a
  |_=>rfl
theorem qf3:∀{l m:List Value},ql σ l m→l.all wy=true→∀v∈m,v.oneCell=true
  |[],[],_,_,v,c=>by simp at c
  |a::l,b::m,h,j,v,c=>by
    simp only [List.all_cons,Bool.and_eq_true] at j;rcases List.mem_cons.1 c with rfl|c
    · exact qxD h.1 j.1
    · exact qf3 h.2 j.2 v c
theorem QC:∀{l:List Value},l.all zi=true→ql σ l l
  |[],_=>trivial
  |a::l,h=>by
    simp only [List.all_cons,Bool.and_eq_true] at h;exact ⟨.pln h.1,QC h.2⟩
end
structure Iv (σ:Sg) (w0:World) (s:Sx) (w:World):Prop where
  mr:MR σ s.H w
  dom:∀i p,σ i=some p→i<s.nx∧i∉s.rs
  res:∀i∈s.rs,i<s.nx
  ap:∀i j oi oj pi pj,s.H.get i=some oi→s.H.get j=some oj→σ i=some pi→σ j=some pj→pi.1=pj.1→i=j
  ext:qb w0 w
  own:∀i o p,s.H.get i=some o→σ i=some p→w0.heap.size≤p.1
section
variable {σ:Sg} {w0 w:World} {s:Sx}
theorem Iv.toExt (h:Iv σ w0 s w) {w':World} (a:qb w w'):Iv σ w0 s w':=⟨h.mr.ext a,h.dom,h.res,h.ap,h.ext.trans' a,h.own⟩
theorem MR.at' {H:vg} (h:MR σ H w) {i:Nat} {o:Ob} (a:H.get i=some o):∃p,σ i=some p∧p.1<w.heap.size:=by
  by_cases j:o.sz=0
  · obtain ⟨b,ps,l,m,_⟩:=(h i o a).1 j;exact ⟨_,l,m.lt⟩
  · obtain ⟨b,f,x,cur,c⟩:=(h i o a).2 j;exact ⟨_,c.at',c.lt⟩
theorem MR.keep {H H':vg} (h:MR σ H w) {w':World} (n:∀i o,H'.get i=some o→H.get i=some o) (l:∀i o p,H'.get i=some o→σ i=some p→w'.heap[p.1]? =w.heap[p.1]?):MR σ H' w':=fun i o a=>by
  refine ⟨fun c=> ?_,fun c=> ?_⟩
  · obtain ⟨b,ps,m,u,t⟩:=(h i o (n i o a)).1 c;exact ⟨b,ps,m,u.block (l i o _ a m),t⟩
  · obtain ⟨b,f,x,cur,j⟩:=(h i o (n i o a)).2 c;exact ⟨b,f,x,cur,j.keep (l i o _ a j.at')⟩
theorem qf9 (t : Iv σ w0 s w) {k : Option Nat} {o : Ob} {i : Nat} {s' : Sx} (h : z7 s k o = some (i, s')) {b f x : Nat} {W : World} (hW : MR σ s.H W) (hE : qb w0 W) (X : w0.heap.size ≤ b)
    (S:∀j u B,s.H.get j=some u→σ j=some B→B.1≠b) (ho:∀n,σ.le n→n i=some (b,f,x)→(o.sz=0→MO n W i o)∧(o.sz≠0→∃cur,RO n W i o b f x cur)):
    ∃n,σ.le n∧n i=some (b,f,x)∧Iv n w0 s' W∧s'.H=s.H.set i o∧i<vj∧∀j p,n j=some p→j≠i→σ j=some p:=by
  have key:i<vj∧s'.H=s.H.set i o∧σ i=none∧i<s'.nx∧i∉s'.rs∧s.nx≤s'.nx∧(∀j∈s'.rs,j∈s.rs):=by
    unfold z7 at h;split at h
    · obtain ⟨O,h2⟩:=jh h;cases h2;refine ⟨kC O,rfl, ?_,Nat.lt_succ_self _,fun J=> ?_,Nat.le_succ _,fun j c=>c⟩
      · cases hs:σ s.nx with
        |none=>rfl
        |some p=>exact absurd (t.dom _ _ hs).1 (Nat.lt_irrefl _)
      · exact absurd (t.res _ J) (Nat.lt_irrefl _)
    · rename_i k;obtain ⟨O,h2⟩:=jh h;cases h2;simp only [Bool.and_eq_true] at O;have J:i∈s.rs:=by simpa using O.1
      refine ⟨kC O.2,rfl, ?_,t.res _ J,by simp,Nat.le_refl _,fun j c=>(List.mem_filter.1 c).1⟩;cases hs:σ i with
      |none=>rfl
      |some p=>exact absurd J (t.dom _ _ hs).2
  obtain ⟨k1,k2,k3,k4,k5,k6,k7⟩:=key;have I:σ.le (fun j=>if j=i then some (b,f,x) else σ j):=fun j p z=>by
    have:j≠i:=fun e=>by rw [e,k3] at z;cases z
    simp [this,z]
  have E:∀j,s'.H.get j=if j=i then some o else s.H.get j:=fun j=>by rw [k2,Tr.get_set _ _ k1]
  refine ⟨_,I,by simp,⟨?_, ?_,fun j c=>Nat.lt_of_lt_of_le (t.res j (k7 j c)) k6, ?_,hE, ?_⟩,k2,k1,fun j p z Y=>by simpa [Y] using z⟩
  · intro j u c;rw [E] at c;split at c
    · rename_i e;cases c;subst e;obtain ⟨a1,a2⟩:=ho _ I (by simp);exact ⟨a1,fun hz=>let ⟨cur,hc⟩:=a2 hz;⟨b,f,x,cur,hc⟩⟩
    · exact (hW.mono I) j u c
  · intro j p z;split at z
    · rename_i e;subst e;exact ⟨k4,k5⟩
    · have:=t.dom j p z;exact ⟨Nat.lt_of_lt_of_le this.1 k6,fun J=>this.2 (k7 j J)⟩
  · intro j l u ol B pl c R a m Z;rw [E] at c R;split at c
    · rename_i y;rw [if_pos y] at a;cases a;split at R
      · rename_i A;rw [y,A]
      · rename_i A;rw [if_neg A] at m;exact absurd Z.symm (S l ol pl R m)
    · rename_i y;rw [if_neg y] at a;split at R
      · rename_i A;rw [if_pos A] at m;cases m;exact absurd Z (S j u B c a)
      · rename_i A;rw [if_neg A] at m;exact t.ap j l u ol B pl c R a m Z
  · intro j u B c a;rw [E] at c;split at c
    · rename_i y;rw [if_pos y] at a;cases a;exact X
    · rename_i y;rw [if_neg y] at a;exact t.own j u B c a
theorem qdb (n:Iv σ w0 s w) {k:Option Nat} {o:Ob} {i:Nat} {s':Sx} (h:z7 s k o=some (i,s')) {b f x:Nat} {W:World} (y:MR σ s.H W) (u:qb w0 W) (c:w0.heap.size≤b)
    (l:∀j p m,s.H.get j=some p→σ j=some m→m.1≠b) (A:∀a,σ.le a→a i=some (b,f,x)→(o.sz=0→MO a W i o)∧(o.sz≠0→∃cur,RO a W i o b f x cur)):
    ∃a,σ.le a∧a i=some (b,f,x)∧Iv a w0 s' W:=by
  obtain ⟨a,z,B,t,_⟩:=qf9 n h y u c l A;exact ⟨a,z,B,t⟩
theorem qcQ (l:Iv σ w0 s w) {cs cs':List Value} {t:TypeId} {i:Nat} {s':Sx} (h:z7 s none ⟨cs,t,1,true,false⟩=some (i,s')) {b:Nat} (n:w0.heap.size≤b) (y:∀j E z,s.H.get j=some E→σ j=some z→z.1≠b) (R:Blk w b cs'.toArray t) (c:ql σ cs cs'):
    ∃a,σ.le a∧a i=some (b,0,0)∧Iv a w0 s' w∧∀j o p,s'.H.get j=some o→a j=some p→p.1=b∨(s.H.get j=some o∧σ j=some p):=by
  obtain ⟨a,W,A,I,B,O,S⟩:=qf9 l h (b:=b) (f:=0) (x:=0) l.mr l.ext n y fun a X J=>⟨(fun Y=>by cases Y),fun _=>⟨cs'.toArray,J,R.heap,by
    simp only [List.drop_zero];rw [List.take_of_length_le (by rw [c.len];exact Nat.le_refl _)];exact c.mono X,by simp [c.len],fun _=>⟨rfl,rfl,by simp [c.len]⟩,(fun Z=>by cases Z),(fun hx=>by cases hx)⟩⟩
  refine ⟨a,W,A,I,fun j o p m u=> ?_⟩;rw [B,Tr.get_set _ _ O] at m;split at m
  · rename_i e;subst e;rw [A] at u;cases u;exact .inl rfl
  · rename_i e;exact .inr ⟨m,S j p u e⟩
theorem qbX (l:Iv σ w0 s w) {i:Nat} {ob:Ob} (h:s.H.get i=some ob) (m:ob.whole=true) (j:ob.sz≠0):∃b cs',σ i=some (b,0,0)∧ql σ ob.cells cs'∧Blk w b cs'.toArray ob.ty:=by
  obtain ⟨b,f,x,cur,a⟩:=(l.mr i ob h).2 j;obtain ⟨rfl,rfl,c⟩:=a.whole m;refine ⟨b,cur.toList,a.at', ?_,⟨by simpa using a.heap⟩⟩;have:=a.cs;simp only [List.drop_zero] at this
  rwa [List.take_of_length_le (by simp [c])] at this
theorem qsb (c:Iv σ w0 s w) {i:Nat} {ob:Ob} (y:s.H.get i=some ob) (n:i<vj) {b f x:Nat} (m:σ i=some (b,f,x)) {W:World} (t:Only b w W):Iv σ w0 ⟨s.H.del i,s.nx,s.rs⟩ W:=by
  have h:∀j o,(s.H.del i).get j=some o→j≠i∧s.H.get j=some o:=fun j o a=>by
    rw [Tr.get_del _ n] at a;split at a
    · cases a
    · rename_i e;exact ⟨e,a⟩
  exact ⟨c.mr.keep (fun j o a=>(h j o a).2) fun j o p a A=>t.block _ fun e=>(h j o a).1 (c.ap j i o ob p _ (h j o a).2 y A m e),c.dom,c.res,fun j l u ol z pl a B=>c.ap j l u ol z pl (h j u a).2 (h l ol B).2,t.ext c.ext (c.own i ob _ y m),fun j o p a=>c.own j o p (h j o a).2⟩
theorem qez (a:Iv σ w0 s w) {k:Option Nat} {cs cs':List Value} {t:TypeId} {sz:Nat} {x:Bool} {i:Nat} {s':Sx} (h:z7 s k ⟨cs,t,sz,x,false⟩=some (i,s')) (m:ql σ cs cs') (u:sz≠0) {W:World} (y:qb w W) {b:Nat} (R:w.heap.size≤b) (J:Blk W b cs'.toArray t) (B:x=false→∃n,cs.length=n*sz∧n≤maxLen):
    ∃l,σ.le l∧l i=some (b,0,0)∧Iv l w0 s' W:=by
  refine qdb a h (a.mr.ext y) (a.ext.trans' y) (Nat.le_trans a.ext.size R) (fun j oj pj A I he=> ?_) fun l S E=>⟨fun X=>absurd X u,fun _=>⟨cs'.toArray,E,J.heap, ?_, ?_,fun _=>⟨rfl,rfl, ?_⟩,fun Z=> ?_,(fun h=>by cases h)⟩⟩
  · obtain ⟨p,c,z⟩:=a.mr.at' A;rw [I] at c;cases c;omega
  · simp only [List.drop_zero];have:(cs'.take cs.length)=cs':=List.take_of_length_le (by rw [m.len];exact Nat.le_refl _);rw [this];exact m.mono S
  · simp [m.len]
  · simp [m.len]
  · obtain ⟨n,O,Y⟩:=B Z;exact ⟨n,O,by simpa using Y⟩
theorem qiq (h : Iv σ w0 s w) {i : Nat} {ob : Ob} (O : s.H.get i = some ob) {a : Ob} (B : i < vj) {b f x : Nat} (z : σ i = some (b, f, x)) {W : World} (hO : Only b w W) (ho : (a.sz = 0 → MO σ W i a) ∧ (a.sz ≠ 0 → ∃ cur, RO σ W i a b f x cur)) :
    Iv σ w0 ⟨s.H.set i a,s.nx,s.rs⟩ W:=by
  have A:∀j,(s.H.set i a).get j=if j=i then some a else s.H.get j:=fun j=>Tr.get_set _ _ B j
  have n:∀j o,(s.H.set i a).get j=some o→∃o',s.H.get j=some o':=fun j o m=>by
    rw [A] at m;split at m
    · rename_i e;rw [e];exact ⟨_,O⟩
    · exact ⟨_,m⟩
  refine ⟨fun j t m=> ?_,h.dom,h.res,fun j l t ol J pl m hl u X R=> ?_,hO.ext h.ext (h.own i ob _ O z),fun j t J m u=> ?_⟩
  · have c:=m;dsimp only at c;rw [A] at c;split at c
    · rename_i e;cases c;subst e;exact ⟨ho.1,fun I=>let ⟨cur,hc⟩:=ho.2 I;⟨b,f,x,cur,hc⟩⟩
    · rename_i e;have E:∀p,σ j=some p→W.heap[p.1]? =w.heap[p.1]? :=fun p hp=>hO.block _ fun R=>e (h.ap j i t ob p _ c O hp z R);refine ⟨fun I=> ?_,fun I=> ?_⟩
      · obtain ⟨S,ps,y,Y,h3⟩:=(h.mr j t c).1 I;exact ⟨S,ps,y,Y.block (E _ y),h3⟩
      · obtain ⟨S,f1,x1,cur,Z⟩:=(h.mr j t c).2 I;exact ⟨S,f1,x1,cur,Z.keep (E _ Z.at')⟩
  · obtain ⟨o1,y⟩:=n j t m;obtain ⟨o2,Y⟩:=n l ol hl;exact h.ap j l o1 o2 J pl y Y u X R
  · obtain ⟨o1,y⟩:=n j t m;exact h.own j o1 J y u
end
end Go.Eng
namespace Go.Eng
open Go.RowKit
theorem qti {α:Type} {C vs:List α} {f m o:Nat} (h:o+vs.length≤m) (c:f+m≤C.length):
    ((C.take (f+o)++vs++C.drop (f+o+vs.length)).drop f).take m=((C.drop f).take m).take o++vs++((C.drop f).take m).drop (o+vs.length):=by
  obtain ⟨A,D,rfl,rfl⟩:∃A D,C=A++D∧A.length=f:=⟨C.take f,C.drop f,by simp,by rw [List.length_take];omega⟩;have j:m≤D.length:=by rw [List.length_append] at c;omega
  have a:(A++D).take (A.length+o)=A++D.take o:=by rw [List.take_append,List.take_of_length_le (by omega),Nat.add_sub_cancel_left]
  have b:(A++D).drop (A.length+o+vs.length)=D.drop (o+vs.length):=by
    rw [List.drop_append,List.drop_eq_nil_of_le (by omega),List.nil_append,show A.length+o+vs.length - A.length=o+vs.length by omega]
  have l1:(D.take o).length=o:=by rw [List.length_take];omega
  rw [a,b,List.drop_left,List.append_assoc,List.append_assoc,List.drop_left,List.take_append,List.take_of_length_le (l:=D.take o) (by omega),l1,List.take_append,List.take_of_length_le (l:=vs) (by omega),
    List.take_take,Nat.min_eq_left (by omega),List.append_assoc,List.drop_take,Nat.sub_sub]
section
variable {P:Program} {Q:Ks} {K:qa→World→Prop} {ρ:qa} {w w0:World} {σ:Sg} {e:Tr Value} {s s':Sx} {k:Option Nat} {d:Option Nat} {ty:TypeId} {v:Value}
def Kn (σ:Sg) (w0:World) (s':Sx) (v:Value) (d:Option Nat) (K:qa→World→Prop) (ρ:qa):Prop:=∀τ v' W,σ.le τ→Iv τ w0 s' W→VR τ v v'→K (qm ρ d v') W
theorem qkS {p:Option (Nat×Sx)} (h:qcR p=some (v,s')):∃i,p=some (i,s')∧v= .pointer (some ⟨i,0,none⟩):=by
  unfold qcR at h;split at h
  · cases h;exact ⟨_,rfl,rfl⟩
  · cases h
theorem qfu {n:Nat} {p:Option (Nat×Sx)} (h:qa6 n p=some (v,s')):∃i,p=some (i,s')∧v= .slice (some ⟨i,0,none⟩) n n:=by
  unfold qa6 at h;split at h
  · cases h;exact ⟨_,rfl,rfl⟩
  · cases h
theorem yM {a:Sg} {i b:Nat} (h:a i=some (b,0,0)):VR a (.pointer (some ⟨i,0,none⟩)) (.pointer (some ⟨b,0,none⟩)):= .ptr (o:=0) h
theorem qjD {a:Sg} {i b n:Nat} (h:a i=some (b,0,0)):VR a (.slice (some ⟨i,0,none⟩) n n) (.slice (some ⟨b,0,none⟩) n n):= .slc (o:=0) h (Nat.le_refl _)
theorem qD9 (c:Iv σ w0 s w) (y:ER σ e ρ) {t:TypeId} {x:Operand} (h:qid e s k t x=some (v,s')) (l:Kn σ w0 s' v d K ρ):qw P Q d (.box t x) ty K ρ w:=by
  unfold qid at h;split at h
  · rename_i u b;obtain ⟨i,z,rfl⟩:=qkS h;refine vz fun B W p n A _=> ?_;obtain ⟨j,E,m,a⟩:=qez c z (qay (vP y b)) (by decide) n p (by simpa using A) (by simp);exact l j _ W E a (yM m)
  · cases h
theorem qxQ (b:Iv σ w0 s w) {t:TypeId} (h:qig P s k t=some (v,s')) (j:Kn σ w0 s' v d K ρ):qw P Q d (.alloc t) ty K ρ w:=by
  unfold qig at h;split at h
  · rename_i z A;obtain ⟨m,h⟩:=jh h;obtain ⟨i,u,rfl⟩:=qkS h;refine qT A fun B W p n x _=> ?_;obtain ⟨c,y,l,a⟩:=qez b u (QC m) (by decide) n p (by simpa using x) (by simp);exact j c _ W y a (yM l)
  · cases h
theorem que (I:Iv σ w0 s w) {i o b f x:Nat} {vs a:List Value} (O:ql σ vs a) (Z:∀u∈a,u.oneCell=true) (n:σ i=some (b,f,x)) (h:qe5 s i o vs=some (v,s')) {K:World→Prop} (S:v=undef→∀W,Iv σ w0 s' W→K W):kW ⟨b,f+o,none⟩ a 0 K w:=by
  unfold qe5 at h;split at h
  · rename_i ob p;obtain ⟨B,h⟩:=jh h;cases h;simp only [Bool.and_eq_true,Nat.ble_eq,Bool.not_eq_true',Nat.add_eq] at B;obtain ⟨⟨h2,X⟩,E⟩:=B;have J:ob.sz≠0:=fun e=>by rw [e] at E;cases E
    obtain ⟨b1,f1,x1,cur,j⟩:=(I.mr i ob p).2 J;have t:=j.at';rw [n] at t;cases t;have y:=O.len;have A:=j.room;refine qe4 _ _ _ ?_;refine qcn _ _ w cur ⟨j.heap⟩ (by omega) Z fun W R Y=>S rfl W ?_;have l:(cur.toList.take (f+o)++a++cur.toList.drop (f+o+a.length)).toArray.size=cur.size:=by simp;omega
    have c:(qfK ob.cells o vs).length=ob.cells.length:=by simp [qfK];omega
    refine qiq I p (kC X) n R ⟨fun e=>absurd e J,fun _=>⟨_,n,Y.heap, ?_, ?_,fun z=> ?_, ?_,fun hx=> ?_⟩⟩
    · rw [c];have:=qti (C:=cur.toList) (vs:=a) (f:=f) (m:=ob.cells.length) (o:=o) (by omega) (by simp;omega);simp only [Nat.add_zero];rw [this];rw [←y];exact ((j.cs.take o).app O).app (j.cs.drop _)
    · simp only [Nat.add_zero];rw [l,c];exact j.room
    · simp only [Nat.add_zero];rw [l];rw [c];exact j.whole z
    · intro z;rw [c];exact j.most z
    · simp only [Nat.add_zero];rw [l,c];exact j.exact hx
  · cases h
theorem qud (y:Iv σ w0 s w) (m:ER σ e ρ) {t:TypeId} {p x:Operand} (h:qh2 P e s t p x=some (v,s')) (z:Kn σ w0 s' v d K ρ):qw P Q d (.store t p x) ty K ρ w:=by
  unfold qh2 at h;split at h
  · rename_i i o u A n;obtain ⟨c,h⟩:=jh h;simp only [Bool.and_eq_true] at c;have b:=vP m A;have a:=vP m n;show jG P t (qd ρ x).cells.size=true∧yL (qd ρ p) _;rw [qip a];refine ⟨c.1, ?_⟩;generalize qd ρ p=q at b;cases b with
    |pln B=>cases B
    |ptr l=>exact que y (qay a) (qf3 (qay a) c.2) l h fun E W j=>by subst E;exact z σ _ W (Sg.le_refl σ) j Jd
  · cases h
theorem qll (a:ER σ e ρ) {l:Array Operand} {vs:List Value} (h:yN e l.toList=some vs):vs.toArray.size=(l.map (qd ρ)).size∧∀(i:Nat) (x y:Value),vs.toArray[i]? =some x→(l.map (qd ρ))[i]? =some y→VR σ x y:=
  ql.arr (by simpa using qf0 a h)
theorem qCD (p:Iv σ w0 s w) (c:ER σ e ρ) {fn:Fn} {fs cs:Array Operand} (h:qia e s fn fs.toList cs.toList=some (v,s')) (n:Kn σ w0 s' v d K ρ):qw P Q d (.makeFunc fn fs cs) ty K ρ w:=by
  unfold qia at h;split at h
  · rename_i a b x l;cases h;obtain ⟨j,t⟩:=qll c x;obtain ⟨u,m⟩:=qll c l;exact n σ _ w (Sg.le_refl σ) p (.fnc j t u m)
  · cases h
def Ja (σ:Sg):List (Nat×Value)→List (Nat×Value)→Prop
  |[],[]=>True
  |a::l,b::m=>(a.1=b.1∧VR σ a.2 b.2)∧Ja σ l m
  |_,_=>False
theorem qfP (b:ER σ e ρ):∀{l:List (Nat×Operand)} {vs:List (Nat×Value)},qbp e l=some vs→Ja σ vs (l.map fun p=>(p.1,qd ρ p.2))
  |[],vs,h=>by cases h;trivial
  |(k,x)::l,vs,h=>by
    unfold qbp at h;split at h
    · rename_i u j c a;cases h;exact ⟨⟨rfl,vP b c⟩,qfP b a⟩
    · cases h
theorem qjR:∀{vs c:List Value} {o off:Nat} {cs ds:Array Value},ql σ vs c→ql σ cs.toList ds.toList→
    ql σ ((vs.zipIdx o).foldl (fun (cs:Array Value) (x:Value×Nat)=>cs.setIfInBounds (off+x.2) x.1) cs).toList ((c.zipIdx o).foldl (fun (cs:Array Value) (x:Value×Nat)=>cs.setIfInBounds (off+x.2) x.1) ds).toList
  |[],[],_,_,_,_,_,h=>h
  |a::l,b::m,o,off,cs,ds,j,h=>by
    simp only [List.zipIdx_cons,List.foldl_cons];exact qjR j.2 (by simp only [Array.toList_setIfInBounds];exact h.set j.1 _)
theorem qhO {c : Nat → Option (Nat × Nat)} : ∀ {l x : List (Nat × Value)} {cs ds t : Array Value}, Ja σ l x → ql σ cs.toList ds.toList → Instr.fill c cs l = some t → ∃ p, Instr.fill c ds x = some p ∧ ql σ t.toList p.toList
  |[],[],cs,ds,t,_,h,n=>by simp only [Instr.fill] at n⊢;cases n;exact ⟨_,rfl,h⟩
  | (i, a) :: l, (j, b) :: m, cs, ds, t, u, h, n => by
    obtain ⟨⟨rfl,y⟩,u⟩:=u;simp only [Instr.fill] at n⊢;split at n
    · cases n
    · rename_i off size I;split at n
      · cases n
      · rename_i A;have B:=qip y;have z:ds.size=cs.size:=by have:=h.len;simpa using this.symm
        have E:=qjR (o:=0) (off:=off) (qay y) h;rw [if_neg (by rw [B,z];exact A)];refine qhO u ?_ n;rw [←Array.foldl_toList,←Array.foldl_toList];simpa using E
theorem qDU {t:TypeId} {l m:List (Nat×Value)} {cs:Array Value} (u:∀b z,P.info? t=some b→b.zero=some z→z.cells.toList.all zi=true) (p:Ja σ l m) (h:P.built t l=some cs):∃cs',P.built t m=some cs'∧ql σ cs.toList cs'.toList:=by
  unfold Program.built at h⊢;split at h
  · rename_i b n B hit j;split at h
    · rename_i z A a x;exact qhO p (QC (u b z hit a)) h
    · cases h
  · rename_i b fields hit j;split at h
    · rename_i z c a y;exact qhO p (QC (u b z hit a)) h
    · cases h
  · cases h
theorem qlA (n:Iv σ w0 s w) (z:ER σ e ρ) {mx:Bool} {a b:Operand} {t:TypeId} {p:Array TypeId} (m:mx=true→p= #[t,t]) (h:qef e s mx a b=some (v,s')) (u:Kn σ w0 s' v d K ρ):qw P Q d (.call {callee:= .builtin (if mx then .max else .min),args:= #[a,b],argTypes:=p}) ty K ρ w:=by
  unfold qef at h;split at h
  · rename_i k1 x k2 y I E;have l:k1=k2:=by
      cases l:(k1==k2) with
      |false=>rw [l] at h;cases h
      |true=>simpa using l
    subst l;rw [show (k1==k1)=true by simp] at h;cases h;have A:=vP z I;have B:=vP z E;generalize j:qd ρ a=J at A;generalize c:qd ρ b=O at B;cases A;cases B;cases mx with
    |true=>
      obtain rfl:=m rfl;exact qeb j c (u σ _ w (Sg.le_refl σ) n (.pln rfl))
    |false=>
      show jY P Q d _ ty K ρ w;refine ju (v:= .int k1 (if y<x then y else x)) (w':=w) ?_ (u σ _ w (Sg.le_refl σ) n (.pln rfl));simp [execOp,qD,resolve,invoke,builtin,j,c,Builtin.min_,Builtin.min2]
  · cases h
theorem qDX (n:Iv σ w0 s w) (A:ER σ e ρ) {t:TypeId} {ps:Array (Nat×Operand)} (h:qic P e s t ps.toList=some (v,s')) (u:Kn σ w0 s' v d K ρ):qw P Q d (.build t ps) ty K ρ w:=by
  unfold qic at h;split at h
  · rename_i l B;obtain ⟨j,h⟩:=jh h;split at h
    · rename_i cs a;cases h;have y:=qfP A B;obtain ⟨cs',b,c⟩:=qDU (fun E z b c=>by unfold qiI at j;simpa only [b,c] using j) y a;show xi (P.built t (ps.map fun p=>(p.1,qd ρ p.2)).toList) _;rw [Array.toList_map,b];obtain ⟨x,m⟩:=ql.arr c;exact u σ _ w (Sg.le_refl σ) n (.agg x m)
    · cases h
  · cases h
theorem qkT:∀{l m:List (Nat×Value)},Ja σ l m→l.map (·.1)=m.map (·.1)
  |[],[],_=>rfl
  |_::_,_::_,h=>by simp only [List.map_cons];rw [h.1.1,qkT h.2]
theorem qkW {sz:Nat}:∀{l m:List (Nat×Value)},Ja σ l m→(l.all fun p=>p.2.cells.size==sz)=true→∀p∈m,p.2.cells.size=sz
  |[],[],_,_,p,c=>by simp at c
  |a::l,b::m,h,j,p,c=>by
    simp only [List.all_cons,Bool.and_eq_true,beq_iff_eq] at j;rcases List.mem_cons.1 c with rfl|c
    · rw [qip h.1.2];exact j.1
    · exact qkW h.2 j.2 p c
theorem qkV:∀{l m:List (Nat×Value)},Ja σ l m→ql σ (l.flatMap fun p=>p.2.cells.toList) (m.flatMap fun p=>p.2.cells.toList)
  |[],[],_=>trivial
  |_::_,_::_,h=>(qay h.1.2).app (qkV h.2)
theorem qkU {sz:Nat}:∀{l:List (Nat×Value)},(l.all fun p=>p.2.cells.size==sz)=true→(l.flatMap fun p=>p.2.cells.toList).length=l.length*sz
  |[],_=>by simp
  |a::l,b=>by
    simp only [List.all_cons,Bool.and_eq_true,beq_iff_eq] at b;rw [List.flatMap_cons,List.length_append,qkU b.2,Array.length_toList,b.1,List.length_cons,Nat.succ_mul];omega
theorem qya (E:Iv σ w0 s w) (Y:ER σ e ρ) {t:TypeId} {n:Nat} {ps:Array (Nat×Operand)} (h:qh9 P e s k t n ps.toList=some (v,s')) (J:Kn σ w0 s' v d K ρ):qw P Q d (.buildSlice t n ps) ty K ρ w:=by
  unfold qh9 at h;split at h
  · rename_i l t1 sz hl u;obtain ⟨x,h⟩:=jh h;simp only [Bool.and_eq_true,Nat.ble_eq,beq_iff_eq] at x;obtain ⟨⟨⟨z,A⟩,y⟩,h4⟩:=x;obtain ⟨i,S,rfl⟩:=qfu h;have j:=qfP Y hl;have hm:=qkT j;have c:l.length=n:=by have:=congrArg List.length A;simpa using this
    refine jz u z ?_ ?_ fun B W X R Z _=> ?_
    · rw [←A,hm,List.map_map];rfl
    · intro p b;exact qkW j y (p.1,qd ρ p.2) (List.mem_map.2 ⟨p,b,rfl⟩)
    · obtain ⟨I,m,O,a⟩:=qez (cs':=ps.toList.flatMap fun p=>(qd ρ p.2).cells.toList) E S (by have:=qkV j;rwa [List.flatMap_map] at this) (by omega) R X Z fun _=>⟨n,by rw [qkU y,c],Nat.le_trans (Nat.le_trans (Nat.le_mul_of_pos_right n (by omega)) z) (by decide)⟩;exact J I _ W m a (qjD O)
  · cases h
theorem qkk {a:Addr}:∀{n i:Nat} {l:List Value},jk w a i n=some l→∀j (h:j<l.length),w.cell? (a.add (i+j))=some l[j]
  |0,i,l,h,j,b=>by simp only [jk,Option.some.injEq] at h;subst h;simp at b
  | n + 1, i, l, h, j, b => by
    simp only [jk,Option.bind_eq_some_iff,Option.map_eq_some_iff] at h;obtain ⟨u,c,r,m,h⟩:=h;cases h;cases j with
    |zero=>exact c
    |succ j=>
      have:=qkk m j (by simpa using b);rw [show i+(j+1)=i+1+j by omega];exact this
theorem qaV (x : Iv σ w0 s w) {sz : Nat} {v p : Value} (u : VR σ v p) {l : List Value} (h : yA s.H sz v = some l) : ∃ b, Cells w p sz b ∧ ql σ l b := by
  unfold yA at h;split at h
  · cases h;cases u with
    |pln _=>exact ⟨[],⟨rfl,by simp [qk],fun j m=>by simp at m⟩,trivial⟩
  · rename_i a n c;cases u with
    |pln z=>cases z
    |slc B E=>
      obtain ⟨b,A,t,y⟩:=qft x.mr B h;refine ⟨b,⟨by simp [qn];omega, ?_,fun j m=> ?_⟩,t⟩
      · rw [←t.len,y];rfl
      · have:=qkk A j m;rw [Nat.zero_add,zF] at this;exact this
  · cases h
theorem qxC:∀{l m:List Value},ql σ l m→l.all wy=true→∀v∈m,v.oneCell'=true:=fun h a v b=>by
  have:=qf3 h a v b;cases v<;>first|rfl|(exfalso;simp [Value.oneCell] at this)
theorem get_del {H:vg} {i:Nat} (h:i<vj) {j:Nat} {o:Ob} (a:(H.del i).get j=some o):j≠i∧H.get j=some o:=by
  rw [Tr.get_del _ h] at a;split at a
  · cases a
  · rename_i e;exact ⟨e,a⟩
theorem qed {t e sz bytes:Nat} (z:xG P t=some (e,sz,bytes)) {base:Nat} (b:base≤w.heap.size) {s x:Operand} {sv xv:Value} (A:qd ρ s=sv) (E:qd ρ x=xv) {xs news:List Value}
    (j:Own base e sz w sv xs) (l:Cells w xv sz news) (n:∀u∈news,u.oneCell'=true)
    (m:xs.length+news.length<4611686018427387904) (a:(xs.length+news.length)*bytes≤140737488355328*sz)
    (h:∀c W,Own base e sz W c (xs++news)→w.grownBy W sv.ownBlock→(c.ownBlock=sv.ownBlock∨c.ownBlock=some w.heap.size)→K (qm ρ d c) W):qw P Q d (.call {callee:= .builtin .append,args:= #[s,x],argTypes:= #[t,t]}) ty K ρ w:=by
  obtain ⟨c,W,n,B,y,p⟩:=qcB (ty:=ty) z j l n m a b;refine ju (v:=c) (w':=W) ?_ (h c W B y p);simp [execOp,qD,resolve,invoke,builtin,A,E,n]
theorem qDg (W : Iv σ w0 s w) {t : TypeId} {sz : Nat} (J : sz ≠ 0) {v R : Value} {H : vg} (hv : VR σ v R) (h : qii s.H t sz v = some H) {xs m : List Value} (hx : yA s.H sz v = some xs) (S : Cells w R sz m) (hvs : ql σ xs m) :
    Own w0.heap.size t sz w R m∧(∀j o,H.get j=some o→s.H.get j=some o)∧(∀j o p,H.get j=some o→σ j=some p→some p.1≠R.ownBlock):=by
  unfold qii at h;split at h
  · rename_i a n c;split at h
    · rename_i ob z;obtain ⟨hb,h⟩:=jh h;cases h;simp only [Bool.and_eq_true,beq_iff_eq,Bool.not_eq_true',Nat.ble_eq] at hb;obtain ⟨⟨⟨⟨h1,h2⟩,h3⟩,O⟩,Z⟩:=hb;have O:=kC O;cases hv with
      |pln h'=>cases h'
      | slc hs hn =>
        rename_i i b f x o hq;obtain ⟨b1,f1,x1,cur,B⟩:=(W.mr i ob z).2 (by rw [h2];exact J);have E:=B.at';rw [hs] at E;cases E;have A:=B.room;rw [h2] at A;obtain ⟨n0,X,hm0⟩:=B.most h3;rw [h2] at X;have y:=S.len;have hcn:c≤n0:=by
          have:c*sz≤n0*sz:=by dsimp only at Z;omega
          exact Nat.le_of_mul_le_mul_right this (Nat.pos_of_ne_zero J)
        refine ⟨.inr ⟨b,f+o,n,c+x,cur,rfl,W.own i ob _ z hs,by rw [←h1];exact B.heap,y,by omega,by omega, ?_, ?_⟩,fun j oj I=>(get_del O I).2,fun j oj p I hp he=> ?_⟩
        · dsimp only at Z;rw [Nat.add_mul];omega
        · have hxl:m.length=n*sz:=y;dsimp only at Z;have hnc:n*sz≤c*sz:=Nat.mul_le_mul_right _ hn;refine List.ext_getElem? fun j=> ?_;by_cases I:j<n*sz
          · have u:=S.cell j (by omega);simp only [qJ,World.cell?,B.heap] at u;rw [List.getElem?_take_of_lt I,List.getElem?_drop,List.getElem?_eq_getElem (l:=m) (by omega)];simpa using u
          · rw [List.getElem?_eq_none (by simp;omega),List.getElem?_eq_none (by omega)]
        · obtain ⟨aa,Y⟩:=get_del O I;refine aa (W.ap j i oj ob p _ Y z hp hs ?_);simpa [Value.ownBlock] using he
    · cases h
  · cases h;cases hv with
    |pln _=>
      have:m=[]:=List.length_eq_zero_iff.1 (by rw [S.len];simp [qk]);subst this;exact ⟨Own.nil _ _ _ _,fun _ _ h=>h,fun _ _ _ _ _=>by simp [Value.ownBlock]⟩
  · cases h
theorem qEn (m : Iv σ w0 s w) (he : ER σ e ρ) {t : TypeId} {a b : Operand} (h : qif P e s k t a b = some (v, s')) (hK : Kn σ w0 s' v d K ρ) : qw P Q d (.call { callee := .builtin .append, args := #[a, b], argTypes := #[t, t] }) ty K ρ w := by
  unfold qif at h;split at h
  · rename_i t1 sz bytes av bv hri ha hb;split at h
    · rename_i xs ys hxs hys;unfold qsU at h;obtain ⟨hc,h⟩:=jh h;simp only [Bool.and_eq_true,Nat.ble_eq,Nat.blt_eq] at hc;obtain ⟨⟨⟨⟨h1,h2⟩,h3⟩,h4⟩,h5⟩:=hc;split at h
      · rename_i H hH;obtain ⟨i,h6,rfl⟩:=qfu h;have hva:=vP he ha;have hvb:=vP he hb;obtain ⟨xs',hcx,S⟩:=qaV m hva hxs;obtain ⟨ys',hcy,O⟩:=qaV m hvb hys;obtain ⟨J,u,hne⟩:=qDg m (by omega) hva hH hxs hcx S;have lx:=S.len;have ly:=O.len;refine qed hri m.ext.size rfl rfl J hcy (qxC O h4) (by omega) (by rw [←lx,←ly];exact h3) fun v' W ho Z hr=> ?_;have Y:Iv σ w0 ⟨H,s.nx,s.rs⟩ w:=⟨m.mr.keep u fun _ _ _ _ _=>rfl,m.dom,m.res,fun j l oj ol pj pl A hl=>m.ap j l oj ol pj pl (u j oj A) (u l ol hl),m.ext,fun j o p A=>m.own j o p (u j o A)⟩;rcases ho with ⟨_,hnil⟩|⟨g,off,y,cap,cur,rfl,hgb,hgh,hl,hnc,hcm,hroom,X⟩
        · have:=congrArg List.length hnil;rw [List.length_append,List.length_nil] at this;omega
        · have B:xs.length+ys.length=y*sz:=by rw [List.length_append] at hl;omega
          have hn':(xs.length+ys.length) / sz=y:=by rw [B,Nat.mul_div_cancel _ (by omega)]
          rw [hn'] at hK;have E:∀j o p,H.get j=some o→σ j=some p→p.1<w.heap.size:=fun j o p A R=>by
            obtain ⟨q,hq,E⟩:=Y.mr.at' A;rw [R] at hq;cases hq;exact E
          have hW:MR σ H W:=Y.mr.keep (fun _ _ h=>h) fun j o p A R=>Z.block _ (E j o p A R) (hne j o p A R);have hE:qb w0 W:=⟨Z.os.trans m.ext.os,Z.tape.trans m.ext.tape,Z.output.trans m.ext.output,Nat.le_trans m.ext.size Z.size,fun q hq=>by
            refine (Z.block q (Nat.lt_of_lt_of_le hq m.ext.size) fun e=> ?_).trans (m.ext.block q hq);have:=(J.blk q e.symm).1;omega⟩
          have hro:∀I:Sg,σ.le I→I i=some (g,off,cap - y)→RO I W i ⟨xs++ys,t1,sz,false,false⟩ g off (cap - y) cur:=fun I z hi=>by
            refine ⟨hi,hgh, ?_, ?_,(fun hw=>by cases hw),fun _=>⟨y,by rw [List.length_append];exact B,by omega⟩,(fun hx=>by cases hx)⟩
            · rw [List.length_append,B,X];exact (S.app O).mono z
            · rw [List.length_append,B];have:y*sz+(cap - y)*sz=cap*sz:=by rw [←Nat.add_mul];congr 1;omega
              dsimp only;omega
          obtain ⟨I,z,hi,hI'⟩:=qdb Y h6 (b:=g) (f:=off) (x:=cap - y) (W:=W) hW hE hgb (fun j oj pj A R e=>by
            rcases hr with hr|hr
            · exact hne j oj pj A R (by rw [←hr,e];rfl)
            · have:=E j oj pj A R;simp [Value.ownBlock] at hr;omega) fun I z hi=>⟨fun hz=>absurd hz (by dsimp only;omega),fun _=>⟨cur,hro I z hi⟩⟩
          refine hK I _ W z hI' ?_;have:=VR.slc (σ:=I) (o:=0) (n:=y) (c:=y) hi (Nat.le_refl _)
          rwa [show y+(cap - y)=cap by omega] at this
      · cases h
    · cases h
  · cases h
theorem qx3 (hI:Iv σ w0 s w) (S:ER σ e ρ) {t:TypeId} {x y:Operand} (h:qh7 P e s k t x y=some (v,s')) (hK:Kn σ w0 s' v d K ρ):qw P Q d (.makeSlice t x y) ty K ρ w:=by
  unfold qh7 at h;split at h
  · rename_i t1 z bytes kx n ky m c hx hy
    replace h:=jh h
    obtain ⟨O,h0⟩:=h;simp only [Bool.and_eq_true,Nat.ble_eq,beq_iff_eq,decide_eq_true_eq] at O;obtain ⟨⟨⟨⟨⟨⟨E,J⟩,h3⟩,Z⟩,h5⟩,h6⟩,A⟩:=O;subst E;obtain ⟨i,h8,rfl⟩:=qfu h0;have a:=vP S hx;have b:=vP S hy;generalize p:qd ρ x=q1 at a;generalize j:qd ρ y=q2 at b;cases a;cases b;have R:((n.toNat:Nat):Int)=n:=Int.toNat_of_nonneg J;have X:bytes*n.toNat≤1000*100000:=Nat.mul_le_mul Z (by omega);refine qC7 (n:=n.toNat) (kl:=kx) (kc:=ky) c (by rw [p,R]) (by rw [j,R]) (by omega) (by omega) (fun i z E J=> ?_) fun B W hB hE X=> ?_
    · rw [E] at A;simp only [J,beq_iff_eq] at A;exact A
    · obtain ⟨τ,I,hi,l⟩:=qez (cs':=List.replicate n.toNat z) hI h8 (QC (by rw [List.all_eq_true];intro u Y;rw [(List.mem_replicate.1 Y).2];exact h5)) (by decide) hE hB X fun _=>⟨n.toNat,by simp,Nat.le_trans (show n.toNat≤100000 by omega) (by decide)⟩;exact hK τ _ W I l (qjD hi)
  · cases h
theorem qx2 (a : Iv σ w0 s w) {t : TypeId} {r : Option Operand} (h : qh6 s k (r.map fun _ => 0) = some (v, s')) (I : Kn σ w0 s' v d K ρ) : qw P Q d (.makeMap t r) ty K ρ w := by
  cases r with
  |some _=>cases h
  |none=>
    unfold qh6 at h;dsimp only [Option.map_none] at h;split at h
    · rename_i i Y O;cases h;refine qhX fun B W J z R _=> ?_;obtain ⟨y,l,n,m⟩:=qdb a O (b:=B) (f:=0) (x:=0) (a.mr.ext z) (a.ext.trans' z) (Nat.le_trans a.ext.size J) (fun j X Z E u he=>by
        obtain ⟨p,c,A⟩:=a.mr.at' E;rw [u] at c;cases c;omega) fun y l n=>⟨fun _=>⟨B,[],n,R,rfl,fun p u=>by simp at u⟩,fun S=>absurd rfl S⟩
      exact I y _ W l m (.mp n)
    · cases h
theorem Qq {a b:ByteArray}:kj a b=true↔a=b:=by
  unfold kj;rw [beq_iff_eq];constructor
  · intro h;have j:a.data.toList=b.data.toList:=List.map_inj_right (fun x y c=>UInt8.toNat_inj.1 c)|>.1 h
    cases a;cases b;congr 1;exact Array.toList_inj.1 j
  · rintro rfl;rfl
theorem qlH (b:ByteArray):∀ps:List (ByteArray×Value),qde (QE ps) b=jP ps b
  |[]=>rfl
  | p :: ps => by
    rw [xb];show (bif kj p.1 b then some p.2 else qde (QE ps) b)=_;by_cases a:p.1=b
    · rw [if_pos a,Qq.2 a];rfl
    · rw [if_neg a,←qlH b ps];cases c:kj p.1 b with
      |true=>exact absurd (Qq.1 c) a
      |false=>rfl
theorem qkO (b:ByteArray) (x:Value):∀ps:List (ByteArray×Value),qdc (QE ps) b x=QE (jZ ps b x)
  |[]=>rfl
  | p :: ps => by
    show (bif kj p.1 b then .string b::x::QE ps else .string p.1::p.2::qdc (QE ps) b x)=_;unfold jZ;by_cases a:p.1=b
    · rw [if_pos a,Qq.2 a];rfl
    · rw [if_neg a,qkO b x ps];cases c:kj p.1 b with
      |true=>exact absurd (Qq.1 c) a
      |false=>rfl
theorem qjQ {b : ByteArray} {x : Value} : ∀ {ps : List (ByteArray × Value)} {p : ByteArray × Value}, p ∈ jZ ps b x → p ∈ ps ∨ p.2 = x
  |[],p,h=>by simp [jZ] at h;exact .inr (by rw [h])
  | q :: ps, p, h => by
    unfold jZ at h;split at h
    · rcases List.mem_cons.1 h with rfl|h
      · exact .inr rfl
      · exact .inl (List.mem_cons_of_mem _ h)
    · rcases List.mem_cons.1 h with rfl|h
      · exact .inl (by simp)
      · rcases qjQ h with h|h
        · exact .inl (List.mem_cons_of_mem _ h)
        · exact .inr h
theorem qx9 {b:ByteArray} {x:Value} {ps:List (ByteArray×Value)} (h:jP ps b=some x):∃p∈ps,p.2=x:=by
  unfold jP at h;simp only [Option.map_eq_some_iff] at h;obtain ⟨p,a,rfl⟩:=h;exact ⟨p,List.mem_of_find?_eq_some a,rfl⟩
theorem qx7 (J : Iv σ w0 s w) (R : ER σ e ρ) {t : TypeId} {m x : Operand} (h : qh8 P e s t m x = some (v, s')) (O : Kn σ w0 s' v d K ρ) : qw P Q d (.lookup t m x false) ty K ρ w := by
  unfold qh8 at h;split at h
  · rename_i i b kt et hm hx y;split at h
    · rename_i ob z l I hz;obtain ⟨j,h⟩:=jh h;cases h;simp only [Bool.and_eq_true] at j;have A:=Nat.eq_of_beq_eq_true j.1;obtain ⟨B,ps,h1,h2,X,W⟩:=(J.mr i ob l).1 A;have c:=vP R hm;have a:=vP R hx;generalize E:qd ρ m=q1 at c;generalize n:qd ρ x=q2 at a;cases c with
      |pln Z=>cases Z
      |mp S=>
        rw [h1] at S;cases S;cases a;refine qhY y I hz E n h2 false ?_;rw [X,qlH] at O;refine O σ _ w (Sg.le_refl σ) J (.pln ?_);cases hl:jP ps b with
        |none=>exact j.2
        |some u=>
          obtain ⟨p,Y,rfl⟩:=qx9 hl;exact W p Y
    · cases h
  · cases h
theorem qto (X : Iv σ w0 s w) (O : ER σ e ρ) {t : TypeId} {m x y : Operand} (h : qh0 P e s t m x y = some (v, s')) (hK : Kn σ w0 s' v d K ρ) : qw P Q d (.mapUpdate t m x y) ty K ρ w := by
  unfold qh0 at h;split at h
  · rename_i i b u hm hx hy;split at h
    · rename_i kt et I;split at h
      · rename_i ob c S;obtain ⟨a,h⟩:=jh h;cases h;simp only [Bool.and_eq_true] at a;have l:=Nat.eq_of_beq_eq_true a.1.1;obtain ⟨B,ps,R,h2,h3,h4⟩:=(X.mr i ob c).1 l;have z:=vP O hm;have j:=vP O hx;have E:=vP O hy;generalize J:qd ρ m=q1 at z;generalize A:qd ρ x=q2 at j;cases z with
        |pln h'=>cases h'
        |mp Y=>
          rw [R] at Y;cases Y;cases j;have Z:qd ρ y=u:=E.uniq (.pln a.1.2);refine qhW I S J A h2 fun W hO hb=>hK σ _ W (Sg.le_refl σ) ?_ Jd;refine qiq X c (kC a.2) R hO ⟨fun _=>⟨B,jZ ps b u,R,by rw [←Z];exact hb, ?_,fun p n=> ?_⟩,fun hz=>absurd l hz⟩
          · rw [h3,qkO]
          · rcases qjQ n with n|n
            · exact h4 p n
            · rw [n];exact a.1.2
      · cases h
    · cases h
  · cases h
end
end Go.Eng
namespace Go.Eng
open Go.RowKit
def yk (P:Program) (pr:TypeId→Bool):Prop:=∀t,pr t=true→P.eqGuardType P.depth t=false∧∀(a b c d:Int) (w:World),(Op.equalIn 10000 t (.agg #[.int .i64 a, .int .i64 b]) (.agg #[.int .i64 c, .int .i64 d])).run P w= .ok (decide (a=c)&&decide (b=d)) w
section
variable {P:Program} {Q:Ks} {K:qa→World→Prop} {ρ:qa} {w w0:World} {σ:Sg} {e:Tr Value} {s s':Sx} {k:Option Nat} {d:Option Nat} {ty:TypeId} {v:Value} {pr:TypeId→Bool}
theorem qxP (n : Iv σ w0 s w) (z : ER σ e ρ) {op : BinOp} {t : TypeId} {x : Operand} (h : qh5 P e s op t x = some (v, s')) (p : Kn σ w0 s' v d K ρ) : qw P Q d (.binOp op t x (.const (.slice none 0 0)) t) ty K ρ w := by
  unfold qh5 at h;split at h
  · rename_i u m;split at h
    · rename_i b a;obtain ⟨c,h⟩:=jh h;cases h;have l:=vP z m;unfold qjC at c;split at c
      · rename_i B j;have key:qn (qd ρ x)=true∧yc (qd ρ x)=b:=by
          generalize qd ρ x=q at l;unfold qlx at a;split at a
          · cases a;cases l with
            |pln y=>cases y
            |slc E A=>exact ⟨by simp [qn];omega,rfl⟩
          · cases a;cases l with
            |pln _=>exact ⟨rfl,rfl⟩
          · cases a
        refine qr1 j key.1 ?_;rw [key.2];exact p σ _ w (Sg.le_refl σ) n (.pln rfl)
      · cases c
    · cases h
  · cases h
theorem qiZ {b:Bool} {u j:Value} (h:qcd b s u j=some (v,s')):∃a c c1 c2,u= .agg #[.int .i64 a, .int .i64 c]∧j= .agg #[.int .i64 c1, .int .i64 c2]∧v= .bool (if b then (decide (a=c1)&&decide (c=c2)) else !(decide (a=c1)&&decide (c=c2)))∧s'=s:=by
  unfold qcd at h;split at h
  · rename_i xs ys;split at h
    · rename_i a c c1 c2 m l;cases h;refine ⟨a,c,c1,c2,by rw [←Array.toList_inj.1 (show xs.toList=(#[.int .i64 a, .int .i64 c]:Array Value).toList from m)],by rw [←Array.toList_inj.1 (show ys.toList=(#[.int .i64 c1, .int .i64 c2]:Array Value).toList from l)], ?_,rfl⟩;cases b<;>rfl
    · cases h
  · cases h
theorem qce {a b:Int} {q:Value} (h:VR σ (.agg #[.int .i64 a, .int .i64 b]) q):q= .agg #[.int .i64 a, .int .i64 b]:=h.uniq (wG (v:= .agg #[.int .i64 a, .int .i64 b]) rfl)
theorem qEf (p : yk P pr) (m : Iv σ w0 s w) (A : ER σ e ρ) {op : BinOp} {t u : TypeId} {x y : Operand} (h : qie P pr e s op t u x y = some (v, s')) (n : Kn σ w0 s' v d K ρ) : qw P Q d (.binOp op t x y u) ty K ρ w := by
  unfold qie at h;cases j:qf8 y with
  |true=>
    rw [j] at h;obtain ⟨c,O⟩:=jh (b:=t==u) h;have c:t=u:=by simpa using c
    subst c;have:y= .const (.slice none 0 0):=by
      unfold qf8 at j;split at j
      · rfl
      · cases j
    subst this;exact qxP m A O n
  |false=>
    rw [j] at h
    replace h:qh1 pr e s op t x y=some (v,s'):=h
    unfold qh1 at h;split at h
    · rename_i a b W S;obtain ⟨R,h⟩:=jh h;obtain ⟨E,B⟩:=p t R;have I:=vP A W;have J:=vP A S;split at h
      · obtain ⟨z,l,c1,c2,rfl,rfl,rfl,rfl⟩:=qiZ h;exact qC9 (qce I) (qce J) E (B z l c1 c2 w) (n σ _ w (Sg.le_refl σ) m (.pln rfl))
      · obtain ⟨z,l,c1,c2,rfl,rfl,rfl,rfl⟩:=qiZ h;exact qC3 (qce I) (qce J) E (B z l c1 c2 w) (n σ _ w (Sg.le_refl σ) m (.pln rfl))
      · cases h
    · cases h
theorem qbZ {α:Type} {xs:Array α} {a b:α} (h:xs.toList=[a,b]):xs= #[a,b]:=Array.toList_inj.1 h
theorem qDO (x:Iv σ w0 s w) (z:ER σ e ρ) {c:Call} (h:qib P e s k c.callee c.args.toList c.argTypes.toList=some (v,s')) (u:Kn σ w0 s' v d K ρ):qw P Q d (.call c) ty K ρ w:=by
  obtain ⟨B,as,A⟩:=c;unfold qib at h;split at h
  · rename_i a b t y j l n;obtain ⟨m,p⟩:=jh h;have m:t=y:=by simpa using m
    subst m;dsimp only at j l n;subst j;rw [qbZ l,qbZ n];exact qEn x z p u
  · rename_i a b t y j l n;obtain ⟨m,p⟩:=jh h;have m:t=y:=by simpa using m
    subst m;dsimp only at j l n;subst j;rw [qbZ l,qbZ n];exact qlA (mx:=true) x z (fun _=>rfl) p u
  · rename_i a b j l;dsimp only at j l;subst j;rw [qbZ l];exact qlA (mx:=false) (t:=0) x z (fun h=>by cases h) h u
  · cases h
theorem qDb (j:yk P pr) (b:Iv σ w0 s w) (c:ER σ e ρ) {op:Op} (h:qbR P pr e s k op=some (v,s')) (a:Kn σ w0 s' v d K ρ):qw P Q d op ty K ρ w:=by
  unfold qbR at h;split at h
  · exact qD9 b c h a
  · exact qxQ b h a
  · exact qud b c h a
  · exact qCD b c h a
  · exact qDX b c h a
  · exact qya b c h a
  · exact qDO b c h a
  · exact qx3 b c h a
  · exact qx2 b h a
  · rename_i t m x ok;cases ok with
    |true=>cases h
    |false=>exact qx7 b c h a
  · exact qto b c h a
  · exact qEf j b c h a
  · cases h
end
end Go.Eng
namespace Go.Eng
open Go.RowKit
theorem qiA {f:Value→Value→Bool} (c:∀a b,f a b=true→a=b):∀{l m:List Value},vV.all2 f l m=true→l=m
  |[],[],_=>rfl
  |a::l,b::m,h=>by
    simp only [vV.all2,Bool.and_eq_true] at h;rw [c a b h.1,qiA c h.2]
  |[],_::_,h=>by simp [vV.all2] at h
  |_::_,[],h=>by simp [vV.all2] at h
theorem qeB {f:Value→Value→Bool} (c:∀a b,f a b=true→a=b) {a b:Array Value} (h:vV.all2 f a.toList b.toList=true):a=b:=Array.toList_inj.1 (qiA c h)
theorem wl:∀(n:Nat) (a b:Value),vV n a b=true→a=b
  |0,_,_,h=>by simp [vV] at h
  | n + 1, a, b, h => by
    unfold vV at h;split at h
    · simpa using h
    · simpa using h
    · rw [Qq.1 h]
    · rfl
    · simpa using h
    · simpa using h
    · simpa [and_assoc] using h
    · simpa using h
    · rfl
    · rfl
    · simp only [Bool.and_eq_true,beq_iff_eq] at h;rw [h.1.1,qeB (wl n) h.1.2,qeB (wl n) h.2]
    · rw [qeB (wl n) h]
    · rw [qeB (wl n) h]
    · simp only [Bool.and_eq_true,beq_iff_eq] at h;rw [h.1,wl n _ _ h.2]
    · cases h
theorem qbu {a b:Ob} (h:QG a b=true):a=b:=by
  unfold QG at h;simp only [Bool.and_eq_true,beq_iff_eq] at h;cases a;cases b;simp only [Ob.mk.injEq];exact ⟨qiA (wl 4) h.1.1.1.1,h.1.1.1.2,h.1.1.2,h.1.2,h.2⟩
theorem Tr.noneB_ok {α:Type}:∀{t:Tr α},t.noneB=true→∀k,t.get k=none
  | .lf,_,_=>rfl
  | .nd none l r,h,k=>by
    simp only [Tr.noneB,Bool.and_eq_true] at h;rw [Tr.get_nd,Tr.noneB_ok h.1,Tr.noneB_ok h.2];simp
  | .nd (some _) _ _,h,k=>by simp [Tr.noneB] at h
theorem Tr.eqB_ok {α:Type} {f:α→α→Bool} (j:∀a b,f a b=true→a=b):∀{t u:Tr α},t.eqB f u=true→∀k,t.get k=u.get k
  | .nd v l r, .nd u m q,h,k=>by
    simp only [Tr.eqB,Bool.and_eq_true] at h;rw [Tr.get_nd,Tr.get_nd,Tr.eqB_ok j h.1.2,Tr.eqB_ok j h.2];have:v=u:=by
      have:=h.1.1;unfold qlk at this;split at this
      · rfl
      · rw [j _ _ this]
      · cases this
    rw [this]
  | .lf,t,h,k=>by
    have c:t.noneB=true:=by cases t<;>exact h
    rw [Tr.noneB_ok c k];rfl
  | .nd v l r, .lf,h,k=>by
    have c:(Tr.nd v l r).noneB=true:=h;rw [Tr.noneB_ok c k];rfl
def xm (σ:Sg) (w0:World) (K:qa→World→Prop) (Q:Ks):Ou→Prop
  | .go e s=>∀τ ρ w,σ.le τ→Iv τ w0 s w→ER τ e ρ→K ρ w
  | .ex i e s=>∀τ ρ w,σ.le τ→Iv τ w0 s w→ER τ e ρ→Q.ex i ρ w
  | .rt e s=>∀τ ρ w,σ.le τ→Iv τ w0 s w→ER τ e ρ→Q.rt ρ w
  | .pn c s=>∀τ ρ w,σ.le τ→Iv τ w0 s w→Q.pn ρ c w
  | .ret _ _=>False
theorem xm.le {σ l:Sg} {w0:World} {K:qa→World→Prop} {Q:Ks} {o:Ou} (h:xm σ w0 K Q o) (j:σ.le l):xm l w0 K Q o:=by
  cases o with
  |go e s=>exact fun b ρ w a=>h b ρ w (Sg.le_trans j a)
  |ex i e s=>exact fun b ρ w a=>h b ρ w (Sg.le_trans j a)
  |rt e s=>exact fun b ρ w a=>h b ρ w (Sg.le_trans j a)
  |pn c s=>exact fun b ρ w a=>h b ρ w (Sg.le_trans j a)
  |ret v s=>exact h
def vK (σ:Sg) (w0:World):Ou→Ending→World→Prop
  | .ret v s=>fun e w=>∃τ v',σ.le τ∧Iv τ w0 s w∧VR τ v v'∧e= .returned v'
  | .pn c s=>fun e w=>∃τ,σ.le τ∧Iv τ w0 s w∧e= .panicked c
  |_=>fun _ _=>False
def Qn (Q:Ks):Prop:=∀ρ ρ' c w,Q.pn ρ c w→Q.pn ρ' c w
def kg (σ:Sg) (L:List Fa) (w:World):Prop:=∀f∈L,∀a',VR σ f.a a'→∃v',qS w f.k a'=some v'∧VR σ f.v v'
def Grd (σ:Sg) (L:List Fa):Prop:=∀f∈L,(∃a',VR σ f.a a')∧∃v',VR σ f.v v'
structure Sound (P:Program) (G0:World→Prop) (r:Sx→Tk→Option Ou):Prop where
  ir:∀F a e s o,r s (.ir F a e)=some o→∀(σ:Sg) (w0:World) (ρ:qa) (w:World) (K:qa→World→Prop) (Q:Ks),G0 w0→Iv σ w0 s w→ER σ e ρ→Qn Q→xm σ w0 K Q o→a.wp ⟨P,F.nt,F.V,[]⟩ K Q ρ w
  sts:∀l e s o,r s (.sts l e)=some o→∀(σ:Sg) (w0:World) (ρ:qa) (w:World) (K:qa→World→Prop) (Q:Ks),G0 w0→Iv σ w0 s w→ER σ e ρ→Qn Q→xm σ w0 K Q o→qU P Q l K ρ w
  ord:∀L bs t e s o,r s (.ord L bs t e)=some o→∀(σ0 σ:Sg) (w0:World) (ρ:qa) (w:World) (K:qa→World→Prop) (Q:Ks) (S:World→Prop),G0 w0→Iv σ w0 s w→ER σ e ρ→Qn Q→xm σ w0 K Q o→σ0.le σ→
    (∀l,L=some l→Grd σ0 l∧kg σ0 l w∧S=kg σ0 l)→t.wp P Q S K ρ w
  call:∀f args s o,r s (.call f args)=some o→∀(σ:Sg) (w0 w:World) (args':List Value),G0 w0→Iv σ w0 s w→ql σ args args'→Calls P f args'.toArray w (vK σ w0 o)
section
variable {P:Program} {G0:World→Prop} {r:Sx→Tk→Option Ou} {σ:Sg} {w0 w:World} {ρ:qa} {e:Tr Value} {s:Sx} {K:qa→World→Prop} {Q:Ks} {o:Ou} {pr:TypeId→Bool}
theorem qbT (j:Sound P G0 r) (p:G0 w0) (t:Qn Q) {l:List St} {d:Option Nat} {v b:Value} (x:ER σ e ρ) (m:Iv σ w0 s w) (u:VR σ v b) (h:qaw r l d e v s=some o) (n:xm σ w0 K Q o):qU P Q l K (qm ρ d b) w:=by
  unfold qaw at h;split at h
  · rename_i c a;exact j.sts l c s o h σ w0 _ w K Q p m (qwA x u a) t n
  · cases h
theorem qDd {d:Option Nat} {ty:TypeId} {c:Operand} {args:Array Operand} {a:Array TypeId} {f:FuncId} {fs cs:Array Value} (h:qg P f=true) (j:qd ρ c= .func (.func f) fs cs) (l:Calls P f (fs++args.map (qd ρ)++cs) w (xP Q d K ρ)):
    qw P Q d (.call {callee:= .value c,args:=args,argTypes:=a}) ty K ρ w:=by
  have key:jY P Q d (.call {callee:= .value c,args:=args,argTypes:=a}) ty K ρ w:=by
    unfold jY;rw [qkb (P:=P) h j];exact l.mono fun e w' m=>by cases e<;>exact m
  cases c with
  |func g=>
    have b:Value.func (.func g) #[] #[]= .func (.func f) fs cs:=j;cases b;refine ⟨h, ?_⟩;simpa using l
  |_=>exact key
theorem quk (hr : Sound P G0 r) (hg : G0 w0) (hq : Qn Q) {l : List St} {d : Option Nat} {ty : TypeId} {c : Operand} {args : Array Operand} {p : Array TypeId} (S : ER σ e ρ) (hI : Iv σ w0 s w) (h : qe9 P r s l d e (vx e c) (yN e args.toList) = some o) (ha : xm σ w0 K Q o) :
    qw P Q d (.call {callee:= .value c,args:=args,argTypes:=p}) ty (qU P Q l K) ρ w:=by
  unfold qe9 at h;split at h
  · rename_i f fs cs vs hc X;obtain ⟨J,h⟩:=jh h;have u:=vP S hc;have Y:=qf0 S X;generalize O:qd ρ c=q at u;cases u with
    |pln h'=>cases h'
    | fnc h1 h2 h3 h4 =>
      rename_i b cs';have B:ql σ fs.toList b.toList:=ql.of (by simpa using h1) fun j x y Z R=>h2 j x y (by simpa using Z) (by simpa using R);have I:ql σ cs.toList cs'.toList:=ql.of (by simpa using h3) fun j x y Z R=>h4 j x y (by simpa using Z) (by simpa using R);unfold qsM at h;have key:∀o1,r s (.call f (fs.toList++(vs++cs.toList)))=some o1→(∀A w',vK σ w0 o1 A w'→xP Q d (qU P Q l K) ρ A w')→qw P Q d (.call {callee:= .value c,args:=args,argTypes:=p}) ty (qU P Q l K) ρ w:=by
        intro o1 W hk;have a:=hr.call _ _ _ _ W σ w0 w (b.toList++(args.toList.map (qd ρ)++cs'.toList)) hg hI (B.app (Y.app I));have t:(b.toList++(args.toList.map (qd ρ)++cs'.toList)).toArray=b++args.map (qd ρ)++cs':=by
          apply Array.toList_inj.1;simp
        rw [t] at a;exact qDd J O (a.mono hk)
      split at h
      · rename_i v s' m;refine key _ m ?_;rintro A w' ⟨τ,v',z,n,E,rfl⟩;exact qbT hr hg hq (S.mono z) n E h (ha.le z)
      · rename_i c1 s' m;cases h;refine key _ m ?_;rintro A w' ⟨τ,z,n,rfl⟩;exact ha τ ρ w' z n
      · cases h
  · cases h
theorem quj (n : yk P pr) (A : Sound P G0 r) (E : G0 w0) (B : Qn Q) {k : Option Nat} {l : List St} {d : Option Nat} {ty : TypeId} {op : Op} (b : ER σ e ρ) (j : Iv σ w0 s w) (h : qe8 P pr r s k l d e op = some o) (z : xm σ w0 K Q o) : qw P Q d op ty (qU P Q l K) ρ w := by
  have eff:∀x,qei r l d e x=some o→(∀v s',x=some (v,s')→qbR P pr e s k op=some (v,s'))→qw P Q d op ty (qU P Q l K) ρ w:=by
    intro x a m;unfold qei at a;split at a
    · rename_i v s';exact qDb n j b (m v s' rfl) fun R X W I p y=>qbT A E B (b.mono I) p y a (z.le I)
    · cases a
  unfold qe8 at h;split at h
  · rename_i x;unfold qjA at h;split at h
    · rename_i v y;split at h
      · rename_i t u;obtain ⟨J,h⟩:=jh h;cases h;have a:=(vP b y).uniq (wG J);exact qhV a (z σ ρ w (Sg.le_refl σ) j)
      · cases h
    · cases h
  · rename_i c;obtain ⟨O,as,S⟩:=c;dsimp only at h;split at h
    · rename_i f;exact quk A E B b j h z
    · exact eff _ h fun v s' a=>a
  · exact eff _ h fun v s' a=>a
theorem qjp (t : yk P pr) (m : Sound P G0 r) (p : G0 w0) (n : Qn Q) {k : Option Nat} {l : List St} (b : ER σ e ρ) (c : Iv σ w0 s w) (h : qaQ P pr r s k e l = some o) (j : xm σ w0 K Q o) : qU P Q l K ρ w := by
  unfold qaQ at h;split at h
  · cases h;exact j σ ρ w (Sg.le_refl σ) c b
  · rename_i g d x l;show (if gd ρ g=true then vG (x.ev ρ w) (fun v=>qU P Q l K (qt ρ d v) w) else qU P Q l K (qt ρ d undef) w);split at h
    · rename_i a;rw [if_pos (qar b a)];unfold qfa at h;split at h
      · rename_i v z;obtain ⟨A,u,y⟩:=xC c.mr b z;rw [u];exact qbT (d:=some d) m p n b c y h j
      · cases h
    · rename_i a;rw [if_neg (by rw [qar b a];decide)];exact qbT (d:=some d) m p n b c Jd h j
    · cases h
  · rename_i g d op ty l;show (if gd ρ g=true then qw P Q d op ty (qU P Q l K) ρ w else qU P Q l K (qm ρ d undef) w);split at h
    · rename_i a;rw [if_pos (qar b a)];exact quj t m p n b c h j
    · rename_i a;rw [if_neg (by rw [qar b a];decide)];exact qbT m p n b c Jd h j
    · cases h
theorem kg.up {l:Sg} {L:List Fa} (h:kg σ L w) (n:Grd σ L) (c:σ.le l):kg l L w:=fun f j a t=>by
  obtain ⟨⟨a0,b⟩,_⟩:=n f j;have:a=a0:=t.uniq (b.mono c);subst this;obtain ⟨p,m,u⟩:=h f j a b;exact ⟨p,m,u.mono c⟩
theorem qbz:MR σ .lf w:=fun i o h=>by cases h
theorem qym {a b:K1} (h:qdn a b=true):a=b:=by
  unfold qdn at h;split at h
  · rfl
  · simpa using h
  · rfl
  · cases h
theorem qrM:∀{L:List Fa} {k:K1} {a v:Value},qd7 L k a=some v→∃f∈L,f.k=k∧f.a=a∧f.v=v
  |[],_,_,_,h=>by cases h
  | f :: l, k, a, v, h => by
    unfold qd7 at h;cases b:(qdn f.k k&&vV 4 f.a a) with
    |true=>
      rw [b] at h;cases h;simp only [Bool.and_eq_true] at b;exact ⟨f,by simp,qym b.1,wl 4 _ _ b.2,rfl⟩
    |false=>
      rw [b] at h;obtain ⟨g,c,j⟩:=qrM h;exact ⟨g,List.mem_cons_of_mem _ c,j⟩
theorem qrU {L : List Fa} (y : kg σ L w) (m : ER σ e ρ) {x : Ex} {v : Value} (h : evF L e x = some v) : ∃ b, x.ev ρ w = some b ∧ VR σ v b := by
  unfold evF at h;split at h
  · rename_i k x;split at h
    · rename_i a B;obtain ⟨z,n,p⟩:=xC (qbz (w:=w)) m B;split at h
      · rename_i u t;cases h;obtain ⟨A,j,c⟩:=qaI (qbz (w:=w)) p t;exact ⟨A,by simp only [Ex.ev,n,Option.bind_some,j],c⟩
      · obtain ⟨f,l,rfl,rfl,rfl⟩:=qrM h;obtain ⟨b,j,c⟩:=y f l z p;exact ⟨b,by simp only [Ex.ev,n,Option.bind_some,j],c⟩
    · cases h
  · exact xC qbz m h
theorem qeS {H : vg} (n : MR σ H w) : ∀ {t : OT} {e : Tr Value} {ρ : qa}, ER σ e ρ → ∀ f ∈ xU H t e, ((∃ j, VR σ f.a j) ∧ ∃ h, VR σ f.v h) ∧ ∀ j, VR σ f.a j → ∃ h, qS w f.k j = some h ∧ VR σ f.v h
  | .take g d ex t, e, ρ, l, f, b => by
    unfold xU at b;split at b
    · split at b
      · rename_i v E;obtain ⟨h,B,p⟩:=xC n l E;rcases List.mem_append.1 b with b|b
        · split at b
          · rename_i k x;split at b
            · rename_i a I;obtain ⟨j,z,u⟩:=xC (qbz (w:=w)) l I;split at b
              · simp at b
              · simp only [List.mem_singleton] at b;subst b;refine ⟨⟨⟨j,u⟩,⟨h,p⟩⟩,fun y m=> ?_⟩;have:y=j:=m.uniq u;subst this;refine ⟨h, ?_,p⟩;simpa only [Ex.ev,z,Option.bind_some] using B
            · simp at b
          · simp at b
        · split at b
          · rename_i A c;exact qeS n (qcw l p c) f b
          · simp at b
      · simp at b
    · split at b
      · rename_i A c;exact qeS n (qcw l Jd c) f b
      · simp at b
    · simp at b
  | .done,_,_,_,f,b=>by simp [xU] at b
  | .step ..,_,_,_,f,b=>by simp [xU] at b
  | .both ..,_,_,_,f,b=>by simp [xU] at b
theorem quF {j:Sg} {L:List Fa} {H:vg} (x:Grd σ L) (m:σ.le j) (t:MR j H w) (h:qfh H L=true):kg σ L w:=fun f c A z=>by
  have b:=List.all_eq_true.1 h f c;split at b
  · rename_i u n;have:=wl 4 _ _ b;subst this;obtain ⟨l,y,p⟩:=qaI t (z.mono m) n;obtain ⟨_,v0,a⟩:=x f c;have:l=v0:=p.uniq (a.mono m);subst this;exact ⟨l,y,a⟩
  · cases b
theorem qCV {l c:Sx} (h:∀k,l.H.get k=c.H.get k) (m:l.nx=c.nx) (n:l.rs=c.rs) (a:Iv σ w0 c w):Iv σ w0 l w:=
  ⟨fun i o b=>a.mr i o (by rw [←h];exact b),by rw [m,n];exact a.dom,by rw [m,n];exact a.res,fun i j z x u t b y=>a.ap i j z x u t (by rw [←h];exact b) (by rw [←h];exact y),a.ext,fun i o p b=>a.own i o p (by rw [←h];exact b)⟩
theorem qxw (hpr : yk P pr) (X : Sound P G0 r) (hg : G0 w0) (Y : Qn Q) {L : Option (List Fa)} {bs : Option Nat} {t : OT} {j : Sg} {S : World → Prop} (z : ER σ e ρ) (hI : Iv σ w0 s w) (h : qfX P pr r s L bs e t = some o) (W : xm σ w0 K Q o) (B : j.le σ)
    (hS:∀l,L=some l→Grd j l∧kg j l w∧S=kg j l):t.wp P Q S K ρ w:=by
  unfold qfX at h;split at h
  · cases h;exact W σ ρ w (Sg.le_refl σ) hI z
  · rename_i g d x t;split at h
    · cases h
    · rename_i l;obtain ⟨p,hfa,u⟩:=hS l rfl;have E:∀v v',VR σ v v'→qc3 r s (some l) bs t e d (some v)=some o→t.wp P Q S K (qt ρ d v') w:=by
        intro v v' I hk;unfold qc3 at hk;dsimp only at hk;split at hk
        · rename_i e' n;exact X.ord _ _ _ _ _ _ hk j σ w0 _ w K Q S hg hI (qcw z I n) Y W B hS
        · cases hk
      show (if gd ρ g=true then vG (x.ev ρ w) (fun v=>(∀w',S w'→x.ev ρ w'=some v)∧t.wp P Q S K (qt ρ d v) w) else t.wp P Q S K (qt ρ d undef) w);split at h
      · rename_i J;rw [if_pos (qar z J)];cases I:evF l e x with
        |none=>rw [I] at h;cases h
        |some v=>
          rw [I] at h;obtain ⟨v',O,h2⟩:=qrU (hfa.up p B) z I;rw [O];refine ⟨fun w' hw'=> ?_,E v v' h2 h⟩;rw [u] at hw';obtain ⟨u',h3,h4⟩:=qrU (hw'.up p B) z I;rw [h3,h4.uniq h2]
      · rename_i J;rw [if_neg (by rw [qar z J];decide)];exact E undef undef Jd h
      · cases h
  · rename_i x b t;show x.wp P Q (fun a w'=>(b=true→S w')∧t.wp P Q S K a w') ρ w;have go:∀o1,qaQ P pr r s (qls bs x) e [x]=some o1→xm σ w0 (fun a w'=>(b=true→S w')∧t.wp P Q S K a w') Q o1→x.wp P Q (fun a w'=>(b=true→S w')∧t.wp P Q S K a w') ρ w:=fun o1 O h2=>qjp hpr X hg Y z hI O h2;unfold qli at h;split at h
    · rename_i e' s' O;refine go _ O fun Z a w' A m n=> ?_;cases b with
      |true=>
        cases L with
        |none=>cases h
        |some l=>
          obtain ⟨p,hfa,u⟩:=hS l rfl;obtain ⟨hsm,h⟩:=jh (b:=qfh s'.H l) h;have hf2:=quF p (Sg.le_trans B A) m.mr hsm;exact ⟨fun _=>by rw [u];exact hf2,X.ord _ _ _ _ _ _ h j Z w0 _ w' K Q S hg m n Y (W.le A) (Sg.le_trans B A) fun l' R=>by cases R;exact ⟨p,hf2,u⟩⟩
      |false=>
        exact ⟨(fun hb=>by cases hb),X.ord _ _ _ _ _ _ h j Z w0 _ w' K Q S hg m n Y (W.le A) (Sg.le_trans B A) (fun l' R=>by cases R)⟩
    · rename_i c s' O;cases h;exact go _ O fun Z a w' A m=>W Z a w' A m
    · cases h
  · rename_i x y;unfold qsA at h;split at h
    · rename_i e1 s1 e2 s2 hx hy;obtain ⟨hc,h⟩:=jh h;cases h;simp only [Bool.and_eq_true,beq_iff_eq] at hc;obtain ⟨⟨⟨c1,c2⟩,c3⟩,c4⟩:=hc;have g1:=Tr.eqB_ok (wl 4) c1;have g2:=Tr.eqB_ok (fun _ _ h=>qbu h) c2;refine ⟨X.ord _ _ _ _ _ _ hx j σ w0 ρ w K Q S hg hI z Y W B hS,X.ord _ _ _ _ _ _ hy j σ w0 ρ w K Q S hg hI z Y ?_ B hS⟩;exact fun Z a w' A m n=>W Z a w' A (qCV g2 (Nat.eq_of_beq_eq_true c3) c4 m) fun i v I=>n i v (by rw [←g1];exact I)
    · cases h
end
end Go.Eng
namespace Go.Eng
open Go.RowKit
theorem qyd {p:Nat→Prop}:∀n,p n→∃m,p m∧∀k,p k→m≤k:=by
  intro n
  induction n using Nat.strongRecOn with
  | _ n l =>
    intro j;by_cases h:∃k,k<n∧p k
    · obtain ⟨k,a,c⟩:=h;exact l k a c
    · exact ⟨n,j,fun k a=>Nat.le_of_not_lt fun b=>h ⟨k,b,a⟩⟩
section
variable {cx:Cx} {K:qa→World→Prop} {Q:Ks} {ρ:qa} {w:World}
theorem qlG (I:Nat→qa→World→Prop) (y:Nat) {a:IR} (E:I y ρ w) (h:∀m b w',I m b w'→a.wp cx (fun c j=>∃n,n<m∧I n c j) Q b w'):(IR.loop a).wp cx K Q ρ w:=by
  have R:∀b w',∃m,(∃k,I k b w')→I m b w'∧∀k,I k b w'→m≤k:=fun b w'=>by
    by_cases z:∃k,I k b w'
    · obtain ⟨k,J⟩:=z;obtain ⟨m,u⟩:=qyd (p:=fun k=>I k b w') k J;exact ⟨m,fun _=>u⟩
    · exact ⟨0,fun h=>absurd h z⟩
  obtain ⟨μ,t⟩:∃μ:qa→World→Nat,∀b w',(∃k,I k b w')→I (μ b w') b w'∧∀k,I k b w'→μ b w'≤k:=by
    obtain ⟨f,B⟩:=Classical.axiomOfChoice (r:=fun (x:qa×World) m=>(∃k,I k x.1 x.2)→I m x.1 x.2∧∀k,I k x.1 x.2→m≤k) fun x=>R x.1 x.2;exact ⟨fun b w'=>f (b,w'),fun b w'=>B (b,w')⟩
  refine QJ (fun b w'=>∃k,I k b w') μ ⟨y,E⟩ fun b w' A=> ?_;obtain ⟨O,_⟩:=t b w' A;refine IR.wp_mono (h _ b w' O) ?_ (fun _ _ _ h=>h) (fun _ _ h=>h) (fun _ _ _ h=>h) (fun h=>h) ⟨fun h=>h,fun h=>h⟩;rintro c j ⟨n,u,l⟩;exact ⟨⟨n,l⟩,Nat.lt_of_le_of_lt ((t c j ⟨n,l⟩).2 n l) u⟩
end
end Go.Eng
namespace Go.Eng
open Go.RowKit
def qeG (P:Program) (G0:World→Prop) (prim:qaG):Prop:=∀f args s v s',prim f args s=some (v,s')→∀(σ:Sg) (w0 w:World) (args':List Value),G0 w0→Iv σ w0 s w→ql σ args args'→Calls P f args'.toArray w (vK σ w0 (.ret v s'))
def qiB (P:Program) (G0:World→Prop) (tr:Option TrP):Prop:=∀q,tr=some q→∀r,Sound P G0 r→∀s args o,qeN P r s q args=some o→∀(σ:Sg) (w0 w:World) (args':List Value),G0 w0→Iv σ w0 s w→ql σ args args'→Calls P q.f args'.toArray w (vK σ w0 o)
section
variable {P:Program} {G0:World→Prop} {r:Sx→Tk→Option Ou} {σ:Sg} {w0 w:World} {ρ:qa} {e:Tr Value} {s:Sx} {K:qa→World→Prop} {Q:Ks} {o:Ou} {pr:TypeId→Bool} {prim:qaG} {tr:Option TrP} {sk:FuncId→Nat→List Nat}
theorem qxE (c:Iv σ w0 s w) (b:ER σ e ρ) {rv:RV} {v:Value} (h:qf4 s.H e rv=some v):∃j,rv.val ρ w=some j∧VR σ v j:=by
  unfold qf4 at h;split at h
  · exact ⟨_,rfl,b _ _ h⟩
  · split at h
    · rename_i u a;exact qaI c.mr (b _ _ a) h
    · cases h
  · split at h
    · rename_i u a;exact qaI c.mr (b _ _ a) h
    · cases h
theorem qkx (j:Iv σ w0 s w) (l:ER σ e ρ):∀{rs:List RV} {vs:List Value},qcI s.H e rs=some vs→∃a,vC ρ w rs=some a∧ql σ vs a
  |[],vs,h=>by cases h;exact ⟨[],rfl,trivial⟩
  | r :: rs, vs, h => by
    unfold qcI at h;split at h
    · rename_i v y x b;cases h;obtain ⟨p,m,t⟩:=qxE j l x;obtain ⟨c,u,n⟩:=qkx j l b;exact ⟨p::c,by simp only [vC,m,Option.bind_some,u,Option.map_some],t,n⟩
    · cases h
theorem qtw:∀{vs j:List Value},ql σ vs j→VR σ (wq vs) (wq j)
  |[],[],_=> .tup rfl fun i x y h=>by simp at h
  |[_],[_],h=>h.1
  |a::b::l,c::d::m,h=>by
    obtain ⟨n,p⟩:=ql.arr (cs:=(a::b::l).toArray) (ds:=(c::d::m).toArray) (by simpa using h);exact .tup n p
  |[],_::_,h=>h.elim
  |_::_,[],h=>h.elim
  |[_],_::_::_,h=>h.2.elim
  |_::_::_,[_],h=>h.2.elim
theorem qsT:∀(l:List Value) (k:Nat) (e:Tr Value),k+l.length≤vj→∀i,(Q3 l k e).get i=if k≤i∧i<k+l.length then l[i - k]? else e.get i
  |[],k,e,_,i=>by
    rw [if_neg (by simp only [List.length_nil];omega)];rfl
  | v :: l, k, e, h, i => by
    simp only [List.length_cons] at h;show (Q3 l (k+1) (e.set k v)).get i=_;rw [qsT l (k+1) _ (by omega) i,Tr.get_set _ _ (by omega)];by_cases a:k+1≤i∧i<k+1+l.length
    · rw [if_pos a,if_pos (by simp;omega),show i - k=(i - (k+1))+1 by omega];simp
    · rw [if_neg a];by_cases b:i=k
      · subst b;simp
      · rw [if_neg b,if_neg (by simp;omega)]
theorem qsB (hr : Sound P G0 r) (hg : G0 w0) {f : FuncId} {args a : List Value} (hI : Iv σ w0 s w) (hv : ql σ args a) (h : qes r s args (fnX P f) = some o) : Calls P f a.toArray w (vK σ w0 o) := by
  unfold qes at h;split at h
  · rename_i F j;obtain ⟨Y,h⟩:=jh h;simp only [Bool.and_eq_true,Nat.ble_eq,Nat.blt_eq] at Y;unfold fnX at j;split at j
    · cases j
    · rename_i fn y;split at j
      · cases j
      · rename_i c hb;split at j
        · rename_i ir rs b A;rw [qDy] at b;obtain ⟨n,j⟩:=jh j;cases j;simp only [Nat.ble_eq] at n;dsimp only at Y;have Z:xu fn (List.range fn.ntmps)=true:=by
            simp only [xu,Bool.and_eq_true,decide_eq_true_eq,List.all_eq_true];exact ⟨n,fun x hx=>List.mem_range.1 hx⟩
          have hlen:=hv.len;have t:a.toArray.size≤fn.ntmps:=by simp;omega
          have J:ER σ (Q3 args 0 .lf) (xX (List.range fn.ntmps) a.toArray):=by
            intro i v z;rw [qsT args 0 _ (by omega)] at z;split at z
            · rename_i hi2;rw [Nat.sub_zero] at z;obtain ⟨v',O,X⟩:=hv.get i v z;have:xX (List.range fn.ntmps) a.toArray i=v':=by
                unfold xX;rw [if_neg (by unfold gS;omega),if_pos (List.mem_range.2 (by omega))];simp [O]
              rw [this];exact X
            · cases z
          have hQ:∀R:Ending→World→Prop,Qn (je rs R):=fun R _ _ _ _ h=>h;have p:∀(R:Ending→World→Prop),(∀o1,r s (.ir ⟨f,fn.ntmps,List.range fn.ntmps,ir,rs⟩ ir (Q3 args 0 .lf))=some o1→xm σ w0 (qC rs R) (je rs R) o1)→ir.norm.wp ⟨P,fn.ntmps,List.range fn.ntmps,[]⟩ (qC rs R) (je rs R) (xX (List.range fn.ntmps) a.toArray) w:=by
            intro R hR;rw [IR.norm_wp];cases E:r s (.ir ⟨f,fn.ntmps,List.range fn.ntmps,ir,rs⟩ ir (Q3 args 0 .lf)) with
            |none=>unfold qge at h;rw [E] at h;cases h
            |some o1=>exact hr.ir _ _ _ _ _ E σ w0 _ w _ _ hg hI J (hQ R) (hR o1 E)
          have fin:ir.norm.wp ⟨P,fn.ntmps,List.range fn.ntmps,[]⟩ (qC rs (vK σ w0 o)) (je rs (vK σ w0 o)) (xX (List.range fn.ntmps) a.toArray) w:=by
            refine p _ fun o1 E=> ?_;unfold qge at h;rw [E] at h;have B:∀e s',qea rs e s'=some o→∀m ρ w,σ.le m→Iv m w0 s' w→ER m e ρ→qC rs (vK σ w0 o) ρ w:=by
              intro e s' I m ρ w W l u;unfold qea at I;split at I
              · rename_i vs S;cases I;obtain ⟨vs',O,X⟩:=qkx l u S;unfold qC;rw [O];exact ⟨m,_,W,l,qtw X,rfl⟩
              · cases I
            cases o1 with
            |go e s'=>exact B e s' h
            |rt e s'=>exact B e s' h
            |pn c s'=>
              cases h;exact fun m ρ w W l=>⟨m,W,l,rfl⟩
            |ex i e s'=>cases h
            |ret v s'=>cases h
          cases c with
          |scope c'=>exact qsp y hb b rfl Z A t fin
          |_=>exact qsr y hb b rfl Z A t fin
        · cases j
  · cases h
theorem qDP (t : qeG P G0 prim) (p : qiB P G0 tr) (m : Sound P G0 r) (c : G0 w0) {f : FuncId} {args a : List Value} (b : Iv σ w0 s w) (j : ql σ args a) (h : qit P prim tr r s f args = some o) : Calls P f a.toArray w (vK σ w0 o) := by
  unfold qit at h;split at h
  · rename_i v s' n;cases h;exact t f args s v s' n σ w0 w a c b j
  · split at h
    · rename_i q;cases l:Nat.beq q.f f with
      |true=>
        rw [l] at h;have:=p q rfl r m s args o h σ w0 w a c b j
        rwa [Nat.eq_of_beq_eq_true l] at this
      |false=>
        rw [l] at h;exact qsB m c b j h
    · exact qsB m c b j h
theorem qv6 (Y : yk P pr) (O : Sound P G0 r) (S : G0 w0) (R : Qn Q) {F : Fx} {id : Nat} {ops : Array Oper} (J : ER σ e ρ) (X : Iv σ w0 s w) (h : qfD r s F e (qc2 P F.nt F.V (sk F.f id) (qjd ops) (.region id ops true)) = some o) (ha : xm σ w0 K Q o) :
    (IR.raw (.region id ops true)).wp ⟨P,F.nt,F.V,[]⟩ K Q ρ w:=by
  unfold qfD at h;split at h
  · rename_i t W;have hpn:∀d∈t.takes,∀(ρ:qa) v c w,Q.pn (qt ρ d v) c w→Q.pn ρ c w:=fun _ _ _ _ _ _ h=>R _ _ _ _ h;have n:Qn Q.noRd:=R;have m:xm σ w0 K Q.noRd o:=by cases o<;>exact ha
    refine qv4 (cx:=⟨P,F.nt,F.V,[]⟩) W (kg σ (xU s.H t e)) (fun w' Z hh=> ?_) hpn;have a:=X.toExt Z;have x:=qeS (H:=s.H) a.mr (t:=t) J;have I:Grd σ (xU s.H t e):=fun f B=>(x f B).1;have u:kg σ (xU s.H t e) w':=fun f B=>(x f B).2;refine ⟨u, ?_⟩;have j:∀l,some (xU s.H t e)=some l→Grd σ l∧kg σ l w'∧kg σ (xU s.H t e)=kg σ l:=fun l hl=>by cases hl;exact ⟨I,u,rfl⟩
    cases z:(qer t&&(y9 t).all (fun d=>Nat.blt d F.nt)) with
    |true=>
      rw [z] at h;simp only [Bool.and_eq_true] at z;have A:∀d∈y9 t,d<F.nt:=fun d y=>by simpa [Nat.blt_eq] using List.all_eq_true.1 z.2 d y
      refine O.ord _ _ _ _ _ _ h σ σ w0 ρ w' K Q.noRd _ S ?_ J n m (Sg.le_refl σ) j;refine ⟨a.mr,fun i p E=> ?_,fun i E=> ?_,a.ap,a.ext,a.own⟩
      · have:=a.dom i p E;refine ⟨by dsimp only;omega,fun b=> ?_⟩;rcases List.mem_append.1 b with b|b
        · exact this.2 b
        · obtain ⟨d,_,y⟩:=List.mem_map.1 b;omega
      · rcases List.mem_append.1 E with b|b
        · have:=a.res i b;dsimp only;omega
        · obtain ⟨d,y,rfl⟩:=List.mem_map.1 b;have:=A d y;dsimp only;omega
    |false=>
      rw [z] at h;exact O.ord _ _ _ _ _ _ h σ σ w0 ρ w' K Q.noRd _ S a J n m (Sg.le_refl σ) j
  · cases h
theorem qyz (R : yk P pr) (y : Sound P G0 r) (A : G0 w0) (z : Qn Q) {F : Fx} {a : IR} (x : ∀ b, a = .loop b → (IR.loop b).wp ⟨P, F.nt, F.V, []⟩ K Q ρ w) (p : ER σ e ρ) (n : Iv σ w0 s w) (h : irX P sk r s F e a = some o) (l : xm σ w0 K Q o) : a.wp ⟨P, F.nt, F.V, []⟩ K Q ρ w := by
  unfold irX at h;split at h
  · cases h;exact l σ ρ w (Sg.le_refl σ) n p
  · exact y.sts _ _ _ _ h σ w0 ρ w K Q A n p z l
  · cases h
  · rename_i a b;have go:∀o1,r s (.ir F a e)=some o1→xm σ w0 (fun m w'=>b.wp ⟨P,F.nt,F.V,[]⟩ K Q m w') Q o1→(IR.seq a b).wp ⟨P,F.nt,F.V,[]⟩ K Q ρ w:=fun o1 S W=>y.ir _ _ _ _ _ S σ w0 ρ w _ Q A n p z W;cases E:r s (.ir F a e) with
    |none=>rw [E] at h;cases h
    |some o1=>
      rw [E] at h;refine go o1 E ?_;cases o1 with
      |go B s'=>exact fun I m w' O u t=>y.ir _ _ _ _ _ h I w0 m w' K Q A u t z (l.le O)
      |ex i B s'=>cases h;exact l
      |rt B s'=>cases h;exact l
      |pn c s'=>cases h;exact l
      |ret v s'=>cases h;exact l
  · rename_i c a b;show yi (c.ev ρ w) _ _;unfold qsi at h;split at h
    · rename_i Y X;obtain ⟨Z,S,W⟩:=xC n.mr p X;rw [S];cases W;cases Y with
      |true=>exact y.ir _ _ _ _ _ h σ w0 ρ w K Q A n p z l
      |false=>exact y.ir _ _ _ _ _ h σ w0 ρ w K Q A n p z l
    · cases h
  · rename_i i a;cases E:r s (.ir F a e) with
    |none=>rw [E] at h;cases h
    |some o1=>
      rw [E] at h;refine y.ir _ _ _ _ _ E σ w0 ρ w K _ A n p (fun ρ m c w=>z ρ m c w) ?_;cases o1 with
      |go B s'=>cases h;exact l
      |ex j B s'=>
        intro I m w' O u t;dsimp only
        replace h:(bif Nat.beq j i then some (Ou.go B s') else some (Ou.ex j B s'))=some o:=h
        cases J:Nat.beq j i with
        |true=>
          rw [J] at h;cases h;rw [if_pos (Nat.eq_of_beq_eq_true J)];exact l I m w' O u t
        |false=>
          rw [J] at h;cases h;rw [if_neg (fun e=>by subst e;simp at J)];exact l I m w' O u t
      |rt B s'=>cases h;exact l
      |pn c s'=>cases h;exact l
      |ret v s'=>cases h;exact l
  · exact x _ rfl
  · cases h;exact l σ ρ w (Sg.le_refl σ) n p
  · cases h;exact l σ ρ w (Sg.le_refl σ) n p
  · split at h
    · cases h;exact qkz (l σ ρ w (Sg.le_refl σ) n p)
    · exact qv6 R y A z p n h l
    · cases h
theorem qj0 (z : yk P pr) (hp : qeG P G0 prim) (ht : qiB P G0 tr) : ∀ n, Sound P G0 (kn P prim tr sk pr n) := by
  intro n
  induction n using Nat.strongRecOn with
  | _ n ih =>
    cases n with
    |zero=>exact ⟨fun _ _ _ _ _ h=>by simp [kn] at h,fun _ _ _ _ h=>by simp [kn] at h,fun _ _ _ _ _ _ h=>by simp [kn] at h,fun _ _ _ _ h=>by simp [kn] at h⟩
    |succ n=>
      have W:=ih n (Nat.lt_succ_self n);refine ⟨fun F a e s o h σ w0 ρ w K Q y u E B I=> ?_,fun l e s o h σ w0 ρ w K Q y u E B I=>qjp z W y B E u h I,fun L bs t e s o h σ0 σ w0 ρ w K Q S y u E B I h0 hS=>qxw z W y B E u h I h0 hS,fun f args s o h σ w0 w args' y u hv=>qDP hp ht W y u hv h⟩;refine qyz (sk:=sk) z W y B (fun b hb=> ?_) E u h I;subst hb;refine qlG (fun m A w'=>m≤n+1∧∃J R s',kn P prim tr sk pr m s' (.ir F (.loop b) R)=some o∧σ.le J∧Iv J w0 s' w'∧ER J R A) (n+1) ⟨Nat.le_refl _,σ,e,s,h,Sg.le_refl σ,u,E⟩ fun m A w' hm=> ?_;obtain ⟨hmn,J,R,s',x,hl,hI',X⟩:=hm;cases m with
      |zero=>simp [kn] at x
      |succ m=>
        have Y:=ih m (by omega);have j:qfd (kn P prim tr sk pr m) F (.loop b) (kn P prim tr sk pr m s' (.ir F b R))=some o:=x;cases Z:kn P prim tr sk pr m s' (.ir F b R) with
        |none=>rw [Z] at j;cases j
        |some o1=>
          rw [Z] at j;refine Y.ir _ _ _ _ _ Z J w0 A w' _ Q y hI' X B ?_;have p:=I.le hl;cases o1 with
          |go e2 O=>exact fun υ ρ2 w2 hl2 hI2 he2=>⟨m,Nat.lt_succ_self m,by omega,υ,e2,O,j,Sg.le_trans hl hl2,hI2,he2⟩
          |ex i e2 O=>cases j;exact p
          |rt e2 O=>cases j;exact p
          |pn c O=>cases j;exact p
          |ret v O=>cases j;exact p
end
end Go.Eng
namespace Go.Eng
open Go.RowKit
theorem Ex.ev_ext {w w':World} (h:qb w w') {ρ:qa}:∀(e:Ex) {v:Value},e.ev ρ w=some v→e.ev ρ w'=some v
  | .var _,_,j=>j
  | .const _,_,j=>j
  | .op1 k x,v,j=>by
    simp only [Ex.ev,Option.bind_eq_some_iff] at j⊢;obtain ⟨a,m,l⟩:=j;exact ⟨a,Ex.ev_ext h x m,qkN h l⟩
  | .op2 k x y,v,j=>by
    simp only [Ex.ev,Option.bind_eq_some_iff] at j⊢;obtain ⟨a,m,b,n,l⟩:=j;exact ⟨a,Ex.ev_ext h x m,b,Ex.ev_ext h y n,l⟩
  | .op3 k x y z,v,j=>by
    simp only [Ex.ev,Option.bind_eq_some_iff] at j⊢;obtain ⟨a,m,b,n,c,p,l⟩:=j;exact ⟨a,Ex.ev_ext h x m,b,Ex.ev_ext h y n,c,Ex.ev_ext h z p,l⟩
  | .op4 k x y z u,v,j=>by
    simp only [Ex.ev,Option.bind_eq_some_iff] at j⊢;obtain ⟨a,m,b,n,c,p,d,t,l⟩:=j;exact ⟨a,Ex.ev_ext h x m,b,Ex.ev_ext h y n,c,Ex.ev_ext h z p,d,Ex.ev_ext h u t,l⟩
  | .ite c x y,v,j=>by
    simp only [Ex.ev,Option.bind_eq_some_iff] at j⊢;obtain ⟨a,m,l⟩:=j;refine ⟨a,Ex.ev_ext h c m, ?_⟩;unfold QD at l⊢;split at l
    · exact Ex.ev_ext h x l
    · exact Ex.ev_ext h y l
    · cases l
def Pu (P:Program) (w0:World) (f:FuncId) (args:Array Value) (v:Value):Prop:=qg P f=true∧∀w,qb w0 w→Calls P f args w fun e w'=>e= .returned v∧qb w w'
abbrev xQ:=FuncId→List Value→Option Value
def qbt (C:xQ) (ρ:qa):Op→Option Value
  | .call {callee:= .value (.func f),args, .. }=>C f (args.toList.map (qd ρ))
  |_=>none
def QI (C:xQ) (w0:World):St→(qa→Prop)→qa→Prop
  | .asg g d e,K,ρ=>if gd ρ g then vG (e.ev ρ w0) (fun v=>K (qt ρ d v)) else K (qt ρ d undef)
  | .eff g dst op _,K,ρ=>if gd ρ g then vG (qbt C ρ op) (fun v=>K (qm ρ dst v)) else K (qm ρ dst undef)
def mw (C:xQ) (w0:World):List St→(qa→Prop)→qa→Prop
  |[],K,ρ=>K ρ
  |s::r,K,ρ=>QI C w0 s (mw C w0 r K) ρ
structure Kp where
  ex:Nat→qa→Prop
  rt:qa→Prop
def Kp.blk (Q:Kp) (i:Nat) (K:qa→Prop):Kp:={Q with ex:=fun j=>if j=i then K else Q.ex j}
def IR.mi (C:xQ) (w0:World):IR→(qa→Prop)→Kp→qa→Prop
  | .skip,K,_,ρ=>K ρ
  | .reg l,K,_,ρ=>mw C w0 l K ρ
  | .drw l,K,_,ρ=>mw C w0 l K ρ
  | .seq a b,K,Q,ρ=>a.mi C w0 (fun ρ'=>b.mi C w0 K Q ρ') Q ρ
  | .cond c a b,K,Q,ρ=>yi (c.ev ρ w0) (a.mi C w0 K Q ρ) (b.mi C w0 K Q ρ)
  | .block id a,K,Q,ρ=>a.mi C w0 K (Q.blk id K) ρ
  | .loop a,_,Q,ρ=>∃(I:qa→Prop) (μ:qa→Nat),I ρ∧∀ρ',I ρ'→a.mi C w0 (fun ρ''=>I ρ''∧μ ρ''<μ ρ') Q ρ'
  | .exit id,_,Q,ρ=>Q.ex id ρ
  | .ret,_,Q,ρ=>Q.rt ρ
  | .raw _,_,_,_=>False
section
variable {P:Program} {C:xQ} {w0:World}
def Qg (P:Program) (C:xQ) (w0:World):Prop:=∀f l v,C f l=some v→Pu P w0 f l.toArray v
theorem qbx (m : Qg P C w0) {Q : Ks} : ∀ (l : List St) {K : qa → Prop} {K' : qa → World → Prop} {ρ : qa} {w : World}, qb w0 w → (∀ n w', qb w0 w' → K n → K' n w') → mw C w0 l K ρ → qU P Q l K' ρ w
  |[],_,_,_,_,b,c,h=>c _ _ b h
  | .asg g d e::r,K,K',ρ,w,b,c,h=>by
    simp only [qU,St.wp,mw,QI] at h⊢;split
    · rename_i j;rw [if_pos j] at h;cases a:e.ev ρ w0 with
      |none=>rw [a] at h;exact h.elim
      |some v=>
        rw [a] at h;rw [Ex.ev_ext b e a];exact qbx m r b c h
    · rename_i j;rw [if_neg j] at h;exact qbx m r b c h
  | .eff g dst op ty::r,K,K',ρ,w,b,c,h=>by
    simp only [qU,St.wp,mw,QI] at h⊢;split
    · rename_i j;rw [if_pos j] at h;cases a:qbt C ρ op with
      |none=>rw [a] at h;exact h.elim
      |some v=>
        rw [a] at h;unfold qbt at a;split at a
        · rename_i f args y;obtain ⟨x,u⟩:=m _ _ _ a;simp only [qDe];refine ⟨x, ?_⟩;have t:(args.toList.map (qd ρ)).toArray=args.map (qd ρ):=Array.ext' (by rw [Array.toList_map]);rw [←t];refine (u w b).mono ?_;rintro _ w' ⟨rfl,p⟩;exact qbx m r (b.trans' p) c h
        · cases a
    · rename_i j;rw [if_neg j] at h;exact qbx m r b c h
theorem qby (m : Qg P C w0) : ∀ (l : List St) {K K' : qa → Prop} {ρ : qa} {w : World}, qb w0 w → (∀ n, K n → K' n) → mw C w0 l K ρ → jb P w l K' ρ
  |[],_,_,_,_,b,c,h=>c _ h
  | .asg g d e::r,K,K',ρ,w,b,c,h=>by
    simp only [jb,mw,QI] at h⊢;split
    · rename_i j;rw [if_pos j] at h;cases a:e.ev ρ w0 with
      |none=>rw [a] at h;exact h.elim
      |some v=>
        rw [a] at h;rw [Ex.ev_ext b e a];exact qby m r b c h
    · rename_i j;rw [if_neg j] at h;exact qby m r b c h
  | .eff g dst op ty::r,K,K',ρ,w,b,c,h=>by
    simp only [jb,mw,QI] at h⊢;split
    · rename_i j;rw [if_pos j] at h;cases a:qbt C ρ op with
      |none=>rw [a] at h;exact h.elim
      |some v=>
        rw [a] at h;refine ⟨v, ?_,qby m r b c h⟩;unfold qbt at a;split at a
        · rename_i f args A;obtain ⟨z,y⟩:=m _ _ _ a;refine ⟨z,fun u p=> ?_⟩;have x:(args.toList.map (qd ρ)).toArray=args.map (qd ρ):=Array.ext' (by rw [Array.toList_map]);rw [←x];refine (y u (b.trans' p)).mono ?_;rintro _ w' ⟨rfl,t⟩;exact ⟨rfl,p.trans' t⟩
        · cases a
    · rename_i j;rw [if_neg j] at h;exact qby m r b c h
theorem yQ {cx:Cx} (x:Qg cx.P C w0):∀(a:IR) {K:qa→Prop} {K':qa→World→Prop} {Q:Kp} {Q':Ks} {ρ:qa} {w:World},qb w0 w→(∀j w',qb w0 w'→K j→K' j w')→
    (∀i j w',qb w0 w'→Q.ex i j→Q'.ex i j w')→(∀j w',qb w0 w'→Q.rt j→Q'.rt j w')→a.mi C w0 K Q ρ→a.wp cx K' Q' ρ w
  | .skip,_,_,_,_,_,_,m,p,_,_,h=>p _ _ m h
  | .reg l,_,_,_,_,_,_,m,p,_,_,h=>qbx x l m p h
  | .drw l,_,_,_,_,_,_,m,p,_,_,h=>qby x l m (fun j B w' n=>p _ _ (m.trans' n) B) h
  | .seq a b,_,_,_,_,_,_,m,p,u,t,h=>yQ x a m (fun _ _ n B=>yQ x b n p u t B) u t h
  | .cond c a b,K,K',Q,Q',ρ,w,m,p,u,t,h=>by
    simp only [IR.mi] at h;simp only [IR.wp];cases A:c.ev ρ w0 with
    |none=>rw [A] at h;exact h.elim
    |some v=>
      rw [A] at h;rw [Ex.ev_ext m c A];exact qil (fun h=>yQ x a m p u t h) (fun h=>yQ x b m p u t h) h
  | .block id a,K,K',Q,Q',ρ,w,m,p,u,t,h=>by
    simp only [IR.mi] at h;simp only [IR.wp];refine yQ x a (Q:=Q.blk id K) m p (fun i j w' n y=> ?_) t h;simp only [Kp.blk] at y;show (if i=id then K' else Q'.ex i) j w';split
    · rename_i e;rw [if_pos e] at y;exact p _ _ n y
    · rename_i e;rw [if_neg e] at y;exact u _ _ _ n y
  | .loop a,K,K',Q,Q',ρ,w,m,p,u,t,h=>by
    obtain ⟨I,μ,O,W⟩:=h;exact ⟨fun j w'=>I j∧qb w0 w',fun j _=>μ j,⟨O,m⟩,fun j w' ⟨J,n⟩=>yQ x a n (fun E R z ⟨S,X⟩=>⟨⟨S,z⟩,X⟩) u t (W j J)⟩
  | .exit id,_,_,_,_,_,_,m,_,u,_,h=>u _ _ _ m h
  | .ret,_,_,_,_,_,_,m,_,_,t,h=>t _ _ m h
end
section
variable {C:xQ} {w0:World} {K:qa→Prop} {Q:Kp} {ρ:qa}
@[simp] theorem qFN {a b:IR}:(IR.seq a b).mi C w0 K Q ρ=a.mi C w0 (b.mi C w0 K Q) Q ρ:=rfl
@[simp] theorem qFP {l:List St}:(IR.reg l).mi C w0 K Q ρ=mw C w0 l K ρ:=rfl
@[simp] theorem qFR {l:List St}:(IR.drw l).mi C w0 K Q ρ=mw C w0 l K ρ:=rfl
@[simp] theorem qFM:IR.skip.mi C w0 K Q ρ=K ρ:=rfl
@[simp] theorem qFQ {i:Nat}:(IR.exit i).mi C w0 K Q ρ=Q.ex i ρ:=rfl
@[simp] theorem qFO:IR.ret.mi C w0 K Q ρ=Q.rt ρ:=rfl
@[simp] theorem qFT {i:Nat} {a:IR}:(IR.block i a).mi C w0 K Q ρ=a.mi C w0 K (Q.blk i K) ρ:=rfl
def mA (g:Bool) (o:Option Value) (d:Option Nat) (C:xQ) (w0:World) (r:List St) (K:qa→Prop) (ρ:qa):Prop:=if g then vG o (fun v=>mw C w0 r K (qm ρ d v)) else mw C w0 r K (qm ρ d undef)
def mC (o:Option Value) (a b:IR) (C:xQ) (w0:World) (K:qa→Prop) (Q:Kp) (ρ:qa):Prop:=yi o (a.mi C w0 K Q ρ) (b.mi C w0 K Q ρ)
@[simp] theorem qFW {d:Option Nat} {v:Value} {r:List St}:mA true (some v) d C w0 r K ρ=mw C w0 r K (qm ρ d v):=rfl
@[simp] theorem qFX {d:Option Nat} {o:Option Value} {r:List St}:mA false o d C w0 r K ρ=mw C w0 r K (qm ρ d undef):=rfl
theorem qx5 {b:Bool} {d:Option Nat} {o:Option Value} {r:List St} (a:b=true→mA true o d C w0 r K ρ) (c:b=false→mw C w0 r K (qm ρ d undef)):mA b o d C w0 r K ρ:=by
  cases b
  · exact c rfl
  · exact a rfl
theorem qgc {b:Bool} {d:Option Nat} {v:Value} {r:List St} (a:b=true→mw C w0 r K (qm ρ d v)) (c:b=false→mw C w0 r K (qm ρ d undef)):mA b (some v) d C w0 r K ρ:=qx5 a c
theorem qgb {c:Bool} {a b:IR} (h:c=true→a.mi C w0 K Q ρ) (j:c=false→b.mi C w0 K Q ρ):mC (some (.bool c)) a b C w0 K Q ρ:=by
  cases c
  · exact j rfl
  · exact h rfl
@[simp] theorem qFU {a b:IR}:mC (some (.bool true)) a b C w0 K Q ρ=a.mi C w0 K Q ρ:=rfl
@[simp] theorem qFV {a b:IR}:mC (some (.bool false)) a b C w0 K Q ρ=b.mi C w0 K Q ρ:=rfl
theorem qx4 {a b:IR} {c:Bool}:mC (some (.bool c)) a b C w0 K Q ρ=if c then a.mi C w0 K Q ρ else b.mi C w0 K Q ρ:=by cases c<;>rfl
@[simp] theorem qFS {c:Ex} {a b:IR}:(IR.cond c a b).mi C w0 K Q ρ=mC (c.ev ρ w0) a b C w0 K Q ρ:=rfl
@[simp] theorem qFI:mw C w0 [] K ρ=K ρ:=rfl
@[simp] theorem qFK {g:Option (Nat×Bool)} {d:Nat} {e:Ex} {r:List St}:mw C w0 (.asg g d e::r) K ρ=mA (gd ρ g) (e.ev ρ w0) (some d) C w0 r K ρ:=rfl
@[simp] theorem qFJ {g:Option (Nat×Bool)} {d:Option Nat} {f:FuncId} {args:Array Operand} {a:Array TypeId} {ty:TypeId} {r:List St}:
    mw C w0 (.eff g d (.call {callee:= .value (.func f),args:=args,argTypes:=a}) ty::r) K ρ=mA (gd ρ g) (C f (args.toList.map (qd ρ))) d C w0 r K ρ:=rfl
@[simp] theorem qF9 (Q:Kp) (i:Nat) (K:qa→Prop):(Q.blk i K).rt=Q.rt:=rfl
@[simp] theorem qGa (Q:Kp) (i j:Nat) (K:qa→Prop) (ρ:qa):(Q.blk i K).ex j ρ=if j=i then K ρ else Q.ex j ρ:=by simp only [Kp.blk];split<;>rfl
theorem IR.mi_mono : ∀ {a : IR} {K K' : qa → Prop} {Q : Kp} {ρ : qa}, (∀ ρ, K ρ → K' ρ) → a.mi C w0 K Q ρ → a.mi C w0 K' Q ρ := by
  intro a;have x:∀(l:List St) {K K':qa→Prop} {ρ:qa},(∀ρ,K ρ→K' ρ)→mw C w0 l K ρ→mw C w0 l K' ρ:=by
    intro l
    induction l with
    |nil=>intro K K' ρ j h;exact j _ h
    |cons s r y=>
      intro K K' ρ j h;cases s with
      |asg g d e=>
        simp only [mw,QI] at h⊢;split
        · rename_i u;rw [if_pos u] at h;exact qc7 (fun _ h=>y j h) h
        · rename_i u;rw [if_neg u] at h;exact y j h
      |eff g d op ty=>
        simp only [mw,QI] at h⊢;split
        · rename_i u;rw [if_pos u] at h;exact qc7 (fun _ h=>y j h) h
        · rename_i u;rw [if_neg u] at h;exact y j h
  have key:∀(a:IR) {K K':qa→Prop} {Q Q':Kp} {ρ:qa},(∀ρ,K ρ→K' ρ)→(∀i ρ,Q.ex i ρ→Q'.ex i ρ)→(∀ρ,Q.rt ρ→Q'.rt ρ)→a.mi C w0 K Q ρ→a.mi C w0 K' Q' ρ:=by
    intro a
    induction a with
    |skip=>intro K K' Q Q' ρ j _ _ h;exact j _ h
    |reg l=>intro K K' Q Q' ρ j _ _ h;exact x l j h
    |drw l=>intro K K' Q Q' ρ j _ _ h;exact x l j h
    |seq a b m t=>intro K K' Q Q' ρ j p n h;exact m (fun _ h=>t j p n h) p n h
    |cond c a b m t=>intro K K' Q Q' ρ j p n h;exact qil (fun h=>m j p n h) (fun h=>t j p n h) h
    |block id a m=>
      intro K K' Q Q' ρ j p n h;refine m (Q:=Q.blk id K) (Q':=Q'.blk id K') j (fun i ρ h=> ?_) n h;simp only [Kp.blk] at h⊢;split
      · rename_i e;rw [if_pos e] at h;exact j _ h
      · rename_i e;rw [if_neg e] at h;exact p _ _ h
    |loop a m=>intro K K' Q Q' ρ j p n ⟨I,μ,B,h⟩;exact ⟨I,μ,B,fun z A=>m (fun _ h=>h) p n (h z A)⟩
    |exit id=>intro K K' Q Q' ρ j p n h;exact p _ _ h
    |ret=>intro K K' Q Q' ρ j p n h;exact n _ h
    |raw c=>intro K K' Q Q' ρ j p n h;exact h.elim
  intro K K' Q ρ j h;exact key a j (fun _ _ h=>h) (fun _ h=>h) h
theorem qlB (s n:Nat) (I:Nat→qa→Prop) {a:IR} (m:ρ s= .int .i64 0) (t:I 0 ρ)
    (h:∀(k:Nat) (b:qa),k≤n→b s= .int .i64 k→I k b→a.mi C w0 (fun c=>k<n∧c s= .int .i64 ((k:Int)+1)∧I (k+1) c) Q b):(IR.loop a).mi C w0 K Q ρ:=by
  refine ⟨fun b=>∃k:Nat,k≤n∧b s= .int .i64 k∧I k b,fun b=>n - (RowKit.intOf (b s)).toNat,⟨0,Nat.zero_le _,m,t⟩, ?_⟩;rintro b ⟨k,x,p,y⟩;refine IR.mi_mono ?_ (h k b x p y);rintro c ⟨u,j,l⟩;refine ⟨⟨k+1,by omega,by rw [j];simp,l⟩, ?_⟩;show n - (intOf (c s)).toNat<n - (intOf (b s)).toNat;rw [j,p];simp;omega
end
section
variable {C:xQ} {w0:World} {K:qa→Prop} {Q:Kp} {ρ:qa}
theorem qx0 (s b n:Nat) (I:Nat→qa→Prop) {a:IR} (t:ρ s= .int .i64 b) (B:b≤n) (z:I b ρ)
    (h:∀(k:Nat) (c:qa),b≤k→k≤n→c s= .int .i64 k→I k c→a.mi C w0 (fun j=>k<n∧j s= .int .i64 ((k:Int)+1)∧I (k+1) j) Q c):(IR.loop a).mi C w0 K Q ρ:=by
  refine ⟨fun c=>∃k:Nat,b≤k∧k≤n∧c s= .int .i64 k∧I k c,fun c=>n - (RowKit.intOf (c s)).toNat,⟨b,Nat.le_refl _,B,t,z⟩, ?_⟩;rintro c ⟨k,p,A,u,y⟩;refine IR.mi_mono ?_ (h k c p A u y);rintro j ⟨x,l,m⟩;refine ⟨⟨k+1,by omega,by omega,by rw [l];simp,m⟩, ?_⟩;show n - (intOf (j s)).toNat<n - (intOf (c s)).toNat;rw [l,u];simp;omega
end
section
variable {cx:Cx} {K:qa→World→Prop} {Q:Ks} {ρ:qa} {w:World}
end
def qlj:xQ:=fun _ _=>none
theorem qxx (P:Program) (w0:World):Qg P qlj w0:=fun _ _ _ h=>by cases h
theorem qwB {cx:Cx} {C:xQ} {w0 w:World} (c:Qg cx.P C w0) (j:qb w0 w) {ir:IR} {rs:List RV} {R:Ending→World→Prop} {ρ:qa} (T:qa→Prop) (b:∀a w',qb w0 w'→T a→qC rs R a w')
    (h:ir.mi C w0 T ⟨fun _ _=>False,T⟩ ρ):ir.wp cx (qC rs R) (je rs R) ρ w:=
  yQ c ir j b (fun _ _ _ _ (h:False)=>h.elim) b h
theorem qkR {cx:Cx} {C:xQ} {w0 w:World} {l:List St} {a:IR} (c:Qg cx.P C w0) (j:qb w0 w) {rs:List RV} {R:Ending→World→Prop} {ρ:qa} (T:qa→Prop) (m:∀b w',qb w0 w'→T b→qC rs R b w')
    (h:(IR.seq (.reg l) a).mi C w0 T ⟨fun _ _=>False,T⟩ ρ):qU cx.P (je rs R) l (a.wp cx (qC rs R) (je rs R)) ρ w:=qwB (ir:= .seq (.reg l) a) c j T m h
end Go.Eng
namespace Go.L01
open Go.Eng
abbrev Bs:=List UInt8
structure Tok where
 kind:Nat
 text:Bs
 line:Int
 deriving DecidableEq
def vc (c:UInt8):Bool:=decide (97≤c.toNat)&&decide (c.toNat≤122)
def qM (c:UInt8):Bool:=decide (48≤c.toNat)&&decide (c.toNat≤57)
def part (c:UInt8):Bool:=vc c||qM c
def yj (c:UInt8):Bool:=decide (c=32)||decide (c=9)||decide (c=10)
def vM:List Bs:=
 [[97,110,100],[97,114,114,97,121],[98,101,103,105,110],[98,111,111,108],[98,114,101,97,107],[99,108,117,115,116,101,114],[100,111],[100,111,119,110],[101,108,115,101],[101,108,115,101,105,102],[101,110,100],[101,120,99,101,112,116],[102,97,108,115,101],[102,111,114],[104,97,115],[105,102],[105,110],[105,110,116],[105,115],[105,116,101,114],[109,111,100],[110,105,108],[110,111,116],[110,117,108,108],[111,110,101,111,102],[111,114],[111,116,104,101,114,115],[112,114,111,99],[112,117,116],[114,101,99,111,114,100],[114,101,112],[114,101,116,117,114,110],[114,101,116,117,114,110,115],[115,105,103,110,97,108],[115,105,103,110,97,108,115],[116,97,103],[116,97,103,99,97,115,101],[116,104,101,110],[116,114,117,101],[117,112],[118,97,114],[119,104,101,110],[119,104,101,114,101],[119,104,105,108,101],[121,105,101,108,100],[121,105,101,108,100,115]]
def qW:List Bs:=
 [[36],[40],[41],[42],[43],[44],[45],[46],[47],[58],[58,61],[59],[60],[60,61],[61],[63],[91],[93],[95],[123],[125]]
def qN (s:Bs):Nat:=(s.takeWhile part).length
def jJ (s:Bs):Nat:=(s.takeWhile qM).length
def jL (s:Bs):Bool:=vM.contains s
def qh (s:Bs):Bool:=decide (0<s.length)&&decide (s.length≤12)&&vc (s.getD 0 0)&&decide (qN s=s.length)&& !jL s
def most:Bs:=[49,48,48,48,48,48,48,48,48,48]
def jw (s:Bs):Bool:=
 !(decide (s.length=0)||decide (10<s.length)||decide (jJ s≠s.length)||(decide (1<s.length)&&decide (s.getD 0 0=48)))&&(decide (s.length<10)||decide (s=most))
def jq (s:Bs):Bool:=qW.contains s
def right (k:Nat) (s:Bs):Bool:=
 if k=1 then qh s else if k=2 then jL s else if k=3 then jw s else if k=4 then jq s else false
def first (s:Bs):Nat×Nat×Int:=
 if vc (s.getD 0 0) then (if jL (s.take (qN s)) then (2,qN s,0) else if 12<qN s then (0,0,12) else (1,qN s,0))
 else if qM (s.getD 0 0) then (if jw (s.take (jJ s)) then (3,jJ s,0) else (0,0,11))
 else if 1<s.length∧jq (s.take 2)=true then (4,2,0) else if jq (s.take 1) then (4,1,0) else (0,0,10)
def jd (s:Bs):Nat:=(s.takeWhile fun c=>decide (c≠10)).length
inductive Res where
 |bad (e line:Int)
 |ok (ts:List Tok) (cs:List Bs)
 deriving DecidableEq
def Res.add (out:List Tok) (com:List Bs):Res→Res
 | .bad e l=> .bad e l
 | .ok ts cs=> .ok (out++ts) (com++cs)
def kK:Nat→Bs→Int→Res
 |0,_,_=> .ok [] []
 |_+1,[],_=> .ok [] []
 |f+1,c::r,l=>
  if c=10 then kK f r (l+1)
  else if c=32∨c=9 then kK f r l
  else if c=37 then (kK f ((c::r).drop (jd (c::r))) l).add [] [(c::r).take (jd (c::r))]
  else if (first (c::r)).2.2≠0 then .bad (first (c::r)).2.2 l
  else (kK f ((c::r).drop (first (c::r)).2.1) l).add [⟨(first (c::r)).1,(c::r).take (first (c::r)).2.1,l⟩] []
def qX (s:Bs) (l:Int):Res:=kK s.length s l
def qu (s:Bs):Res:=if 20000<s.length then .bad 2 0 else qX s 1
def Res.toks:Res→List Tok| .ok ts _=>ts|_=>[]
def Res.coms:Res→List Bs| .ok _ cs=>cs|_=>[]
def Res.err:Res→Int| .bad e _=>e|_=>0
def Res.at:Res→Int| .bad _ l=>l|_=>0
theorem qkd {s:Bs} (h:vc (s.getD 0 0)=true):0<qN s:=by
 cases s with
 |nil=>simp [vc] at h
 |cons c r=>
  have a:part c=true:=by simp [part];exact .inl (by simpa using h)
  simp [qN,List.takeWhile_cons,a]
theorem qDh {s:Bs} (h:qM (s.getD 0 0)=true):0<jJ s:=by
 cases s with
 |nil=>simp [qM] at h
 |cons c r=>
  have a:qM c=true:=by simpa using h
  simp [jJ,List.takeWhile_cons,a]
theorem yv {α:Type} (p:α→Bool) (s:List α):(s.takeWhile p).length≤s.length:=(List.takeWhile_sublist p).length_le
theorem qas {s:Bs} (h:(first s).2.2=0) (m:s≠[]):0<(first s).2.1∧(first s).2.1≤s.length:=by
 have t:0<s.length:=List.length_pos_iff.2 m;unfold first at h⊢
 split
 ·rename_i c;rw [if_pos c] at h;have b:=qkd c;have a:qN s≤s.length:=yv _ _;split
  ·exact ⟨b,a⟩
  ·rename_i p;rw [if_neg p] at h;split
   ·rename_i l;rw [if_pos l] at h;cases h
   ·exact ⟨b,a⟩
 ·rename_i c;rw [if_neg c] at h;split
  ·rename_i j;rw [if_pos j] at h;have b:=qDh j;have a:jJ s≤s.length:=yv _ _;split
   ·exact ⟨b,a⟩
   ·rename_i n;rw [if_neg n] at h;cases h
  ·rename_i j;rw [if_neg j] at h;split
   ·rename_i a;exact ⟨by simp,by simp;omega⟩
   ·rename_i a;rw [if_neg a] at h;split
    ·exact ⟨by simp,by simp;omega⟩
    ·rename_i b;rw [if_neg b] at h;cases h
theorem qek (r:Bs):0<jd (37::r):=by simp [jd,List.takeWhile_cons]
theorem qsk (s:Bs):jd s≤s.length:=yv _ _
theorem Jj:∀(f g:Nat) (s:Bs) (l:Int),s.length≤f→s.length≤g→kK f s l=kK g s l
 |0,g,s,l,b,_=>by
  have:s=[]:=List.length_eq_zero_iff.1 (by omega);subst this;cases g<;>rfl
 |f+1,0,s,l,_,a=>by
  have:s=[]:=List.length_eq_zero_iff.1 (by omega);subst this;rfl
 |f+1,g+1,[],l,_,_=>rfl
 |f+1,g+1,c::r,l,b,a=>by
  simp only [List.length_cons] at b a;unfold kK;split
  ·exact Jj f g r _ (by omega) (by omega)
  ·split
   ·exact Jj f g r _ (by omega) (by omega)
   ·split
    ·rename_i j;subst j;have h:=qek r;rw [Jj f g _ _ (by simp only [List.length_drop,List.length_cons];omega) (by simp only [List.length_drop,List.length_cons];omega)]
    ·split
     ·rfl
     ·rename_i m;have h:=qas (s:=c::r) (by simpa using m) (by simp);rw [Jj f g _ _ (by simp only [List.length_drop,List.length_cons];omega) (by simp only [List.length_drop,List.length_cons];omega)]
theorem qcy (l:Int):qX [] l= .ok [] []:=rfl
theorem yD (c:UInt8) (r:Bs) (l:Int):qX (c::r) l=
  if c=10 then qX r (l+1)
  else if c=32∨c=9 then qX r l
  else if c=37 then (qX ((c::r).drop (jd (c::r))) l).add [] [(c::r).take (jd (c::r))]
  else if (first (c::r)).2.2≠0 then .bad (first (c::r)).2.2 l
  else (qX ((c::r).drop (first (c::r)).2.1) l).add [⟨(first (c::r)).1,(c::r).take (first (c::r)).2.1,l⟩] []:=by
 show kK (r.length+1) (c::r) l=_;rw [kK];split
 ·rfl
 ·split
  ·rfl
  ·split
   ·rename_i b;subst b;have a:=qek r;rw [qX,Jj r.length _ _ _ (by simp only [List.length_drop,List.length_cons];omega) (Nat.le_refl _)]
   ·split
    ·rfl
    ·rename_i h;have a:=qas (s:=c::r) (by simpa using h) (by simp);rw [qX,Jj r.length _ _ _ (by simp only [List.length_drop,List.length_cons];omega) (Nat.le_refl _)]
theorem Res.add_add (a b:List Tok) (c d:List Bs) (r:Res):(r.add b d).add a c=r.add (a++b) (c++d):=by
 cases r<;>simp [Res.add]
@[simp] theorem Res.add_nil (r:Res):r.add [] []=r:=by cases r<;>rfl
end Go.L01
namespace Go.L02
open Go.Eng
open Go.L01 (Bs Tok)
structure D where
 kind:Nat
 name:Bs:=[]
 vr:Bs:=[]
 typ:Bs:=[]
 n:Int:=0
 deriving DecidableEq
inductive T where
 |mk (d:D) (kids:List T)
def T.d:T→D| .mk d _=>d
def T.kids:T→List T| .mk _ ks=>ks
structure Nd where
 d:D
 kids:List Int
 deriving DecidableEq
mutual
def T.size:T→Nat| .mk _ ks=>sizes ks+1
def sizes:List T→Nat|[]=>0|t::ts=>t.size+sizes ts
end
def qx:Nat→List T→List Int
 |_,[]=>[]
 |b,t::ts=>((b:Int)+t.size - 1)::qx (b+t.size) ts
mutual
def T.flat:Nat→T→List Nd|b, .mk d ks=>flats b ks++[⟨d,qx b ks⟩]
def flats:Nat→List T→List Nd|_,[]=>[] |b,t::ts=>t.flat b++flats (b+t.size) ts
end
structure Sig where
 iter:Bool:=false
 args:List Bs:=[]
 result:Bs:=[]
 signals:List Bs:=[]
 deriving DecidableEq
structure Rout where
 name:Bs
 sig:Sig
 params:List Bs
 nodes:List Nd
 deriving DecidableEq
structure Need where
 op:Bs
 sig:Sig
 deriving DecidableEq
structure Opn where
 name:Bs
 sig:Sig:={}
 deriving DecidableEq
structure Face where
 name:Bs
 kind:Nat
 param:Bool
 needs:List Need
 ops:List Opn
 deriving DecidableEq
structure Mod where
 face:Face
 rep:Bs
 routs:List Rout
 deriving DecidableEq
inductive Rs (α:Type) where
 |ok (a:α) (i f:Nat)
 |no (f:Nat)
 |oof
def Rs.andThen {α β:Type} (r:Rs α) (k:α→Nat→Nat→Rs β):Rs β:=match r with| .ok a i f=>k a i f| .no f=> .no f| .oof=> .oof
abbrev M (α:Type):=Nat→Nat→Rs α
def ret {α:Type} (a:α):M α:=fun i f=> .ok a i f
def oof {α:Type}:M α:=fun _ _=> .oof
def qd8 {α:Type}:M α:=fun i f=> .no (max f i)
def bnd {α β:Type} (m:M α) (k:α→M β):M β:=fun i f=>(m i f).andThen k
def sq {α β:Type} (m:M α) (k:M β):M β:=bnd m fun _=>k
section
variable (L:List Tok)
def tk (i:Nat):Tok:=L.getD i ⟨0,[],0⟩
def jQ (i:Nat) (ss:List Bs):Bool:=(decide ((tk L i).kind=2)||decide ((tk L i).kind=4))&&ss.contains (tk L i).text
def qH {α:Type} (s:Bs) (x y:M α):M α:=fun i f=>if jQ L i [s] then x (i+1) f else y i f
def needs:List Bs→M Unit
 |[]=>ret ()
 |s::ss=>qH L s (needs ss) qd8
def name:M Bs:=fun i f=>if (tk L i).kind=1 then .ok (tk L i).text (i+1) f else .no (max f i)
def param:M Unit:=fun i f=>if (tk L i).kind=1∧(tk L i).text=[116] then .ok () (i+1) f else .no (max f i)
def fin:M Unit:=fun i f=>if i<L.length then .no (max f i) else .ok () i f
def more {α:Type} (one:M α):Nat→M (List α)
 |0=>oof
 |n+1=>qH L [44] (bnd one fun x=>bnd (more one n) fun xs=>ret (x::xs)) (ret [])
def listed {α:Type} (n:Nat) (one:M α):M (List α):=bnd one fun x=>bnd (more L one n) fun xs=>ret (x::xs)
def qbV {α:Type} (n:Nat) (one:M α):M (List α):=
 sq (needs L [[40]]) (qH L [41] (ret []) (bnd (listed L n one) fun xs=>sq (needs L [[41]]) (ret xs)))
def zZ (k:M Unit):M Bs:=sq (name L) (sq (needs L [[58]]) (sq k (ret [])))
def kind:Nat→M Unit
 |0=>oof
 |n+1=>
  qH L [105,110,116] (ret ()) (qH L [98,111,111,108] (ret ()) (qH L [110,117,108,108] (ret ()) (qH L [97,114,114,97,121] (sq (needs L [[91]]) (sq (kind n) (needs L [[93]])))
  (qH L [114,101,99,111,114,100] (sq (needs L [[91]]) (sq (listed L n (zZ L (kind n))) (needs L [[93]])))
  (qH L [111,110,101,111,102] (sq (needs L [[91]]) (sq (listed L n (zZ L (kind n))) (needs L [[93]])))
  (qH L [63] (param L) (sq (name L) (qH L [91] (sq (kind n) (needs L [[93]])) (ret ())))))))))
def jK (l:List Tok):Bs:=(l.map (·.text)).flatten
def vS (i j:Nat):List Tok:=(L.take j).drop i
def yr (n:Nat):M Bs:=fun i f=>(kind L n i f).andThen fun _ j g=> .ok (jK (vS L i j)) j g
def vN:List Bs:=[[109,111,100],[97,110,100],[111,114],[110,111,116]]
def op:M Bs:=fun i f=>if (tk L i).kind=2∧vN.contains (tk L i).text then .ok (tk L i).text (i+1) f
 else (bnd (name L) fun s=>qH L [95] (bnd (name L) fun u=>ret (s++([95]++u))) (ret s)) i f
def qfW (n:Nat):M Bs:=bnd (yr L n) fun s=>sq (needs L [[36]]) (ret s)
def kZ:List Bs:=[[43],[45],[42],[47],[109,111,100],[60],[60,61],[61],[97,110,100],[111,114]]
def qxM (s:Bs):Int:=s.foldl (fun n c=>10*n+((c.toNat:Int) - 48)) 0
def qtn (e:M T):M T:=fun i f=>
 (sq (needs L [[40]]) (bnd e fun t=>sq (needs L [[41]]) (ret (T.mk {kind:=if jQ L i [[100,111,119,110]] then 10 else 9} [t])))) (i+1) f
def qwJ (e:M T):M T:=bnd e fun t=>sq (needs L [[41]]) (ret t)
def qlz (n:Nat) (e:M T):M T:=bnd (name L) fun nm=>
 qH L [123] (bnd (yr L n) fun t=>sq (needs L [[125]]) (bnd (qbV L n e) fun ks=>ret (T.mk {kind:=5,name:=nm,typ:=t} ks)))
  (bnd (qbV L n e) fun ks=>ret (T.mk {kind:=5,name:=nm} ks))
def qf1 (n:Nat) (e:M T) (o:Bs):M T:=bnd (op L) fun nm=>bnd (qbV L n e) fun ks=>ret (T.mk {kind:=5,vr:=o,name:=nm} ks)
def qDQ (n:Nat) (e:M T):M T:=fun i f=>
 if (tk L i).kind=1∧((tk L (i+1)).text=[40]∨(tk L (i+1)).text=[123]) then qlz L n e i f else (bnd (qfW L n) (qf1 L n e)) i f
def qaM {α:Type} (b:Bool) (m:M α):M (α×Bool):=bnd m fun x=>ret (x,b)
def qxS (n:Nat) (e:M T):M (T×Bool):=fun i f=>
 if (tk L i).kind=1∧((tk L (i+1)).text=[40]∨(tk L (i+1)).text=[123]) then qaM true (qlz L n e) i f
 else if (tk L i).kind=1∧(tk L (i+1)).text=[91] then
  match qfW L n i f with
  | .ok s j g=>qaM true (qf1 L n e s) j g
  | .no g=> .ok (T.mk {kind:=4,name:=(tk L i).text} [],false) (i+1) g
  | .oof=> .oof
 else if (tk L i).kind=1∧(tk L (i+1)).text≠[36] then .ok (T.mk {kind:=4,name:=(tk L i).text} [],false) (i+1) f
 else qaM true (bnd (qfW L n) (qf1 L n e)) i f
def qur (n:Nat) (e:M T):M (T×Bool):=fun i f=>
 if (tk L i).kind=3 then .ok (T.mk {kind:=1,n:=qxM (tk L i).text} [],false) (i+1) f
 else (qH L [116,114,117,101] (ret (T.mk {kind:=2,n:=1} [],false)) (qH L [102,97,108,115,101] (ret (T.mk {kind:=2} [],false)) (qH L [110,105,108] (ret (T.mk {kind:=3} [],false))
  fun i f=>if jQ L i [[117,112],[100,111,119,110]] then qaM false (qtn L e) i f else qH L [40] (qaM false (qwJ L e)) (qxS L n e) i f))) i f
def qeT (e:M T):Nat→T→Nat→M (T×Nat)
 |0,_,_=>oof
 |n+1,t,fm=>qH L [91] (bnd e fun k=>sq (needs L [[93]]) (qeT e n (T.mk {kind:=7} [t,k]) 2))
   (qH L [46] (bnd (name L) fun s=>qeT e n (T.mk {kind:=8,name:=s} [t]) 3) (ret (t,fm)))
def qkX (n:Nat) (e:M T):M (T×Nat):=bnd (qur L n e) fun p=>qeT L e n p.1 (if p.2 then 1 else 0)
def qCT (p:M (T×Nat)):M T:=
 qH L [110,111,116] (bnd p fun x=>ret (T.mk {kind:=6,name:=[110,111,116]} [x.1]))
  (bnd p fun x=>fun i f=>if jQ L i kZ then (bnd p fun y=>ret (T.mk {kind:=6,name:=(tk L i).text} [x.1,y.1])) (i+1) f else .ok x.1 i f)
def qhR:Nat→M T
 |0=>oof
 |n+1=>qCT L (qkX L n (qhR n))
def qsK (i:Nat):Bool:=decide ((tk L i).kind=1)||decide ((tk L i).kind=3)||
 jQ L i [[116,114,117,101],[102,97,108,115,101],[110,105,108],[117,112],[100,111,119,110],[40],[110,111,116],[105,110,116],[98,111,111,108],[110,117,108,108],[97,114,114,97,121],[114,101,99,111,114,100],[111,110,101,111,102],[63]]
def qui (i:Nat):Bool:=jQ L i [[118,97,114],[112,117,116],[105,102],[119,104,105,108,101],[102,111,114],[114,101,116,117,114,110],[121,105,101,108,100],[115,105,103,110,97,108],[98,114,101,97,107],[98,101,103,105,110],[116,97,103,99,97,115,101]] ||(qsK L i&& !jQ L i [[110,111,116]])
def qjt (s:M T):Nat→M (List T)
 |0=>oof
 |n+1=>qH L [59] (bnd s fun x=>bnd (qjt s n) fun xs=>ret (x::xs)) (ret [])
def qsG (n:Nat) (s:M T):M T:=fun i f=>
 if qui L i then (bnd s fun x=>bnd (qjt L s n) fun xs=>ret (T.mk {kind:=20} (x::xs))) i f else .ok (T.mk {kind:=20} []) i f
def qik (n:Nat):M (Bs×Bs):=bnd (name L) fun nm=>sq (needs L [[58]]) (bnd (yr L n) fun t=>ret (nm,t))
def qsh (e b:M T):Nat→M T
 |0=>oof
 |n+1=>bnd e fun x=>sq (needs L [[116,104,101,110]]) (bnd b fun q=>
   qH L [101,108,115,101,105,102] (bnd (qsh e b n) fun c=>ret (T.mk {kind:=26} [x,q,T.mk {kind:=20} [c]]))
    (qH L [101,108,115,101] (bnd b fun r=>sq (needs L [[101,110,100]]) (ret (T.mk {kind:=26} [x,q,r]))) (sq (needs L [[101,110,100]]) (ret (T.mk {kind:=26} [x,q])))))
def qrv (b:M T):Nat→Bool→M (List T)
 |0,_=>oof
 |n+1,first=>fun i f=>if jQ L i [[119,104,101,110]] ||first then
   (sq (needs L [[119,104,101,110]]) (qH L [111,116,104,101,114,115] (sq (needs L [[58]]) (bnd b fun q=>ret [T.mk {kind:=33} [q]]))
    (bnd (name L) fun s=>sq (needs L [[58]]) (bnd b fun q=>bnd (qrv b n false) fun ws=>ret (T.mk {kind:=33,name:=s} [q]::ws))))) i f
  else .ok [] i f
def qCt (n:Nat) (b:M T):M T:=bnd b fun q=>sq (needs L [[101,120,99,101,112,116]]) (bnd (qrv L b n true) fun ws=>sq (needs L [[101,110,100]]) (ret (T.mk {kind:=32} (q::ws))))
def qsS (k:Nat) (b:M T):Nat→Bool→M (List T)
 |0,_=>oof
 |n+1,first=>fun i f=>if jQ L i [[116,97,103]] ||first then
   (sq (needs L [[116,97,103]]) (bnd (name L) fun s=>sq (needs L [[40]]) (bnd (name L) fun v=>sq (needs L [[58]]) (bnd (yr L k) fun t=>sq (needs L [[41],[58]])
    (bnd b fun q=>bnd (qsS k b n false) fun ws=>ret (T.mk {kind:=36,name:=s,vr:=v,typ:=t} [q]::ws)))))) i f
  else .ok [] i f
def qEl (n:Nat) (e b:M T):M T:=bnd e fun x=>bnd (qsS L n b n true) fun ws=>sq (needs L [[101,110,100]]) (ret (T.mk {kind:=35} (x::ws)))
def qtc (n:Nat) (e:M T) (p:M (T×Nat)):M T:=fun i f=>
 if (tk L i).kind=1∧(tk L (i+1)).text=[58,61] then (bnd e fun x=>ret (T.mk {kind:=22,name:=(tk L i).text} [x])) (i+2) f
 else (bnd p fun x=>fun i f=>
  if x.2=1∧jQ L i [[58,61]]=false then .ok (T.mk {kind:=25} [x.1]) i f
  else if x.2=2∧jQ L i [[58,61]]=true then (bnd e fun y=>ret (T.mk {kind:=23} (x.1.kids++[y]))) (i+1) f
  else if x.2=3∧jQ L i [[58,61]]=true then (bnd e fun y=>ret (T.mk {kind:=24,name:=x.1.d.name} (x.1.kids++[y]))) (i+1) f
  else .no (max f i)) i f
def quh (n:Nat) (e:M T) (p:M (T×Nat)) (b:M T):M T:=
 qH L [118,97,114] (bnd (qik L n) fun x=>sq (needs L [[58,61]]) (bnd e fun y=>ret (T.mk {kind:=21,name:=x.1,typ:=x.2} [y])))
 (qH L [112,117,116] (bnd e fun y=>ret (T.mk {kind:=37} [y]))
 (qH L [105,102] (qsh L e b n)
 (qH L [119,104,105,108,101] (bnd e fun x=>sq (needs L [[100,111]]) (bnd b fun q=>sq (needs L [[101,110,100]]) (ret (T.mk {kind:=27} [x,q]))))
 (qH L [102,111,114] (bnd (qik L n) fun x=>sq (needs L [[105,110]]) (bnd (qDQ L n e) fun c=>sq (needs L [[100,111]]) (bnd b fun q=>sq (needs L [[101,110,100]]) (ret (T.mk {kind:=28,name:=x.1,typ:=x.2} [c,q])))))
 (qH L [114,101,116,117,114,110] (fun i f=>if qsK L i then (bnd e fun x=>ret (T.mk {kind:=29} [x])) i f else .ok (T.mk {kind:=29} []) i f)
 (qH L [121,105,101,108,100] (bnd e fun y=>ret (T.mk {kind:=30} [y]))
 (qH L [115,105,103,110,97,108] (bnd (name L) fun s=>ret (T.mk {kind:=31,name:=s} []))
 (qH L [98,114,101,97,107] (ret (T.mk {kind:=34} []))
 (qH L [98,101,103,105,110] (qCt L n b)
 (qH L [116,97,103,99,97,115,101] (qEl L n e b) (qtc L n e p)))))))))))
def qjw:Nat→M T
 |0=>oof
 |n+1=>quh L n (qhR L n) (qkX L n (qhR L n)) (qsG L n (qjw n))
def block (n:Nat):M T:=qsG L n (qjw L n)
def signals (n:Nat):M (List Bs):=qH L [115,105,103,110,97,108,115] (sq (needs L [[40]]) (bnd (listed L n (name L)) fun l=>sq (needs L [[41]]) (ret l))) (ret [])
def qsJ (n:Nat) (iter:Bool):M (Bs×List Bs):=
 if iter then sq (needs L [[121,105,101,108,100,115]]) (bnd (yr L n) fun t=>bnd (signals L n) fun l=>ret (t,l))
 else qH L [114,101,116,117,114,110,115] (bnd (yr L n) fun t=>bnd (signals L n) fun l=>ret (t,l)) (bnd (signals L n) fun l=>ret ([],l))
def qfb:M Bool:=qH L [105,116,101,114] (ret true) (sq (needs L [[112,114,111,99]]) (ret false))
def head (n:Nat) (iter:Bool):M (Sig×List Bs):=bnd (qbV L n (qik L n)) fun l=>bnd (qsJ L n iter) fun b=>
 ret (⟨iter,l.map (·.2),b.1,b.2⟩,l.map (·.1))
def qsC (n:Nat):M (List Nd):=sq (needs L [[105,115]]) (bnd (block L n) fun t=>sq (needs L [[101,110,100]]) (ret (t.flat 0)))
def qxR (n:Nat):M Need:=bnd (name L) fun o=>sq (needs L [[58]]) (bnd (qfb L) fun it=>bnd (qbV L n (yr L n)) fun ws=>bnd (qsJ L n it) fun b=>
 ret ⟨o,⟨it,ws,b.1,b.2⟩⟩)
def qiQ (n:Nat):M (List Need):=qH L [119,104,101,114,101] (sq (param L) (sq (needs L [[104,97,115]]) (listed L n (qxR L n)))) (ret [])
def params:M Bool:=qH L [91] (sq (param L) (sq (needs L [[93]]) (ret true))) (ret false)
def qvq (n:Nat):M Rout:=bnd (qfb L) fun it=>bnd (name L) fun nm=>bnd (head L n it) fun h=>bnd (qsC L n) fun l=>ret ⟨nm,h.1,h.2,l⟩
def routs (n:Nat):Nat→M (List Rout)
 |0=>oof
 |k+1=>bnd (qvq L n) fun r=>fun i f=>if jQ L i [[112,114,111,99],[105,116,101,114]] then (bnd (routs n k) fun rs=>ret (r::rs)) i f else .ok [r] i f
def qlm (names:List Bs) (rs:List Rout):List Opn:=names.mapIdx fun i s=>⟨s,match rs[i]? with|some r=>r.sig|none=>{}⟩
def qDB (n:Nat):M Mod:=bnd (name L) fun nm=>bnd (params L) fun pr=>sq (needs L [[105,115]]) (bnd (listed L n (name L)) fun names=>bnd (qiQ L n) fun ws=>
 sq (needs L [[114,101,112],[61]]) (bnd (yr L n) fun rep=>bnd (routs L n n) fun rs=>sq (needs L [[101,110,100]]) (ret ⟨⟨nm,3,pr,ws,qlm names rs⟩,rep,rs⟩)))
def qxF (n:Nat):M Mod:=qH L [99,108,117,115,116,101,114] (qDB L n) (bnd (qfb L) fun it=>bnd (name L) fun nm=>bnd (params L) fun pr=>bnd (head L n it) fun h=>
 bnd (qiQ L n) fun ws=>bnd (qsC L n) fun l=>ret ⟨⟨nm,if it then 2 else 1,pr,ws,[⟨nm,h.1⟩]⟩,[],[⟨nm,h.1,h.2,l⟩]⟩)
end
inductive Ro (α:Type) where
 |val (o:Option α) (i f:Nat)
 |oof
def Ro.andThen {α β:Type} (r:Ro α) (k:α→Nat→Nat→Ro β):Ro β:=match r with| .val (some a) i f=>k a i f| .val none i f=> .val none i f| .oof=> .oof
abbrev N (α:Type):=Nat→Nat→Ro α
def vi {α:Type} (a:α):N α:=fun i f=> .val (some a) i f
def qf2 {α:Type}:N α:=fun _ _=> .oof
def kq {α:Type}:N α:=fun i f=> .val none i f
def jF {α β:Type} (m:N α) (k:α→N β):N β:=fun i f=>(m i f).andThen k
section
variable (L:List Tok)
def qy (i k:Nat) (s:Bs):Bool:=decide (i<L.length)&&decide ((tk L i).kind=k)&&(decide (s=[])||decide ((tk L i).text=s))
def jr {α:Type} (k:Nat) (s:Bs) (x y:N α):N α:=fun i f=>if qy L i k s then x (i+1) f else y i (max f i)
def xq {α:Type} (s:Bs) (x:N α):N α:=jr L 4 s x kq
def kP {α:Type} (x:Bs→N α):N α:=fun i f=>if qy L i 1 [] then x (tk L i).text (i+1) f else .val none i (max f i)
def seen {α:Type} (k:Nat) (x:Bs→N α) (y:N α):List Bs→N α
 |[]=>y
 |s::ss=>jr L k s (x s) (seen k x y ss)
def xc (t:N Bs):Nat→N Bs
 |0=>qf2
 |n+1=>kP L fun nm=>xq L [58] (jF t fun u=>jr L 4 [44] (jF (xc t n) fun r=>vi (nm++[58]++u++[44]++r)) (vi (nm++[58]++u)))
def jA:Nat→N Bs
 |0=>qf2
 |n+1=>seen L 2 vi
  (jr L 2 [97,114,114,97,121] (xq L [91] (jF (jA n) fun t=>xq L [93] (vi ([97,114,114,97,121,91]++t++[93]))))
  (seen L 2 (fun many=>xq L [91] (jF (xc L (jA n) n) fun l=>xq L [93] (vi (many++[91]++l++[93]))))
  (jr L 4 [63] (jr L 1 [116] (vi [63,116]) kq)
  (kP L fun nm=>jr L 4 [91] (jF (jA n) fun t=>xq L [93] (vi (nm++[91]++t++[93]))) (vi nm)))
  [[114,101,99,111,114,100],[111,110,101,111,102]])) [[105,110,116],[98,111,111,108],[110,117,108,108]]
def Qs:List Bs:=[[43],[45],[42],[47],[60],[60,61],[61]]
def Qi:List Bs:=[[109,111,100],[97,110,100],[111,114]]
end
end Go.L02
namespace Go.L01
open Go.Eng
theorem qDi {c:UInt8} (h:qM c=true):part c=true:=by simp [part,h]
theorem qjZ {p:UInt8→Bool} {s r b:Bs} (h:((s++r).takeWhile p).length=s.length) (u:b=[]∨∃c x,b=c::x∧(p c=false∨∃y,r=c::y)):((s++b).takeWhile p).length=s.length:=by
 have a:∀x∈s,p x=true:=by
  have B:(s++r).takeWhile p=s:=by
   have E:=List.takeWhile_prefix p (l:=s++r);have z:s<+:s++r:=List.prefix_append _ _;exact List.prefix_of_prefix_length_le E z (by omega)|>.eq_of_length h
  intro x I;have t:x∈(s++r).takeWhile p:=by rw [B];exact I
  exact List.all_eq_true.1 (List.all_takeWhile (p:=p) (l:=s++r)) x t
 rw [List.takeWhile_append_of_pos a,List.length_append];rw [List.takeWhile_append_of_pos a,List.length_append] at h;have m:(r.takeWhile p)=[]:=List.length_eq_zero_iff.1 (by omega);rcases u with rfl|⟨c,x,rfl,n|⟨y,rfl⟩⟩
 ·simp
 ·simp [List.takeWhile_cons,n]
 ·have j:p c=false:=by
   cases A:p c with
   |false=>rfl
   |true=>rw [List.takeWhile_cons,A] at m;simp at m
  simp [List.takeWhile_cons,j]
theorem qaY:∀s∈qW,(s.length=1∨s.length=2)∧vc (s.getD 0 0)=false∧qM (s.getD 0 0)=false∧(s.length=2→yj (s.getD 1 0)=false)∧(∀c∈s,c≠10∧c≠37∧c≠32∧c≠9):=by decide
theorem qb8:∀s∈vM,vc (s.getD 0 0)=true∧qN s=s.length∧s≠[]:=by decide
theorem wC {k:Nat} {s:Bs} (h:right k s=true):s≠[]∧first s=(k,s.length,0):=by
 unfold right at h;split at h
 ·rename_i c;subst c;simp only [qh,Bool.and_eq_true,decide_eq_true_eq,Bool.not_eq_true'] at h;obtain ⟨⟨⟨⟨j,n⟩,l⟩,t⟩,x⟩:=h;refine ⟨by rintro rfl;simp at j, ?_⟩;unfold first
  rw [if_pos l,t,List.take_length,x,if_neg (by simp),if_neg (by omega)]
 ·split at h
  ·rename_i c;subst c;obtain ⟨j,n,l⟩:=qb8 s (by simpa [jL] using h);refine ⟨l, ?_⟩;unfold first
   rw [if_pos j,n,List.take_length,if_pos h]
  ·split at h
   ·rename_i c;subst c;have y:=h;simp only [jw,Bool.and_eq_true,Bool.not_eq_true',Bool.or_eq_false_iff,decide_eq_false_iff_not,Decidable.not_not] at h;obtain ⟨⟨⟨⟨j,n⟩,l⟩,t⟩,x⟩:=h;have u:s≠[]:=by rintro rfl;simp at j
    obtain ⟨a,s',rfl⟩:∃a s',s=a::s':=by cases s with|nil=>exact absurd rfl u|cons a s'=>exact ⟨a,s',rfl⟩
    have m:qM a=true:=by
     cases m:qM a with
     |true=>rfl
     |false=>simp [jJ,List.takeWhile_cons,m] at l
    have p:vc a=false:=by
     simp only [qM,Bool.and_eq_true,decide_eq_true_eq] at m;simp only [vc,Bool.and_eq_false_iff,decide_eq_false_iff_not];omega
    refine ⟨u, ?_⟩;unfold first
    have g:(a::s').getD 0 0=a:=rfl;rw [g,if_neg (by rw [p];simp),if_pos m,l,List.take_length,if_pos y]
   ·split at h
    ·rename_i c;subst c;obtain ⟨b,p,m,_,_⟩:=qaY s (by simpa [jq] using h);refine ⟨by rintro rfl;simp at b, ?_⟩;unfold first
     rw [if_neg (by rw [p];simp),if_neg (by rw [m];simp)];rcases b with j|n
     ·rw [if_neg (by omega),←j,List.take_length,if_pos h]
     ·rw [←n,List.take_length,if_pos ⟨by omega,h⟩]
    ·cases h
theorem qjc {p:UInt8→Bool} (s:Bs):(s.take (s.takeWhile p).length)=s.takeWhile p:=by
 have h:=List.takeWhile_prefix p (l:=s);exact (List.prefix_iff_eq_take.1 h).symm
theorem qtK {p:UInt8→Bool} (s:Bs):((s.takeWhile p).takeWhile p)=s.takeWhile p:=by
 induction s with
 |nil=>rfl
 |cons a s b=>
  by_cases h:p a=true
  ·simp [List.takeWhile_cons,h,b]
  ·simp [List.takeWhile_cons,h]
theorem qrL {s:Bs} (A:s≠[]) (h:(first s).2.2=0):right (first s).1 (s.take (first s).2.1)=true∧((first s).1=1∨(first s).1=2∨(first s).1=3∨(first s).1=4):=by
 obtain ⟨a,t,rfl⟩:∃a t,s=a::t:=by cases s with|nil=>exact absurd rfl A|cons a t=>exact ⟨a,t,rfl⟩
 have g:(a::t).getD 0 0=a:=rfl;unfold first at h⊢
 rw [g] at h⊢;by_cases j:vc a=true
 ·rw [if_pos j] at h⊢;have y:0<qN (a::t):=qkd (by rw [g];exact j);have u:(a::t).take (qN (a::t))=(a::t).takeWhile part:=qjc _;by_cases l:jL ((a::t).take (qN (a::t)))=true
  ·rw [if_pos l];exact ⟨by simpa [right] using l,by simp⟩
  ·rw [if_neg l] at h⊢;by_cases b:12<qN (a::t)
   ·rw [if_pos b] at h;cases h
   ·rw [if_neg b];refine ⟨?_,by simp⟩;simp only [right,if_true,qh,Bool.and_eq_true,decide_eq_true_eq,Bool.not_eq_true'];have B:qN (a::t)≤(a::t).length:=yv _ _;have c:((a::t).take (qN (a::t))).length=qN (a::t):=by rw [List.length_take];omega
    refine ⟨⟨⟨⟨by omega,by omega⟩, ?_⟩, ?_⟩,by simpa using l⟩
    ·obtain ⟨m,E⟩:∃m,qN (a::t)=m+1:=⟨qN (a::t) - 1,by omega⟩;rw [E];simpa using j
    ·rw [c,u];show ((List.takeWhile part (a::t)).takeWhile part).length=_;rw [qtK];rfl
 ·rw [if_neg j] at h⊢;by_cases z:qM a=true
  ·rw [if_pos z] at h⊢;by_cases n:jw ((a::t).take (jJ (a::t)))=true
   ·rw [if_pos n];exact ⟨by simpa [right] using n,by simp⟩
   ·rw [if_neg n] at h;cases h
  ·rw [if_neg z] at h⊢;by_cases x:1<(a::t).length∧jq ((a::t).take 2)=true
   ·rw [if_pos x];exact ⟨by simpa [right] using x.2,by simp⟩
   ·rw [if_neg x] at h⊢;by_cases p:jq ((a::t).take 1)=true
    ·rw [if_pos p];exact ⟨by simpa [right] using p,by simp⟩
    ·rw [if_neg p] at h;cases h
theorem qba {k:Nat} {s:Bs} (h:right k s=true):∀c∈s,c≠10∧c≠37∧c≠32∧c≠9:=by
 have n:∀c:UInt8,part c=true→c≠10∧c≠37∧c≠32∧c≠9:=by
  intro c a;refine ⟨?_, ?_, ?_, ?_⟩<;>rintro rfl<;>revert a<;>decide
 have b:qN s=s.length→∀c∈s,part c=true:=by
  intro u c a;have j:=List.takeWhile_prefix part (l:=s);have m:=j.eq_of_length u;exact List.all_eq_true.1 (List.all_takeWhile (p:=part) (l:=s)) c (by rw [m];exact a)
 unfold right at h;split at h
 ·simp only [qh,Bool.and_eq_true,decide_eq_true_eq] at h;exact fun c a=>n c (b h.1.2 c a)
 ·split at h
  ·obtain ⟨_,j,_⟩:=qb8 s (by simpa [jL] using h);exact fun c a=>n c (b j c a)
  ·split at h
   ·simp only [jw,Bool.and_eq_true,Bool.not_eq_true',Bool.or_eq_false_iff,decide_eq_false_iff_not,Decidable.not_not] at h;obtain ⟨⟨⟨⟨x,j⟩,m⟩,y⟩,z⟩:=h;have t:=(List.takeWhile_prefix qM (l:=s)).eq_of_length m;exact fun c a=>n c (qDi (List.all_eq_true.1 (List.all_takeWhile (p:=qM) (l:=s)) c (by rw [t];exact a)))
   ·split at h
    ·exact (qaY s (by simpa [jq] using h)).2.2.2.2
    ·cases h
theorem qcx {k:Nat} {s r:Bs} {l:Int} (j:s≠[]) (h:first (s++r)=(k,s.length,0)) (b:∀c∈s,c≠10∧c≠37∧c≠32∧c≠9):qX (s++r) l=(qX r l).add [⟨k,s,l⟩] []:=by
 obtain ⟨a,t,rfl⟩:∃a t,s=a::t:=by cases s with|nil=>exact absurd rfl j|cons a t=>exact ⟨a,t,rfl⟩
 obtain ⟨m,b2,b3,b4⟩:=b a (by simp);rw [List.cons_append] at h⊢;rw [yD,if_neg m,if_neg (by rintro (h|h)<;>contradiction),if_neg b2,h];rw [if_neg (by simp)];have e:a::(t++r)=(a::t)++r:=rfl;simp only [e];rw [List.drop_left,List.take_left]
theorem qjU {P:Bs→Int→Prop} (A:∀l,P [] l) (Y:∀r l,P r (l+1)→P (10::r) l) (Z:∀c r l,(c=32∨c=9)→P r l→P (c::r) l)
  (W:∀a r l,(∀c∈a,c≠10)→(r=[]∨∃x,r=10::x)→P r l→P (37::a++r) l)
  (R:∀c r l,c≠10→c≠32→c≠9→c≠37→(first (c::r)).2.2≠0→P (c::r) l)
  (X:∀k s r l,right k s=true→first (s++r)=(k,s.length,0)→P r l→P (s++r) l):∀s l,P s l:=by
 have key:∀n,∀s:Bs,s.length≤n→∀l,P s l:=by
  intro n
  induction n with
  |zero=>
   intro s J l;have:s=[]:=List.length_eq_zero_iff.1 (by omega);subst this;exact A l
  |succ n t=>
   intro s J l;cases s with
   |nil=>exact A l
   |cons c r=>
    simp only [List.length_cons] at J;by_cases B:c=10
    ·subst B;exact Y r l (t r (by omega) _)
    ·by_cases u:c=32∨c=9
     ·exact Z c r l u (t r (by omega) _)
     ·by_cases I:c=37
      ·subst I;have hw:r=r.takeWhile (fun c=>decide (c≠10))++r.dropWhile (fun c=>decide (c≠10)):=List.takeWhile_append_dropWhile.symm;have z:(r.dropWhile (fun c=>decide (c≠10))).length≤r.length:=(List.dropWhile_sublist _).length_le;have h:=W (r.takeWhile (fun c=>decide (c≠10))) (r.dropWhile (fun c=>decide (c≠10))) l (fun c O=>by
        have:=List.all_eq_true.1 (List.all_takeWhile (p:=fun c=>decide (c≠10)) (l:=r)) c O;simpa using this) ?_ (t _ (by omega) _)
       ·rw [List.cons_append,←hw] at h;exact h
       ·cases E:r.dropWhile (fun c=>decide (c≠10)) with
        |nil=>exact .inl rfl
        |cons x y=>
         refine .inr ⟨y, ?_⟩;have:=List.head_dropWhile_not (p:=fun c=>decide (c≠10)) (l:=r) (by rw [E];simp);simp only [E,List.head_cons] at this;rw [show x=10 by simpa using this]
      ·by_cases m:(first (c::r)).2.2=0
       ·obtain ⟨S,_⟩:=qrL (s:=c::r) (by simp) m;obtain ⟨hp,z⟩:=qas (s:=c::r) m (by simp);have b:(c::r)=(c::r).take (first (c::r)).2.1++(c::r).drop (first (c::r)).2.1:=(List.take_append_drop _ _).symm;have j:((c::r).take (first (c::r)).2.1).length=(first (c::r)).2.1:=by rw [List.length_take];omega
        have h:=X (first (c::r)).1 ((c::r).take (first (c::r)).2.1) ((c::r).drop (first (c::r)).2.1) l S (by rw [←b,j,←m]) (t _ (by simp only [List.length_drop,List.length_cons];omega) _);rw [←b] at h;exact h
       ·exact R c r l B (fun h=>u (.inl h)) (fun h=>u (.inr h)) I m
 exact fun s l=>key s.length s (Nat.le_refl _) l
theorem qa3 (r:Bs) (l:Int):qX (10::r) l=qX r (l+1):=by rw [yD,if_pos rfl]
theorem qa2 {c:UInt8} (r:Bs) (l:Int) (h:c=32∨c=9):qX (c::r) l=qX r l:=by
 rw [yD,if_neg (by rcases h with rfl|rfl<;>decide),if_pos h]
theorem qDA {a r:Bs} (j:∀c∈a,c≠10) (h:r=[]∨∃x,r=10::x):jd (37::a++r)=(37::a).length:=by
 unfold jd;rw [List.takeWhile_append_of_pos (fun c b=>by
  rcases List.mem_cons.1 b with rfl|b
  ·decide
  ·simpa using j c b)]
 rcases h with rfl|⟨x,rfl⟩<;>simp
theorem qjX {a r:Bs} (l:Int) (j:∀c∈a,c≠10) (b:r=[]∨∃x,r=10::x):qX (37::a++r) l=(qX r l).add [] [37::a]:=by
 have h:=qDA j b;rw [List.cons_append] at h⊢;rw [yD,if_neg (by decide),if_neg (by decide),if_pos rfl,h];have e:(37:UInt8)::(a++r)=(37::a)++r:=rfl;simp only [e];rw [List.drop_left,List.take_left]
theorem qjW {c:UInt8} {r:Bs} (l:Int) (a:c≠10) (m:c≠32) (j:c≠9) (b:c≠37) (h:(first (c::r)).2.2≠0):qX (c::r) l= .bad (first (c::r)).2.2 l:=by
 rw [yD,if_neg a,if_neg (by rintro (h|h)<;>contradiction),if_neg b,if_pos h]
end Go.L01
namespace Go.L02
open Go.Eng
open Go.L01 (Bs Tok jL jq jw qh right)
def xl (L:List Tok):Prop:=∀t∈L,right t.kind t.text=true
def qb4 {β:Type} (f:Nat) (D:Nat→Nat→Prop):Ro β→Prop
 | .oof=>True
 | .val none _ g=>f=g
 | .val (some _) j g=>f=max g j∧D f j
def jN {α β:Type} (i:Nat) (D:Nat→Nat→Prop) (V:Nat→α→β→Prop) (r:Rs α):Ro β→Prop
 | .oof=>True
 | .val o j' g=>match r with
  | .oof=>True
  | .no f=>i≤f∧qb4 f D (.val o j' g)
  | .ok a j f=>∃b,o=some b∧j'=j∧i≤j∧max f j=max g j∧V j a b
section
variable {α β γ δ:Type} {i:Nat} {D D':Nat→Nat→Prop} {V:Nat→α→β→Prop} {U:Nat→γ→δ→Prop}
theorem jN.lower {r:Rs α} {s:Ro β} {k:Nat} (h:jN i D V r s) (c:k≤i):jN k D V r s:=by
 cases s with
 |oof=>trivial
 |val o t g=>cases r with
  |oof=>trivial
  |no f=>exact ⟨Nat.le_trans c h.1,h.2⟩
  |ok a j f=>obtain ⟨b,n,p,m,l⟩:=h;exact ⟨b,n,p,Nat.le_trans c m,l⟩
theorem jN.no {f:Nat} {s:Ro β} (a:i≤f) (h:qb4 f D s):jN i D V (.no f:Rs α) s:=by
 cases s with
 |oof=>trivial
 |val o j g=>exact ⟨a,h⟩
theorem jN.soof {s:Ro β}:jN i D V (.oof:Rs α) s:=by cases s<;>trivial
theorem wX {a:α} {b:β} {f g:Nat} (h:max f i=max g i) (c:V i a b):jN i D V (ret a i f) (vi b i g):=⟨b,rfl,rfl,Nat.le_refl _,h,c⟩
theorem qjH {f g:Nat} (a:max f i=max g i) (b:i≤g):jN i D V (qd8 i f) (kq i g:Ro β):=⟨Nat.le_max_right _ _,by show max f i=g;omega⟩
theorem qaX {m:M α} {n:N β} {k:α→M γ} {l:β→N δ} {f g:Nat} (h:jN i D V (m i f) (n i g))
  (A:∀j a b f g,i≤j→max f j=max g j→V j a b→jN j D' U (k a j f) (l b j g))
  (E:∀j b f g,f=max g j→D f j→qb4 f D' (l b j g)):jN i D' U (bnd m k i f) (jF n l i g):=by
 unfold bnd jF;cases B:n i g with
 |oof=>trivial
 |val o y p=>
  rw [B] at h;cases t:m i f with
  |oof=>exact .soof
  |no c=>
   rw [t] at h;refine .no h.1 ?_;cases o with
   |none=>exact h.2
   |some b=>exact E y b c p h.2.1 h.2.2
  |ok a j c=>
   rw [t] at h;obtain ⟨b,rfl,rfl,u,x,z⟩:=h;exact (A _ a b c p u x z).lower u
end
section
variable {L:List Tok}
theorem wu {i:Nat} (h:i<L.length):tk L i=L[i]:=by simp [tk,h]
theorem Qm {i:Nat} (h:L.length≤i):tk L i=⟨0,[],0⟩:=by simp [tk,h]
theorem xl.tk (b:xl L) {i:Nat} (h:(tk L i).kind≠0):i<L.length∧right (tk L i).kind (tk L i).text=true:=by
 by_cases a:i<L.length
 ·exact ⟨a,by rw [wu a];exact b _ (List.getElem_mem a)⟩
 ·rw [Qm (by omega)] at h;exact absurd rfl h
theorem qlK {k m:Nat} {s:Bs} (h:right k s=true) (g:right m s=true):k=m:=by
 have:=(L01.wC h).2;rw [(L01.wC g).2] at this;cases this;rfl
theorem ql4 (c:xl L) {i k:Nat} {s:Bs} (j:right k s=true):qy L i k s=decide ((tk L i).text=s):=by
 have a:=(L01.wC j).1;unfold qy;simp only [a,decide_false,Bool.false_or];by_cases h:(tk L i).text=s
 ·have b:(tk L i).kind≠0:=by
   intro b;by_cases l:i<L.length
   ·have:=c _ (List.getElem_mem l);rw [←wu l,b] at this;simp [right] at this
   ·rw [Qm (by omega)] at h;exact a h.symm
  obtain ⟨n,m⟩:=c.tk b;rw [h] at m;simp [n,h,qlK m j]
 ·simp [h]
theorem qyt (b:xl L) {i k:Nat} {s:Bs} (j:right k s=true) (t:k=2∨k=4):jQ L i [s]=decide ((tk L i).text=s):=by
 rw [←ql4 b j];have a:=(L01.wC j).1;unfold jQ qy;by_cases h:(tk L i).text=s
 ·have c:(tk L i).kind≠0:=by
   intro c;by_cases m:i<L.length
   ·have:=b _ (List.getElem_mem m);rw [←wu m,c] at this;simp [right] at this
   ·rw [Qm (by omega)] at h;exact a h.symm
  obtain ⟨p,n⟩:=b.tk c;rw [h] at n;have l:=qlK n j;rcases t with rfl|rfl<;>simp [h,p,l,a]
 ·have:¬s=(tk L i).text:=fun e=>h e.symm;simp [h,a]
theorem ql2 (a:xl L) {i k:Nat} {s:Bs} (b:right k s=true) (c:k=2∨k=4):jQ L i [s]=qy L i k s:=by rw [qyt a b c,ql4 a b]
end
section
variable {L:List Tok} {α β:Type} {i f g:Nat} {D:Nat→Nat→Prop} {V:Nat→α→β→Prop}
theorem wW (c:xl L) (k:Nat) {s:Bs} {x y:M α} {b a:N β} (l:right k s=true) (m:k=2∨k=4) (p:max f i=max g i)
  (n:∀f g,qy L i k s=true→max f (i+1)=max g (i+1)→jN (i+1) D V (x (i+1) f) (b (i+1) g)) (j:∀g,qy L i k s=false→i≤g→max f i=max g i→jN i D V (y i f) (a i g)):
  jN i D V (qH L s x y i f) (jr L k s b a i g):=by
 unfold qH jr;rw [ql2 c l m];split
 ·rename_i h;exact (n f g h (by omega)).lower (by omega)
 ·rename_i h;exact j _ (by simpa using h) (Nat.le_max_right _ _) (by omega)
theorem Ji (b:xl L) (k:Nat) {s:Bs} {m:Unit→M α} {a:N β} (c:right k s=true) (j:k=2∨k=4) (n:max f i=max g i)
  (l:∀f g,qy L i k s=true→max f (i+1)=max g (i+1)→jN (i+1) D V (m () (i+1) f) (a (i+1) g)):jN i D V (bnd (needs L [s]) m i f) (jr L k s a kq i g):=by
 unfold bnd needs qH jr;rw [ql2 b c j];split
 ·rename_i h;exact (l f g h (by omega)).lower (by omega)
 ·exact qjH (by omega) (Nat.le_max_right _ _)
theorem qjF (b:xl L) {k:Bs→M α} {a:Bs→N β} (j:max f i=max g i)
  (c:∀f g,(tk L i).kind=1→max f (i+1)=max g (i+1)→jN (i+1) D V (k (tk L i).text (i+1) f) (a (tk L i).text (i+1) g)):jN i D V (bnd (name L) k i f) (kP L a i g):=by
 unfold bnd name kP qy;by_cases h:(tk L i).kind=1
 ·have:=(b.tk (i:=i) (by omega)).1;simp only [h,if_true,Rs.andThen,this,decide_true,Bool.true_and,Bool.true_or];exact (c f g h (by omega)).lower (by omega)
 ·simp only [h,if_false,Rs.andThen,decide_false,Bool.false_and,Bool.and_false];exact ⟨Nat.le_max_right _ _,by show max f i=max g i;omega⟩
theorem qyy (a:xl L):qy L i 1 [116]=(decide ((tk L i).kind=1)&&decide ((tk L i).text=[116])):=by
 unfold qy;by_cases h:(tk L i).kind=1
 ·simp [h,(a.tk (i:=i) (by omega)).1]
 ·simp [h]
theorem qdr {k:Nat} {s:Bs} (h:qy L i k s=true) (a:s≠[]):i<L.length∧(tk L i).kind=k∧(tk L i).text=s:=by
 simpa [qy,a,and_assoc] using h
end
theorem qEc {α β γ:Type} (m:M α) (k:α→M β) (l:β→M γ):bnd (bnd m k) l=bnd m fun x=>bnd (k x) l:=by
 funext i f;unfold bnd;cases m i f<;>rfl
theorem qEb {α β:Type} (a:α) (k:α→M β):bnd (ret a) k=k a:=rfl
theorem wZ {α:Type} (m:M α):(bnd m fun x=>ret x)=m:=by
 funext i f;unfold bnd ret;cases m i f<;>rfl
theorem qtH {α β:Type} {L:List Tok} (s:Bs) (x y:M α) (k:α→M β):bnd (qH L s x y) k=qH L s (bnd x k) (bnd y k):=by
 funext i f;unfold bnd qH;split<;>rfl
section
variable {L:List Tok}
theorem x4 {i j k:Nat} (a:i≤j) (c:j≤k):jK (vS L i k)=jK (vS L i j)++jK (vS L j k):=by
 unfold jK vS;rw [←List.flatten_append,←List.map_append];congr 2;have e:L.take k=L.take j++(L.take k).drop j:=by
  have:=List.take_append_drop j (L.take k);rw [List.take_take,Nat.min_eq_left c] at this;exact this.symm
 conv=>lhs;rw [e]
 rw [List.drop_append];congr 1;by_cases b:j≤L.length
 ·rw [List.length_take,Nat.min_eq_left b,Nat.sub_eq_zero_of_le a];rfl
 ·have:(L.take k).drop j=[]:=List.drop_eq_nil_of_le (by simp;omega);rw [this];simp
theorem qbC (i:Nat):jK (vS L i (i+1))=(tk L i).text:=by
 unfold jK vS;by_cases h:i<L.length
 ·rw [List.take_succ_eq_append_getElem h,List.drop_append,List.drop_eq_nil_of_le (by simp;omega)];have:i - (L.take i).length=0:=by simp;omega
  rw [this,wu h];simp
 ·rw [Qm (by omega),List.drop_eq_nil_of_le (by simp;omega)];rfl
abbrev wM:Nat→Nat→Prop:=fun _ _=>False
abbrev TxV (L:List Tok) (i:Nat) {α:Type}:Nat→α→Bs→Prop:=fun j _ s=>s=jK (vS L i j)
theorem xT {i:Nat} {k:Nat} {s:Bs} (h:qy L i k s=true) (a:s≠[]):s=jK (vS L i (i+1)):=by rw [qbC];exact (qdr h a).2.2.symm
theorem qjG {k:M Unit} {t:N Bs} (l:xl L) (y:∀i f g,max f i=max g i→jN i wM (TxV L i) (k i f) (t i g)):∀n m i f g,max f i=max g i→jN i wM (TxV L i) (listed L n (zZ L k) i f) (xc L t m i g)
 |n,0,i,f,g,b=>trivial
 |n,m+1,i,f,g,b=>by
  have e:listed L n (zZ L k)=bnd (name L) fun _=>bnd (needs L [[58]]) fun _=>bnd k fun _=>bnd (more L (zZ L k) n) fun xs=>ret ([]::xs):=by
   simp only [listed,zZ,sq,qEc,qEb]
  rw [e];show jN i wM _ _ (kP L (fun nm=>xq L [58] (jF t fun u=>jr L 4 [44] (jF (xc L t m) fun r=>vi (nm++[58]++u++[44]++r)) (vi (nm++[58]++u)))) i g);refine qjF l b fun f g O b=> ?_;refine Ji l 4 (by decide) (.inr rfl) b fun f g E b=> ?_;refine qaX (y _ _ _ b) (fun j a u f g J b z=> ?_) (fun _ _ _ _ _ h=>h.elim);have c:(tk L i).text++[58]++u=jK (vS L i j):=by
   rw [x4 (j:=i+1) (by omega) (by omega),qbC,x4 (i:=i+1) (j:=i+1+1) (by omega) (by omega),←xT E (by decide),z];simp
  cases n with
  |zero=>exact .soof
  |succ n=>
   show jN j wM _ (bnd (qH L [44] (listed L n (zZ L k)) (ret [])) (fun xs=>ret ([]::xs)) j f) _;rw [qtH];refine wW l 4 (by decide) (.inr rfl) b (fun f g x b=> ?_) (fun g x _ b=> ?_)
   ·refine qaX (qjG l y n m _ _ _ b) (fun A I r f g B b p=> ?_) (fun _ _ _ _ _ h=>h.elim);refine wX b ?_;show _++_++_++_++r=jK (vS L i A);rw [x4 (j:=j) (by omega) (by omega),x4 (i:=j) (j:=j+1) (by omega) (by omega),←xT x (by decide),c,p];simp
   ·exact wX b c
theorem qaW (c:xl L):∀n m i f g,max f i=max g i→jN i wM (TxV L i) (kind L n i f) (jA L m i g)
 |0,m,i,f,g,b=> .soof
 |n+1,0,i,f,g,b=>trivial
 |n+1,m+1,i,f,g,b=>by
  have p:∀(w:Bs) (f g:Nat),qy L i 2 w=true→w≠[]→max f (i+1)=max g (i+1)→jN (i+1) wM (TxV L i) (sq (needs L [[91]]) (sq (listed L n (zZ L (kind L n))) (needs L [[93]])) (i+1) f)
    (xq L [91] (jF (xc L (jA L m) m) fun l=>xq L [93] (vi (w++[91]++l++[93]))) (i+1) g):=by
   intro w f g B z b;refine Ji c 4 (by decide) (.inr rfl) b fun f g x b=> ?_;refine qaX (qjG c (qaW c n m) _ _ _ _ _ b) (fun j a l f g A b t=> ?_) (fun _ _ _ _ _ h=>h.elim);show jN _ _ _ (needs L [[93]] j f) _;rw [←wZ (needs L [[93]])];refine Ji c 4 (by decide) (.inr rfl) b fun f g u b=> ?_;refine wX b ?_;show _=jK (vS L i (j+1));rw [x4 (j:=i+1) (by omega) (by omega),←xT B z,x4 (i:=i+1) (j:=i+1+1) (by omega) (by omega),←xT x (by decide),x4 (i:=i+1+1) (j:=j) (by omega) (by omega),←xT u (by decide),t];simp
  show jN i wM _ (qH L [105,110,116] _ _ i f) (jr L 2 [105,110,116] (vi [105,110,116]) (jr L 2 [98,111,111,108] (vi [98,111,111,108]) (jr L 2 [110,117,108,108] (vi [110,117,108,108]) _)) i g);refine wW c 2 (by decide) (.inl rfl) b (fun f g h b=>wX b (xT h (by decide))) (fun g _ _ b=> ?_);refine wW c 2 (by decide) (.inl rfl) b (fun f g h b=>wX b (xT h (by decide))) (fun g _ _ b=> ?_);refine wW c 2 (by decide) (.inl rfl) b (fun f g h b=>wX b (xT h (by decide))) (fun g _ _ b=> ?_);refine wW c 2 (by decide) (.inl rfl) b (fun f g y b=> ?_) (fun g _ _ b=> ?_)
  ·refine Ji c 4 (by decide) (.inr rfl) b fun f g x b=> ?_;refine qaX (qaW c n m _ _ _ b) (fun j a l f g A b t=> ?_) (fun _ _ _ _ _ h=>h.elim);show jN _ _ _ (needs L [[93]] j f) _;rw [←wZ (needs L [[93]])];refine Ji c 4 (by decide) (.inr rfl) b fun f g u b=> ?_;refine wX b ?_;show _=jK (vS L i (j+1));rw [x4 (j:=i+1) (by omega) (by omega),←xT y (by decide),x4 (i:=i+1) (j:=i+1+1) (by omega) (by omega),←xT x (by decide),x4 (i:=i+1+1) (j:=j) (by omega) (by omega),←xT u (by decide),t];simp
  show jN i wM _ _ (jr L 2 [114,101,99,111,114,100] _ (jr L 2 [111,110,101,111,102] _ _) i g);refine wW c 2 (by decide) (.inl rfl) b (fun f g h b=>p _ f g h (by decide) b) (fun g _ _ b=> ?_);refine wW c 2 (by decide) (.inl rfl) b (fun f g h b=>p _ f g h (by decide) b) (fun g _ _ b=> ?_);refine wW c 4 (by decide) (.inr rfl) b (fun f g y b=> ?_) (fun g _ _ b=> ?_)
  ·rw [←wZ (param L)];unfold bnd param jr;rw [qyy c];by_cases h:(tk L (i+1)).kind=1∧(tk L (i+1)).text=[116]
   ·simp only [h,and_self,if_true,Rs.andThen,decide_true,Bool.and_self];refine ⟨_,rfl,rfl,by omega,by omega, ?_⟩;show _=jK (vS L i (i+1+1));rw [x4 (j:=i+1) (by omega) (by omega),←xT y (by decide),qbC,h.2];rfl
   ·rw [if_neg h,if_neg (by simpa using h)];exact qjH (i:=i+1) (f:=f) (by omega) (Nat.le_max_right _ _)
  ·refine qjF c b fun f g y b=> ?_;refine wW c 4 (by decide) (.inr rfl) b (fun f g x b=> ?_) (fun g _ _ b=> ?_)
   ·refine qaX (qaW c n m _ _ _ b) (fun j a l f g A b t=> ?_) (fun _ _ _ _ _ h=>h.elim);show jN _ _ _ (needs L [[93]] j f) _;rw [←wZ (needs L [[93]])];refine Ji c 4 (by decide) (.inr rfl) b fun f g u b=> ?_;refine wX b ?_;show _=jK (vS L i (j+1));rw [x4 (j:=i+1) (by omega) (by omega),qbC,x4 (i:=i+1) (j:=i+1+1) (by omega) (by omega),←xT x (by decide),x4 (i:=i+1+1) (j:=j) (by omega) (by omega),←xT u (by decide),t];simp
   ·exact wX b (qbC i).symm
end
section
variable {L:List Tok}
theorem qkq {α:Type} {k:Nat} {s:Bs} {x y:N α} {i g:Nat} (h:qy L i k s=true):jr L k s x y i g=x (i+1) g:=by unfold jr;rw [h];rfl
theorem qkr {α:Type} {k:Nat} {s:Bs} {x y:N α} {i g:Nat} (h:qy L i k s=false):jr L k s x y i g=y i (max g i):=by unfold jr;rw [h];rfl
theorem qyx {i k m:Nat} {s t:Bs} (h:qy L i k s=true) (l:s≠[]) (j:t≠[]) (a:¬(k=m∧s=t)):qy L i m t=false:=by
 obtain ⟨_,b,u⟩:=qdr h l;cases p:qy L i m t with
 |false=>rfl
 |true=>
  obtain ⟨_,n,c⟩:=qdr p j;exact absurd ⟨b.symm.trans n,u.symm.trans c⟩ a
def qs3 {α:Type} (m:M α):Prop:=∀i,(∃a k,∀f,m i f= .ok a k f)∨(∃p,∀f,m i f= .no (max f p))∨∀f,m i f= .oof
theorem qs3.all {α:Type} {m:M α} (h:qs3 m) {i k f n:Nat} {a:α} (j:m i f= .ok a k n):n=f∧∀g,m i g= .ok a k g:=by
 rcases h i with ⟨b,l,c⟩|⟨p,c⟩|c
 ·rw [c] at j;cases j;exact ⟨rfl,c⟩
 ·rw [c] at j;cases j
 ·rw [c] at j;cases j
def Up {α:Type} (m:M α):Prop:=∀i f,match m i f with| .ok _ j f'=>i≤j∧f≤f'| .no f'=>i≤f'∧f≤f'| .oof=>True
theorem Up.ok {α:Type} {m:M α} (h:Up m) {i f j b:Nat} {a:α} (e:m i f= .ok a j b):i≤j∧f≤b:=by have:=h i f;rw [e] at this;exact this
theorem Up.no {α:Type} {m:M α} (h:Up m) {i f a:Nat} (e:m i f= .no a):i≤a∧f≤a:=by have:=h i f;rw [e] at this;exact this
theorem wo {α:Type} (a:α):Up (ret a):=fun i f=>⟨Nat.le_refl _,Nat.le_refl _⟩
theorem qiT {α:Type}:Up (oof:M α):=fun i f=>trivial
theorem qtr {α:Type}:Up (qd8:M α):=fun i f=>⟨Nat.le_max_right _ _,Nat.le_max_left _ _⟩
theorem xn {α β:Type} {m:M α} {k:α→M β} (t:Up m) (p:∀a,Up (k a)):Up (bnd m k):=by
 intro i f;unfold bnd;cases h:m i f with
 |oof=>trivial
 |no c=>exact t.no h
 |ok a j c=>
  obtain ⟨z,A⟩:=t.ok h;simp only [Rs.andThen];cases n:k a j c with
  |oof=>trivial
  |no y=>obtain ⟨u,x⟩:=(p a).no n;exact ⟨by omega,by omega⟩
  |ok b l y=>obtain ⟨u,x⟩:=(p a).ok n;exact ⟨by omega,by omega⟩
theorem qts {α:Type} {x:M α} (b:Up x) (i f n:Nat):match x (i+n) f with| .ok _ j a=>i≤j∧f≤a| .no a=>i≤a∧f≤a| .oof=>True:=by
 have:=b (i+n) f;split<;>rename_i h<;>rw [h] at this
 ·exact ⟨by omega,this.2⟩
 ·exact ⟨by omega,this.2⟩
 ·trivial
theorem wn {α:Type} {s:Bs} {x y:M α} (b:Up x) (a:Up y):Up (qH L s x y):=by
 intro i f;unfold qH;cases h:jQ L i [s] with
 |true=>exact qts b i f 1
 |false=>exact a i f
theorem xF:∀ss:List Bs,Up (needs L ss)
 |[]=>wo _
 |s::ss=>wn (xF ss) qtr
theorem Jc:Up (name L):=by
 intro i f;unfold name;by_cases h:(tk L i).kind=1
 ·simp only [h,if_true];exact ⟨by omega,Nat.le_refl _⟩
 ·simp only [h,if_false];exact ⟨by omega,by omega⟩
theorem qtq:Up (param L):=by
 intro i f;unfold param;by_cases h:(tk L i).kind=1∧(tk L i).text=[116]
 ·rw [if_pos h];exact ⟨by omega,Nat.le_refl _⟩
 ·rw [if_neg h];exact ⟨by omega,by omega⟩
theorem qcb {α:Type} {m:M α} (h:Up m):∀n,Up (more L m n)
 |0=>qiT
 |n+1=>wn (xn h fun _=>xn (qcb h n) fun _=>wo _) (wo _)
theorem qiU {α:Type} {m:M α} (h:Up m) (n:Nat):Up (listed L n m):=xn h fun _=>xn (qcb h n) fun _=>wo _
theorem yq:∀n,Up (kind L n)
 |0=>qiT
 |n+1=>by
  have a:=yq n;have b:Up (sq (needs L [[91]]) (sq (listed L n (zZ L (kind L n))) (needs L [[93]]))):=xn (xF _) fun _=>xn
   (qiU (xn Jc fun _=>xn (xF _) fun _=>xn a fun _=>wo _) n) fun _=>xF _
  exact wn (wo _) (wn (wo _) (wn (wo _) (wn (xn (xF _) fun _=>xn a fun _=>xF _)
   (wn b (wn b (wn qtq (xn Jc fun _=>wn (xn a fun _=>xF _) (wo _))))))))
def qeH {α:Type} (k g:Nat):Ro α→Prop
 | .oof=>True
 | .val none _ g'=>g'=g
 | .val (some _) k' g'=>k'=k∧g'=g
theorem qeH.bnd {α β:Type} {k g l i b:Nat} {m:N α} {x:α→N β} (h:qeH k g (m i b)) (n:∀a,qeH l g (x a k g)):qeH l g (jF m x i b):=by
 unfold jF;cases c:m i b with
 |oof=>trivial
 |val o j p=>
  rw [c] at h;cases o with
  |none=>exact h
  |some a=>obtain ⟨rfl,rfl⟩:=h;exact n a
end
section
variable {L:List Tok}
abbrev D1 (L:List Tok):Nat→Nat→Prop:=fun _ j=>qy L j 4 [36]=true∨qy L j 4 [40]=true∨qy L j 4 [123]=true
theorem D1.no {f j:Nat} (h:D1 L f j) {k:Nat} {s:Bs} (a:s≠[]) (b:[[36],[40],[123]].contains s=false):qy L j k s=false:=by
 rcases h with h|h|h<;>exact qyx h (by decide) a (by rintro ⟨_,rfl⟩;revert b;decide)
theorem D1.kind {f j:Nat} (h:D1 L f j):(tk L j).kind=4:=by
 rcases h with h|h|h<;>exact (qdr h (by decide)).2.1
theorem qet {α β:Type} {m:M α} {k:α→M β} {i f j b:Nat} {a:α} (h:m i f= .ok a j b):bnd m k i f=k a j b:=by unfold bnd;rw [h];rfl
theorem qxT {i f:Nat} (h:(tk L i).kind=1):name L i f= .ok (tk L i).text (i+1) f:=by unfold name;rw [if_pos h]
end
section
variable {L:List Tok}
theorem qsF {α β:Type} {m:N α} {k:α→N β} {i g j a:Nat} (h:m i g= .val none j a):jF m k i g= .val none j a:=by unfold jF;rw [h];rfl
theorem qsE {α β:Type} {m:N α} {k:α→N β} {i g j a:Nat} {x:α} (h:m i g= .val (some x) j a):jF m k i g=k x j a:=by unfold jF;rw [h];rfl
theorem qEd {α β:Type} {m:N α} {k:α→N β} {i g:Nat} (h:m i g= .oof):jF m k i g= .oof:=by unfold jF;rw [h];rfl
theorem qeu {α β:Type} {m:M α} {k:α→M β} {i f a:Nat} (h:m i f= .no a):bnd m k i f= .no a:=by unfold bnd;rw [h];rfl
theorem qsD {α β:Type} {m:M α} {k:α→M β} {i f:Nat} (h:m i f= .oof):bnd m k i f= .oof:=by unfold bnd;rw [h];rfl
end
section
variable {L:List Tok}
def D2 (L:List Tok):Nat→Nat→Prop:=fun _ j=>qy L j 4 [59]=false∧∀s∈[[101,110,100],[101,108,115,101,105,102],[101,108,115,101],[101,120,99,101,112,116],[119,104,101,110],[116,97,103]],qy L j 2 s=false
theorem D2.far {f a j:Nat} (h:D2 L f j):D2 L a j:=h
def RU {α:Type} (m:N α):Prop:=∀i g,match m i g with| .val _ j g'=>i≤j∧g≤g'| .oof=>True
theorem RU.val {α:Type} {m:N α} (h:RU m) {i g j a:Nat} {o:Option α} (e:m i g= .val o j a):i≤j∧g≤a:=by have:=h i g;rw [e] at this;exact this
theorem yE {α:Type} (a:α):RU (vi a):=fun i g=>⟨Nat.le_refl _,Nat.le_refl _⟩
theorem Qv {α:Type}:RU (kq:N α):=fun i g=>⟨Nat.le_refl _,Nat.le_refl _⟩
theorem qke {α:Type}:RU (qf2:N α):=fun i g=>trivial
theorem qa4 {α β:Type} {m:N α} {k:α→N β} (p:RU m) (c:∀a,RU (k a)):RU (jF m k):=by
 intro i g;cases h:m i g with
 |oof=>rw [qEd h];trivial
 |val o j b=>
  have n:=p.val h;cases o with
  |none=>rw [qsF h];exact n
  |some a=>
   rw [qsE h];cases t:k a j b with
   |oof=>trivial
   |val o l u=>have:=(c a).val t;exact ⟨by omega,by omega⟩
theorem kM {α:Type} {k:Nat} {s:Bs} {x y:N α} (l:RU x) (b:RU y):RU (jr L k s x y):=by
 intro i g;cases a:qy L i k s with
 |true=>
  rw [qkq a];cases h:x (i+1) g with
  |oof=>trivial
  |val o j c=>have:=l.val h;exact ⟨by omega,this.2⟩
 |false=>
  rw [qkr a];cases h:y i (max g i) with
  |oof=>trivial
  |val o j c=>have:=b.val h;exact ⟨this.1,by omega⟩
theorem qkf {α:Type} {x:Bs→N α} (a:∀s,RU (x s)):RU (kP L x):=by
 intro i g;unfold kP;cases b:qy L i 1 [] with
 |true=>
  simp only [if_true];cases h:x (tk L i).text (i+1) g with
  |oof=>trivial
  |val o j c=>have:=(a _).val h;exact ⟨by omega,this.2⟩
 |false=>exact ⟨Nat.le_refl _,by omega⟩
theorem qfs {α:Type} {k:Nat} {x:Bs→N α} {y:N α} (b:∀s,RU (x s)) (a:RU y):∀ss,RU (seen L k x y ss)
 |[]=>a
 |s::ss=>kM (b s) (qfs b a ss)
theorem qcD {t:N Bs} (a:RU t):∀n,RU (xc L t n)
 |0=>qke
 |n+1=>qkf fun _=>kM (qa4 a fun _=>kM (qa4 (qcD a n) fun _=>yE _) (yE _)) Qv
theorem Qu:∀n,RU (jA L n)
 |0=>qke
 |n+1=>qfs (fun _=>yE _) (kM (kM (qa4 (Qu n) fun _=>kM (yE _) Qv) Qv)
  (qfs (fun _=>kM (qa4 (qcD (Qu n) n) fun _=>kM (yE _) Qv) Qv)
   (kM (kM (yE _) Qv) (qkf fun _=>kM (qa4 (Qu n) fun _=>kM (yE _) Qv) (yE _))) _)) _
end
section
variable {L:List Tok}
theorem D2.w {F j:Nat} (h:D2 L F j) {s:Bs} (a:[[101,110,100],[101,108,115,101,105,102],[101,108,115,101],[101,120,99,101,112,116],[119,104,101,110],[116,97,103]].contains s=true):qy L j 2 s=false:=h.2 s (by simpa using a)
end
section
variable {L:List Tok}
def vq {α:Type} (L:List Tok) (N:Nat) (m:M α):Prop:=∀i f,L.length - i<N→m i f≠ .oof
def Con {α:Type} (L:List Tok) (m:M α):Prop:=∀i f a j f',m i f= .ok a j f'→i<j∧i<L.length
theorem vq.mono {α:Type} {N K:Nat} {m:M α} (h:vq L N m) (b:K≤N):vq L K m:=fun i f a=>h i f (by omega)
theorem wS {α:Type} (a:α) (N:Nat):vq L N (ret a):=fun i f _ h=>by cases h
theorem qtC {α:Type} (N:Nat):vq L N (qd8:M α):=fun i f _ h=>by cases h
theorem qi5 {α:Type} (m:M α):vq L 0 m:=fun i f h=>by omega
theorem kH {α β:Type} {N:Nat} {m:M α} {k:α→M β} (l:vq L N m) (c:Up m) (p:∀a,vq L N (k a)):vq L N (bnd m k):=by
 intro i f n;cases h:m i f with
 |oof=>exact absurd h (l i f n)
 |no b=>rw [qeu h];simp
 |ok a j b=>rw [qet h];exact p a j b (by have:=(c.ok h).1;omega)
theorem qtD {α β:Type} {N:Nat} {m:M α} {k:α→M β} (l:vq L N m) (c:Con L m) (p:∀a,vq L (N - 1) (k a)):vq L N (bnd m k):=by
 intro i f n;cases h:m i f with
 |oof=>exact absurd h (l i f n)
 |no b=>rw [qeu h];simp
 |ok a j b=>rw [qet h];exact p a j b (by have:=c _ _ _ _ _ h;omega)
theorem qgi {i:Nat} {ss:List Bs} (h:jQ L i ss=true):i<L.length:=by
 by_cases a:i<L.length
 ·exact a
 ·unfold jQ at h;rw [Qm (by omega)] at h;simp at h
theorem qgf {i:Nat} {k:Nat} (h:(tk L i).kind=k) (b:k≠0):i<L.length:=by
 by_cases a:i<L.length
 ·exact a
 ·rw [Qm (by omega)] at h;exact absurd h.symm b
theorem wr {α:Type} {N:Nat} {s:Bs} {x y:M α} (c:vq L (N - 1) x) (a:vq L N y):vq L N (qH L s x y):=by
 intro i f b;unfold qH;split
 ·rename_i h;have:=qgi h;exact c _ _ (by omega)
 ·exact a _ _ b
theorem Qk (N:Nat):∀ss:List Bs,vq L N (needs L ss)
 |[]=>wS _ _
 |s::ss=>wr (Qk (N - 1) ss) (qtC _)
theorem qi6 (N:Nat):vq L N (name L):=by
 intro i f _ h;unfold name at h;split at h<;>cases h
theorem qDw:Con L (name L):=by
 intro i f a j c h;unfold name at h;split at h
 ·rename_i b;simp only [Rs.ok.injEq] at h;have:=qgf b (by decide);omega
 ·cases h
theorem qtA (N:Nat):vq L N (param L):=by
 intro i f _ h;unfold param at h;split at h<;>cases h
theorem qi7 {α:Type} {e:M α} (a:Up e):∀n N,N≤n→vq L (N - 1) e→vq L N (more L e n)
 |0,N,h,_=>by
  obtain rfl:N=0:=by omega
  exact qi5 _
 |n+1,N,h,b=>wr (kH b a fun _=>kH (qi7 a n (N - 1) (by omega) (b.mono (by omega))) (qcb a n) fun _=>wS _ _) (wS _ _)
theorem qtB {α:Type} {e:M α} (a:Up e) {n N:Nat} (h:N≤n) (b:vq L N e):vq L N (listed L n e):=kH b a fun _=>kH (qi7 a n N h (b.mono (by omega))) (qcb a n) fun _=>wS _ _
theorem qaN {k:M Unit} (h:Up k):Up (zZ L k):=xn Jc fun _=>xn (xF _) fun _=>xn h fun _=>wo _
theorem qeQ:∀n,vq L n (kind L n)
 |0=>qi5 _
 |n+1=>by
  have b:=qeQ n;have a:=yq (L:=L) n;have h:vq L n (zZ L (kind L n)):=kH (qi6 _) Jc fun _=>kH (Qk _ _) (xF _) fun _=>kH b a fun _=>wS _ _;have c:vq L n (sq (needs L [[91]]) (sq (listed L n (zZ L (kind L n))) (needs L [[93]]))):=kH (Qk _ _) (xF _) fun _=>kH (qtB (qaN a) (Nat.le_refl _) h) (qiU (qaN a) n) fun _=>Qk _ _;exact wr (wS _ _) (wr (wS _ _) (wr (wS _ _) (wr (kH (Qk _ _) (xF _) fun _=>kH b a fun _=>Qk _ _)
   (wr c (wr c (wr (qtA _) (qtD (qi6 _) qDw fun _=>wr (kH (b.mono (by omega)) a fun _=>Qk _ _) (wS _ _))))))))
end
section
variable {L:List Tok}
theorem qlL {n:Nat} (h:L.length+3≤n) (f:Nat):kind L n 0 f≠ .oof:=qeQ n 0 f (by omega)
def zG {α:Type} (L:List Tok) (N:Nat) (m:Go.L02.N α):Prop:=∀i g,L.length - i<N→m i g≠ .oof
theorem zG.mono {α:Type} {N K:Nat} {m:Go.L02.N α} (h:zG L N m) (b:K≤N):zG L K m:=fun i g a=>h i g (by omega)
theorem yu {α:Type} (a:α) (N:Nat):zG L N (vi a):=fun i g _ h=>by cases h
theorem Ql {α:Type} (N:Nat):zG L N (kq:Go.L02.N α):=fun i g _ h=>by cases h
theorem qi8 {α:Type} (m:N α):zG L 0 m:=fun i g h=>by omega
theorem qaO {α β:Type} {N:Nat} {m:Go.L02.N α} {k:α→Go.L02.N β} (p:zG L N m) (b:RU m) (n:∀a,zG L N (k a)):zG L N (jF m k):=by
 intro i g l;cases h:m i g with
 |oof=>exact absurd h (p i g l)
 |val o j c=>
  cases o with
  |none=>rw [qsF h];simp
  |some a=>rw [qsE h];exact n a j c (by have:=(b.val h).1;omega)
theorem yW {i k:Nat} {s:Bs} (h:qy L i k s=true):i<L.length:=by
 unfold qy at h;simp only [Bool.and_eq_true,decide_eq_true_eq] at h;exact h.1.1
theorem kI {α:Type} {N k:Nat} {s:Bs} {x y:Go.L02.N α} (c:zG L (N - 1) x) (a:zG L N y):zG L N (jr L k s x y):=by
 intro i g b;cases h:qy L i k s with
 |true=>rw [qkq h];have:=yW h;exact c _ _ (by omega)
 |false=>rw [qkr h];exact a _ _ b
theorem qi9 {α:Type} {N:Nat} {x:Bs→Go.L02.N α} (a:∀s,zG L (N - 1) (x s)):zG L N (kP L x):=by
 intro i g b;unfold kP;split
 ·rename_i h;have:=yW h;exact a _ _ _ (by omega)
 ·simp
theorem qeR {α:Type} {N k:Nat} {x:Bs→Go.L02.N α} {y:Go.L02.N α} (b:∀s,zG L (N - 1) (x s)) (a:zG L N y):∀ss,zG L N (seen L k x y ss)
 |[]=>a
 |s::ss=>kI (b s) (qeR b a ss)
theorem qja {t:N Bs} (a:RU t):∀n N,N≤n→zG L (N - 1) t→zG L N (xc L t n)
 |0,N,h,_=>by
  obtain rfl:N=0:=by omega
  exact qi8 _
 |n+1,N,h,b=>qi9 fun _=>kI (qaO (b.mono (by omega)) a fun _=>kI (qaO (qja a n _ (by omega) (b.mono (by omega))) (qcD a n) fun _=>yu _ _) (yu _ _)) (Ql _)
theorem qcg:∀n,zG L n (jA L n)
 |0=>qi8 _
 |n+1=>qeR (fun _=>yu _ _) (kI (kI (qaO ((qcg n).mono (by omega)) (Qu n) fun _=>kI (yu _ _) (Ql _)) (Ql _))
  (qeR (fun _=>kI (qaO (qja (Qu n) n _ (by omega) ((qcg n).mono (by omega))) (qcD (Qu n) n) fun _=>kI (yu _ _) (Ql _)) (Ql _))
   (kI (kI (yu _ _) (Ql _)) (qi9 fun _=>kI (qaO ((qcg n).mono (by omega)) (Qu n) fun _=>kI (yu _ _) (Ql _)) (yu _ _))) _)) _
theorem qiY {n:Nat} (h:L.length+3≤n) (g:Nat):jA L n 0 g≠ .oof:=qcg n 0 g (by omega)
end
end Go.L02
namespace Go.L01
open Go.Eng
set_option maxRecDepth 100000
def kU:Int→List Tok→Prop
 |_,[]=>True
 |last,t::ts=>last≤t.line∧right t.kind t.text=true∧kU t.line ts
theorem kU.mono {a b:Int} {c:List Tok} (h:kU b c) (j:a≤b):kU a c:=by
 cases c with
 |nil=>trivial
 |cons t c=>exact ⟨Int.le_trans j h.1,h.2.1,h.2.2⟩
theorem kU.right {a:Int}:∀{c:List Tok},kU a c→∀t∈c,L01.right t.kind t.text=true∧a≤t.line
 |[],_,t,b=>by simp at b
 |x::xs,h,t,b=>by
  rcases List.mem_cons.1 b with rfl|b
  ·exact ⟨h.2.1,h.1⟩
  ·have:=kU.right (h.2.2.mono h.1) t b;exact this
theorem kU.at {a:Int}:∀{c:List Tok},kU a c→∀i (b:i+1<c.length),c[i].line≤c[i+1].line
 |[],_,i,b=>by simp at b
 |[x],_,i,b=>by simp at b
 |x::y::xs,h,0,b=>h.2.2.1
 |x::y::xs,h,i+1,b=>by
  have:=kU.at h.2.2 i (by simpa using b);simpa using this
theorem qul (s:Bs) (l:Int):kU l (qX s l).toks∧∀t∈(qX s l).toks,t.line≤l+s.length:=by
 refine qjU (P:=fun s l=>kU l (qX s l).toks∧∀t∈(qX s l).toks,t.line≤l+s.length) ?_ ?_ ?_ ?_ ?_ ?_ s l
 ·intro l;exact ⟨trivial,by simp [qcy,Res.toks]⟩
 ·intro r l h;rw [qa3];exact ⟨h.1.mono (by omega),fun t b=>by have:=h.2 t b;simp only [List.length_cons];omega⟩
 ·intro c r l n h;rw [qa2 r l n];exact ⟨h.1,fun t b=>by have:=h.2 t b;simp only [List.length_cons];omega⟩
 ·intro a r l E j h;rw [qjX l E j];cases m:qX r l with
  |bad e x=>exact ⟨trivial,by simp [Res.add,Res.toks]⟩
  |ok y cs=>
   rw [m] at h;refine ⟨by simpa [Res.add,Res.toks] using h.1,fun t b=> ?_⟩;have:=h.2 t (by simpa [Res.add,Res.toks] using b);simp only [List.length_append,List.length_cons];omega
 ·intro c r l A B z p h;rw [qjW l A B z p h];exact ⟨trivial,by simp [Res.toks]⟩
 ·intro k s r l j u h;rw [qcx (wC j).1 u (qba j)];cases m:qX r l with
  |bad e x=>exact ⟨trivial,by simp [Res.add,Res.toks]⟩
  |ok y cs=>
   rw [m] at h;refine ⟨⟨Int.le_refl _,j,by simpa [Res.toks] using h.1⟩,fun t b=> ?_⟩;simp only [Res.add,Res.toks,List.cons_append,List.nil_append,List.mem_cons] at b;rcases b with rfl|b
   ·show l≤_;omega
   ·have:=h.2 t b;simp only [List.length_append];omega
end Go.L01
namespace Go.L02
open Go.Eng
open Go.L01 (Bs Tok jL jq jw qh qu right)
def jg (s:Bs):Bool:=
 match qu s with
 | .ok ts _=>decide (s.length≤100)&&(match kind ts (ts.length+3) 0 0 with| .ok _ j _=>decide (ts.length≤j)|_=>false)&&decide (jK ts=s)
 | .bad _ _=>false
def kT (s:Bs):Option Nat:=s.findIdx? (fun c=>decide (c=95))
def zC (s:Bs):Bool:=vN.contains s||(match kT s with|none=>qh s|some k=>qh (s.take k)&&qh (s.drop (k+1)))
theorem qhL {s:Bs} {b:List Tok} {cs:List Bs} (h:qu s= .ok b cs):xl b:=by
 intro t c;have a:=(L01.qul s 1).1.right;unfold qu at h;split at h
 ·cases h
 ·rw [show L01.qX s 1=_ from h] at a;exact (a t c).1
def qj (k:Nat):Bool:=decide (1≤k)&&decide (k≤10)
def kR (k:Nat):Bool:=(decide (21≤k)&&decide (k≤31))||decide (k=32)||decide (k=34)||decide (k=35)||decide (k=37)
structure Row where
 name:Option (Bs→Bool):=none
 vr:Option (Bs→Bool):=none
 typ:Option (Bs→Bool):=none
 n:Option (Int→Bool):=none
 first:List (Nat→Bool):=[]
 more:Option (Nat→Bool):=none
 least:Nat:=0
 most:Nat:=0
def jl (m:Int) (n:Int):Bool:=decide (0≤n)&&decide (n≤m)
def qp (k:Nat) (j:Nat):Bool:=decide (j=k)
def xe (_:Bs):Bool:=true
def wx:List Bs:=[[110,111,116],[43],[45],[42],[47],[109,111,100],[60],[60,61],[61],[97,110,100],[111,114]]
def qf (r:Row) (l:List (Nat→Bool)):Row:={r with first:=l,least:=l.length,most:=l.length}
def yF:List (Option Row):=
 let nm:Row:={name:=some qh}
 let ty:Row:={name:=some qh,typ:=some jg}
 [none,some (qf {n:=some (jl 1000000000)} []),some (qf {n:=some (jl 1)} []),some (qf {} []),some (qf nm []),
  some {name:=some xe,vr:=some xe,typ:=some xe,more:=some qj,most:=6},
  some {name:=some wx.contains,first:=[qj,qj],least:=1,most:=2},
  some (qf {} [qj,qj]),some (qf nm [qj]),some (qf {} [qj]),some (qf {} [qj]),
  none,none,none,none,none,none,none,none,none,
  some {more:=some kR,most:=400},some (qf ty [qj]),some (qf nm [qj]),some (qf {} [qj,qj,qj]),some (qf nm [qj,qj]),some (qf {} [qp 5]),
  some {first:=[qj,qp 20,qp 20],least:=2,most:=3},some (qf {} [qj,qp 20]),some (qf ty [qp 5,qp 20]),some {first:=[qj],most:=1},some (qf {} [qj]),some (qf nm []),
  some {first:=[qp 20],more:=some (qp 33),least:=2,most:=400},some (qf {name:=some xe} [qp 20]),some (qf {} []),
  some {first:=[qj],more:=some (qp 36),least:=2,most:=400},some (qf {name:=some qh,vr:=some qh,typ:=some jg} [qp 20]),some (qf {} [qj])]
def vY (k:Nat):Option Row:=(yF[k]?).join
def qV (s:Bs) (p:Option (Bs→Bool)):Bool:=match p with|none=>decide (s=[])|some f=>f s
def jj (l:List Nd) (k:Int):Nat:=match l[k.toNat]? with|some x=>x.d.kind|none=>0
def zr (l:List Nd) (k:Int):Bs:=match l[k.toNat]? with|some x=>x.d.name|none=>[]
def qO (l:List Nd) (r:Row):Nat→List Int→Bool
 |_,[]=>true
 |i,k::ks=>(match r.first[i]? with|some f=>f (jj l k)|none=>(match r.more with|some f=>f (jj l k)|none=>false))&&qO l r (i+1) ks
def qaz (d:D):Bool:=if d.vr=[] then qh d.name&&(decide (d.typ=[])||jg d.typ) else jg d.vr&&zC d.name&&decide (d.typ=[])
def kV (l:List Nd) (n:Nat):Nat→List Int→Bool
 |_,[]=>true
 |i,k::ks=>(qh (zr l k)|| !(!decide (zr l k=[])||decide (i+2<n)))&&kV l n (i+1) ks
def vh (l:List Nd) (x:Nd):Bool:=
 if x.d.kind=5 then qaz x.d
 else if x.d.kind=6 then decide (x.d.name=[110,111,116])==decide (x.kids.length=1)
 else if x.d.kind=32 then kV l x.kids.length 0 (x.kids.drop 1) else true
def ja (l:List Nd) (x:Nd):Bool:=
 match vY x.d.kind with
 |none=>false
 |some r=>qV x.d.name r.name&&qV x.d.vr r.vr&&qV x.d.typ r.typ&&(match r.n with|none=>decide (x.d.n=0)|some f=>f x.d.n)&&
   (decide (r.least≤x.kids.length)&&decide (x.kids.length≤r.most))&&qO l r 0 x.kids&&vh l x
def jv (k:Nat):UInt8:=if k=20 then 113 else if k=5 then 99 else if qj k then 101 else if k=33 then 119 else if k=36 then 97 else if decide (21≤k)&&decide (k≤37)&&decide (k≠33)&&decide (k≠36) then 115 else 63
def jE (l:List Nd) (x:Nd):Bs:=x.kids.map fun k=>jv (jj l k)
def zD (a p:UInt8):Bool:=decide (a=p)||(decide (a=99)&&decide (p=101))
def jt:Bs→Bs→Bool
 |[],[]=>true
 |a::s,p::ps=>zD a p&&jt s ps
 |_,_=>false
def xD (s some:Bs):Bool:=s.all some.contains
def qI (d:D) (n v t m:Bool):Bool:=(n||decide (d.name=[]))&&(v||decide (d.vr=[]))&&(t||decide (d.typ=[]))&&(m||decide (d.n=0))
def y7 (l:List Nd) (x:Nd):Bool:=((x.kids.drop 1).take (x.kids.length - 2)).all fun k=> !decide (zr l k=[])
def qv (l:List Nd) (x:Nd):Bool:=
 let k:=jE l x
 let d:=x.d
 if d.kind=1 then qI d false false false true&&decide (0≤d.n)&&decide (d.n≤1000000000)&&decide (k=[])
 else if d.kind=2 then qI d false false false true&&(decide (d.n=0)||decide (d.n=1))&&decide (k=[])
 else if d.kind=3∨d.kind=34 then qI d false false false false&&decide (k=[])
 else if d.kind=4∨d.kind=31 then qI d true false false false&&qh d.name&&decide (k=[])
 else if d.kind=5 then decide (k.length≤6)&&xD k [101,99] &&(if d.vr=[] then qI d true false true false&&qh d.name&&(decide (d.typ=[])||jg d.typ) else qI d true true false false&&zC d.name&&jg d.vr)
 else if d.kind=6 then qI d true false false false&&((decide (d.name=[110,111,116])&&jt k [101])||(kZ.contains d.name&&jt k [101,101]))
 else if d.kind=7 then qI d false false false false&&jt k [101,101]
 else if d.kind=8 then qI d true false false false&&qh d.name&&jt k [101]
 else if d.kind=9∨d.kind=10∨d.kind=30∨d.kind=37 then qI d false false false false&&jt k [101]
 else if d.kind=20 then qI d false false false false&&xD k [115]
 else if d.kind=21 then qI d true false true false&&qh d.name&&jg d.typ&&jt k [101]
 else if d.kind=22 then qI d true false false false&&qh d.name&&jt k [101]
 else if d.kind=23 then qI d false false false false&&jt k [101,101,101]
 else if d.kind=24 then qI d true false false false&&qh d.name&&jt k [101,101]
 else if d.kind=25 then qI d false false false false&&decide (k=[99])
 else if d.kind=26 then qI d false false false false&&(jt k [101,113] ||jt k [101,113,113])
 else if d.kind=27 then qI d false false false false&&jt k [101,113]
 else if d.kind=28 then qI d true false true false&&qh d.name&&jg d.typ&&decide (k=[99,113])
 else if d.kind=29 then qI d false false false false&&(decide (k=[])||jt k [101])
 else if d.kind=32 then decide (2≤k.length)&&decide (k.getD 0 0=113)&&xD (k.drop 1) [119] &&y7 l x&&qI d false false false false
 else if d.kind=33 then qI d true false false false&&(decide (d.name=[])||qh d.name)&&decide (k=[113])
 else if d.kind=35 then qI d false false false false&&decide (1<k.length)&&jt (k.take 1) [101] &&xD (k.drop 1) [97]
 else if d.kind=36 then qI d true true true false&&qh d.name&&qh d.vr&&jg d.typ&&decide (k=[113])
 else false
def vl:List Nd→Nat→List Int→Option (List Int)
 |[],_,open'=>some open'
 |x::xs,i,open'=>if x.kids.length≤open'.length∧open'.drop (open'.length - x.kids.length)=x.kids then vl xs (i+1) (open'.take (open'.length - x.kids.length)++[(i:Int)]) else none
def jW (l:List Nd):Bool:=match vl l 0 [] with|some o=>decide (o.length=1)|none=>false
def xY (l:List Nd):Nat:=match l.getLast? with|some x=>x.d.kind|none=>0
def whole (l:List Nd) (root:Nat→Bool):Bool:=decide (1≤l.length)&&decide (l.length≤400)&&jW l&&root (xY l)&&l.all (ja l)
def xZ (l:List Nd):Bool:=decide (1≤l.length)&&decide (l.length≤400)&&jW l&&l.all (qv l)
def zR (l:List Nd):Bool:=whole l (qp 20)
theorem xp:∀(a b:List T),sizes (a++b)=sizes a+sizes b
 |[],b=>by simp [sizes]
 |t::a,b=>by simp [sizes,xp a b];omega
theorem qcE:∀(a b:List T) (k:Nat),qx k (a++b)=qx k a++qx (k+sizes a) b
 |[],b,k=>by simp [qx,sizes]
 |t::a,b,k=>by simp [qx,sizes,qcE a b,Nat.add_assoc]
theorem qbO:∀(a b:List T) (k:Nat),flats k (a++b)=flats k a++flats (k+sizes a) b
 |[],b,k=>by simp [flats,sizes]
 |t::a,b,k=>by simp [flats,sizes,qbO a b,Nat.add_assoc]
theorem zX:∀(a:List T) (k:Nat),(qx k a).length=a.length
 |[],_=>rfl
 |t::a,k=>by simp [qx,zX a]
mutual
theorem T.flat_len:∀(t:T) (k:Nat),(t.flat k).length=t.size
 | .mk d ks,k=>by simp [T.flat,T.size,flats_len ks]
theorem flats_len:∀(a:List T) (k:Nat),(flats k a).length=sizes a
 |[],_=>rfl
 |t::a,k=>by simp [flats,sizes,T.flat_len t,flats_len a]
end
theorem T.size_pos (t:T):0<t.size:=by cases t;simp [T.size]
theorem qjy:∀(l:List Nd) (j:List T) (o:List Int),vl l (sizes j) (qx 0 j)=some o→∃n,flats 0 j++l=flats 0 n∧o=qx 0 n
 |[],j,o,h=>by simp only [vl,Option.some.injEq] at h;exact ⟨j,by simp,h.symm⟩
 |x::xs,j,o,h=>by
  unfold vl at h;split at h
  ·rename_i p;rw [zX] at p h;obtain ⟨J,E⟩:=p;have c:j=j.take (j.length - x.kids.length)++j.drop (j.length - x.kids.length):=(List.take_append_drop _ _).symm;generalize I:j.take (j.length - x.kids.length)=a at c;generalize O:j.drop (j.length - x.kids.length)=b at c;have m:a.length=j.length - x.kids.length:=by rw [←I,List.length_take];omega
   have t:qx 0 j=qx 0 a++qx (sizes a) b:=by rw [c,qcE];simp
   have z:x.kids=qx (sizes a) b:=by
    rw [←E,t,List.drop_append,List.drop_eq_nil_of_le (by rw [zX];omega),zX,m];simp
   have A:(qx 0 j).take (j.length - x.kids.length)++[((sizes j:Nat):Int)]=qx 0 (a++[T.mk x.d b]):=by
    rw [t,List.take_append,List.take_of_length_le (by rw [zX];omega),zX,m,qcE];simp only [Nat.sub_self,List.take_zero,List.append_nil,Nat.zero_add,qx,T.size];congr 2;rw [c,xp]
    push_cast;omega
   have B:sizes j+1=sizes (a++[T.mk x.d b]):=by
    rw [xp];simp only [sizes,T.size]
    conv=>lhs;rw [c,xp]
    omega
   rw [A,B] at h;obtain ⟨n,y,u⟩:=qjy xs _ _ h;refine ⟨n, ?_,u⟩;rw [←y,qbO];simp only [flats,T.flat,List.append_nil,Nat.zero_add];rw [c,qbO];simp only [Nat.zero_add];rw [←z];simp
  ·cases h
theorem qbn {l:List Nd} (h:jW l=true):∃t:T,l=t.flat 0:=by
 unfold jW at h;cases a:vl l 0 [] with
 |none=>rw [a] at h;cases h
 |some o=>
  rw [a] at h;obtain ⟨c,b,j⟩:=qjy l [] o a;subst j;simp only [zX,decide_eq_true_eq] at h
  match c,h with
  |[t],_=>exact ⟨t,by simpa [flats] using b⟩
theorem qco (x:Nd) (xs:List Nd) (i:Nat) (o:List Int):vl (x::xs) i o=if x.kids.length≤o.length∧o.drop (o.length - x.kids.length)=x.kids then vl xs (i+1) (o.take (o.length - x.kids.length)++[(i:Int)]) else none:=rfl
mutual
theorem qjx:∀(t:T) (b:Nat) (o:List Int) (xs:List Nd),vl (t.flat b++xs) b o=vl xs (b+t.size) (o++[(b:Int)+t.size - 1])
 | .mk d ks,b,o,xs=>by
  simp only [T.flat,T.size];rw [List.append_assoc,stack_trees ks b o];show vl ((⟨d,qx b ks⟩:Nd)::xs) _ _=_;rw [qco];have j:(o++qx b ks).length - (qx b ks).length=o.length:=by simp
  simp only [j];rw [if_pos ⟨by simp,by simp⟩];have a:(o++qx b ks).take o.length=o:=by simp
  have c:b+sizes ks+1=b+(sizes ks+1):=by omega
  have h:((b+sizes ks:Nat):Int)=(b:Int)+((sizes ks+1:Nat):Int) - 1:=by omega
  rw [a,c,h]
theorem stack_trees:∀(a:List T) (b:Nat) (o:List Int) (xs:List Nd),vl (flats b a++xs) b o=vl xs (b+sizes a) (o++qx b a)
 |[],b,o,xs=>by simp [flats,sizes,qx]
 |t::a,b,o,xs=>by
  simp only [flats,sizes,qx];rw [List.append_assoc,qjx t b o,stack_trees a];simp [Nat.add_assoc]
end
theorem qcV (t:T):jW (t.flat 0)=true:=by
 unfold jW;have:=qjx t 0 [] [];simp only [List.append_nil] at this;rw [this];simp [vl]
theorem qrH (t:T) (b:Nat):(t.flat b).getLast? =some ⟨t.d,qx b t.kids⟩:=by
 cases t;simp [T.flat,T.d,T.kids]
theorem qvv (t:T):xY (t.flat 0)=t.d.kind:=by unfold xY;rw [qrH]
section
variable {L:List Tok}
def Sz {α:Type} (μ:α→Nat) (c:Nat) (m:M α):Prop:=∀i f a j f',m i f= .ok a j f'→i≤j∧μ a+2*i≤2*j+c
theorem Sz.mono {α:Type} {μ:α→Nat} {c d:Nat} {m:M α} (h:Sz μ c m) (l:c≤d):Sz μ d m:=fun i f a j b e=>by have:=h i f a j b e;omega
theorem qtY {α:Type} {m:M α} (h:Up m):Sz (fun _=>0) 0 m:=fun i f a j b e=>by have:=(h.ok e).1;simp;omega
def sz' (t:T):Nat:=t.size+1
end
end Go.L02
