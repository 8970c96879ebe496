/- Lemmas for a claim about layer 2 (tree). No conditions but those they state. -/
import Derived.Test.YtbcmiempigoooaaGreatDoorNak
import Derived.Laws.MakeOwn
set_option linter.all false
namespace Go.Eng
open Go.RowKit
def qdE (P:Program) (t:TypeId):Option (TypeId×Value×Nat):=
  match P.underlying t with
  |some (.slice e)=>(P.info? e).bind fun i=>i.zero.bind fun z=>if i.size=1 then some (e,z.cells[0]!,i.bytes) else none
  |_=>none
section
variable {P:Program} {Q:Ks} {d:Option Nat} {ty:TypeId} {K:qa→World→Prop} {ρ:qa} {w:World}
theorem qiU {t e : TypeId} {zc : Value} {bytes n : Nat} {kl kc : IntKind} {x y : Operand} (c : qdE P t = some (e, zc, bytes)) (R : qd ρ x = .int kl n) (S : qd ρ y = .int kc n) (Y : bytes * n ≤ 281474976710656) (Z : n ≤ 1099511627776)
    (u:∀i z,P.info? e=some i→i.zero=some z→z.cells.size=1)
    (h:∀(B:Nat) (W:World),w.heap.size≤B→qb w W→Blk W B (List.replicate n zc).toArray e→K (qm ρ d (.slice (some ⟨B,0,none⟩) n n)) W):qr P Q d (.makeSlice t x y) ty K ρ w:=by
  unfold qdE at c;split at c
  · rename_i X O;simp only [Option.bind_eq_some_iff] at c;obtain ⟨i,b,z,I,A⟩:=c;split at A
    · rename_i l;cases A;have E:(i.bytes:Int)*(n:Int)≤281474976710656:=by
        have h:((i.bytes*n:Nat):Int)≤281474976710656:=by omega
        rwa [Int.natCast_mul] at h
      have p:=run_make (P:=P) w t e i z O b I kl kc n n (by omega) (Int.le_refl _) E (by omega);simp only [Int.toNat_natCast,l,Nat.mul_one] at p;have m:=u i z b I;have a:madeCells z.cells n=(List.replicate n z.cells[0]!).toArray:=by
        apply Array.toList_inj.1;apply List.ext_getElem?;intro j;by_cases J:j<n
        · simp [madeCells,J,m,Nat.mod_one]
        · simp [madeCells,J]
      rw [a] at p;refine jf (v:= .slice (some ⟨w.heap.size,0,none⟩) n n) (w':=w.alloc (.cells (List.replicate n z.cells[0]!).toArray e)) ?_ (h w.heap.size _ (Nat.le_refl _) (kj w _) (qct w _ _));simp only [execOp,qA,R,S,Sem.run_bind,p,Result.andThen_ok,Sem.run_pure]
    · cases A
  · cases c
end
end Go.Eng
namespace Go.Eng
open Go.RowKit
section
variable {ops:Array Oper} {cx:Cx}
end
section
variable {P:Program} {Q:Ks} {K:qa→World→Prop} {F:OT→qa→World→Prop} {ρ:qa} {w:World}
end
theorem Jj {P:Program} {f:FuncId} {fn:Func} {V a:List Nat} {ir:IR} {rs:List RV} {args:Array Value} {w:World} {R:Ending→World→Prop} (t:P.funcs[f]? =some fn) (p:fn.body=some (fn.body.getD .skip)) (c:(qT P fn.ntmps V a (fn.body.getD .skip)).map IR.norm=some ir)
    (n:xu fn V=true) (j:vc P V fn.results.toList=some rs) (b:args.size≤fn.ntmps) (h:ir.wp ⟨P,fn.ntmps,V,[]⟩ (qw rs R) (qF rs R) (x8 V args) w):Calls P f args w R:=by
  obtain ⟨m,l,u⟩:=Option.map_eq_some_iff.1 c;exact qtM t p l u n j b h
abbrev zv (n:Nat):Ex:= .var n
abbrev zl (e:Ex):Ex:= .op1 .load1 e
abbrev zo (n:Nat) (e:Ex):Ex:= .op1 .load1 (.op1 (.fadr n) e)
abbrev zf (n:Nat) (e:Ex):Ex:= .op1 (.fadr n) e
abbrev zx (n:Nat) (a b:Ex):Ex:= .op2 (.ixa n) a b
abbrev zL (e:Ex):Ex:= .op1 .lenS e
abbrev zT (e:Ex):Ex:= .op1 .lenT e
abbrev zN (e:Ex):Ex:= .op1 .nilc e
abbrev zn (e:Ex):Ex:= .op1 .not e
abbrev ze (n:Nat) (e:Ex):Ex:= .op1 (.ext n) e
abbrev zM (n:Nat) (e:Ex):Ex:= .op1 (.loadN n) e
abbrev zI (o:BinOp) (a b:Ex):Ex:= .op2 (.ibin o .i64) a b
abbrev zB (o:BinOp) (a b:Ex):Ex:= .op2 (.ibin o .u8) a b
abbrev zS (o:BinOp) (a b:Ex):Ex:= .op2 (.sbin o) a b
abbrev zk (n:Int):Value:= .int .i64 n
abbrev zu (n:Int):Value:= .int .u8 n
abbrev zb (b:Bool):Value:= .bool b
abbrev zs (l:Array UInt8):Value:= .string ⟨l⟩
abbrev zt (n:Nat):Operand:= .tmp n
abbrev za (d:Nat) (e:Ex):St:= .asg none d e
abbrev zg (g:Nat) (b:Bool) (d:Nat) (e:Ex):St:= .asg (some (g,b)) d e
abbrev zc (d f:Nat) (a:Array Operand) (t:Array TypeId) (y:TypeId):St:= .eff none (some d) (.call {callee:= .value (.func f),args:=a,argTypes:=t}) y
abbrev zd (f:Nat) (a:Array Operand) (t:Array TypeId) (y:TypeId):St:= .eff none none (.call {callee:= .value (.func f),args:=a,argTypes:=t}) y
abbrev zh (g:Nat) (b:Bool) (d f:Nat) (a:Array Operand) (t:Array TypeId) (y:TypeId):St:= .eff (some (g,b)) (some d) (.call {callee:= .value (.func f),args:=a,argTypes:=t}) y
abbrev zp (d:Nat) (a:Array Operand) (t:Array TypeId) (y:TypeId):St:= .eff none (some d) (.call {callee:= .builtin .append,args:=a,argTypes:=t}) y
abbrev zw (t:TypeId) (p x:Operand):St:= .eff none none (.store t p x) 0
abbrev zE (d:Nat) (o:Op) (y:TypeId):St:= .eff none (some d) o y
abbrev zq (l:List St) (b:IR):IR:= .seq (.reg l) b
abbrev zy (d:Nat) (e:Ex) (o:OT):OT:= .take none d e o
abbrev zm (d n:Nat):St:= .asg none d (.var n)
abbrev zK (n:Int):Ex:= .const (.int .i64 n)
abbrev zQ (b:Bool):Ex:= .const (.bool b)
abbrev zO (n:Int):Operand:= .const (.int .i64 n)
abbrev zY (l:Array UInt8):Operand:= .const (.string ⟨l⟩)
abbrev zA (d:Nat) (t:TypeId):St:= .eff none (some d) (.alloc t) 0
abbrev zV (n:Nat) (g:List Nat):List Nat:=(List.range n).filter fun i=> !g.contains i
end Go.Eng
namespace Go.Eng
open Go.RowKit
section
variable (P:Program) (ops:Array Oper) (V:List Nat)
def qau (sk : List Nat) (n : Nat) : Nat → Bool → Array Bool → Option OT
  |0,_,listed=>if (Region.ready .any ops listed).isEmpty then some .done else none
  | f + 1, hd, listed =>
    if (Region.ready .any ops listed).isEmpty then some .done else
    match (if hd then (Region.ready .any ops listed).find? (fun i=>decide (i<n)&& !sk.contains i&&Region.free .any ops listed i&&(Qj P ops V i).isSome) else none) with
    |some i=>match Qj P ops V i with
      |some (g,d,e)=>(qau sk n f hd (listed.setIfInBounds i true)).map (.take g d e)
      |none=>none
    |none=>wq ((Region.ready .any ops listed).map fun i=>match yc P ops V i with
      |some s=>(qau sk n f (hd&&decide (i<n)) (listed.setIfInBounds i true)).map (.step s (decide (i<n)))
      |none=>none)
end
def qdq (P : Program) (nt : Nat) (V : List Nat) (sk : List Nat) (n : Nat) : Code → Option OT
  | .region _ ops true=>
    if QJ ops nt&&Region.noSelect ops&&P.follows .mixedOrders&&(decide (n=ops.size)||(decide (n<ops.size)&&Region.sinkB .any ops n&&Region.chainB .any ops n)) then qau P ops V sk n ops.size true (Array.replicate ops.size false) else none
  |_=>none
section
variable {cx:Cx} {ops:Array Oper}
theorem qgI (hr : Region1 cx.n ops) (m : Region.noSelect ops = true) {sk : List Nat} {n : Nat} (hn : n = ops.size ∨ (n < ops.size ∧ Region.sinkB .any ops n = true ∧ Region.chainB .any ops n = true)) {S : World → Prop} {K : qa → World → Prop} {Q : Ks} (I : ¬ Q.rd) (J : Q.df → cx.D ≠ []) :
    ∀(f:Nat) (R:Bool) (listed:Array Bool) (t:OT),qau cx.P ops cx.V sk n f R listed=some t→(∀d∈t.takes,∀ρ v c w,Q.pn (qu ρ d v) c w→Q.pn ρ c w)→(R=true→HeadInv .any ops n listed)→∀(ρ:qa) (a:Act) (w:World),Agree cx.n cx.V ρ a→jT cx a→(R=true→S w)→
      t.wp cx.P Q S K ρ w→yw cx.P .any ops (xw cx K Q) S n f listed a w
  |0,R,listed,t,h,_,_,ρ,a,w,O,hD,_,l=>by
    simp only [qau] at h;split at h
    · rename_i Z;cases h;exact ⟨by simpa using Z,hD,ρ,O,l⟩
    · cases h
  | f + 1, R, listed, t, h, hpn, u, ρ, a, w, O, hD, hS, l => by
    simp only [qau] at h;split at h
    · rename_i Z;cases h;have B:Region.ready .any ops listed=[]:=by simpa using Z
      exact ⟨fun _=>⟨hD,ρ,O,l⟩,by rw [B];simp⟩
    · rename_i Z;have B:Region.ready .any ops listed≠[]:=by simpa using Z
      split at h
      · rename_i i z;split at z
        · rename_i W;have A:=List.mem_of_find?_eq_some z;have p:=List.find?_some z;simp only [Bool.and_eq_true,decide_eq_true_eq] at p;obtain ⟨⟨⟨hin,_⟩,E⟩,_⟩:=p;split at h
          · rename_i g d e X;simp only [Option.map_eq_some_iff] at h;obtain ⟨t',b,rfl⟩:=h;simp only [OT.wp] at l;have key:∀v,(if gd ρ g then (∀w',S w'→e.ev ρ w'=some v) else v=undef)→t'.wp cx.P Q S K (qu ρ d v) w→yw cx.P .any ops (xw cx K Q) S n (f+1) listed a w:=by
              intro v hv hk;obtain ⟨o,ho,hd',hV,hy⟩:=qe8 hr X O hv;refine qjM ho (Region.noSelect_spec m) hn hin (fun c a w j=> ?_) f listed a w (u W) (Region.free_spec ho E) A hy (hS W) ?_
              · exact qlS hd' hV (hpn d (by simp [OT.takes])) c a w j
              · rw [hd'];exact qgI hr m hn I J f R _ t' b (fun x hx=>hpn x (by simp [OT.takes,hx])) (fun j=>(u j).set A hin) _ _ w (O.put hV v) (fun e=>(wg _ _ _).trans (hD e)) hS hk
            by_cases y:gd ρ g=true
            · rw [if_pos y] at l;unfold vJ at l;split at l
              · obtain ⟨j,h2⟩:=l;exact key _ (by rw [if_pos y];exact j) h2
              · cases l
            · rw [if_neg y] at l;exact key undef (by rw [if_neg y]) l
          · cases h
        · cases z
      · refine ⟨fun h0=>absurd h0 B,fun i z=> ?_⟩;obtain ⟨t',b,hw'⟩:=qjj h l _ (List.mem_map.2 ⟨i,z,rfl⟩);split at b
        · rename_i s hs;simp only [Option.map_eq_some_iff] at b;obtain ⟨t2,Y,rfl⟩:=b;simp only [OT.wp] at hw';refine wpOp_mono ?_ (qfJ hr hs O hD I J hw');rintro a' w' ⟨hD',ρ',ha',hS',hk'⟩;refine ⟨fun hlt=>hS' (by simpa using hlt),qgI hr m hn I J f _ _ t2 Y (fun x hx=>hpn x (qjk h (.step s (decide (i<n)) t2) (List.mem_map.2 ⟨i,z,by simp only [hs,Y,Option.map_some]⟩) x (by simpa [OT.takes] using hx))) (fun j=> ?_) ρ' a' w' ha' hD' (fun j=> ?_) hk'⟩
          · simp only [Bool.and_eq_true,decide_eq_true_eq] at j;exact (u j.1).set z j.2
          · simp only [Bool.and_eq_true,decide_eq_true_eq] at j;exact hS' (by simpa using j.2)
        · cases b
theorem qxD {c:Code} {sk:List Nat} {n:Nat} {t:OT} (h:qdq cx.P cx.n cx.V sk n c=some t) (S:World→Prop) {K:qa→World→Prop} {Q:Ks} {ρ:qa} {w:World}
    (y:∀w',qb w w'→w'.heap=w.heap→S w'∧t.wp cx.P Q.noRd S K ρ w') (hpn:∀d∈t.takes,∀ρ v c w,Q.pn (qu ρ d v) c w→Q.pn ρ c w:=by exact fun _ _ _ _ _ _ h=>h):(IR.raw c).wp cx K Q ρ w:=by
  intro a A z j;unfold qdq at h;split at h
  · rename_i id ops;split at h
    · rename_i l;simp only [Bool.and_eq_true,Bool.or_eq_true,decide_eq_true_eq] at l;obtain ⟨⟨⟨u,B⟩,m⟩,b⟩:=l;obtain ⟨x,p⟩:=y {w with drawn:=w.drawn+1} ⟨rfl,rfl,rfl,Nat.le_refl _,fun _ _=>rfl⟩ rfl;refine wp_region_any m (qfo _ _ _ _ (qgI (qbx u) B (by rcases b with b|b;exact .inl b;exact .inr ⟨b.1.1,b.1.2,b.2⟩) (Q:=Q.noRd) (fun h=>h) j _ _ _ t h hpn (fun _=>qsQ) ρ a _ A z (fun _=>x) p))
    · cases h
  · cases h
end
end Go.Eng
namespace Go.Eng
open Go.RowKit
def qba (P:Program) (nt:Nat) (V:List Nat):Code→Option (List (Option St))
  | .region _ ops true=>if QJ ops nt&&P.follows .mixedOrders then some ((List.range ops.size).map (yc P ops V)) else none
  |_=>none
def qjg:Code→List (List Nat)
  | .region _ ops _=>ops.toList.map fun o=>(o.after.toList.filter fun e=>Region.binds .any e).map (·.on)
  |_=>[]
def qtv (l:List (List Nat)):Bool:=l.zipIdx.all fun p=>p.1.all fun d=>decide (d<p.2)
section
variable {ops:Array Oper} {cx:Cx}
theorem qjS {listed : Array Bool} (t : listed.size = ops.size) (n : Region.ready .any ops listed = []) (m : ∀ i o, ops[i]? = some o → ∀ e ∈ o.after, Region.binds .any e = true → e.on < i) : ∀ i, i < ops.size → listed.getD i false = true := by
  intro i
  induction i using Nat.strongRecOn with
  | _ i p =>
    intro j;cases h:listed.getD i false with
    |true=>rfl
    |false=>
      exfalso;have a:i∈Region.ready .any ops listed:=mem_ready.2 ⟨by
        rw [Array.getD_eq_getD_getElem?,Array.getElem?_eq_getElem (by omega)] at h⊢;simpa using h,ops[i],Array.getElem?_eq_getElem j,fun e c l=> ?_⟩
      · rw [n] at a;cases a
      · have b:=m i _ (Array.getElem?_eq_getElem j) e c l;exact p e.on b (by omega)
theorem qjL (hr : Region1 cx.n ops) {J : (Nat → Bool) → qa → World → Prop} {K : qa → World → Prop} {Q : Ks} (y : ¬ Q.rd) (z : Q.df → cx.D ≠ []) (X : ∀ i o, ops[i]? = some o → ∀ e ∈ o.after, Region.binds .any e = true → e.on < i)
    (j:∀(L:Nat→Bool) (i:Nat) (o:Oper),ops[i]? =some o→L i=false→(∀e∈o.after,Region.binds .any e=true→L e.on=true)→∃s,yc cx.P ops cx.V i=some s∧∀ρ w,J L ρ w→s.wp cx.P Q (J (fun k=>if k=i then true else L k)) ρ w)
    (c:∀L ρ w,(∀i,i<ops.size→L i=true)→J L ρ w→K ρ w):
    ∀(f:Nat) (listed:Array Bool),listed.size=ops.size→listed.toList.count false≤f→∀(ρ:qa) (a:Act) (w:World),Agree cx.n cx.V ρ a→jT cx a→J (fun k=>listed.getD k false) ρ w→wpAny cx.P .any ops (xw cx K Q) f listed a w
  |0,listed,t,hc,ρ,a,w,O,B,A=>by
    have E : Region.ready .any ops listed = [] := by
      cases h:Region.ready .any ops listed with
      |nil=>rfl
      |cons x l=>
        exfalso;have I:=(mem_ready.1 (show x∈Region.ready .any ops listed by rw [h];simp)).1;have b:x<listed.size:=by
          rcases Nat.lt_or_ge x listed.size with p|p
          · exact p
          · rw [Array.getD_eq_getD_getElem?,Array.getElem?_eq_none p] at I;simp at I
        rw [Array.getD_eq_getD_getElem?,Array.getElem?_eq_getElem b] at I;have:false∈listed.toList:=by
          have S:listed[x]=false:=by simpa using I
          rw [←S];exact Array.getElem_mem_toList b
        have:=List.count_pos_iff.2 this;omega
    exact ⟨E,B,ρ,O,c _ ρ w (qjS t E X) A⟩
  | f + 1, listed, t, hc, ρ, a, w, O, B, A => by
    refine ⟨fun E=>⟨B,ρ,O,c _ ρ w (qjS t E X) A⟩,fun i hi=> ?_⟩;obtain ⟨hf,o,ho,u⟩:=mem_ready.1 hi;have b:i<listed.size:=by rw [t];exact (Array.getElem?_eq_some_iff.1 ho).1
    have m:listed.getD i false=false:=by
      rw [Array.getD_eq_getD_getElem?,Array.getElem?_eq_getElem b] at hf⊢;simpa using hf
    obtain ⟨s,Y,hw⟩:=j (fun k=>listed.getD k false) i o ho m u;refine wpOp_mono (fun a' w' h=> ?_) (qfJ hr (K0:=K) Y O B y z (hw ρ w A));obtain ⟨Z,R,aa,ab⟩:=h;refine qjL hr y z X j c f (listed.setIfInBounds i true) (by simpa using t) ?_ R a' w' aa Z ?_
    · have p:listed[i]=false:=by
       rw [Array.getD_eq_getD_getElem?,Array.getElem?_eq_getElem b] at m;simpa using m
      have S:(listed.setIfInBounds i true).toList=listed.toList.set i true:=by simp
      rw [S,List.count_set (by simpa using b)];have h3:listed.toList[i]'(by simpa using b)=false:=by simpa using p
      have hp:0<listed.toList.count false:=List.count_pos_iff.2 (h3▸List.getElem_mem _);rw [h3];simp;simp at hc;omega
    · have:(fun k=>(listed.setIfInBounds i true).getD k false)=fun k=>if k=i then true else listed.getD k false:=by
       funext k;by_cases W:k=i
       · subst W;rw [if_pos rfl,Array.getD_eq_getD_getElem?,Array.getElem?_setIfInBounds_self_of_lt b];rfl
       · rw [if_neg W,Array.getD_eq_getD_getElem?,Array.getD_eq_getD_getElem?,Array.getElem?_setIfInBounds_ne (Ne.symm W)]
      rw [this];exact ab
theorem qxE {c : Code} {sts : List (Option St)} {b : List (List Nat)} (h : qba cx.P cx.n cx.V c = some sts) (hd : qjg c = b) (x : sts.all Option.isSome = true) (y : qtv b = true) (J : (Nat → Bool) → qa → World → Prop) {K : qa → World → Prop} {Q : Ks} {ρ : qa} {w : World}
    (h0:∀w',qb w w'→w'.heap=w.heap→J (fun _=>false) ρ w')
    (j:∀(L:Nat→Bool) (i:Nat) (s:St) (ds:List Nat),sts[i]? =some (some s)→b[i]? =some ds→L i=false→(∀d∈ds,L d=true)→∀ρ w,J L ρ w→s.wp cx.P Q.noRd (J (fun k=>if k=i then true else L k)) ρ w)
    (p:∀L ρ w,(∀i,i<sts.length→L i=true)→J L ρ w→K ρ w):(IR.raw c).wp cx K Q ρ w:=by
  intro a ha hD Y;unfold qba at h;split at h
  · rename_i id ops;split at h
    · rename_i hc;simp only [Bool.and_eq_true] at hc;obtain ⟨h1,h3⟩:=hc;cases h;have A:((List.range ops.size).map (yc cx.P ops cx.V)).length=ops.size:=by simp
      have t:∀(i:Nat) (o:Oper),ops[i]? =some o→b[i]? =some ((o.after.toList.filter fun e=>Region.binds .any e).map (·.on)):=fun i o l=>by
        rw [←hd];simp [qjg,l]
      have z:∀(o:Oper) e,e∈o.after→Region.binds .any e=true→e.on∈(o.after.toList.filter fun e=>Region.binds .any e).map (·.on):=fun o e u S=>List.mem_map.2 ⟨e,List.mem_filter.2 ⟨by simpa using u,S⟩,rfl⟩;refine wp_region_any h3 (qjL (qbx h1) (Q:=Q.noRd) (J:=J) (fun h=>h) Y ?_ ?_ ?_ _ _ (by simp) (by simp) ρ a _ ha hD ?_)
      · intro i o l e u S;have m:=t i o l;unfold qtv at y;have W:=List.all_eq_true.1 y (_,i) (List.mem_zipIdx_iff_getElem?.2 m);exact of_decide_eq_true (List.all_eq_true.1 W e.on (z o e u S))
      · intro L i o l R O;have B:=(Array.getElem?_eq_some_iff.1 l).1;have m:((List.range ops.size).map (yc cx.P ops cx.V))[i]? =some (yc cx.P ops cx.V i):=by simp [B]
        have W:=List.all_eq_true.1 x _ (List.mem_of_getElem? m);obtain ⟨s,hs⟩:=Option.isSome_iff_exists.1 W;rw [hs] at m;refine ⟨s,hs,fun ρ w I=>j L i s _ m (t i o l) R (fun d Z=> ?_) ρ w I⟩;obtain ⟨e,u,rfl⟩:=List.mem_map.1 Z;obtain ⟨X,E⟩:=List.mem_filter.1 u;exact O e (by simpa using X) E
      · intro L ρ w R I;exact p L ρ w (fun i B=>R i (by rw [A] at B;exact B)) I
      · have:(fun k=>(Array.replicate ops.size false).getD k false)=fun _=>false:=by
          funext k;rw [Array.getD_eq_getD_getElem?,Array.getElem?_replicate];split<;>rfl
        rw [this];exact h0 _ ⟨rfl,rfl,rfl,Nat.le_refl _,fun _ _=>rfl⟩ rfl
    · cases h
  · cases h
end
end Go.Eng
namespace Go.Eng
open Go.RowKit
inductive Tr (α:Type) where
  |lf
  |nd (v:Option α) (l r:Tr α)
noncomputable def Tr.get {α:Type} (t:Tr α):Nat→Option α:=
  Tr.rec (motive:=fun _=>Nat→Option α) (fun _=>none) (fun v _ _ l r k=>Bool.rec (motive:=fun _=>Option α) (Bool.rec (motive:=fun _=>Option α) (r (Nat.sub (Nat.div k 2) 1)) (l (Nat.div k 2)) (Nat.beq (Nat.mod k 2) 1)) v (Nat.beq k 0)) t
noncomputable def Tr.putS {α:Type} (x:Option α) (ih:Tr α→Nat→Tr α) (v:Option α) (l r:Tr α) (k:Nat):Tr α:=
  Bool.rec (motive:=fun _=>Tr α) (Bool.rec (motive:=fun _=>Tr α) (.nd v l (ih r (Nat.sub (Nat.div k 2) 1))) (.nd v (ih l (Nat.div k 2)) r) (Nat.beq (Nat.mod k 2) 1)) (.nd x l r) (Nat.beq k 0)
noncomputable def Tr.put {α:Type} (f:Nat) (t:Tr α) (k:Nat) (x:Option α):Tr α:=
  Nat.rec (motive:=fun _=>Tr α→Nat→Tr α) (fun t _=>t) (fun _ ih t k=>Tr.rec (motive:=fun _=>Tr α) (Tr.putS x ih none .lf .lf k) (fun v l r _ _=>Tr.putS x ih v l r k) t) f t k
theorem qdb {β:Type} (a b:Nat) (x y:β):(Bool.rec (motive:=fun _=>β) y x (Nat.beq a b):β)=if a=b then x else y:=by
  by_cases h:a=b
  · subst h;simp
  · rw [if_neg h,show Nat.beq a b=false from by
      cases e:Nat.beq a b
      · rfl
      · exact absurd (Nat.eq_of_beq_eq_true e) h]
theorem qt2 {α:Type} (a b:Nat) (x y:α):(bif Nat.beq a b then x else y)=if a=b then x else y:=by
  by_cases h:a=b
  · subst h;simp
  · rw [if_neg h,show Nat.beq a b=false from by
      cases e:Nat.beq a b
      · rfl
      · exact absurd (Nat.eq_of_beq_eq_true e) h];rfl
@[simp] theorem Tr.get_lf {α:Type} (k:Nat):(Tr.lf:Tr α).get k=none:=rfl
theorem Tr.get_nd {α:Type} (v:Option α) (l r:Tr α) (k:Nat):(Tr.nd v l r).get k=if k=0 then v else if k%2=1 then l.get (k / 2) else r.get (k / 2 - 1):=by
  show (Bool.rec (motive:=fun _=>Option α) (Bool.rec (motive:=fun _=>Option α) (r.get (k / 2 - 1)) (l.get (k / 2)) (Nat.beq (k%2) 1)) v (Nat.beq k 0))=_;rw [qdb,qdb]
theorem Tr.putS_eq {α:Type} (x:Option α) (a:Tr α→Nat→Tr α) (v:Option α) (l r:Tr α) (k:Nat):Tr.putS x a v l r k=if k=0 then .nd x l r else if k%2=1 then .nd v (a l (k / 2)) r else .nd v l (a r (k / 2 - 1)):=by
  show (Bool.rec (motive:=fun _=>Tr α) (Bool.rec (motive:=fun _=>Tr α) (.nd v l (a r (k / 2 - 1))) (.nd v (a l (k / 2)) r) (Nat.beq (k%2) 1)) (.nd x l r) (Nat.beq k 0))=_;rw [qdb,qdb]
theorem Tr.put_lf {α:Type} (f k:Nat) (x:Option α):Tr.put (f+1) .lf k x=if k=0 then .nd x .lf .lf else if k%2=1 then .nd none (Tr.put f .lf (k / 2) x) .lf else .nd none .lf (Tr.put f .lf (k / 2 - 1) x):=
  Tr.putS_eq x (fun t k=>Tr.put f t k x) none .lf .lf k
theorem Tr.put_nd {α:Type} (f k:Nat) (x v:Option α) (l r:Tr α):Tr.put (f+1) (.nd v l r) k x=if k=0 then .nd x l r else if k%2=1 then .nd v (Tr.put f l (k / 2) x) r else .nd v l (Tr.put f r (k / 2 - 1) x):=
  Tr.putS_eq x (fun t k=>Tr.put f t k x) v l r k
theorem Tr.get_put {α : Type} : ∀ (f : Nat) (t : Tr α) (k : Nat) (x : Option α), k + 1 < 2 ^ f → ∀ j, (Tr.put f t k x).get j = if j = k then x else t.get j
  |0,t,k,x,h,j=>by simp at h
  | f + 1, t, k, x, h, j => by
    have e:2^(f+1)=2*2^f:=by rw [Nat.pow_succ];omega
    rw [e] at h;have key:∀(v:Option α) (l r:Tr α),(if k=0 then Tr.nd x l r else if k%2=1 then .nd v (Tr.put f l (k / 2) x) r else .nd v l (Tr.put f r (k / 2 - 1) x)).get j=if j=k then x else (Tr.nd v l r).get j:=by
      intro v l r;by_cases m:k=0
      · subst m;by_cases a:j=0
        · subst a;simp [Tr.get_nd]
        · simp [Tr.get_nd,a]
      · rw [if_neg m];by_cases k1:k%2=1
        · rw [if_pos k1];have n:=Tr.get_put f l (k / 2) x (by omega);by_cases a:j=0
          · subst a;rw [if_neg (fun e=>m e.symm)];simp [Tr.get_nd]
          · by_cases b:j%2=1
            · simp only [Tr.get_nd,if_neg a,if_pos b,n];by_cases c:j=k
              · subst c;simp
              · rw [if_neg (by omega),if_neg c]
            · simp only [Tr.get_nd,if_neg a,if_neg b];rw [if_neg (by omega)]
        · rw [if_neg k1];have n:=Tr.get_put f r (k / 2 - 1) x (by omega);by_cases a:j=0
          · subst a;rw [if_neg (fun e=>m e.symm)];simp [Tr.get_nd]
          · by_cases b:j%2=1
            · simp only [Tr.get_nd,if_neg a,if_pos b];rw [if_neg (by omega)]
            · simp only [Tr.get_nd,if_neg a,if_neg b,n];by_cases c:j=k
              · subst c;simp
              · rw [if_neg (by omega),if_neg c]
    cases t with
    |lf=>
      have:=key none .lf .lf;have p:(Tr.nd none .lf .lf:Tr α).get j=(Tr.lf:Tr α).get j:=by
        simp only [Tr.get_nd,Tr.get_lf];split
        · rfl
        · split<;>rfl
      rw [p] at this;rw [Tr.put_lf];exact this
    |nd v l r=>rw [Tr.put_nd];exact key v l r
def vk:Nat:=1048570
noncomputable def Tr.set {α:Type} (t:Tr α) (k:Nat) (x:α):Tr α:=Tr.put 20 t k (some x)
noncomputable def Tr.del {α:Type} (t:Tr α) (k:Nat):Tr α:=Tr.put 20 t k none
theorem Tr.get_set {α:Type} (t:Tr α) {k:Nat} (x:α) (h:k<vk) (j:Nat):(t.set k x).get j=if j=k then some x else t.get j:=Tr.get_put 20 t k _ (by unfold vk at h;simp only [Nat.reducePow];omega) j
theorem Tr.get_del {α:Type} (t:Tr α) {k:Nat} (h:k<vk) (j:Nat):(t.del k).get j=if j=k then none else t.get j:=Tr.get_put 20 t k _ (by unfold vk at h;simp only [Nat.reducePow];omega) j
structure Ob where
  cells:List Value
  ty:TypeId
  sz:Nat
  whole:Bool
  ex:Bool
abbrev vg:=Tr Ob
abbrev Sg:=Nat→Option (Nat×Nat×Nat)
def Sg.le (σ τ:Sg):Prop:=∀k p,σ k=some p→τ k=some p
theorem Sg.le_refl (σ:Sg):σ.le σ:=fun _ _ h=>h
theorem Sg.le_trans {a b c:Sg} (h:a.le b) (k:b.le c):a.le c:=fun i p j=>k i p (h i p j)
def zF:Value→Bool
  | .bool _| .int _ _| .string _| .nilFunc| .nilIface| .pointer none=>true
  | .slice none 0 0=>true
  |_=>false
inductive VR (σ:Sg):Value→Value→Prop
  |pln {v:Value} (h:zF v=true):VR σ v v
  |ptr {i b f x o:Nat} (h:σ i=some (b,f,x)):VR σ (.pointer (some ⟨i,o,none⟩)) (.pointer (some ⟨b,f+o,none⟩))
  |slc {i b f x o n c:Nat} (h:σ i=some (b,f,x)) (hn:n≤c):VR σ (.slice (some ⟨i,o,none⟩) n c) (.slice (some ⟨b,f+o,none⟩) n (c+x))
  |fnc {g:Fn} {fs gs cs ds:Array Value} (h1:fs.size=gs.size) (h2:∀(i:Nat) (x y:Value),fs[i]? =some x→gs[i]? =some y→VR σ x y) (h3:cs.size=ds.size) (h4:∀(i:Nat) (x y:Value),cs[i]? =some x→ds[i]? =some y→VR σ x y):VR σ (.func g fs cs) (.func g gs ds)
  |mp {i b:Nat} (h:σ i=some (b,0,0)):VR σ (.map (some i)) (.map (some b))
  |ifc {t:TypeId} {v v':Value} (h:VR σ v v'):VR σ (.iface t v) (.iface t v')
  |agg {cs ds:Array Value} (h1:cs.size=ds.size) (h2:∀(i:Nat) (x y:Value),cs[i]? =some x→ds[i]? =some y→VR σ x y):VR σ (.agg cs) (.agg ds)
  |tup {cs ds:Array Value} (h1:cs.size=ds.size) (h2:∀(i:Nat) (x y:Value),cs[i]? =some x→ds[i]? =some y→VR σ x y):VR σ (.tuple cs) (.tuple ds)
theorem VR.mono {σ j:Sg} (c:σ.le j) {v l:Value} (h:VR σ v l):VR j v l:=by
  induction h with
  |pln h=>exact .pln h
  |ptr h=>exact .ptr (c _ _ h)
  |slc h p=>exact .slc (c _ _ h) p
  |mp h=>exact .mp (c _ _ h)
  |fnc a _ m _ n i4=>exact .fnc a n m i4
  |ifc _ b=>exact .ifc b
  |agg a _ b=>exact .agg a b
  |tup a _ b=>exact .tup a b
theorem qe9 {cs ds es:Array Value} {σ:Sg} (j:cs.size=ds.size) (c:∀(i:Nat) (x y:Value),cs[i]? =some x→ds[i]? =some y→∀z,VR σ x z→y=z) (k1:cs.size=es.size) (k2:∀(i:Nat) (x y:Value),cs[i]? =some x→es[i]? =some y→VR σ x y):ds=es:=by
  apply Array.ext
  · omega
  · intro i b h;have a:i<cs.size:=by omega
    exact c i cs[i] ds[i] (Array.getElem?_eq_getElem a) (Array.getElem?_eq_getElem b) es[i] (k2 i cs[i] es[i] (Array.getElem?_eq_getElem a) (Array.getElem?_eq_getElem h))
theorem VR.uniq {σ:Sg} {v a:Value} (h:VR σ v a):∀{b:Value},VR σ v b→a=b:=by
  induction h with
  |pln h=>
    intro b j;cases j with
    |pln _=>rfl
    |ptr _=>cases h
    |slc _ _=>cases h
    |mp _=>cases h
    |fnc _ _ _ _=>cases h
    |ifc _=>cases h
    |agg _ _=>cases h
    |tup _ _=>cases h
  |ptr h=>
    intro b j;cases j with
    |pln c=>cases c
    |ptr c=>rw [h] at c;cases c;rfl
  |slc h B=>
    intro b j;cases j with
    |pln c=>cases c
    |slc c _=>rw [h] at c;cases c;rfl
  |mp h=>
    intro b j;cases j with
    |pln c=>cases c
    |mp c=>rw [h] at c;cases c;rfl
  |fnc p _ u _ A i4=>
    intro b j;cases j with
    |pln c=>cases c
    |fnc k1 k2 k3 k4=>rw [qe9 p (fun i x y m n z l=>A i x y m n l) k1 k2,qe9 u (fun i x y m n z l=>i4 i x y m n l) k3 k4]
  |ifc _ t=>
    intro b j;cases j with
    |pln c=>cases c
    |ifc c=>rw [t c]
  |agg p _ t=>
    intro b j;cases j with
    |pln c=>cases c
    |agg k1 k2=>rw [qe9 p (fun i x y m n z l=>t i x y m n l) k1 k2]
  |tup p _ t=>
    intro b j;cases j with
    |pln c=>cases c
    |tup k1 k2=>rw [qe9 p (fun i x y m n z l=>t i x y m n l) k1 k2]
def qn (σ:Sg):List Value→List Value→Prop
  |[],[]=>True
  |a::l,b::m=>VR σ a b∧qn σ l m
  |_,_=>False
theorem qn.len {σ:Sg}:∀{l m:List Value},qn σ l m→l.length=m.length
  |[],[],_=>rfl
  |_::l,_::m,h=>by simp [qn.len h.2]
theorem qn.mono {σ a:Sg} (b:σ.le a):∀{l m:List Value},qn σ l m→qn a l m
  |[],[],_=>trivial
  |_::_,_::_,h=>⟨h.1.mono b,qn.mono b h.2⟩
theorem qn.get {σ:Sg}:∀{l m:List Value},qn σ l m→∀(j:Nat) (v:Value),l[j]? =some v→∃n,m[j]? =some n∧VR σ v n
  |[],[],_,j,v,c=>by simp at c
  |a::l,b::m,h,0,v,c=>by simp at c;subst c;exact ⟨b,rfl,h.1⟩
  |a::l,b::m,h,j+1,v,c=>by simpa using qn.get h.2 j v (by simpa using c)
theorem qn.uniq {σ:Sg}:∀{l a b:List Value},qn σ l a→qn σ l b→a=b
  |[],[],[],_,_=>rfl
  |_::_,_::_,_::_,h,k=>by rw [h.1.uniq k.1,qn.uniq h.2 k.2]
theorem qn.app {σ:Sg}:∀{a b c d:List Value},qn σ a b→qn σ c d→qn σ (a++c) (b++d)
  |[],[],_,_,_,k=>k
  |_::_,_::_,_,_,h,k=>⟨h.1,qn.app h.2 k⟩
theorem qn.take {σ:Sg}:∀{a b:List Value} (n:Nat),qn σ a b→qn σ (a.take n) (b.take n)
  |[],[],_,_=>by simp [qn]
  |_::_,_::_,0,_=>by simp [qn]
  |_::_,_::_,n+1,h=>⟨h.1,qn.take n h.2⟩
theorem qn.drop {σ:Sg}:∀{a b:List Value} (n:Nat),qn σ a b→qn σ (a.drop n) (b.drop n)
  |[],[],_,_=>by simp [qn]
  |_::_,_::_,0,h=>h
  |_::_,_::_,n+1,h=>qn.drop n h.2
theorem qn.set {σ:Sg} {v c:Value} (j:VR σ v c):∀{a b:List Value} (n:Nat),qn σ a b→qn σ (a.set n v) (b.set n c)
  |[],[],_,_=>trivial
  |_::_,_::_,0,h=>⟨j,h.2⟩
  |_::_,_::_,n+1,h=>⟨h.1,qn.set j n h.2⟩
theorem qn.of {σ:Sg}:∀{l m:List Value},l.length=m.length→(∀(j:Nat) (x y:Value),l[j]? =some x→m[j]? =some y→VR σ x y)→qn σ l m
  |[],[],_,_=>trivial
  |a::l,b::m,h,c=>⟨c 0 a b rfl rfl,qn.of (by simpa using h) fun j x y p n=>c (j+1) x y (by simpa using p) (by simpa using n)⟩
theorem qn.arr {σ:Sg} {cs ds:Array Value} (h:qn σ cs.toList ds.toList):cs.size=ds.size∧∀(i:Nat) (x y:Value),cs[i]? =some x→ds[i]? =some y→VR σ x y:=by
  refine ⟨by simpa using h.len,fun i x y j a=> ?_⟩;obtain ⟨l,c,b⟩:=h.get i x (by rw [←j];simp);rw [←Array.getElem?_toList,c] at a;cases a;exact b
structure RO (σ:Sg) (w:World) (i:Nat) (o:Ob) (b f x:Nat) (cur:Array Value):Prop where
  at':σ i=some (b,f,x)
  heap:w.heap[b]? =some (.cells cur o.ty (0,0))
  cs:qn σ o.cells ((cur.toList.drop f).take o.cells.length)
  room:f+o.cells.length+x*o.sz≤cur.size
  whole:o.whole=true→f=0∧x=0∧cur.size=o.cells.length
  most:o.whole=false→∃n,o.cells.length=n*o.sz∧n+x≤maxLen
  exact:o.ex=true→f=0∧cur.size=o.cells.length+x*o.sz
def QR (ps:List (ByteArray×Value)):List Value:=ps.flatMap fun p=>[.string p.1,p.2]
def MO (σ:Sg) (w:World) (i:Nat) (o:Ob):Prop:=∃b ps,σ i=some (b,0,0)∧MapB w b ps∧o.cells=QR ps∧∀p∈ps,zF p.2=true
def MR (σ:Sg) (H:vg) (w:World):Prop:=∀i o,H.get i=some o→(o.sz=0→MO σ w i o)∧(o.sz≠0→∃b f x cur,RO σ w i o b f x cur)
theorem MO.mono {σ a:Sg} (j:σ.le a) {w:World} {i:Nat} {o:Ob} (h:MO σ w i o):MO a w i o:=by
  obtain ⟨b,ps,c,l⟩:=h;exact ⟨b,ps,j _ _ c,l⟩
theorem RO.mono {σ a:Sg} (c:σ.le a) {w:World} {i:Nat} {o:Ob} {b f x:Nat} {cur:Array Value} (h:RO σ w i o b f x cur):RO a w i o b f x cur:=
  ⟨c _ _ h.at',h.heap,h.cs.mono c,h.room,h.whole,h.most,h.exact⟩
theorem RO.keep {σ:Sg} {w w':World} {i:Nat} {o:Ob} {b f x:Nat} {cur:Array Value} (h:RO σ w i o b f x cur) (a:w'.heap[b]? =w.heap[b]?):RO σ w' i o b f x cur:=
  ⟨h.at',a.trans h.heap,h.cs,h.room,h.whole,h.most,h.exact⟩
theorem RO.lt {σ:Sg} {w:World} {i:Nat} {o:Ob} {b f x:Nat} {cur:Array Value} (h:RO σ w i o b f x cur):b<w.heap.size:=(Array.getElem?_eq_some_iff.1 h.heap).1
theorem MR.ext {σ:Sg} {H:vg} {w w':World} (h:MR σ H w) (l:qb w w'):MR σ H w':=fun i o j=>by
  refine ⟨fun a=> ?_,fun a=> ?_⟩
  · obtain ⟨b,ps,n,p,m⟩:=(h i o j).1 a;exact ⟨b,ps,n,p.ext l,m⟩
  · obtain ⟨b,f,x,cur,c⟩:=(h i o j).2 a;exact ⟨b,f,x,cur,c.keep (l.block b c.lt)⟩
theorem MR.mono {σ j:Sg} {H:vg} {w:World} (h:MR σ H w) (l:σ.le j):MR j H w:=fun i o c=>by
  refine ⟨fun a=>((h i o c).1 a).mono l,fun a=> ?_⟩;obtain ⟨b,f,x,cur,m⟩:=(h i o c).2 a;exact ⟨b,f,x,cur,m.mono l⟩
theorem RO.cell {σ:Sg} {w:World} {i:Nat} {o:Ob} {b f x:Nat} {cur:Array Value} (h:RO σ w i o b f x cur) {j:Nat} {v:Value} (m:o.cells[j]? =some v):∃a,w.cell? ⟨b,f+j,none⟩=some a∧VR σ v a:=by
  obtain ⟨a,l,n⟩:=h.cs.get j v m;refine ⟨a, ?_,n⟩;have c:j<o.cells.length:=(List.getElem?_eq_some_iff.1 m).1;rw [List.getElem?_take_of_lt c,List.getElem?_drop] at l;simpa [World.cell?,h.heap] using l
noncomputable def qeV (H:vg) (a:Addr):Option Value:=
  match a.spot with
  |none=>match H.get a.block with|some o=>bif Nat.beq o.sz 0 then none else o.cells[a.off]? |none=>none
  |some _=>none
noncomputable def qbq (H:vg) (a:Addr) (n:Nat):Option (List Value):=
  match a.spot with
  |none=>match H.get a.block with
    |some o=>bif Nat.beq o.sz 0 then none else if ((o.cells.drop a.off).take n).length=n then some ((o.cells.drop a.off).take n) else none
    |none=>none
  |some _=>none
def qa8 (sz:Nat) (v:Value) (l h:Int):Option Value:=
  match v with
  | .slice (some ⟨i,o,none⟩) _ c=>if 0≤l∧l≤h∧h≤c∧(l<c∨l=0) then some (.slice (some ⟨i,o+l.toNat*sz,none⟩) (h.toNat - l.toNat) (c - l.toNat)) else none
  | .slice none 0 0=>if l=0∧h=0 then some (.slice none 0 0) else none
  |_=>none
noncomputable def x1 (H:vg):K1→Value→Option Value
  | .same,v=>some v
  | .load1, .pointer (some a)=>qeV H a
  | .loadN n, .pointer (some a)=>match qbq H a n with|some l=>some (.agg l.toArray)|none=>none
  | .fadr off, .pointer (some ⟨i,o,none⟩)=>some (.pointer (some ⟨i,o+off,none⟩))
  | .fld off, .agg cs=>cs[off]?
  | .lenS, .slice _ n _=>some (.int .i64 n)
  | .lenT, .string s=>some (.int .i64 s.size)
  | .not, .bool b=>some (.bool !b)
  | .neg, .int k n=>some (.int k (k.wrap (0 - n)))
  | .conv k, .int _ n=>some (.int k (k.wrap n))
  | .ext i, .tuple vs=>vs[i]?
  | .mkif t,v=>some (.iface t v)
  | .nilc, .pointer (some a)=>some (.pointer (some a))
  | .nilc, .iface t v=>some (.iface t v)
  | .strid, .string s=>some (.string s)
  | .b2s, .slice none 0 0=>some (.string (qaU []))
  | .b2s, .slice (some a) n _=>match qbq H a n with
    |some l=>(match kH l with|some ns=>some (.string (qaU ns))|none=>none)
    |none=>none
  |_,_=>none
def x2:K2→Value→Value→Option Value
  | .ibin op _, .int k a, .int k' b=>if k=k' then (match qaI op k a b with|some (.int k n)=>some (.int k n)|some (.bool b)=>some (.bool b)|_=>none) else none
  | .sbin op, .string x, .string y=>match kw op x y with|some (.string s)=>some (.string s)|some (.bool b)=>some (.bool b)|_=>none
  | .bbin .eql, .bool a, .bool b=>some (.bool (a==b))
  | .bbin .neq, .bool a, .bool b=>some (.bool (!(a==b)))
  | .ixa sz, .slice (some ⟨i,o,none⟩) n _, .int _ j=>if 0≤j∧j<n then some (.pointer (some ⟨i,o+j.toNat*sz,none⟩)) else none
  | .ixs, .string s, .int _ i=>if 0≤i then (match s[i.toNat]? with|some b=>some (.int .u8 b.toNat)|none=>none) else none
  | .slLo sz, .slice a n c, .int _ l=>qa8 sz (.slice a n c) l n
  | .stLo, .string s, .int _ l=>if 0≤l∧l≤s.size then some (.string (s.extract l.toNat s.size)) else none
  |_,_,_=>none
def x3:K3→Value→Value→Value→Option Value
  | .slLoHi sz,v, .int _ l, .int _ h=>qa8 sz v l h
  | .stLoHi, .string s, .int _ l, .int _ h=>if 0≤l∧l≤h∧h≤s.size then some (.string (s.extract l.toNat h.toNat)) else none
  |_,_,_,_=>none
def qaS:Value→Bool
  | .func _ fs cs=>fs.isEmpty&&cs.isEmpty
  | .agg cs=>cs.toList.all zF
  | .tuple cs=>cs.toList.all zF
  | .iface _ (.agg cs)=>cs.toList.all zF
  | .iface _ v=>zF v
  |v=>zF v
noncomputable def vL (H:vg) (e:Tr Value):Ex→Option Value
  | .var i=>e.get i
  | .const v=>if qaS v then some v else none
  | .op1 k x=>match vL H e x with|some a=>x1 H k a|none=>none
  | .op2 k x y=>match vL H e x,vL H e y with|some a,some b=>x2 k a b|_,_=>none
  | .op3 k x y z=>match vL H e x,vL H e y,vL H e z with|some a,some b,some c=>x3 k a b c|_,_,_=>none
  | .op4 .. =>none
  | .ite c x y=>match vL H e c with|some (.bool true)=>vL H e x|some (.bool false)=>vL H e y|_=>none
section
variable {σ:Sg} {H:vg} {w:World}
theorem qgw {cs:Array Value} (h:cs.toList.all zF=true):∀(i:Nat) (x y:Value),cs[i]? =some x→cs[i]? =some y→VR σ x y:=fun i x y b a=>by
  rw [b] at a;cases a;exact .pln (List.all_eq_true.1 h x (by rw [Array.mem_toList_iff];exact Array.mem_of_getElem? b))
theorem wP {v:Value} (h:qaS v=true):VR σ v v:=by
  unfold qaS at h;split at h
  · simp only [Bool.and_eq_true,Array.isEmpty_iff] at h;obtain ⟨rfl,rfl⟩:=h;exact .fnc rfl (fun i x y a=>by simp at a) rfl (fun i x y a=>by simp at a)
  · exact .agg rfl (qgw h)
  · exact .tup rfl (qgw h)
  · exact .ifc (.agg rfl (qgw h))
  · exact .ifc (.pln h)
  · exact .pln h
theorem qtJ (z:MR σ H w) {a:Addr} {v l:Value} (y:VR σ (.pointer (some a)) l) (h:qeV H a=some v):∃u,qU w .load1 l=some u∧VR σ v u:=by
  cases y with
  |pln p=>cases p
  |ptr n=>
    simp only [qeV] at h;split at h
    · rename_i o m;rw [qt2] at h;by_cases c:o.sz=0
      · rw [if_pos c] at h;cases h
      rw [if_neg c] at h;obtain ⟨b,f,x,cur,j⟩:=(z _ o m).2 c;have:=j.at';rw [n] at this;cases this;obtain ⟨u,t,A⟩:=j.cell h;exact ⟨u,t,A⟩
    · cases h
theorem qf7 (O : MR σ H w) {i o : Nat} {b f x : Nat} (J : σ i = some (b, f, x)) {n : Nat} {l : List Value} (h : qbq H ⟨i, o, none⟩ n = some l) : ∃ E, jq w ⟨b, f + o, none⟩ 0 n = some E ∧ qn σ l E ∧ l.length = n := by
  simp only [qbq] at h;split at h
  · rename_i ob y;rw [qt2] at h;by_cases u:ob.sz=0
    · rw [if_pos u] at h;cases h
    rw [if_neg u] at h;split at h
    · rename_i B;cases h;obtain ⟨X,S,W,cur,p⟩:=(O _ ob y).2 u;have:=p.at';rw [J] at this;cases this;have I:=(p.cs.drop o).take n;have c:=I.len;rw [B] at c;refine ⟨_, ?_,I,B⟩;have A:=yM (w:=w) (a:=⟨b,f+o,none⟩) (l:=(((cur.toList.drop f).take ob.cells.length).drop o).take n) (i:=0) fun j R=>by
        have t:j<n:=by omega
        have m:(((cur.toList.drop f).take ob.cells.length).drop o)[j]? =some ((((cur.toList.drop f).take ob.cells.length).drop o).take n)[j]:=by
          rw [←List.getElem?_take_of_lt t,List.getElem?_eq_getElem R]
        rw [List.getElem?_drop] at m;have z:o+j<ob.cells.length:=by
          have:=(List.getElem?_eq_some_iff.1 m).1;simp at this;omega
        rw [List.getElem?_take_of_lt z,List.getElem?_drop] at m;simp only [vM,Nat.zero_add];simpa [World.cell?,p.heap,Nat.add_assoc] using m
      rw [←c] at A;exact A
    · cases h
  · cases h
theorem qtP : ∀ {l p : List Value} {c : List Int}, qn σ l p → kH l = some c → kH p = some c
  |[],[],c,_,h=>h
  | a :: l, b :: m, c, x, h => by
    unfold kH at h;split at h
    · rename_i e;cases e
    · rename_i n y e;cases e;obtain ⟨u,t⟩:=x;cases u with
      |pln _=>
        simp only [Option.map_eq_some_iff] at h;obtain ⟨z,j,rfl⟩:=h;simp [kH,qtP t j]
    · cases h
theorem qcV {a:Option Addr} {n c:Nat} {b:Value} (h:VR σ (.slice a n c) b):qo b=true∧qk b=n:=by
  cases h with
  |pln h=>
    unfold zF at h;split at h<;>simp_all [qo,qk]
  |slc _ j=>exact ⟨by simp [qo];omega,rfl⟩
theorem qa1 (I : MR σ H w) {k : K1} {v z u : Value} (j : VR σ v z) (h : x1 H k v = some u) : ∃ R, qU w k z = some R ∧ VR σ u R := by
  unfold x1 at h;split at h
  · cases h;exact ⟨z,rfl,j⟩
  · exact qtJ I j h
  · rename_i n a;split at h
    · rename_i l B;cases h;cases j with
      |pln m=>cases m
      |ptr t=>
        obtain ⟨J,y,p,_⟩:=qf7 I t B;refine ⟨.agg J.toArray,by simp only [qU,y];rfl, ?_⟩;obtain ⟨k1,k2⟩:=qn.arr (cs:=l.toArray) (ds:=J.toArray) (by simpa using p);exact .agg k1 k2
    · cases h
  · cases h;cases j with
    |pln m=>cases m
    |ptr t=>exact ⟨_,rfl,by rw [vM,Nat.add_assoc];exact .ptr t⟩
  · rename_i off cs;cases j with
    |pln m=>cases m
    |agg y p=>
      rename_i ds;have E:off<cs.size:=(Array.getElem?_eq_some_iff.1 h).1;have A:ds[off]? =some ds[off]:=Array.getElem?_eq_getElem (by omega);exact ⟨ds[off],A,p off u _ h A⟩
  · cases h;obtain ⟨y,p⟩:=qcV j;refine ⟨_, ?_, .pln rfl⟩;show (if qo z=true then some (Value.int .i64 (qk z)) else none)=_;rw [if_pos y,p]
  · cases h;cases j with|pln _=>exact ⟨_,rfl, .pln rfl⟩
  · cases h;cases j with|pln _=>exact ⟨_,rfl, .pln rfl⟩
  · cases h;cases j with|pln _=>exact ⟨_,rfl, .pln rfl⟩
  · cases h;cases j with|pln _=>exact ⟨_,rfl, .pln rfl⟩
  · rename_i i vs;cases j with
    |pln m=>cases m
    |tup y p=>
      rename_i ds;have E:i<vs.size:=(Array.getElem?_eq_some_iff.1 h).1;have A:ds[i]? =some ds[i]:=Array.getElem?_eq_getElem (by omega);exact ⟨ds[i],A,p i u _ h A⟩
  · cases h;exact ⟨_,rfl, .ifc j⟩
  · cases h;cases j with
    |pln m=>cases m
    |ptr t=>exact ⟨_,rfl, .ptr t⟩
  · cases h;cases j with
    |pln m=>cases m
    |ifc S=>exact ⟨_,rfl, .ifc S⟩
  · cases h;cases j with|pln _=>exact ⟨_,rfl, .pln rfl⟩
  · cases h;cases j with|pln _=>exact ⟨_,rfl, .pln rfl⟩
  · rename_i a n c;split at h
    · rename_i l B;split at h
      · rename_i W O;cases h;cases j with
        |pln m=>cases m
        |slc t X=>
          rename_i b f x o;obtain ⟨J,y,p,_⟩:=qf7 I t B;refine ⟨.string (qaU W), ?_, .pln rfl⟩;have g:qo (.slice (some ⟨b,f+o,none⟩) n (c+x))=true:=by simp [qo];omega
          show (if qo (.slice (some ⟨b,f+o,none⟩) n (c+x))=true then (jq w (qD (.slice (some ⟨b,f+o,none⟩) n (c+x)) 0) 0 (qk (.slice (some ⟨b,f+o,none⟩) n (c+x)))).bind _ else none)=_;rw [if_pos g];simp [qD,qk,y,qtP p O]
      · cases h
    · cases h
  · cases h
theorem qvW (b o n c sz l h:Nat) (a:l<c∨l=0):qY (.slice (some ⟨b,o,none⟩) n c) sz l h c= .slice (some ⟨b,o+l*sz,none⟩) (h - l) (c - l):=by
  unfold qY;by_cases e:c=l
  · have:l=0:=by omega
    subst this;subst e;simp
  · simp [e]
theorem qfF {sz : Nat} {v j u : Value} {l h : Int} (t : VR σ v j) (a : qa8 sz v l h = some u) :
    qo j=true∧0≤l∧l≤h∧h≤qv j∧∃p,qY j sz l.toNat h.toNat (qv j)=p∧VR σ u p:=by
  unfold qa8 at a;split at a
  · rename_i i o n c;split at a
    · rename_i m;cases a;obtain ⟨z,B,E,I⟩:=m;cases t with
      |pln A=>cases A
      |slc y J=>
        rename_i b f x;refine ⟨by simp [qo];omega,z,B,by simp only [qv];omega,_,rfl, ?_⟩;rw [show qv (.slice (some ⟨b,f+o,none⟩) n (c+x))=c+x from rfl,qvW _ _ _ _ _ _ _ (by omega)];have e:c+x - l.toNat=(c - l.toNat)+x:=by omega
        rw [e,Nat.add_assoc];exact .slc y (by omega)
    · cases a
  · split at a
    · rename_i m;cases a;obtain ⟨rfl,rfl⟩:=m;cases t with
      |pln _=>exact ⟨rfl,by simp,by simp,by simp [qv],_,rfl, .pln rfl⟩
    · cases a
  · cases a
theorem quB {k : K2} {a b z J u : Value} (m : VR σ a z) (p : VR σ b J) (h : x2 k a b = some u) : ∃ B, jL w k z J = some B ∧ VR σ u B := by
  unfold x2 at h;split at h
  · rename_i op k1 x k2 y;cases m with
    | pln _ => cases p with
      |pln _=>
        simp only [jL];split at h
        · rename_i O;rw [if_pos O];split at h
          · rename_i k3 n t;cases h;exact ⟨_,t, .pln rfl⟩
          · rename_i I t;cases h;exact ⟨_,t, .pln rfl⟩
          · cases h
        · cases h
  · rename_i op x y;cases m with
    |pln _=>cases p with
      |pln _=>
        simp only [jL];split at h
        · rename_i s t;cases h;exact ⟨_,t, .pln rfl⟩
        · rename_i I t;cases h;exact ⟨_,t, .pln rfl⟩
        · cases h
  · cases h;cases m with|pln _=>cases p with|pln _=>exact ⟨_,rfl, .pln rfl⟩
  · cases h;cases m with|pln _=>cases p with|pln _=>exact ⟨_,rfl, .pln rfl⟩
  · rename_i sz i o n c k2 j;split at h
    · rename_i A;cases h;cases m with
      |pln X=>cases X
      |slc S t=>
        rename_i b f x;cases p with
        |pln _=>
          refine ⟨.pointer (some ⟨b,f+o+j.toNat*sz,none⟩), ?_,by rw [Nat.add_assoc];exact .ptr S⟩;show (if qo (.slice (some ⟨b,f+o,none⟩) n (c+x))=true∧0≤j∧j<qk (.slice (some ⟨b,f+o,none⟩) n (c+x)) then some (Value.pointer (some (qD (.slice (some ⟨b,f+o,none⟩) n (c+x)) (j.toNat*sz)))) else none)=_;rw [if_pos ⟨by simp [qo];omega,A.1,A.2⟩];rfl
    · cases h
  · split at h
    · rename_i A;split at h
      · rename_i I E;cases h;cases m with
        |pln _=>cases p with
          |pln _=>exact ⟨_,by simp only [jL];rw [if_pos A,E];rfl, .pln rfl⟩
      · cases h
    · cases h
  · rename_i sz a0 n c k2 l;obtain ⟨R,h2,h3,h4,B,W,Z⟩:=qfF m h;obtain ⟨g1,Y⟩:=qcV m;cases p with
    |pln _=>
      refine ⟨B, ?_,Z⟩;show (if qo z=true∧0≤l∧l≤qk z then some (qY z sz l.toNat (qk z) (qv z)) else none)=_;rw [if_pos ⟨R,h2,by omega⟩,←W,Y];rfl
  · split at h
    · rename_i A;cases h;cases m with
      |pln _=>cases p with
        |pln _=>exact ⟨_,by simp only [jL];rw [if_pos A], .pln rfl⟩
    · cases h
  · cases h
theorem quA {k : K3} {a b c j z p u : Value} (y : VR σ a j) (t : VR σ b z) (x : VR σ c p) (h : x3 k a b c = some u) : ∃ n, we w k j z p = some n ∧ VR σ u n := by
  unfold x3 at h;split at h
  · rename_i sz k1 l k2 m;obtain ⟨E,R,A,B,n,I,J⟩:=qfF y h;cases t with
    |pln _=>cases x with
      |pln _=>
        refine ⟨n, ?_,J⟩;have e:we w (.slLoHi sz) j (.int k1 l) (.int k2 m)=if qo j=true∧0≤l∧l≤m∧m≤qv j then some (qY j sz l.toNat m.toNat (qv j)) else none:=by cases j<;>rfl
        rw [e,if_pos ⟨E,R,A,B⟩,I]
  · split at h
    · rename_i O;cases h;cases y with
      |pln _=>cases t with
        |pln _=>cases x with
          |pln _=>exact ⟨_,by simp only [we];rw [if_pos O], .pln rfl⟩
    · cases h
  · cases h
def ER (σ:Sg) (e:Tr Value) (ρ:qa):Prop:=∀i v,e.get i=some v→VR σ v (ρ i)
theorem xB (m : MR σ H w) {e : Tr Value} {ρ : qa} (l : ER σ e ρ) : ∀ {ex : Ex} {u : Value}, vL H e ex = some u → ∃ j, ex.ev ρ w = some j ∧ VR σ u j
  | .var i,u,h=>⟨ρ i,rfl,l i u h⟩
  | .const v,u,h=>by
    simp only [vL] at h;split at h
    · rename_i B;cases h;exact ⟨_,rfl,wP B⟩
    · cases h
  | .op1 k x,u,h=>by
    simp only [vL] at h;split at h
    · rename_i a E;obtain ⟨R,t,A⟩:=xB m l E;obtain ⟨j,n,p⟩:=qa1 m A h;exact ⟨j,by simp only [Ex.ev,t,Option.bind_some,n],p⟩
    · cases h
  | .op2 k x y,u,h=>by
    simp only [vL] at h;split at h
    · rename_i a b E J;obtain ⟨R,t,A⟩:=xB m l E;obtain ⟨Y,n,p⟩:=xB m l J;obtain ⟨j,I,O⟩:=quB (w:=w) A p h;exact ⟨j,by simp only [Ex.ev,t,n,Option.bind_some,I],O⟩
    · cases h
  | .op3 k x y z,u,h=>by
    simp only [vL] at h;split at h
    · rename_i a b c E J B;obtain ⟨R,t,A⟩:=xB m l E;obtain ⟨Y,n,p⟩:=xB m l J;obtain ⟨S,I,O⟩:=xB m l B;obtain ⟨j,W,X⟩:=quA (w:=w) A p O h;exact ⟨j,by simp only [Ex.ev,t,n,I,Option.bind_some,W],X⟩
    · cases h
  | .op4 ..,u,h=>by simp [vL] at h
  | .ite c x y,u,h=>by
    simp only [vL] at h;split at h
    · rename_i B;obtain ⟨S,t,A⟩:=xB m l B;cases A with
      |pln _=>
        obtain ⟨j,n,p⟩:=xB m l h;exact ⟨j,by simp only [Ex.ev,t,Option.bind_some,QP,n],p⟩
    · rename_i B;obtain ⟨S,t,A⟩:=xB m l B;cases A with
      |pln _=>
        obtain ⟨j,n,p⟩:=xB m l h;exact ⟨j,by simp only [Ex.ev,t,Option.bind_some,QP,n],p⟩
    · cases h
end
end Go.Eng
namespace Go.Eng
open Go.RowKit
section
variable (V:Nat→Bool)
def yk:Operand→Bool
  | .tmp t=> !V t
  |_=>false
def qgx:Op→Option (Operand×Operand×Value×Bool)
  | .pick c (.const va) b=>if yk V b then some (c,b,va,false) else none
  | .pick c a (.const vb)=>if yk V a then some (c,a,vb,true) else none
  |_=>none
variable (P:Program) (ops:Array Oper)
def qbE (rec : Nat → Option (Ex × Nat)) (g : Option (Nat × Bool)) (x : Operand) (pos : Nat) : Option (Ex × Nat) :=
  if yk V x then
    match x,pos with
    | .tmp t,p+1=>if vf ops p=some t∧(ops[p]?).map (·.guard)=some g then rec p else none
    |_,_=>none
  else some (xx x,pos)
def qbD (rec:Nat→Option (Ex×Nat)) (g:Option (Nat×Bool)):List Operand→Nat→Option (List Ex×Nat)
  |[],pos=>some ([],pos)
  |x::xs,pos=>(qbD rec g xs pos).bind fun (es,j)=>(qbE V ops rec g x j).bind fun (e,j')=>some (e::es,j')
def qgr (rec : Nat → Option (Ex × Nat)) (o : Oper) (k : Nat) : Option (Ex × Nat) :=
  match qgx V o.op with
  | some (c, y, cv, want) =>
    match k,c,y with
    | p + 1, .tmp tc, .tmp ty =>
      match (ops[p]?).bind (·.guard) with
      |some (i,want')=>
        if want'=want∧vf ops p=some ty∧vf ops i=some tc∧(o.guard=none∨yk V c=true) then
          (rec p).bind fun (ey,jy)=>(qbE V ops rec o.guard c jy).bind fun (ec,jc)=>some (if want then .ite ec ey (.const cv) else .ite ec (.const cv) ey,jc)
        else none
      |none=>none
    |_,_,_=>none
  |none=>
    match o.op with
    | .pick c a b=>if yk V a||yk V b then none else (qbE V ops rec o.guard c k).bind fun (ec,jc)=>some (.ite ec (xx a) (xx b),jc)
    |op=>(qcN P op).bind fun p=>(qbD V ops rec o.guard p.opds k).bind fun (es,j)=>(p.mk es).map fun e=>(e,j)
def pxQ:Nat→Nat→Option (Ex×Nat)
  |0,_=>none
  |fuel+1,k=>(ops[k]?).bind fun o=>(qgr V P ops (pxQ fuel) o k).bind fun (e,j)=>if vV o.guard j then some (e,j) else none
def tgQ (g : Option (Nat × Bool)) (j : Nat) : Option (Option (Nat × Bool)) :=
  match g with
  |none=>some none
  |some (i,want)=>match vf ops i with
    |some t=>if V t=true∧i<j then some (some (t,want)) else none
    |none=>none
def qi1 (o:Oper):Bool:=
  (o.op.operands.toList.all fun x=> !yk V x)&&(match o.op with| .select .. =>false|_=>true)&&(match o.dst with|some d=>V d|none=>true)
def qal : Nat → Nat → Option (List St)
  |_,0=>some []
  |0,_+1=>none
  |fuel+1,k+1=>
    match ops[k]? with
    |none=>none
    |some o=>
      match pxQ V P ops (k+1) k,o.dst with
      |some (e,j),some d=>if V d then (tgQ V ops o.guard j).bind fun g=>(qal fuel j).map (· ++[.asg g d e]) else none
      |_,_=>if qi1 V o then (tgQ V ops o.guard k).bind fun g=>(qal fuel k).map (· ++[.eff g o.dst o.op o.type]) else none
end
def kq (V : Nat → Bool) (P : Program) (n : Nat) (rawIds : List Nat) : Code → Option IR
  | .skip=>some .skip
  | .region id ops draw=>
    if rawIds.contains id then some (.raw (.region id ops draw)) else
    if QJ ops n then
      match qal V P ops ops.size ops.size with
      |none=>none
      |some l=>if draw then (if Region.lexB .any ops&&P.follows .mixedOrders then some (.drw l) else none) else some (.reg l)
    else none
  | .seq a b=>match kq V P n rawIds a,kq V P n rawIds b with
    |some x,some y=>some (.seq x y)
    |_,_=>none
  | .cond c a b=>if yk V c then none else match kq V P n rawIds a,kq V P n rawIds b with
    |some x,some y=>some (.cond (xx c) x y)
    |_,_=>none
  | .block id a=>match kq V P n rawIds a with
    |some x=>some (.block id x)
    |none=>none
  | .loop a=>match kq V P n rawIds a with
    |some x=>some (.loop x)
    |none=>none
  | .exit id=>some (.exit id)
  | .ret=>some .ret
  |c=>some (.raw c)
section
variable (V:List Nat) (P:Program) (ops:Array Oper)
theorem qci:yk (fun t=>V.contains t)=vu V:=by funext x;cases x<;>rfl
theorem qyj:qgx (fun t=>V.contains t)=qbK V:=by
  funext o;unfold qgx qbK;rw [qci];rfl
theorem qlA:qbE (fun t=>V.contains t) ops=QM ops V:=by
  funext rec g x pos;unfold qbE QM;rw [qci];rfl
theorem qlz (rec:Nat→Option (Ex×Nat)) (g:Option (Nat×Bool)):∀(l:List Operand) (pos:Nat),qbD (fun t=>V.contains t) ops rec g l pos=yQ ops V rec g l pos
  |[],_=>rfl
  |x::xs,pos=>by
    unfold qbD yQ;rw [qlz rec g xs pos,qlA]
theorem qx9:qgr (fun t=>V.contains t) P ops=qbF P ops V:=by
  funext rec o k;unfold qgr qbF;rw [qyj,qlA,qci];have:∀g l pos,qbD (fun t=>V.contains t) ops rec g l pos=yQ ops V rec g l pos:=fun g l pos=>qlz V ops rec g l pos;simp only [this];rfl
theorem qlB:∀(a k:Nat),pxQ (fun t=>V.contains t) P ops a k=px P ops V a k
  |0,_=>rfl
  |a+1,k=>by
    unfold pxQ px;have:pxQ (fun t=>V.contains t) P ops a=px P ops V a:=by funext k;exact qlB a k
    rw [this,qx9]
theorem qvd:tgQ (fun t=>V.contains t) ops=tg ops V:=by
  funext g j;unfold tgQ tg;rfl
theorem qFk:qi1 (fun t=>V.contains t)=Qg V:=by
  funext o;unfold qi1 Qg;rw [qci];rfl
theorem qkq:∀(a k:Nat),qal (fun t=>V.contains t) P ops a k=x7 P ops V a k
  |0,0=>rfl
  |_+1,0=>rfl
  |0,_+1=>rfl
  |a+1,k+1=>by
    unfold qal x7;have:qal (fun t=>V.contains t) P ops a=x7 P ops V a:=by funext k;exact qkq a k
    rw [this,qvd,qFk,qlB];rfl
end
theorem Jh (V:List Nat) (P:Program) (n:Nat) (h:List Nat):∀c:Code,kq (fun t=>V.contains t) P n h c=qT P n V h c
  | .skip=>rfl
  | .region id ops draw=>by
    unfold kq qT;rw [qkq];rfl
  | .seq a b=>by
    unfold kq qT;rw [Jh V P n h a,Jh V P n h b];rfl
  | .cond c a b=>by
    unfold kq qT;rw [Jh V P n h a,Jh V P n h b,qci];rfl
  | .block id a=>by
    unfold kq qT;rw [Jh V P n h a];rfl
  | .loop a=>by
    unfold kq qT;rw [Jh V P n h a];rfl
  | .exit id=>rfl
  | .ret=>rfl
  | .scope _| .rangeFunc .. | .label _| .refuse _| .goto _=>rfl
theorem qFD (P:Program) (n:Nat) (a:List Nat) (c:Code):kq (fun t=>Nat.blt t n) P n a c=qT P n (List.range n) a c:=by
  rw [←Jh];congr 1;funext t;cases h:Nat.blt t n with
  |true=>symm;simpa [Nat.blt_eq] using h
  |false=>
    symm
    have:¬t<n:=fun e=>by rw [←Nat.blt_eq,h] at e;cases e
    simpa using this
end Go.Eng
namespace Go.Eng
open Go.RowKit
noncomputable section All
structure Sx where
  H:vg
  nx:Nat
  rs:List Nat
def qtE (v:Value):Option Value:=bif qaS v then some v else none
def vB (e:Tr Value):Operand→Option Value
  | .tmp t=>e.get t
  |x=>qtE (Jg x)
def yU (e:Tr Value):List Operand→Option (List Value)
  |[]=>some []
  |x::l=>match vB e x,yU e l with|some v,some vs=>some (v::vs)|_,_=>none
def qbj (e:Tr Value) (d:Nat) (v:Value):Option (Tr Value):=bif Nat.blt d vk then some (e.set d v) else none
def qlF (e:Tr Value) (d:Option Nat) (v:Value):Option (Tr Value):=
  match d with
  |none=>some e
  |some d=>qbj e d v
def gdX (e:Tr Value):Option (Nat×Bool)→Option Bool
  |none=>some true
  |some (t,want)=>match e.get t with|some (.bool b)=>some (b==want)|some (.tuple _)=>some false|_=>none
def xe (s:Sx) (k:Option Nat) (o:Ob):Option (Nat×Sx):=
  match k with
  |none=>bif Nat.blt s.nx vk then some (s.nx,⟨s.H.set s.nx o,Nat.succ s.nx,s.rs⟩) else none
  |some k=>bif s.rs.contains k&&Nat.blt k vk then some (k,⟨s.H.set k o,s.nx,s.rs.filter fun i=> !(i==k)⟩) else none
def wI (v:Value):Bool:=match v with| .agg _| .tuple _=>false|_=>true
def qgt (cs:List Value) (o:Nat) (vs:List Value):List Value:=cs.take o++vs++cs.drop (o+vs.length)
def yH (H:vg) (sz:Nat):Value→Option (List Value)
  | .slice none 0 0=>some []
  | .slice (some a) n _=>qbq H a (n*sz)
  |_=>none
def qbL (e:Tr Value):List (Nat×Operand)→Option (List (Nat×Value))
  |[]=>some []
  |(k,x)::l=>match vB e x,qbL e l with|some v,some vs=>some ((k,v)::vs)|_,_=>none
def qdi (p:Option (Nat×Sx)):Option (Value×Sx):=match p with|some (i,s)=>some (.pointer (some ⟨i,0,none⟩),s)|none=>none
def qbr (n:Nat) (p:Option (Nat×Sx)):Option (Value×Sx):=match p with|some (i,s)=>some (.slice (some ⟨i,0,none⟩) n n,s)|none=>none
def qja (e:Tr Value) (s:Sx) (k:Option Nat) (t:TypeId) (x:Operand):Option (Value×Sx):=
  match vB e x with
  |some v=>qdi (xe s k ⟨v.cells.toList,t,1,true,false⟩)
  |none=>none
def qjd (P:Program) (s:Sx) (k:Option Nat) (t:TypeId):Option (Value×Sx):=
  match vG P t with
  |some z=>bif z.toList.all zF then qdi (xe s k ⟨z.toList,t,1,true,false⟩) else none
  |none=>none
def qfI (s:Sx) (i o:Nat) (vs:List Value):Option (Value×Sx):=
  match s.H.get i with
  |some ob=>bif Nat.ble (Nat.add o vs.length) ob.cells.length&&Nat.blt i vk&& !(Nat.beq ob.sz 0) then some (undef,⟨s.H.set i ⟨qgt ob.cells o vs,ob.ty,ob.sz,ob.whole,ob.ex⟩,s.nx,s.rs⟩) else none
  |none=>none
def qiZ (P:Program) (e:Tr Value) (s:Sx) (t:TypeId) (p x:Operand):Option (Value×Sx):=
  match vB e p,vB e x with
  |some (.pointer (some ⟨i,o,none⟩)),some v=>bif jA P t v.cells.size&&v.cells.toList.all wI then qfI s i o v.cells.toList else none
  |_,_=>none
def qi7 (e:Tr Value) (s:Sx) (fn:Fn) (fs cs:List Operand):Option (Value×Sx):=
  match yU e fs,yU e cs with
  |some a,some b=>some (.func fn a.toArray b.toArray,s)
  |_,_=>none
def qjG (P:Program) (t:TypeId):Bool:=
  match P.info? t with
  |some it=>match it.zero with|some z=>z.cells.toList.all zF|none=>true
  |none=>true
def qi9 (P:Program) (e:Tr Value) (s:Sx) (t:TypeId) (ps:List (Nat×Operand)):Option (Value×Sx):=
  match qbL e ps with
  |some l=>bif qjG P t then (match P.built t l with|some cs=>some (.agg cs,s)|none=>none) else none
  |none=>none
def qi6 (P : Program) (e : Tr Value) (s : Sx) (k : Option Nat) (t : TypeId) (n : Nat) (ps : List (Nat × Operand)) : Option (Value × Sx) :=
  match qbL e ps,xG P t with
  |some l,some (ty,sz)=>
    bif Nat.ble (n*sz) 1000&&(l.map (·.1)==List.range n)&&l.all (fun p=>p.2.cells.size==sz)&&Nat.ble 1 sz then
      qbr n (xe s k ⟨l.flatMap (fun p=>p.2.cells.toList),ty,sz,false,false⟩)
    else none
  |_,_=>none
def qjf (H : vg) (ty : TypeId) (sz : Nat) : Value → Option vg
  | .slice (some a) _ c=>match H.get a.block with
    |some ob=>bif ob.ty==ty&&ob.sz==sz&& !ob.whole&&Nat.blt a.block vk&&Nat.ble (a.off+c*sz) ob.cells.length then some (H.del a.block) else none
    |none=>none
  | .slice none 0 0=>some H
  |_=>none
def quj (s : Sx) (k : Option Nat) (ty : TypeId) (sz bytes : Nat) (av : Value) (xs ys : List Value) : Option (Value × Sx) :=
  bif Nat.ble 1 (xs.length+ys.length)&&Nat.blt (xs.length+ys.length) 4611686018427387904&&Nat.ble ((xs.length+ys.length)*bytes) (140737488355328*sz)&&ys.all wI&&Nat.ble 1 sz then
    match qjf s.H ty sz av with
    |some H=>qbr ((xs.length+ys.length) / sz) (xe ⟨H,s.nx,s.rs⟩ k ⟨xs++ys,ty,sz,false,false⟩)
    |none=>none
  else none
def qjc (P : Program) (e : Tr Value) (s : Sx) (k : Option Nat) (t : TypeId) (a b : Operand) : Option (Value × Sx) :=
  match ke P t,vB e a,vB e b with
  |some (ty,sz,bytes),some av,some bv=>
    match yH s.H sz av,yH s.H sz bv with
    |some xs,some ys=>quj s k ty sz bytes av xs ys
    |_,_=>none
  |_,_,_=>none
def qeO (e:Tr Value) (s:Sx) (mx:Bool) (a b:Operand):Option (Value×Sx):=
  match vB e a,vB e b with
  |some (.int k x),some (.int k' y)=>bif k==k' then some (.int k (bif mx then (if y>x then y else x) else (if y<x then y else x)),s) else none
  |_,_=>none
def qi8 (P:Program) (e:Tr Value) (s:Sx) (k:Option Nat):Callee→List Operand→List TypeId→Option (Value×Sx)
  | .builtin .append,[a,b],[t,t']=>bif t==t' then qjc P e s k t a b else none
  | .builtin .max,[a,b],[t,t']=>bif t==t' then qeO e s true a b else none
  | .builtin .min,[a,b],_=>qeO e s false a b
  |_,_,_=>none
def qi4 (P : Program) (e : Tr Value) (s : Sx) (k : Option Nat) (t : TypeId) (x y : Operand) : Option (Value × Sx) :=
  match qdE P t,vB e x,vB e y with
  |some (ty,z,bytes),some (.int _ n),some (.int _ m)=>
    bif n==m&&decide (0≤n)&&decide (n≤100000)&&Nat.ble bytes 1000&&zF z&&wI z&&(match P.info? ty with|some i=>(match i.zero with|some z=>z.cells.size==1|none=>false)|none=>false) then
      qbr n.toNat (xe s k ⟨List.replicate n.toNat z,ty,1,false,false⟩)
    else none
  |_,_,_=>none
def qi3 (s:Sx) (k:Option Nat):Option (Nat)→Option (Value×Sx)
  |none=>match xe s k ⟨[],0,0,true,false⟩ with|some (i,s')=>some (.map (some i),s')|none=>none
  |some _=>none
def kz (a b:ByteArray):Bool:=a.data.toList.map (·.toNat)==b.data.toList.map (·.toNat)
def qdF:List Value→ByteArray→Option Value
  | .string a::v::l,k=>bif kz a k then some v else qdF l k
  |_,_=>none
def qi5 (P : Program) (e : Tr Value) (s : Sx) (t : TypeId) (m x : Operand) : Option (Value × Sx) :=
  match vB e m,vB e x,P.underlying t with
  |some (.map (some i)),some (.string b),some (.map kt et)=>
    match s.H.get i,P.underlying kt,(P.info? et).bind fun i=>i.zero with
    |some ob,some .string,some z=>bif Nat.beq ob.sz 0&&zF z then some ((qdF ob.cells b).getD z,s) else none
    |_,_,_=>none
  |_,_,_=>none
def qdD:List Value→ByteArray→Value→List Value
  | .string a::v::l,k,x=>bif kz a k then .string k::x::l else .string a::v::qdD l k x
  |_,k,x=>[.string k,x]
def qiX (P : Program) (e : Tr Value) (s : Sx) (t : TypeId) (m x y : Operand) : Option (Value × Sx) :=
  match vB e m,vB e x,vB e y with
  |some (.map (some i)),some (.string b),some v=>
    match P.underlying t with
    |some (.map kt _)=>match s.H.get i,P.underlying kt with
      |some ob,some .string=>bif Nat.beq ob.sz 0&&zF v&&Nat.blt i vk then some (undef,⟨s.H.set i ⟨qdD ob.cells b v,ob.ty,ob.sz,ob.whole,ob.ex⟩,s.nx,s.rs⟩) else none
      |_,_=>none
    |_=>none
  |_,_,_=>none
def qcL (eq : Bool) (s : Sx) : Value → Value → Option (Value × Sx)
  | .agg xs, .agg ys=>match xs.toList,ys.toList with
    |[.int .i64 a, .int .i64 b],[.int .i64 c, .int .i64 d]=>some (.bool (bif eq then (a==c&&b==d) else !(a==c&&b==d)),s)
    |_,_=>none
  |_,_=>none
def qml:Value→Option Bool
  | .slice (some _) _ _=>some false
  | .slice none 0 0=>some true
  |_=>none
def qkz (P:Program) (t:TypeId):Bool:=match P.underlying t with|some (.slice _)=>true|_=>false
def qi2 (P : Program) (e : Tr Value) (s : Sx) (op : BinOp) (t : TypeId) (x : Operand) : Option (Value × Sx) :=
  match vB e x with
  |some v=>match qml v,op with
    |some b, .eql=>bif qkz P t then some (.bool b,s) else none
    |_,_=>none
  |none=>none
def yX:Operand→Bool
  | .const (.slice none 0 0)=>true
  |_=>false
def qiY (pr : TypeId → Bool) (e : Tr Value) (s : Sx) (op : BinOp) (t : TypeId) (x y : Operand) : Option (Value × Sx) :=
  match vB e x,vB e y with
  |some v,some u=>bif pr t then (match op with
    | .eql=>qcL true s v u
    | .neq=>qcL false s v u
    |_=>none) else none
  |_,_=>none
def qjb (P:Program) (pr:TypeId→Bool) (e:Tr Value) (s:Sx) (op:BinOp) (t u:TypeId) (x y:Operand):Option (Value×Sx):=
  bif yX y then (bif t==u then qi2 P e s op t x else none) else qiY pr e s op t x y
def qcl (P:Program) (pr:TypeId→Bool) (e:Tr Value) (s:Sx) (k:Option Nat):Op→Option (Value×Sx)
  | .box t x=>qja e s k t x
  | .alloc t=>qjd P s k t
  | .store t p x=>qiZ P e s t p x
  | .makeFunc fn fs cs=>qi7 e s fn fs.toList cs.toList
  | .build t ps=>qi9 P e s t ps.toList
  | .buildSlice t n ps=>qi6 P e s k t n ps.toList
  | .call c=>qi8 P e s k c.callee c.args.toList c.argTypes.toList
  | .makeSlice t x y=>qi4 P e s k t x y
  | .makeMap _ r=>qi3 s k (r.map fun _=>0)
  | .lookup t m x ok=>bif ok then none else qi5 P e s t m x
  | .mapUpdate t m x y=>qiX P e s t m x y
  | .binOp op t x y u=>qjb P pr e s op t u x y
  |_=>none
inductive Ou where
  |go (e:Tr Value) (s:Sx)
  |ex (i:Nat) (e:Tr Value) (s:Sx)
  |rt (e:Tr Value) (s:Sx)
  |pn (c:List PanicEntry) (s:Sx)
  |ret (v:Value) (s:Sx)
structure Fx where
  f:FuncId
  nt:Nat
  V:List Nat
  ir:IR
  rs:List RV
structure Fa where
  k:K1
  a:Value
  v:Value
inductive Tk where
  |ir (F:Fx) (a:IR) (e:Tr Value)
  |sts (l:List St) (e:Tr Value)
  |ord (L:Option (List Fa)) (bs:Option Nat) (t:OT) (e:Tr Value)
  |call (f:FuncId) (args:List Value)
def Qi:Code→List Nat
  | .region id _ true=>[id]
  | .seq a b=>Qi a++Qi b
  | .cond _ a b=>Qi a++Qi b
  | .block _ a=>Qi a
  | .loop a=>Qi a
  | .scope a=>Qi a
  |_=>[]
def qka (ops:Array Oper):Nat:=((List.range ops.size).find? fun n=>Region.sinkB .any ops n&&Region.chainB .any ops n).getD ops.size
def qGi (c:Code):Code:=match c with| .scope c=>c|c=>c
def fnX (P : Program) (f : FuncId) : Option Fx :=
  match P.funcs[f]? with
  |none=>none
  |some fn=>match fn.body with
    |none=>none
    |some c=>
      match kq (fun t=>Nat.blt t fn.ntmps) P fn.ntmps (Qi c) (qGi c),vc P (List.range fn.ntmps) fn.results.toList with
      |some ir,some rs=>bif Nat.ble fn.ntmps 1000000000 then some ⟨f,fn.ntmps,List.range fn.ntmps,ir,rs⟩ else none
      |_,_=>none
def xZ (H : vg) : OT → Tr Value → List Fa
  | .take g d ex t, e => match gdX e g with
    |some true=>match vL H e ex with
      |some v=>(match ex with
        | .op1 k x=>(match vL .lf e x with
          |some a=>(match x1 .lf k a with|some _=>[] |none=>[⟨k,a,v⟩])
          |none=>[])
        |_=>[])++(match qbj e d v with|some e'=>xZ H t e'|none=>[])
      |none=>[]
    |some false=>(match qbj e d undef with|some e'=>xZ H t e'|none=>[])
    |none=>[]
  |_,_=>[]
def zi : Nat → Value → Value → Bool
  |0,_,_=>false
  |n+1,a,b=>match a,b with
    | .bool a, .bool b=>a==b
    | .int k a, .int l b=>k==l&&a==b
    | .string a, .string b=>kz a b
    | .pointer none, .pointer none=>true
    | .pointer (some ⟨i,o,none⟩), .pointer (some ⟨j,p,none⟩)=>i==j&&o==p
    | .slice none n c, .slice none m d=>n==m&&c==d
    | .slice (some ⟨i,o,none⟩) n c, .slice (some ⟨j,p,none⟩) m d=>i==j&&o==p&&n==m&&c==d
    | .map (some i), .map (some j)=>i==j
    | .nilFunc, .nilFunc=>true
    | .nilIface, .nilIface=>true
    | .func (.func f) as bs, .func (.func g) cs ds=>f==g&&all2 (zi n) as.toList cs.toList&&all2 (zi n) bs.toList ds.toList
    | .agg as, .agg bs=>all2 (zi n) as.toList bs.toList
    | .tuple as, .tuple bs=>all2 (zi n) as.toList bs.toList
    | .iface t a, .iface u b=>t==u&&zi n a b
    |_,_=>false
where all2 (f:Value→Value→Bool):List Value→List Value→Bool
  |[],[]=>true
  |a::l,b::m=>f a b&&all2 f l m
  |_,_=>false
def QU (a b:Ob):Bool:=zi.all2 (zi 4) a.cells b.cells&&a.ty==b.ty&&a.sz==b.sz&&a.whole==b.whole&&a.ex==b.ex
def qdN:K1→K1→Bool
  | .load1, .load1=>true
  | .loadN n, .loadN m=>n==m
  | .b2s, .b2s=>true
  |_,_=>false
def qfV (H:vg) (L:List Fa):Bool:=L.all fun f=>match x1 H f.k f.a with|some u=>zi 4 u f.v|none=>false
def qeG:List Fa→K1→Value→Option Value
  |[],_,_=>none
  |f::l,k,a=>bif qdN f.k k&&zi 4 f.a a then some f.v else qeG l k a
def evF (L : List Fa) (e : Tr Value) : Ex → Option Value
  | .op1 k x=>match vL .lf e x with
    |some a=>(match x1 .lf k a with|some v=>some v|none=>qeG L k a)
    |none=>none
  |ex=>vL .lf e ex
def ql7 {α:Type} (f:α→α→Bool):Option α→Option α→Bool
  |none,none=>true
  |some a,some b=>f a b
  |_,_=>false
def Tr.noneB {α:Type}:Tr α→Bool
  | .lf=>true
  | .nd none l r=>l.noneB&&r.noneB
  | .nd (some _) _ _=>false
def Tr.eqB {α:Type} (f:α→α→Bool):Tr α→Tr α→Bool
  | .nd v l r, .nd u m q=>ql7 f v u&&l.eqB f m&&r.eqB f q
  | .lf,t=>t.noneB
  |t, .lf=>t.noneB
def qe1:OT→Bool
  | .both .. =>true
  | .take _ _ _ t=>qe1 t
  | .step _ _ t=>qe1 t
  | .done=>false
def Qf:OT→List Nat
  | .both x _=>Qf x
  | .take _ _ _ t=>Qf t
  | .step (.eff _ (some d) _ _) _ t=>d::Qf t
  | .step _ _ t=>Qf t
  | .done=>[]
def qgO (H:vg) (e:Tr Value):RV→Option Value
  | .tmp t=>e.get t
  | .cell1 t=>match e.get t with|some v=>x1 H .load1 v|none=>none
  | .cellN t n=>match e.get t with|some v=>x1 H (.loadN n) v|none=>none
def qda (H : vg) (e : Tr Value) : List RV → Option (List Value)
  |[]=>some []
  |r::rs=>match qgO H e r,qda H e rs with
    |some v,some vs=>some (v::vs)
    |_,_=>none
def Jk:List Value→Nat→Tr Value→Tr Value
  |[],_,e=>e
  |v::l,k,e=>Jk l (Nat.succ k) (e.set k v)
structure TrP where
  f:FuncId
  tp:TypeId
  tb:TypeId
  ti:TypeId
  tt:TypeId
  tx:TypeId
abbrev qaZ:=FuncId→List Value→Sx→Option (Value×Sx)
section
variable (P:Program) (prim:qaZ) (tr:Option TrP) (sk:FuncId→Nat→List Nat) (pr:TypeId→Bool)
variable (r:Sx→Tk→Option Ou) (s:Sx)
def qeJ (rs:List RV) (e:Tr Value) (s:Sx):Option Ou:=
  match qda s.H e rs with
  |some vs=>some (.ret (wB vs) s)
  |none=>none
def qg2 (F:Fx):Option Ou→Option Ou
  |some (.go e s)=>qeJ F.rs e s
  |some (.rt e s)=>qeJ F.rs e s
  |some (.pn c s)=>some (.pn c s)
  |_=>none
def qe2 (args:List Value):Option Fx→Option Ou
  |some F=>bif Nat.ble args.length F.nt&&Nat.blt args.length vk then qg2 F (r s (.ir F F.ir (Jk args 0 .lf))) else none
  |none=>none
def qt7 (q : TrP) (b iY : Nat) (at0 : Int) (n : Nat) (s : Sx) : Option Ou :=
  match s.H.get b with
  |some ob=>match ob.cells with
    |[tv, .int .i64 i, .int .i64 far, .slice a m c]=>match qa8 6 (.slice a m c) 0 n with
      |some nv2=>bif decide (0≤i)&&decide (0≤far)&&Nat.ble n m&&Nat.blt b vk&&Nat.blt iY vk&&QU ob ⟨[tv, .int .i64 i, .int .i64 far, .slice a m c],q.tt,1,true,false⟩ then
          some (.ret (.bool false) ⟨(s.H.set b ⟨[tv, .int .i64 at0, .int .i64 far,nv2],q.tt,1,true,false⟩).del iY,s.nx,s.rs⟩) else none
      |none=>none
    |_=>none
  |none=>none
def QZ (s:Sx) (i:Nat) (o:Ob):Bool:=match s.H.get i with|some p=>QU p o|none=>false
def chainB (q:TrP):List PanicEntry→Bool
  |[p]=>(match p.v with| .iface t (.agg cs)=>t==q.tx&&cs.isEmpty|_=>false)&& !p.recovered&& !p.goexit
  |_=>false
def qu3 (q : TrP) (b iA iY iN iM : Nat) (at0 : Int) (n : Nat) : Option Ou → Option Ou
  |some (.ret v s)=>bif QZ s iY ⟨[.bool false],q.tb,1,true,false⟩&&Nat.blt iY vk&&(match v with| .tuple cs=>cs.isEmpty|_=>false) then some (.ret (.bool true) ⟨s.H.del iY,s.nx,s.rs⟩) else none
  |some (.pn c s)=>
    bif chainB q c&&QZ s iA ⟨[.pointer (some ⟨b,0,none⟩)],q.tp,1,true,false⟩&&QZ s iY ⟨[.bool false],q.tb,1,true,false⟩&&QZ s iN ⟨[.int .i64 at0],q.ti,1,true,false⟩&&QZ s iM ⟨[.int .i64 n],q.ti,1,true,false⟩&& !(Nat.beq b iY) then
      qt7 q b iY at0 n s else none
  |_=>none
def qfs (q : TrP) (b g : Nat) (cs : List Value) (at0 : Int) (n : Nat) : Option Ou :=
  match xe s none ⟨[.pointer (some ⟨b,0,none⟩)],q.tp,1,true,false⟩ with
  |none=>none
  |some (iA,s1)=>match xe s1 none ⟨[.bool false],q.tb,1,true,false⟩ with
    |none=>none
    |some (iY,s2)=>match xe s2 none ⟨[.int .i64 at0],q.ti,1,true,false⟩ with
      |none=>none
      |some (iN,s3)=>match xe s3 none ⟨[.int .i64 n],q.ti,1,true,false⟩ with
        |none=>none
        |some (iM,s4)=>qu3 q b iA iY iN iM at0 n (r s4 (.call g cs))
def qjY (P:Program) (q:TrP) (b:Nat) (ob:Ob) (g:FuncId) (fs cs:Array Value):Option Ou:=
  match ob.cells with
  |[tv, .int .i64 at0, .int .i64 far, .slice a n c]=>bif fs.isEmpty&&decide (0≤at0)&&decide (0≤far)&&qf P g&&QU ob ⟨[tv, .int .i64 at0, .int .i64 far, .slice a n c],q.tt,1,true,false⟩ then qfs r s q b g cs.toList at0 n else none
  |_=>none
def qfq (q : TrP) : List Value → Option Ou
  |[.pointer (some ⟨b,0,none⟩), .func (.func g) fs cs]=>match s.H.get b with
    |some ob=>qjY r s P q b ob g fs cs
    |none=>none
  |_=>none
def qjq (f : FuncId) (args : List Value) : Option Ou :=
  match prim f args s with
  |some (v,s')=>some (.ret v s')
  |none=>match tr with
    |some q=>bif Nat.beq q.f f then qfq P r s q args else qe2 r s args (fnX P f)
    |none=>qe2 r s args (fnX P f)
def qaR (l:List St) (d:Option Nat) (e:Tr Value) (v:Value) (s:Sx):Option Ou:=
  match qlF e d v with|some e'=>r s (.sts l e')|none=>none
def qt8 (l:List St) (d:Option Nat) (e:Tr Value):Option Ou→Option Ou
  |some (.ret v s)=>qaR r l d e v s
  |some (.pn c s)=>some (.pn c s)
  |_=>none
def qfM (l:List St) (d:Option Nat) (e:Tr Value):Option Value→Option (List Value)→Option Ou
  |some (.func (.func f) fs cs),some vs=>bif qf P f then qt8 r l d e (r s (.call f (fs.toList++(vs++cs.toList)))) else none
  |_,_=>none
def qkw:Option Value→Option Ou
  |some v=>match v with| .iface .. =>bif qaS v then some (.pn [{v:=v,recovered:=false}] s) else none|_=>none
  |none=>none
def qeR (l:List St) (d:Option Nat) (e:Tr Value):Option (Value×Sx)→Option Ou
  |some (v,s)=>qaR r l d e v s
  |none=>none
def qfL (k : Option Nat) (l : List St) (d : Option Nat) (e : Tr Value) : Op → Option Ou
  | .panic x=>qkw s (vB e x)
  | .call c=>match c.callee with
    | .value f=>qfM P r s l d e (vB e f) (yU e c.args.toList)
    |_=>qeR r l d e (qcl P pr e s k (.call c))
  |op=>qeR r l d e (qcl P pr e s k op)
def qfN (l:List St) (d:Nat) (e:Tr Value):Option Value→Option Ou
  |some v=>qaR r l (some d) e v s
  |none=>none
def qa9 (k : Option Nat) (e : Tr Value) : List St → Option Ou
  |[]=>some (.go e s)
  | .asg g d x::l=>match gdX e g with
    |some true=>qfN r s l d e (vL s.H e x)
    |some false=>qfN r s l d e (some undef)
    |none=>none
  | .eff g d op _::l=>match gdX e g with
    |some true=>qfL P pr r s k l d e op
    |some false=>qaR r l d e undef s
    |none=>none
def qdr (L:Option (List Fa)) (bs:Option Nat) (t:OT) (e:Tr Value) (d:Nat):Option Value→Option Ou
  |some v=>match qbj e d v with|some e'=>r s (.ord L bs t e')|none=>none
  |none=>none
def ql5 (L : Option (List Fa)) (bs : Option Nat) (t : OT) (b : Bool) : Option Ou → Option Ou
  |some (.go e' s')=>
    bif b then (match L with
      |some l=>bif qfV s'.H l then r s' (.ord L bs t e') else none
      |none=>none)
    else r s' (.ord none bs t e')
  |some (.pn c s')=>some (.pn c s')
  |_=>none
def qtV:Option Ou→Option Ou→Option Ou
  |some (.go e1 s1),some (.go e2 s2)=>bif e1.eqB (zi 4) e2&&s1.H.eqB QU s2.H&&Nat.beq s1.nx s2.nx&&s1.rs==s2.rs then some (.go e1 s1) else none
  |_,_=>none
def qmg (bs:Option Nat):St→Option Nat
  | .eff _ (some d) _ _=>bs.map (· +d)
  |_=>none
def qgH (L : Option (List Fa)) (bs : Option Nat) (e : Tr Value) : OT → Option Ou
  | .done=>some (.go e s)
  | .take g d x t=>match L with
    |none=>none
    |some l=>match gdX e g with
      |some true=>qdr r s L bs t e d (evF l e x)
      |some false=>qdr r s L bs t e d (some undef)
      |none=>none
  | .step x b t=>ql5 r L bs t b (qa9 P pr r s (qmg bs x) e [x])
  | .both x y=>qtV (r s (.ord L bs x e)) (r s (.ord L bs y e))
def qgi (F:Fx) (e:Tr Value):Option OT→Option Ou
  |some t=>bif qe1 t&&(Qf t).all (fun d=>Nat.blt d F.nt) then r ⟨s.H,s.nx+F.nt,s.rs++(Qf t).map (s.nx+ ·)⟩ (.ord (some (xZ s.H t e)) (some s.nx) t e)
      else r s (.ord (some (xZ s.H t e)) none t e)
  |none=>none
def qfS (F:Fx) (b:IR):Option Ou→Option Ou
  |some (.go e' s')=>r s' (.ir F b e')
  |o=>o
def qGm (i:Nat):Option Ou→Option Ou
  |some (.ex j e' s')=>bif Nat.beq j i then some (.go e' s') else some (.ex j e' s')
  |o=>o
def qtG (F:Fx) (e:Tr Value) (a b:IR):Option Value→Option Ou
  |some (.bool c)=>bif c then r s (.ir F a e) else r s (.ir F b e)
  |_=>none
def irX (F : Fx) (e : Tr Value) : IR → Option Ou
  | .skip=>some (.go e s)
  | .reg l=>r s (.sts l e)
  | .drw _=>none
  | .seq a b=>qfS r F b (r s (.ir F a e))
  | .cond c a b=>qtG r s F e a b (vL s.H e c)
  | .block i a=>qGm i (r s (.ir F a e))
  | .loop a=>qfS r F (.loop a) (r s (.ir F a e))
  | .exit i=>some (.ex i e s)
  | .ret=>some (.rt e s)
  | .raw c=>match c with
    | .label _=>some (.go e s)
    | .region id ops true=>qgi r s F e (qdq P F.nt F.V (sk F.f id) (qka ops) (.region id ops true))
    |_=>none
def qkr:Tk→Option Ou
  | .ir F a e=>irX P sk r s F e a
  | .sts l e=>qa9 P pr r s none e l
  | .ord L bs t e=>qgH P pr r s L bs e t
  | .call f args=>qjq P prim tr r s f args
end
def kC (P:Program) (prim:qaZ) (tr:Option TrP) (sk:FuncId→Nat→List Nat) (pr:TypeId→Bool):Nat→Sx→Tk→Option Ou
  |0,_,_=>none
  |n+1,s,t=>qkr P prim tr sk pr (kC P prim tr sk pr n) s t
end All
end Go.Eng
namespace Go.Eng
open Go.RowKit
theorem ji {α:Type} {b:Bool} {x:Option α} {v:α} (h:(bif b then x else none)=some v):b=true∧x=some v:=by
  cases b
  · cases h
  · exact ⟨rfl,h⟩
theorem kI {n:Nat} (h:Nat.blt n vk=true):n<vk:=by simpa [Nat.blt_eq] using h
section
variable {σ:Sg} {e:Tr Value} {ρ:qa}
theorem qFz {v u:Value} (h:qtE v=some u):VR σ u v:=by
  obtain ⟨a,b⟩:=ji h;cases b;exact wP a
theorem vR (a:ER σ e ρ) {x:Operand} {v:Value} (h:vB e x=some v):VR σ v (qd ρ x):=by
  unfold vB at h;split at h
  · exact a _ _ h
  · cases x with
    |tmp t=>rename_i b;exact absurd rfl (b t)
    |_=>exact qFz h
theorem qgK (b:ER σ e ρ):∀{l:List Operand} {vs:List Value},yU e l=some vs→qn σ vs (l.map (qd ρ))
  |[],vs,h=>by cases h;trivial
  | x :: l, vs, h => by
    unfold yU at h;split at h
    · rename_i v j c a;cases h;exact ⟨vR b c,qgK b a⟩
    · cases h
theorem qc0 (l:ER σ e ρ) {d:Nat} {v c:Value} (n:VR σ v c) {j:Tr Value} (h:qbj e d v=some j):ER σ j (qu ρ d c):=by
  obtain ⟨m,p⟩:=ji h;cases p;intro i u a;rw [Tr.get_set _ _ (kI m)] at a;unfold qu;split at a
  · rename_i b;cases a;rw [if_pos b];exact n
  · rename_i b;rw [if_neg b];exact l i u a
theorem qyb (b:ER σ e ρ) {d:Option Nat} {v a:Value} (j:VR σ v a) {c:Tr Value} (h:qlF e d v=some c):ER σ c (qm ρ d a):=by
  cases d with
  |none=>cases h;exact b
  |some d=>exact qc0 b j h
theorem ER.mono {a:Sg} (b:ER σ e ρ) (c:σ.le a):ER a e ρ:=fun i v h=>(b i v h).mono c
theorem qaL (j:ER σ e ρ) {g:Option (Nat×Bool)} {b:Bool} (h:gdX e g=some b):gd ρ g=b:=by
  cases g with
  |none=>cases h;rfl
  |some p=>
    obtain ⟨t,l⟩:=p;simp only [gdX] at h;split at h
    · rename_i m a;cases h;have:=j _ _ a;generalize c:ρ t=r at this;cases this;simp [gd,c]
    · rename_i cs a;cases h;have:=j _ _ a;generalize c:ρ t=r at this;cases this with
      |pln h=>cases h
      |tup _ _=>simp [gd,c]
    · cases h
theorem qah:VR σ undef undef:=wP (v:=undef) rfl
theorem qaT {v c:Value} (h:VR σ v c):qn σ v.cells.toList c.cells.toList:=by
  cases h with
  |pln h=>
    have:v.cells= #[v]:=by
      unfold zF at h;split at h<;>first|rfl|cases h
    rw [this];exact ⟨.pln h,trivial⟩
  |ptr h=>exact ⟨.ptr h,trivial⟩
  |slc h n=>exact ⟨.slc h n,trivial⟩
  |mp h=>exact ⟨.mp h,trivial⟩
  |fnc a b l m=>exact ⟨.fnc a b l m,trivial⟩
  |ifc h=>exact ⟨.ifc h,trivial⟩
  | @agg cs ds a b=>
    show qn σ cs.toList ds.toList;exact qn.of (by simpa using a) fun j x y p t=>b j x y (by simpa using p) (by simpa using t)
  |tup a b=>exact ⟨.tup a b,trivial⟩
theorem qjl {v a:Value} (h:VR σ v a):a.cells.size=v.cells.size:=by
  have:=(qaT h).len;simpa using this.symm
theorem qzn {v b:Value} (h:VR σ v b) (a:wI v=true):b.oneCell=true:=by
  cases h with
  |pln h=>
    unfold zF at h;split at h<;>first|rfl|cases h
  |agg _ _=>cases a
  |tup _ _=>cases a
  |_=>rfl
theorem qgN:∀{l m:List Value},qn σ l m→l.all wI=true→∀v∈m,v.oneCell=true
  |[],[],_,_,v,c=>by simp at c
  |a::l,b::m,h,j,v,c=>by
    simp only [List.all_cons,Bool.and_eq_true] at j;rcases List.mem_cons.1 c with rfl|c
    · exact qzn h.1 j.1
    · exact qgN h.2 j.2 v c
theorem QO:∀{l:List Value},l.all zF=true→qn σ l l
  |[],_=>trivial
  |a::l,h=>by
    simp only [List.all_cons,Bool.and_eq_true] at h;exact ⟨.pln h.1,QO h.2⟩
end
structure Iv (σ:Sg) (w0:World) (s:Sx) (w:World):Prop where
  mr:MR σ s.H w
  dom:∀i p,σ i=some p→i<s.nx∧i∉s.rs
  res:∀i∈s.rs,i<s.nx
  ap:∀i j oi oj pi pj,s.H.get i=some oi→s.H.get j=some oj→σ i=some pi→σ j=some pj→pi.1=pj.1→i=j
  ext:qb w0 w
  own:∀i o p,s.H.get i=some o→σ i=some p→w0.heap.size≤p.1
section
variable {σ:Sg} {w0 w:World} {s:Sx}
theorem Iv.toExt (h:Iv σ w0 s w) {w':World} (a:qb w w'):Iv σ w0 s w':=⟨h.mr.ext a,h.dom,h.res,h.ap,h.ext.trans' a,h.own⟩
theorem MR.at' {H:vg} (h:MR σ H w) {i:Nat} {o:Ob} (a:H.get i=some o):∃p,σ i=some p∧p.1<w.heap.size:=by
  by_cases c:o.sz=0
  · obtain ⟨b,ps,l,m,_⟩:=(h i o a).1 c;exact ⟨_,l,m.lt⟩
  · obtain ⟨b,f,x,cur,j⟩:=(h i o a).2 c;exact ⟨_,j.at',j.lt⟩
theorem MR.keep {H H':vg} (h:MR σ H w) {w':World} (j:∀i o,H'.get i=some o→H.get i=some o) (l:∀i o p,H'.get i=some o→σ i=some p→w'.heap[p.1]? =w.heap[p.1]?):MR σ H' w':=fun i o a=>by
  refine ⟨fun c=> ?_,fun c=> ?_⟩
  · obtain ⟨b,ps,m,u,t⟩:=(h i o (j i o a)).1 c;exact ⟨b,ps,m,u.block (l i o _ a m),t⟩
  · obtain ⟨b,f,x,cur,n⟩:=(h i o (j i o a)).2 c;exact ⟨b,f,x,cur,n.keep (l i o _ a n.at')⟩
theorem qgT (y : Iv σ w0 s w) {k : Option Nat} {o : Ob} {i : Nat} {s' : Sx} (h : xe s k o = some (i, s')) {b f x : Nat} {W : World} (hW : MR σ s.H W) (hE : qb w0 W) (X : w0.heap.size ≤ b)
    (S:∀j t B,s.H.get j=some t→σ j=some B→B.1≠b) (ho:∀n,σ.le n→n i=some (b,f,x)→(o.sz=0→MO n W i o)∧(o.sz≠0→∃cur,RO n W i o b f x cur)):
    ∃n,σ.le n∧n i=some (b,f,x)∧Iv n w0 s' W∧s'.H=s.H.set i o∧i<vk∧∀j p,n j=some p→j≠i→σ j=some p:=by
  have key:i<vk∧s'.H=s.H.set i o∧σ i=none∧i<s'.nx∧i∉s'.rs∧s.nx≤s'.nx∧(∀j∈s'.rs,j∈s.rs):=by
    unfold xe at h;split at h
    · obtain ⟨O,h2⟩:=ji h;cases h2;refine ⟨kI O,rfl, ?_,Nat.lt_succ_self _,fun J=> ?_,Nat.le_succ _,fun j c=>c⟩
      · cases Y:σ s.nx with
        |none=>rfl
        |some p=>exact absurd (y.dom _ _ Y).1 (Nat.lt_irrefl _)
      · exact absurd (y.res _ J) (Nat.lt_irrefl _)
    · rename_i k;obtain ⟨O,h2⟩:=ji h;cases h2;simp only [Bool.and_eq_true] at O;have J:i∈s.rs:=by simpa using O.1
      refine ⟨kI O.2,rfl, ?_,y.res _ J,by simp,Nat.le_refl _,fun j c=>(List.mem_filter.1 c).1⟩;cases Y:σ i with
      |none=>rfl
      |some p=>exact absurd J (y.dom _ _ Y).2
  obtain ⟨k1,k2,k3,k4,k5,k6,k7⟩:=key;have A:σ.le (fun j=>if j=i then some (b,f,x) else σ j):=fun j p u=>by
    have:j≠i:=fun e=>by rw [e,k3] at u;cases u
    simp [this,u]
  have I:∀j,s'.H.get j=if j=i then some o else s.H.get j:=fun j=>by rw [k2,Tr.get_set _ _ k1]
  refine ⟨_,A,by simp,⟨?_, ?_,fun j c=>Nat.lt_of_lt_of_le (y.res j (k7 j c)) k6, ?_,hE, ?_⟩,k2,k1,fun j p u Z=>by simpa [Z] using u⟩
  · intro j t c;rw [I] at c;split at c
    · rename_i e;cases c;subst e;obtain ⟨a1,a2⟩:=ho _ A (by simp);exact ⟨a1,fun hz=>let ⟨cur,hc⟩:=a2 hz;⟨b,f,x,cur,hc⟩⟩
    · exact (hW.mono A) j t c
  · intro j p u;split at u
    · rename_i e;subst e;exact ⟨k4,k5⟩
    · have:=y.dom j p u;exact ⟨Nat.lt_of_lt_of_le this.1 k6,fun J=>this.2 (k7 j J)⟩
  · intro j l t ol B pl c R a m he;rw [I] at c R;split at c
    · rename_i z;rw [if_pos z] at a;cases a;split at R
      · rename_i E;rw [z,E]
      · rename_i E;rw [if_neg E] at m;exact absurd he.symm (S l ol pl R m)
    · rename_i z;rw [if_neg z] at a;split at R
      · rename_i E;rw [if_pos E] at m;cases m;exact absurd he (S j t B c a)
      · rename_i E;rw [if_neg E] at m;exact y.ap j l t ol B pl c R a m he
  · intro j t B c a;rw [I] at c;split at c
    · rename_i z;rw [if_pos z] at a;cases a;exact X
    · rename_i z;rw [if_neg z] at a;exact y.own j t B c a
theorem qdy (z:Iv σ w0 s w) {k:Option Nat} {o:Ob} {i:Nat} {s':Sx} (h:xe s k o=some (i,s')) {b f x:Nat} {W:World} (y:MR σ s.H W) (A:qb w0 W) (c:w0.heap.size≤b)
    (l:∀j t m,s.H.get j=some t→σ j=some m→m.1≠b) (p:∀a,σ.le a→a i=some (b,f,x)→(o.sz=0→MO a W i o)∧(o.sz≠0→∃cur,RO a W i o b f x cur)):
    ∃a,σ.le a∧a i=some (b,f,x)∧Iv a w0 s' W:=by
  obtain ⟨a,u,B,n,_⟩:=qgT z h y A c l p;exact ⟨a,u,B,n⟩
theorem qdh (u:Iv σ w0 s w) {cs cs':List Value} {t:TypeId} {i:Nat} {s':Sx} (h:xe s none ⟨cs,t,1,true,false⟩=some (i,s')) {b:Nat} (l:w0.heap.size≤b) (n:∀j I z,s.H.get j=some I→σ j=some z→z.1≠b) (J:Blk w b cs'.toArray t) (c:qn σ cs cs'):
    ∃a,σ.le a∧a i=some (b,0,0)∧Iv a w0 s' w∧∀j o p,s'.H.get j=some o→a j=some p→p.1=b∨(s.H.get j=some o∧σ j=some p):=by
  obtain ⟨a,O,A,B,E,R,Z⟩:=qgT u h (b:=b) (f:=0) (x:=0) u.mr u.ext l n fun a W Y=>⟨(fun X=>by cases X),fun _=>⟨cs'.toArray,Y,J.heap,by
    simp only [List.drop_zero];rw [List.take_of_length_le (by rw [c.len];exact Nat.le_refl _)];exact c.mono W,by simp [c.len],fun _=>⟨rfl,rfl,by simp [c.len]⟩,(fun S=>by cases S),(fun hx=>by cases hx)⟩⟩
  refine ⟨a,O,A,B,fun j o p y m=> ?_⟩;rw [E,Tr.get_set _ _ R] at y;split at y
  · rename_i e;subst e;rw [A] at m;cases m;exact .inl rfl
  · rename_i e;exact .inr ⟨y,Z j p m e⟩
theorem qcs (l:Iv σ w0 s w) {i:Nat} {ob:Ob} (h:s.H.get i=some ob) (j:ob.whole=true) (m:ob.sz≠0):∃b cs',σ i=some (b,0,0)∧qn σ ob.cells cs'∧Blk w b cs'.toArray ob.ty:=by
  obtain ⟨b,f,x,cur,a⟩:=(l.mr i ob h).2 m;obtain ⟨rfl,rfl,c⟩:=a.whole j;refine ⟨b,cur.toList,a.at', ?_,⟨by simpa using a.heap⟩⟩;have:=a.cs;simp only [List.drop_zero] at this
  rwa [List.take_of_length_le (by simp [c])] at this
theorem qtz (c:Iv σ w0 s w) {i:Nat} {ob:Ob} (y:s.H.get i=some ob) (n:i<vk) {b f x:Nat} (m:σ i=some (b,f,x)) {W:World} (u:Only b w W):Iv σ w0 ⟨s.H.del i,s.nx,s.rs⟩ W:=by
  have h:∀j o,(s.H.del i).get j=some o→j≠i∧s.H.get j=some o:=fun j o a=>by
    rw [Tr.get_del _ n] at a;split at a
    · cases a
    · rename_i e;exact ⟨e,a⟩
  exact ⟨c.mr.keep (fun j o a=>(h j o a).2) fun j o p a z=>u.block _ fun e=>(h j o a).1 (c.ap j i o ob p _ (h j o a).2 y z m e),c.dom,c.res,fun j l t ol B pl a A=>c.ap j l t ol B pl (h j t a).2 (h l ol A).2,u.ext c.ext (c.own i ob _ y m),fun j o p a=>c.own j o p (h j o a).2⟩
theorem qfb (c:Iv σ w0 s w) {k:Option Nat} {cs cs':List Value} {t:TypeId} {sz:Nat} {x:Bool} {i:Nat} {s':Sx} (h:xe s k ⟨cs,t,sz,x,false⟩=some (i,s')) (m:qn σ cs cs') (u:sz≠0) {W:World} (y:qb w W) {b:Nat} (O:w.heap.size≤b) (z:Blk W b cs'.toArray t) (S:x=false→∃n,cs.length=n*sz∧n≤maxLen):
    ∃l,σ.le l∧l i=some (b,0,0)∧Iv l w0 s' W:=by
  refine qdy c h (c.mr.ext y) (c.ext.trans' y) (Nat.le_trans c.ext.size O) (fun j oj pj Z B he=> ?_) fun l I R=>⟨fun J=>absurd J u,fun _=>⟨cs'.toArray,R,z.heap, ?_, ?_,fun _=>⟨rfl,rfl, ?_⟩,fun E=> ?_,(fun h=>by cases h)⟩⟩
  · obtain ⟨p,a,X⟩:=c.mr.at' Z;rw [B] at a;cases a;omega
  · simp only [List.drop_zero];have:(cs'.take cs.length)=cs':=List.take_of_length_le (by rw [m.len];exact Nat.le_refl _);rw [this];exact m.mono I
  · simp [m.len]
  · simp [m.len]
  · obtain ⟨n,A,Y⟩:=S E;exact ⟨n,A,by simpa using Y⟩
theorem qjm (h : Iv σ w0 s w) {i : Nat} {ob : Ob} (S : s.H.get i = some ob) {a : Ob} (I : i < vk) {b f x : Nat} (z : σ i = some (b, f, x)) {W : World} (hO : Only b w W) (Z : (a.sz = 0 → MO σ W i a) ∧ (a.sz ≠ 0 → ∃ cur, RO σ W i a b f x cur)) :
    Iv σ w0 ⟨s.H.set i a,s.nx,s.rs⟩ W:=by
  have E:∀j,(s.H.set i a).get j=if j=i then some a else s.H.get j:=fun j=>Tr.get_set _ _ I j
  have t:∀j o,(s.H.set i a).get j=some o→∃o',s.H.get j=some o':=fun j o m=>by
    rw [E] at m;split at m
    · rename_i e;rw [e];exact ⟨_,S⟩
    · exact ⟨_,m⟩
  refine ⟨fun j n m=> ?_,h.dom,h.res,fun j l n ol X pl m hl u R J=> ?_,hO.ext h.ext (h.own i ob _ S z),fun j n X m u=> ?_⟩
  · have c:=m;dsimp only at c;rw [E] at c;split at c
    · rename_i e;cases c;subst e;exact ⟨Z.1,fun B=>let ⟨cur,hc⟩:=Z.2 B;⟨b,f,x,cur,hc⟩⟩
    · rename_i e;have A:∀p,σ j=some p→W.heap[p.1]? =w.heap[p.1]? :=fun p hp=>hO.block _ fun J=>e (h.ap j i n ob p _ c S hp z J);refine ⟨fun B=> ?_,fun B=> ?_⟩
      · obtain ⟨O,ps,y,Y,h3⟩:=(h.mr j n c).1 B;exact ⟨O,ps,y,Y.block (A _ y),h3⟩
      · obtain ⟨O,f1,x1,cur,hr⟩:=(h.mr j n c).2 B;exact ⟨O,f1,x1,cur,hr.keep (A _ hr.at')⟩
  · obtain ⟨o1,y⟩:=t j n m;obtain ⟨o2,Y⟩:=t l ol hl;exact h.ap j l o1 o2 X pl y Y u R J
  · obtain ⟨o1,y⟩:=t j n m;exact h.own j o1 X y u
end
end Go.Eng
namespace Go.Eng
open Go.RowKit
theorem quI {α:Type} {C vs:List α} {f m o:Nat} (h:o+vs.length≤m) (c:f+m≤C.length):
    ((C.take (f+o)++vs++C.drop (f+o+vs.length)).drop f).take m=((C.drop f).take m).take o++vs++((C.drop f).take m).drop (o+vs.length):=by
  obtain ⟨A,D,rfl,rfl⟩:∃A D,C=A++D∧A.length=f:=⟨C.take f,C.drop f,by simp,by rw [List.length_take];omega⟩;have j:m≤D.length:=by rw [List.length_append] at c;omega
  have b:(A++D).take (A.length+o)=A++D.take o:=by rw [List.take_append,List.take_of_length_le (by omega),Nat.add_sub_cancel_left]
  have a:(A++D).drop (A.length+o+vs.length)=D.drop (o+vs.length):=by
    rw [List.drop_append,List.drop_eq_nil_of_le (by omega),List.nil_append,show A.length+o+vs.length - A.length=o+vs.length by omega]
  have l1:(D.take o).length=o:=by rw [List.length_take];omega
  rw [b,a,List.drop_left,List.append_assoc,List.append_assoc,List.drop_left,List.take_append,List.take_of_length_le (l:=D.take o) (by omega),l1,List.take_append,List.take_of_length_le (l:=vs) (by omega),
    List.take_take,Nat.min_eq_left (by omega),List.append_assoc,List.drop_take,Nat.sub_sub]
section
variable {P:Program} {Q:Ks} {K:qa→World→Prop} {ρ:qa} {w w0:World} {σ:Sg} {e:Tr Value} {s s':Sx} {k:Option Nat} {d:Option Nat} {ty:TypeId} {v:Value}
def Kn (σ:Sg) (w0:World) (s':Sx) (v:Value) (d:Option Nat) (K:qa→World→Prop) (ρ:qa):Prop:=∀τ v' W,σ.le τ→Iv τ w0 s' W→VR τ v v'→K (qm ρ d v') W
theorem qlH {p:Option (Nat×Sx)} (h:qdi p=some (v,s')):∃i,p=some (i,s')∧v= .pointer (some ⟨i,0,none⟩):=by
  unfold qdi at h;split at h
  · cases h;exact ⟨_,rfl,rfl⟩
  · cases h
theorem qf8 {n:Nat} {p:Option (Nat×Sx)} (h:qbr n p=some (v,s')):∃i,p=some (i,s')∧v= .slice (some ⟨i,0,none⟩) n n:=by
  unfold qbr at h;split at h
  · cases h;exact ⟨_,rfl,rfl⟩
  · cases h
theorem yS {a:Sg} {i b:Nat} (h:a i=some (b,0,0)):VR a (.pointer (some ⟨i,0,none⟩)) (.pointer (some ⟨b,0,none⟩)):= .ptr (o:=0) h
theorem qkA {a:Sg} {i b n:Nat} (h:a i=some (b,0,0)):VR a (.slice (some ⟨i,0,none⟩) n n) (.slice (some ⟨b,0,none⟩) n n):= .slc (o:=0) h (Nat.le_refl _)
theorem qGh (A:Iv σ w0 s w) (m:ER σ e ρ) {t:TypeId} {x:Operand} (h:qja e s k t x=some (v,s')) (b:Kn σ w0 s' v d K ρ):qr P Q d (.box t x) ty K ρ w:=by
  unfold qja at h;split at h
  · rename_i u n;obtain ⟨i,j,rfl⟩:=qlH h;refine vv fun B W c E y _=> ?_;obtain ⟨l,p,z,a⟩:=qfb A j (qaT (vR m n)) (by decide) E c (by simpa using y) (by simp);exact b l _ W p a (yS z)
  · cases h
theorem qzz (y:Iv σ w0 s w) {t:TypeId} (h:qjd P s k t=some (v,s')) (b:Kn σ w0 s' v d K ρ):qr P Q d (.alloc t) ty K ρ w:=by
  unfold qjd at h;split at h
  · rename_i z p;obtain ⟨m,h⟩:=ji h;obtain ⟨i,j,rfl⟩:=qlH h;refine qR p fun B W c A u _=> ?_;obtain ⟨l,n,x,a⟩:=qfb y j (QO m) (by decide) A c (by simpa using u) (by simp);exact b l _ W n a (yS x)
  · cases h
theorem qvN (J:Iv σ w0 s w) {i o b f x:Nat} {vs a:List Value} (O:qn σ vs a) (Y:∀u∈a,u.oneCell=true) (n:σ i=some (b,f,x)) (h:qfI s i o vs=some (v,s')) {K:World→Prop} (S:v=undef→∀W,Iv σ w0 s' W→K W):wc ⟨b,f+o,none⟩ a 0 K w:=by
  unfold qfI at h;split at h
  · rename_i ob t;obtain ⟨I,h⟩:=ji h;cases h;simp only [Bool.and_eq_true,Nat.ble_eq,Bool.not_eq_true',Nat.add_eq] at I;obtain ⟨⟨h2,R⟩,B⟩:=I;have E:ob.sz≠0:=fun e=>by rw [e] at B;cases B
    obtain ⟨b1,f1,x1,cur,j⟩:=(J.mr i ob t).2 E;have p:=j.at';rw [n] at p;cases p;have y:=O.len;have z:=j.room;refine qfH _ _ _ ?_;refine qcS _ _ w cur ⟨j.heap⟩ (by omega) Y fun W Z X=>S rfl W ?_;have l:(cur.toList.take (f+o)++a++cur.toList.drop (f+o+a.length)).toArray.size=cur.size:=by simp;omega
    have c:(qgt ob.cells o vs).length=ob.cells.length:=by simp [qgt];omega
    refine qjm J t (kI R) n Z ⟨fun e=>absurd e E,fun _=>⟨_,n,X.heap, ?_, ?_,fun A=> ?_, ?_,fun hx=> ?_⟩⟩
    · rw [c];have:=quI (C:=cur.toList) (vs:=a) (f:=f) (m:=ob.cells.length) (o:=o) (by omega) (by simp;omega);simp only [Nat.add_zero];rw [this];rw [←y];exact ((j.cs.take o).app O).app (j.cs.drop _)
    · simp only [Nat.add_zero];rw [l,c];exact j.room
    · simp only [Nat.add_zero];rw [l];rw [c];exact j.whole A
    · intro A;rw [c];exact j.most A
    · simp only [Nat.add_zero];rw [l,c];exact j.exact hx
  · cases h
theorem qvM (B:Iv σ w0 s w) (m:ER σ e ρ) {t:TypeId} {p x:Operand} (h:qiZ P e s t p x=some (v,s')) (n:Kn σ w0 s' v d K ρ):qr P Q d (.store t p x) ty K ρ w:=by
  unfold qiZ at h;split at h
  · rename_i i o u z A;obtain ⟨l,h⟩:=ji h;simp only [Bool.and_eq_true] at l;have b:=vR m z;have a:=vR m A;show jA P t (qd ρ x).cells.size=true∧yR (qd ρ p) _;rw [qjl a];refine ⟨l.1, ?_⟩;generalize qd ρ p=q at b;cases b with
    |pln y=>cases y
    |ptr c=>exact qvN B (qaT a) (qgN (qaT a) l.2) c h fun E W j=>by subst E;exact n σ _ W (Sg.le_refl σ) j qah
  · cases h
theorem ql8 (a:ER σ e ρ) {l:Array Operand} {vs:List Value} (h:yU e l.toList=some vs):vs.toArray.size=(l.map (qd ρ)).size∧∀(i:Nat) (x y:Value),vs.toArray[i]? =some x→(l.map (qd ρ))[i]? =some y→VR σ x y:=
  qn.arr (by simpa using qgK a h)
theorem qEK (t:Iv σ w0 s w) (c:ER σ e ρ) {fn:Fn} {fs cs:Array Operand} (h:qi7 e s fn fs.toList cs.toList=some (v,s')) (n:Kn σ w0 s' v d K ρ):qr P Q d (.makeFunc fn fs cs) ty K ρ w:=by
  unfold qi7 at h;split at h
  · rename_i a b x l;cases h;obtain ⟨p,u⟩:=ql8 c x;obtain ⟨j,m⟩:=ql8 c l;exact n σ _ w (Sg.le_refl σ) t (.fnc p u j m)
  · cases h
def PRs (σ:Sg):List (Nat×Value)→List (Nat×Value)→Prop
  |[],[]=>True
  |a::l,b::m=>(a.1=b.1∧VR σ a.2 b.2)∧PRs σ l m
  |_,_=>False
theorem qgy (b:ER σ e ρ):∀{l:List (Nat×Operand)} {vs:List (Nat×Value)},qbL e l=some vs→PRs σ vs (l.map fun p=>(p.1,qd ρ p.2))
  |[],vs,h=>by cases h;trivial
  |(k,x)::l,vs,h=>by
    unfold qbL at h;split at h
    · rename_i u j c a;cases h;exact ⟨⟨rfl,vR b c⟩,qgy b a⟩
    · cases h
theorem qkN:∀{vs c:List Value} {o off:Nat} {cs ds:Array Value},qn σ vs c→qn σ cs.toList ds.toList→
    qn σ ((vs.zipIdx o).foldl (fun (cs:Array Value) (x:Value×Nat)=>cs.setIfInBounds (off+x.2) x.1) cs).toList ((c.zipIdx o).foldl (fun (cs:Array Value) (x:Value×Nat)=>cs.setIfInBounds (off+x.2) x.1) ds).toList
  |[],[],_,_,_,_,_,h=>h
  |a::l,b::m,o,off,cs,ds,j,h=>by
    simp only [List.zipIdx_cons,List.foldl_cons];exact qkN j.2 (by simp only [Array.toList_setIfInBounds];exact h.set j.1 _)
theorem qiM {c : Nat → Option (Nat × Nat)} : ∀ {l x : List (Nat × Value)} {cs ds t : Array Value}, PRs σ l x → qn σ cs.toList ds.toList → Instr.fill c cs l = some t → ∃ p, Instr.fill c ds x = some p ∧ qn σ t.toList p.toList
  |[],[],cs,ds,t,_,h,n=>by simp only [Instr.fill] at n⊢;cases n;exact ⟨_,rfl,h⟩
  | (i, a) :: l, (j, b) :: m, cs, ds, t, u, h, n => by
    obtain ⟨⟨rfl,y⟩,u⟩:=u;simp only [Instr.fill] at n⊢;split at n
    · cases n
    · rename_i off size A;split at n
      · cases n
      · rename_i E;have I:=qjl y;have B:ds.size=cs.size:=by have:=h.len;simpa using this.symm
        have z:=qkN (o:=0) (off:=off) (qaT y) h;rw [if_neg (by rw [I,B];exact E)];refine qiM u ?_ n;rw [←Array.foldl_toList,←Array.foldl_toList];simpa using z
theorem qF2 {t:TypeId} {l u:List (Nat×Value)} {cs:Array Value} (p:∀b z,P.info? t=some b→b.zero=some z→z.cells.toList.all zF=true) (m:PRs σ l u) (h:P.built t l=some cs):∃cs',P.built t u=some cs'∧qn σ cs.toList cs'.toList:=by
  unfold Program.built at h⊢;split at h
  · rename_i b n A hit j;split at h
    · rename_i z B a x;exact qiM m (QO (p b z hit a)) h
    · cases h
  · rename_i b fields hit j;split at h
    · rename_i z c a y;exact qiM m (QO (p b z hit a)) h
    · cases h
  · cases h
theorem qmp (A:Iv σ w0 s w) (u:ER σ e ρ) {mx:Bool} {a b:Operand} {t:TypeId} {z:Array TypeId} (m:mx=true→z= #[t,t]) (h:qeO e s mx a b=some (v,s')) (n:Kn σ w0 s' v d K ρ):qr P Q d (.call {callee:= .builtin (if mx then .max else .min),args:= #[a,b],argTypes:=z}) ty K ρ w:=by
  unfold qeO at h;split at h
  · rename_i k1 x k2 y E I;have l:k1=k2:=by
      cases l:(k1==k2) with
      |false=>rw [l] at h;cases h
      |true=>simpa using l
    subst l;rw [show (k1==k1)=true by simp] at h;cases h;have p:=vR u E;have B:=vR u I;generalize c:qd ρ a=O at p;generalize j:qd ρ b=J at B;cases p;cases B;cases mx with
    |true=>
      obtain rfl:=m rfl;exact qeK c j (n σ _ w (Sg.le_refl σ) A (.pln rfl))
    |false=>
      show j9 P Q d _ ty K ρ w;refine jf (v:= .int k1 (if y<x then y else x)) (w':=w) ?_ (n σ _ w (Sg.le_refl σ) A (.pln rfl));simp [execOp,qA,resolve,invoke,builtin,c,j,Builtin.min_,Builtin.min2]
  · cases h
theorem qF5 (B:Iv σ w0 s w) (x:ER σ e ρ) {t:TypeId} {ps:Array (Nat×Operand)} (h:qi9 P e s t ps.toList=some (v,s')) (u:Kn σ w0 s' v d K ρ):qr P Q d (.build t ps) ty K ρ w:=by
  unfold qi9 at h;split at h
  · rename_i l A;obtain ⟨j,h⟩:=ji h;split at h
    · rename_i cs b;cases h;have y:=qgy x A;obtain ⟨cs',a,c⟩:=qF2 (fun E z a c=>by unfold qjG at j;simpa only [a,c] using j) y b;show xl (P.built t (ps.map fun p=>(p.1,qd ρ p.2)).toList) _;rw [Array.toList_map,a];obtain ⟨m,n⟩:=qn.arr c;exact u σ _ w (Sg.le_refl σ) B (.agg m n)
    · cases h
  · cases h
theorem qlI:∀{l m:List (Nat×Value)},PRs σ l m→l.map (·.1)=m.map (·.1)
  |[],[],_=>rfl
  |_::_,_::_,h=>by simp only [List.map_cons];rw [h.1.1,qlI h.2]
theorem qlL {sz:Nat}:∀{l m:List (Nat×Value)},PRs σ l m→(l.all fun p=>p.2.cells.size==sz)=true→∀p∈m,p.2.cells.size=sz
  |[],[],_,_,p,c=>by simp at c
  |a::l,b::m,h,j,p,c=>by
    simp only [List.all_cons,Bool.and_eq_true,beq_iff_eq] at j;rcases List.mem_cons.1 c with rfl|c
    · rw [qjl h.1.2];exact j.1
    · exact qlL h.2 j.2 p c
theorem qlK:∀{l m:List (Nat×Value)},PRs σ l m→qn σ (l.flatMap fun p=>p.2.cells.toList) (m.flatMap fun p=>p.2.cells.toList)
  |[],[],_=>trivial
  |_::_,_::_,h=>(qaT h.1.2).app (qlK h.2)
theorem qlJ {sz:Nat}:∀{l:List (Nat×Value)},(l.all fun p=>p.2.cells.size==sz)=true→(l.flatMap fun p=>p.2.cells.toList).length=l.length*sz
  |[],_=>by simp
  |a::l,b=>by
    simp only [List.all_cons,Bool.and_eq_true,beq_iff_eq] at b;rw [List.flatMap_cons,List.length_append,qlJ b.2,Array.length_toList,b.1,List.length_cons,Nat.succ_mul];omega
theorem qzU (hI:Iv σ w0 s w) (S:ER σ e ρ) {t:TypeId} {n:Nat} {ps:Array (Nat×Operand)} (h:qi6 P e s k t n ps.toList=some (v,s')) (E:Kn σ w0 s' v d K ρ):qr P Q d (.buildSlice t n ps) ty K ρ w:=by
  unfold qi6 at h;split at h
  · rename_i l t1 sz X u;obtain ⟨z,h⟩:=ji h;simp only [Bool.and_eq_true,Nat.ble_eq,beq_iff_eq] at z;obtain ⟨⟨⟨y,A⟩,x⟩,h4⟩:=z;obtain ⟨i,R,rfl⟩:=qf8 h;have j:=qgy S X;have O:=qlI j;have c:l.length=n:=by have:=congrArg List.length A;simpa using this
    refine jN u y ?_ ?_ fun B W I hE Y _=> ?_
    · rw [←A,O,List.map_map];rfl
    · intro p m;exact qlL j x (p.1,qd ρ p.2) (List.mem_map.2 ⟨p,m,rfl⟩)
    · obtain ⟨J,a,Z,b⟩:=qfb (cs':=ps.toList.flatMap fun p=>(qd ρ p.2).cells.toList) hI R (by have:=qlK j;rwa [List.flatMap_map] at this) (by omega) hE I Y fun _=>⟨n,by rw [qlJ x,c],Nat.le_trans (Nat.le_trans (Nat.le_mul_of_pos_right n (by omega)) y) (by decide)⟩;exact E J _ W a b (qkA Z)
  · cases h
theorem qlg {a:Addr}:∀{n i:Nat} {l:List Value},jq w a i n=some l→∀j (h:j<l.length),w.cell? (a.add (i+j))=some l[j]
  |0,i,l,h,j,b=>by simp only [jq,Option.some.injEq] at h;subst h;simp at b
  | n + 1, i, l, h, j, b => by
    simp only [jq,Option.bind_eq_some_iff,Option.map_eq_some_iff] at h;obtain ⟨u,m,r,c,h⟩:=h;cases h;cases j with
    |zero=>exact m
    |succ j=>
      have:=qlg c j (by simpa using b);rw [show i+(j+1)=i+1+j by omega];exact this
theorem qbe (B : Iv σ w0 s w) {sz : Nat} {v p : Value} (t : VR σ v p) {l : List Value} (h : yH s.H sz v = some l) : ∃ b, Cells w p sz b ∧ qn σ l b := by
  unfold yH at h;split at h
  · cases h;cases t with
    |pln _=>exact ⟨[],⟨rfl,by simp [qk],fun j m=>by simp at m⟩,trivial⟩
  · rename_i a n c;cases t with
    |pln A=>cases A
    |slc y E=>
      obtain ⟨b,z,u,x⟩:=qf7 B.mr y h;refine ⟨b,⟨by simp [qo];omega, ?_,fun j m=> ?_⟩,u⟩
      · rw [←u.len,x];rfl
      · have:=qlg z j m;rw [Nat.zero_add,vM] at this;exact this
  · cases h
theorem qzm:∀{l m:List Value},qn σ l m→l.all wI=true→∀v∈m,v.oneCell'=true:=fun h a v b=>by
  have:=qgN h a v b;cases v<;>first|rfl|(exfalso;simp [Value.oneCell] at this)
theorem get_del {H:vg} {i:Nat} (h:i<vk) {j:Nat} {o:Ob} (a:(H.del i).get j=some o):j≠i∧H.get j=some o:=by
  rw [Tr.get_del _ h] at a;split at a
  · cases a
  · rename_i e;exact ⟨e,a⟩
theorem qtq {t e sz bytes:Nat} (B:ke P t=some (e,sz,bytes)) {base:Nat} (b:base≤w.heap.size) {s x:Operand} {sv xv:Value} (A:qd ρ s=sv) (E:qd ρ x=xv) {xs news:List Value}
    (l:Own base e sz w sv xs) (j:Cells w xv sz news) (n:∀u∈news,u.oneCell'=true)
    (m:xs.length+news.length<4611686018427387904) (a:(xs.length+news.length)*bytes≤140737488355328*sz)
    (h:∀c W,Own base e sz W c (xs++news)→w.grownBy W sv.ownBlock→(c.ownBlock=sv.ownBlock∨c.ownBlock=some w.heap.size)→K (qm ρ d c) W):qr P Q d (.call {callee:= .builtin .append,args:= #[s,x],argTypes:= #[t,t]}) ty K ρ w:=by
  obtain ⟨c,W,n,z,p,y⟩:=qc5 (ty:=ty) B l j n m a b;refine jf (v:=c) (w':=W) ?_ (h c W z p y);simp [execOp,qA,resolve,invoke,builtin,A,E,n]
theorem qFl (hI : Iv σ w0 s w) {t : TypeId} {sz : Nat} (B : sz ≠ 0) {v R : Value} {H : vg} (hv : VR σ v R) (h : qjf s.H t sz v = some H) {xs m : List Value} (hx : yH s.H sz v = some xs) (Z : Cells w R sz m) (hvs : qn σ xs m) :
    Own w0.heap.size t sz w R m∧(∀j o,H.get j=some o→s.H.get j=some o)∧(∀j o p,H.get j=some o→σ j=some p→some p.1≠R.ownBlock):=by
  unfold qjf at h;split at h
  · rename_i a n c;split at h
    · rename_i ob A;obtain ⟨hb,h⟩:=ji h;cases h;simp only [Bool.and_eq_true,beq_iff_eq,Bool.not_eq_true',Nat.ble_eq] at hb;obtain ⟨⟨⟨⟨h1,h2⟩,h3⟩,O⟩,X⟩:=hb;have O:=kI O;cases hv with
      |pln h'=>cases h'
      | slc S hn =>
        rename_i i b f x o hq;obtain ⟨b1,f1,x1,cur,E⟩:=(hI.mr i ob A).2 (by rw [h2];exact B);have I:=E.at';rw [S] at I;cases I;have z:=E.room;rw [h2] at z;obtain ⟨n0,hn0,hm0⟩:=E.most h3;rw [h2] at hn0;have y:=Z.len;have hcn:c≤n0:=by
          have:c*sz≤n0*sz:=by dsimp only at X;omega
          exact Nat.le_of_mul_le_mul_right this (Nat.pos_of_ne_zero B)
        refine ⟨.inr ⟨b,f+o,n,c+x,cur,rfl,hI.own i ob _ A S,by rw [←h1];exact E.heap,y,by omega,by omega, ?_, ?_⟩,fun j oj J=>(get_del O J).2,fun j oj p J hp he=> ?_⟩
        · dsimp only at X;rw [Nat.add_mul];omega
        · have hxl:m.length=n*sz:=y;dsimp only at X;have hnc:n*sz≤c*sz:=Nat.mul_le_mul_right _ hn;refine List.ext_getElem? fun j=> ?_;by_cases J:j<n*sz
          · have u:=Z.cell j (by omega);simp only [qD,World.cell?,E.heap] at u;rw [List.getElem?_take_of_lt J,List.getElem?_drop,List.getElem?_eq_getElem (l:=m) (by omega)];simpa using u
          · rw [List.getElem?_eq_none (by simp;omega),List.getElem?_eq_none (by omega)]
        · obtain ⟨W,Y⟩:=get_del O J;refine W (hI.ap j i oj ob p _ Y A hp S ?_);simpa [Value.ownBlock] using he
    · cases h
  · cases h;cases hv with
    |pln _=>
      have:m=[]:=List.length_eq_zero_iff.1 (by rw [Z.len];simp [qk]);subst this;exact ⟨Own.nil _ _ _ _,fun _ _ h=>h,fun _ _ _ _ _=>by simp [Value.ownBlock]⟩
  · cases h
theorem qGw (m : Iv σ w0 s w) (he : ER σ e ρ) {t : TypeId} {a b : Operand} (h : qjc P e s k t a b = some (v, s')) (hK : Kn σ w0 s' v d K ρ) : qr P Q d (.call { callee := .builtin .append, args := #[a, b], argTypes := #[t, t] }) ty K ρ w := by
  unfold qjc at h;split at h
  · rename_i t1 sz bytes av bv hri ha hb;split at h
    · rename_i xs ys hxs hys;unfold quj at h;obtain ⟨hc,h⟩:=ji h;simp only [Bool.and_eq_true,Nat.ble_eq,Nat.blt_eq] at hc;obtain ⟨⟨⟨⟨h1,h2⟩,h3⟩,h4⟩,h5⟩:=hc;split at h
      · rename_i H hH;obtain ⟨i,h6,rfl⟩:=qf8 h;have hva:=vR he ha;have hvb:=vR he hb;obtain ⟨xs',hcx,O⟩:=qbe m hva hxs;obtain ⟨ys',hcy,R⟩:=qbe m hvb hys;obtain ⟨J,u,hne⟩:=qFl m (by omega) hva hH hxs hcx O;have lx:=O.len;have ly:=R.len;refine qtq hri m.ext.size rfl rfl J hcy (qzm R h4) (by omega) (by rw [←lx,←ly];exact h3) fun v' W ho Z hr=> ?_;have Y:Iv σ w0 ⟨H,s.nx,s.rs⟩ w:=⟨m.mr.keep u fun _ _ _ _ _=>rfl,m.dom,m.res,fun j l oj ol pj pl z hl=>m.ap j l oj ol pj pl (u j oj z) (u l ol hl),m.ext,fun j o p z=>m.own j o p (u j o z)⟩;rcases ho with ⟨_,hnil⟩|⟨g,off,y,cap,cur,rfl,hgb,hgh,hl,hnc,hcm,hroom,S⟩
        · have:=congrArg List.length hnil;rw [List.length_append,List.length_nil] at this;omega
        · have I:xs.length+ys.length=y*sz:=by rw [List.length_append] at hl;omega
          have hn':(xs.length+ys.length) / sz=y:=by rw [I,Nat.mul_div_cancel _ (by omega)]
          rw [hn'] at hK;have B:∀j o p,H.get j=some o→σ j=some p→p.1<w.heap.size:=fun j o p z X=>by
            obtain ⟨q,hq,B⟩:=Y.mr.at' z;rw [X] at hq;cases hq;exact B
          have hW:MR σ H W:=Y.mr.keep (fun _ _ h=>h) fun j o p z X=>Z.block _ (B j o p z X) (hne j o p z X);have hE:qb w0 W:=⟨Z.os.trans m.ext.os,Z.tape.trans m.ext.tape,Z.output.trans m.ext.output,Nat.le_trans m.ext.size Z.size,fun q hq=>by
            refine (Z.block q (Nat.lt_of_lt_of_le hq m.ext.size) fun e=> ?_).trans (m.ext.block q hq);have:=(J.blk q e.symm).1;omega⟩
          have hro:∀E:Sg,σ.le E→E i=some (g,off,cap - y)→RO E W i ⟨xs++ys,t1,sz,false,false⟩ g off (cap - y) cur:=fun E A hi=>by
            refine ⟨hi,hgh, ?_, ?_,(fun hw=>by cases hw),fun _=>⟨y,by rw [List.length_append];exact I,by omega⟩,(fun hx=>by cases hx)⟩
            · rw [List.length_append,I,S];exact (O.app R).mono A
            · rw [List.length_append,I];have:y*sz+(cap - y)*sz=cap*sz:=by rw [←Nat.add_mul];congr 1;omega
              dsimp only;omega
          obtain ⟨E,A,hi,hI'⟩:=qdy Y h6 (b:=g) (f:=off) (x:=cap - y) (W:=W) hW hE hgb (fun j oj pj z X e=>by
            rcases hr with hr|hr
            · exact hne j oj pj z X (by rw [←hr,e];rfl)
            · have:=B j oj pj z X;simp [Value.ownBlock] at hr;omega) fun E A hi=>⟨fun hz=>absurd hz (by dsimp only;omega),fun _=>⟨cur,hro E A hi⟩⟩
          refine hK E _ W A hI' ?_;have:=VR.slc (σ:=E) (o:=0) (n:=y) (c:=y) hi (Nat.le_refl _)
          rwa [show y+(cap - y)=cap by omega] at this
      · cases h
    · cases h
  · cases h
theorem qzN (hI:Iv σ w0 s w) (O:ER σ e ρ) {t:TypeId} {x y:Operand} (h:qi4 P e s k t x y=some (v,s')) (Z:Kn σ w0 s' v d K ρ):qr P Q d (.makeSlice t x y) ty K ρ w:=by
  unfold qi4 at h;split at h
  · rename_i t1 z bytes kx n ky m A hx hy
    replace h:=ji h
    obtain ⟨S,h0⟩:=h;simp only [Bool.and_eq_true,Nat.ble_eq,beq_iff_eq,decide_eq_true_eq] at S;obtain ⟨⟨⟨⟨⟨⟨c,J⟩,h3⟩,Y⟩,h5⟩,h6⟩,p⟩:=S;subst c;obtain ⟨i,h8,rfl⟩:=qf8 h0;have a:=vR O hx;have b:=vR O hy;generalize E:qd ρ x=q1 at a;generalize I:qd ρ y=q2 at b;cases a;cases b;have X:((n.toNat:Nat):Int)=n:=Int.toNat_of_nonneg J;have R:bytes*n.toNat≤1000*100000:=Nat.mul_le_mul Y (by omega);refine qiU (n:=n.toNat) (kl:=kx) (kc:=ky) A (by rw [E,X]) (by rw [I,X]) (by omega) (by omega) (fun i z c J=> ?_) fun B W hB hE R=> ?_
    · rw [c] at p;simp only [J,beq_iff_eq] at p;exact p
    · obtain ⟨τ,j,hi,l⟩:=qfb (cs':=List.replicate n.toNat z) hI h8 (QO (by rw [List.all_eq_true];intro u hu;rw [(List.mem_replicate.1 hu).2];exact h5)) (by decide) hE hB R fun _=>⟨n.toNat,by simp,Nat.le_trans (show n.toNat≤100000 by omega) (by decide)⟩;exact Z τ _ W j l (qkA hi)
  · cases h
theorem qzM (l : Iv σ w0 s w) {t : TypeId} {r : Option Operand} (h : qi3 s k (r.map fun _ => 0) = some (v, s')) (A : Kn σ w0 s' v d K ρ) : qr P Q d (.makeMap t r) ty K ρ w := by
  cases r with
  |some _=>cases h
  |none=>
    unfold qi3 at h;dsimp only [Option.map_none] at h;split at h
    · rename_i i Z I;cases h;refine qeL fun B W E z O _=> ?_;obtain ⟨y,a,u,m⟩:=qdy l I (b:=B) (f:=0) (x:=0) (l.mr.ext z) (l.ext.trans' z) (Nat.le_trans l.ext.size E) (fun j X pj S n Y=>by
        obtain ⟨p,c,R⟩:=l.mr.at' S;rw [n] at c;cases c;omega) fun y a u=>⟨fun _=>⟨B,[],u,O,rfl,fun p n=>by simp at n⟩,fun J=>absurd rfl J⟩
      exact A y _ W a m (.mp u)
    · cases h
theorem QA {a b:ByteArray}:kz a b=true↔a=b:=by
  unfold kz;rw [beq_iff_eq];constructor
  · intro h;have j:a.data.toList=b.data.toList:=List.map_inj_right (fun x y c=>UInt8.toNat_inj.1 c)|>.1 h
    cases a;cases b;congr 1;exact Array.toList_inj.1 j
  · rintro rfl;rfl
theorem qmA (b:ByteArray):∀ps:List (ByteArray×Value),qdF (QR ps) b=jx ps b
  |[]=>rfl
  | p :: ps => by
    rw [zH];show (bif kz p.1 b then some p.2 else qdF (QR ps) b)=_;by_cases a:p.1=b
    · rw [if_pos a,QA.2 a];rfl
    · rw [if_neg a,←qmA b ps];cases c:kz p.1 b with
      |true=>exact absurd (QA.1 c) a
      |false=>rfl
theorem qlD (b:ByteArray) (x:Value):∀ps:List (ByteArray×Value),qdD (QR ps) b x=QR (jB ps b x)
  |[]=>rfl
  | p :: ps => by
    show (bif kz p.1 b then .string b::x::QR ps else .string p.1::p.2::qdD (QR ps) b x)=_;unfold jB;by_cases a:p.1=b
    · rw [if_pos a,QA.2 a];rfl
    · rw [if_neg a,qlD b x ps];cases c:kz p.1 b with
      |true=>exact absurd (QA.1 c) a
      |false=>rfl
theorem qkL {b : ByteArray} {x : Value} : ∀ {ps : List (ByteArray × Value)} {p : ByteArray × Value}, p ∈ jB ps b x → p ∈ ps ∨ p.2 = x
  |[],p,h=>by simp [jB] at h;exact .inr (by rw [h])
  | q :: ps, p, h => by
    unfold jB at h;split at h
    · rcases List.mem_cons.1 h with rfl|h
      · exact .inr rfl
      · exact .inl (List.mem_cons_of_mem _ h)
    · rcases List.mem_cons.1 h with rfl|h
      · exact .inl (by simp)
      · rcases qkL h with h|h
        · exact .inl (List.mem_cons_of_mem _ h)
        · exact .inr h
theorem qzT {b:ByteArray} {x:Value} {ps:List (ByteArray×Value)} (h:jx ps b=some x):∃p∈ps,p.2=x:=by
  unfold jx at h;simp only [Option.map_eq_some_iff] at h;obtain ⟨p,a,rfl⟩:=h;exact ⟨p,List.mem_of_find?_eq_some a,rfl⟩
theorem qzR (S : Iv σ w0 s w) (R : ER σ e ρ) {t : TypeId} {m x : Operand} (h : qi5 P e s t m x = some (v, s')) (J : Kn σ w0 s' v d K ρ) : qr P Q d (.lookup t m x false) ty K ρ w := by
  unfold qi5 at h;split at h
  · rename_i i b kt et Z hx j;split at h
    · rename_i ob z A I hz;obtain ⟨E,h⟩:=ji h;cases h;simp only [Bool.and_eq_true] at E;have y:=Nat.eq_of_beq_eq_true E.1;obtain ⟨B,ps,Y,h2,W,X⟩:=(S.mr i ob A).1 y;have c:=vR R Z;have a:=vR R hx;generalize l:qd ρ m=q1 at c;generalize n:qd ρ x=q2 at a;cases c with
      |pln h'=>cases h'
      |mp O=>
        rw [Y] at O;cases O;cases a;refine qiV j I hz l n h2 false ?_;rw [W,qmA] at J;refine J σ _ w (Sg.le_refl σ) S (.pln ?_);cases hl:jx ps b with
        |none=>exact E.2
        |some u=>
          obtain ⟨p,hp,rfl⟩:=qzT hl;exact X p hp
    · cases h
  · cases h
theorem quS (Y : Iv σ w0 s w) (J : ER σ e ρ) {t : TypeId} {m x y : Operand} (h : qiX P e s t m x y = some (v, s')) (hK : Kn σ w0 s' v d K ρ) : qr P Q d (.mapUpdate t m x y) ty K ρ w := by
  unfold qiX at h;split at h
  · rename_i i b u hm hx hy;split at h
    · rename_i kt et E;split at h
      · rename_i ob j I;obtain ⟨l,h⟩:=ji h;cases h;simp only [Bool.and_eq_true] at l;have c:=Nat.eq_of_beq_eq_true l.1.1;obtain ⟨B,ps,A,h2,Z,h4⟩:=(Y.mr i ob j).1 c;have z:=vR J hm;have n:=vR J hx;have S:=vR J hy;generalize O:qd ρ m=q1 at z;generalize R:qd ρ x=q2 at n;cases z with
        |pln h'=>cases h'
        |mp X=>
          rw [A] at X;cases X;cases n;have hu:qd ρ y=u:=S.uniq (.pln l.1.2);refine qaP E I O R h2 fun W hO hb=>hK σ _ W (Sg.le_refl σ) ?_ qah;refine qjm Y j (kI l.2) A hO ⟨fun _=>⟨B,jB ps b u,A,by rw [←hu];exact hb, ?_,fun p a=> ?_⟩,fun hz=>absurd c hz⟩
          · rw [Z,qlD]
          · rcases qkL a with a|a
            · exact h4 p a
            · rw [a];exact l.1.2
      · cases h
    · cases h
  · cases h
end
end Go.Eng
namespace Go.Eng
open Go.RowKit
def yq (P:Program) (pr:TypeId→Bool):Prop:=∀t,pr t=true→P.eqGuardType P.depth t=false∧∀(a b c d:Int) (w:World),(Op.equalIn 10000 t (.agg #[.int .i64 a, .int .i64 b]) (.agg #[.int .i64 c, .int .i64 d])).run P w= .ok (decide (a=c)&&decide (b=d)) w
section
variable {P:Program} {Q:Ks} {K:qa→World→Prop} {ρ:qa} {w w0:World} {σ:Sg} {e:Tr Value} {s s':Sx} {k:Option Nat} {d:Option Nat} {ty:TypeId} {v:Value} {pr:TypeId→Bool}
theorem qzy (z : Iv σ w0 s w) (p : ER σ e ρ) {op : BinOp} {t : TypeId} {x : Operand} (h : qi2 P e s op t x = some (v, s')) (m : Kn σ w0 s' v d K ρ) : qr P Q d (.binOp op t x (.const (.slice none 0 0)) t) ty K ρ w := by
  unfold qi2 at h;split at h
  · rename_i u y;split at h
    · rename_i b a;obtain ⟨j,h⟩:=ji h;cases h;have l:=vR p y;unfold qkz at j;split at j
      · rename_i A c;have key:qo (qd ρ x)=true∧yi (qd ρ x)=b:=by
          generalize qd ρ x=q at l;unfold qml at a;split at a
          · cases a;cases l with
            |pln n=>cases n
            |slc B E=>exact ⟨by simp [qo];omega,rfl⟩
          · cases a;cases l with
            |pln _=>exact ⟨rfl,rfl⟩
          · cases a
        refine qtn c key.1 ?_;rw [key.2];exact m σ _ w (Sg.le_refl σ) z (.pln rfl)
      · cases j
    · cases h
  · cases h
theorem qjW {b:Bool} {u j:Value} (h:qcL b s u j=some (v,s')):∃a c c1 c2,u= .agg #[.int .i64 a, .int .i64 c]∧j= .agg #[.int .i64 c1, .int .i64 c2]∧v= .bool (if b then (decide (a=c1)&&decide (c=c2)) else !(decide (a=c1)&&decide (c=c2)))∧s'=s:=by
  unfold qcL at h;split at h
  · rename_i xs ys;split at h
    · rename_i a c c1 c2 l m;cases h;refine ⟨a,c,c1,c2,by rw [←Array.toList_inj.1 (show xs.toList=(#[.int .i64 a, .int .i64 c]:Array Value).toList from l)],by rw [←Array.toList_inj.1 (show ys.toList=(#[.int .i64 c1, .int .i64 c2]:Array Value).toList from m)], ?_,rfl⟩;cases b<;>rfl
    · cases h
  · cases h
theorem qcM {a b:Int} {q:Value} (h:VR σ (.agg #[.int .i64 a, .int .i64 b]) q):q= .agg #[.int .i64 a, .int .i64 b]:=h.uniq (wP (v:= .agg #[.int .i64 a, .int .i64 b]) rfl)
theorem qGo (m : yq P pr) (A : Iv σ w0 s w) (n : ER σ e ρ) {op : BinOp} {t u : TypeId} {x y : Operand} (h : qjb P pr e s op t u x y = some (v, s')) (l : Kn σ w0 s' v d K ρ) : qr P Q d (.binOp op t x y u) ty K ρ w := by
  unfold qjb at h;cases j:yX y with
  |true=>
    rw [j] at h;obtain ⟨c,O⟩:=ji (b:=t==u) h;have c:t=u:=by simpa using c
    subst c;have:y= .const (.slice none 0 0):=by
      unfold yX at j;split at j
      · rfl
      · cases j
    subst this;exact qzy A n O l
  |false=>
    rw [j] at h
    replace h:qiY pr e s op t x y=some (v,s'):=h
    unfold qiY at h;split at h
    · rename_i a b W S;obtain ⟨R,h⟩:=ji h;obtain ⟨I,E⟩:=m t R;have B:=vR n W;have J:=vR n S;split at h
      · obtain ⟨p,z,c1,c2,rfl,rfl,rfl,rfl⟩:=qjW h;exact qFe (qcM B) (qcM J) I (E p z c1 c2 w) (l σ _ w (Sg.le_refl σ) A (.pln rfl))
      · obtain ⟨p,z,c1,c2,rfl,rfl,rfl,rfl⟩:=qjW h;exact qE9 (qcM B) (qcM J) I (E p z c1 c2 w) (l σ _ w (Sg.le_refl σ) A (.pln rfl))
      · cases h
    · cases h
theorem qcw {α:Type} {xs:Array α} {a b:α} (h:xs.toList=[a,b]):xs= #[a,b]:=Array.toList_inj.1 h
theorem qFW (z:Iv σ w0 s w) (x:ER σ e ρ) {c:Call} (h:qi8 P e s k c.callee c.args.toList c.argTypes.toList=some (v,s')) (u:Kn σ w0 s' v d K ρ):qr P Q d (.call c) ty K ρ w:=by
  obtain ⟨B,as,A⟩:=c;unfold qi8 at h;split at h
  · rename_i a b t p j l n;obtain ⟨m,y⟩:=ji h;have m:t=p:=by simpa using m
    subst m;dsimp only at j l n;subst j;rw [qcw l,qcw n];exact qGw z x y u
  · rename_i a b t p j l n;obtain ⟨m,y⟩:=ji h;have m:t=p:=by simpa using m
    subst m;dsimp only at j l n;subst j;rw [qcw l,qcw n];exact qmp (mx:=true) z x (fun _=>rfl) y u
  · rename_i a b j l;dsimp only at j l;subst j;rw [qcw l];exact qmp (mx:=false) (t:=0) z x (fun h=>by cases h) h u
  · cases h
theorem qFg (j:yq P pr) (b:Iv σ w0 s w) (c:ER σ e ρ) {op:Op} (h:qcl P pr e s k op=some (v,s')) (a:Kn σ w0 s' v d K ρ):qr P Q d op ty K ρ w:=by
  unfold qcl at h;split at h
  · exact qGh b c h a
  · exact qzz b h a
  · exact qvM b c h a
  · exact qEK b c h a
  · exact qF5 b c h a
  · exact qzU b c h a
  · exact qFW b c h a
  · exact qzN b c h a
  · exact qzM b h a
  · rename_i t m x ok;cases ok with
    |true=>cases h
    |false=>exact qzR b c h a
  · exact quS b c h a
  · exact qGo j b c h a
  · cases h
end
end Go.Eng
namespace Go.Eng
open Go.RowKit
theorem qjy {f:Value→Value→Bool} (c:∀a b,f a b=true→a=b):∀{l m:List Value},zi.all2 f l m=true→l=m
  |[],[],_=>rfl
  |a::l,b::m,h=>by
    simp only [zi.all2,Bool.and_eq_true] at h;rw [c a b h.1,qjy c h.2]
  |[],_::_,h=>by simp [zi.all2] at h
  |_::_,[],h=>by simp [zi.all2] at h
theorem qfd {f:Value→Value→Bool} (c:∀a b,f a b=true→a=b) {a b:Array Value} (h:zi.all2 f a.toList b.toList=true):a=b:=Array.toList_inj.1 (qjy c h)
theorem wx:∀(n:Nat) (a b:Value),zi n a b=true→a=b
  |0,_,_,h=>by simp [zi] at h
  | n + 1, a, b, h => by
    unfold zi at h;split at h
    · simpa using h
    · simpa using h
    · rw [QA.1 h]
    · rfl
    · simpa using h
    · simpa using h
    · simpa [and_assoc] using h
    · simpa using h
    · rfl
    · rfl
    · simp only [Bool.and_eq_true,beq_iff_eq] at h;rw [h.1.1,qfd (wx n) h.1.2,qfd (wx n) h.2]
    · rw [qfd (wx n) h]
    · rw [qfd (wx n) h]
    · simp only [Bool.and_eq_true,beq_iff_eq] at h;rw [h.1,wx n _ _ h.2]
    · cases h
theorem qbQ {a b:Ob} (h:QU a b=true):a=b:=by
  unfold QU at h;simp only [Bool.and_eq_true,beq_iff_eq] at h;cases a;cases b;simp only [Ob.mk.injEq];exact ⟨qjy (wx 4) h.1.1.1.1,h.1.1.1.2,h.1.1.2,h.1.2,h.2⟩
theorem Tr.noneB_ok {α:Type}:∀{t:Tr α},t.noneB=true→∀k,t.get k=none
  | .lf,_,_=>rfl
  | .nd none l r,h,k=>by
    simp only [Tr.noneB,Bool.and_eq_true] at h;rw [Tr.get_nd,Tr.noneB_ok h.1,Tr.noneB_ok h.2];simp
  | .nd (some _) _ _,h,k=>by simp [Tr.noneB] at h
theorem Tr.eqB_ok {α:Type} {f:α→α→Bool} (j:∀a b,f a b=true→a=b):∀{t u:Tr α},t.eqB f u=true→∀k,t.get k=u.get k
  | .nd v l r, .nd u m q,h,k=>by
    simp only [Tr.eqB,Bool.and_eq_true] at h;rw [Tr.get_nd,Tr.get_nd,Tr.eqB_ok j h.1.2,Tr.eqB_ok j h.2];have:v=u:=by
      have:=h.1.1;unfold ql7 at this;split at this
      · rfl
      · rw [j _ _ this]
      · cases this
    rw [this]
  | .lf,t,h,k=>by
    have c:t.noneB=true:=by cases t<;>exact h
    rw [Tr.noneB_ok c k];rfl
  | .nd v l r, .lf,h,k=>by
    have c:(Tr.nd v l r).noneB=true:=h;rw [Tr.noneB_ok c k];rfl
def xp (σ:Sg) (w0:World) (K:qa→World→Prop) (Q:Ks):Ou→Prop
  | .go e s=>∀τ ρ w,σ.le τ→Iv τ w0 s w→ER τ e ρ→K ρ w
  | .ex i e s=>∀τ ρ w,σ.le τ→Iv τ w0 s w→ER τ e ρ→Q.ex i ρ w
  | .rt e s=>∀τ ρ w,σ.le τ→Iv τ w0 s w→ER τ e ρ→Q.rt ρ w
  | .pn c s=>∀τ ρ w,σ.le τ→Iv τ w0 s w→Q.pn ρ c w
  | .ret _ _=>False
theorem xp.le {σ l:Sg} {w0:World} {K:qa→World→Prop} {Q:Ks} {o:Ou} (h:xp σ w0 K Q o) (j:σ.le l):xp l w0 K Q o:=by
  cases o with
  |go e s=>exact fun a ρ w b=>h a ρ w (Sg.le_trans j b)
  |ex i e s=>exact fun a ρ w b=>h a ρ w (Sg.le_trans j b)
  |rt e s=>exact fun a ρ w b=>h a ρ w (Sg.le_trans j b)
  |pn c s=>exact fun a ρ w b=>h a ρ w (Sg.le_trans j b)
  |ret v s=>exact h
def vN (σ:Sg) (w0:World):Ou→Ending→World→Prop
  | .ret v s=>fun e w=>∃τ v',σ.le τ∧Iv τ w0 s w∧VR τ v v'∧e= .returned v'
  | .pn c s=>fun e w=>∃τ,σ.le τ∧Iv τ w0 s w∧e= .panicked c
  |_=>fun _ _=>False
def Qn (Q:Ks):Prop:=∀ρ ρ' c w,Q.pn ρ c w→Q.pn ρ' c w
def ku (σ:Sg) (L:List Fa) (w:World):Prop:=∀f∈L,∀a',VR σ f.a a'→∃v',qU w f.k a'=some v'∧VR σ f.v v'
def Grd (σ:Sg) (L:List Fa):Prop:=∀f∈L,(∃a',VR σ f.a a')∧∃v',VR σ f.v v'
structure Sound (P:Program) (G0:World→Prop) (r:Sx→Tk→Option Ou):Prop where
  ir:∀F a e s o,r s (.ir F a e)=some o→∀(σ:Sg) (w0:World) (ρ:qa) (w:World) (K:qa→World→Prop) (Q:Ks),G0 w0→Iv σ w0 s w→ER σ e ρ→Qn Q→xp σ w0 K Q o→a.wp ⟨P,F.nt,F.V,[]⟩ K Q ρ w
  sts:∀l e s o,r s (.sts l e)=some o→∀(σ:Sg) (w0:World) (ρ:qa) (w:World) (K:qa→World→Prop) (Q:Ks),G0 w0→Iv σ w0 s w→ER σ e ρ→Qn Q→xp σ w0 K Q o→qV P Q l K ρ w
  ord:∀L bs t e s o,r s (.ord L bs t e)=some o→∀(σ0 σ:Sg) (w0:World) (ρ:qa) (w:World) (K:qa→World→Prop) (Q:Ks) (S:World→Prop),G0 w0→Iv σ w0 s w→ER σ e ρ→Qn Q→xp σ w0 K Q o→σ0.le σ→
    (∀l,L=some l→Grd σ0 l∧ku σ0 l w∧S=ku σ0 l)→t.wp P Q S K ρ w
  call:∀f args s o,r s (.call f args)=some o→∀(σ:Sg) (w0 w:World) (args':List Value),G0 w0→Iv σ w0 s w→qn σ args args'→Calls P f args'.toArray w (vN σ w0 o)
section
variable {P:Program} {G0:World→Prop} {r:Sx→Tk→Option Ou} {σ:Sg} {w0 w:World} {ρ:qa} {e:Tr Value} {s:Sx} {K:qa→World→Prop} {Q:Ks} {o:Ou} {pr:TypeId→Bool}
theorem qcn (u:Sound P G0 r) (c:G0 w0) (j:Qn Q) {l:List St} {d:Option Nat} {v b:Value} (m:ER σ e ρ) (p:Iv σ w0 s w) (t:VR σ v b) (h:qaR r l d e v s=some o) (x:xp σ w0 K Q o):qV P Q l K (qm ρ d b) w:=by
  unfold qaR at h;split at h
  · rename_i n a;exact u.sts l n s o h σ w0 _ w K Q c p (qyb m t a) j x
  · cases h
theorem qFi {d:Option Nat} {ty:TypeId} {c:Operand} {args:Array Operand} {a:Array TypeId} {f:FuncId} {fs cs:Array Value} (h:qf P f=true) (l:qd ρ c= .func (.func f) fs cs) (j:Calls P f (fs++args.map (qd ρ)++cs) w (xT Q d K ρ)):
    qr P Q d (.call {callee:= .value c,args:=args,argTypes:=a}) ty K ρ w:=by
  have key:j9 P Q d (.call {callee:= .value c,args:=args,argTypes:=a}) ty K ρ w:=by
    unfold j9;rw [qk7 (P:=P) h l];exact j.mono fun e w' m=>by cases e<;>exact m
  cases c with
  |func g=>
    have b:Value.func (.func g) #[] #[]= .func (.func f) fs cs:=l;cases b;refine ⟨h, ?_⟩;simpa using j
  |_=>exact key
theorem qvT (hr : Sound P G0 r) (hg : G0 w0) (hq : Qn Q) {l : List St} {d : Option Nat} {ty : TypeId} {c : Operand} {args : Array Operand} {t : Array TypeId} (J : ER σ e ρ) (hI : Iv σ w0 s w) (h : qfM P r s l d e (vB e c) (yU e args.toList) = some o) (ha : xp σ w0 K Q o) :
    qr P Q d (.call {callee:= .value c,args:=args,argTypes:=t}) ty (qV P Q l K) ρ w:=by
  unfold qfM at h;split at h
  · rename_i f fs cs vs hc E;obtain ⟨W,h⟩:=ji h;have u:=vR J hc;have B:=qgK J E;generalize O:qd ρ c=q at u;cases u with
    |pln h'=>cases h'
    | fnc h1 h2 h3 h4 =>
      rename_i b cs';have I:qn σ fs.toList b.toList:=qn.of (by simpa using h1) fun j x y Y Z=>h2 j x y (by simpa using Y) (by simpa using Z);have S:qn σ cs.toList cs'.toList:=qn.of (by simpa using h3) fun j x y Y Z=>h4 j x y (by simpa using Y) (by simpa using Z);unfold qt8 at h;have key:∀o1,r s (.call f (fs.toList++(vs++cs.toList)))=some o1→(∀z w',vN σ w0 o1 z w'→xT Q d (qV P Q l K) ρ z w')→qr P Q d (.call {callee:= .value c,args:=args,argTypes:=t}) ty (qV P Q l K) ρ w:=by
        intro o1 X hk;have a:=hr.call _ _ _ _ X σ w0 w (b.toList++(args.toList.map (qd ρ)++cs'.toList)) hg hI (I.app (B.app S));have p:(b.toList++(args.toList.map (qd ρ)++cs'.toList)).toArray=b++args.map (qd ρ)++cs':=by
          apply Array.toList_inj.1;simp
        rw [p] at a;exact qFi W O (a.mono hk)
      split at h
      · rename_i v s' n;refine key _ n ?_;rintro z w' ⟨τ,v',A,m,R,rfl⟩;exact qcn hr hg hq (J.mono A) m R h (ha.le A)
      · rename_i c1 s' n;cases h;refine key _ n ?_;rintro z w' ⟨τ,A,m,rfl⟩;exact ha τ ρ w' A m
      · cases h
  · cases h
theorem qvS (n : yq P pr) (A : Sound P G0 r) (E : G0 w0) (I : Qn Q) {k : Option Nat} {l : List St} {d : Option Nat} {ty : TypeId} {op : Op} (b : ER σ e ρ) (p : Iv σ w0 s w) (h : qfL P pr r s k l d e op = some o) (y : xp σ w0 K Q o) : qr P Q d op ty (qV P Q l K) ρ w := by
  have eff:∀x,qeR r l d e x=some o→(∀v s',x=some (v,s')→qcl P pr e s k op=some (v,s'))→qr P Q d op ty (qV P Q l K) ρ w:=by
    intro x a m;unfold qeR at a;split at a
    · rename_i v s';exact qFg n p b (m v s' rfl) fun O S W B j z=>qcn A E I (b.mono B) j z a (y.le B)
    · cases a
  unfold qfL at h;split at h
  · rename_i x;unfold qkw at h;split at h
    · rename_i v z;split at h
      · rename_i t u;obtain ⟨J,h⟩:=ji h;cases h;have a:=(vR b z).uniq (wP J);exact qiT a (y σ ρ w (Sg.le_refl σ) p)
      · cases h
    · cases h
  · rename_i c;obtain ⟨X,as,R⟩:=c;dsimp only at h;split at h
    · rename_i f;exact qvT A E I b p h y
    · exact eff _ h fun v s' a=>a
  · exact eff _ h fun v s' a=>a
theorem qkl (t : yq P pr) (m : Sound P G0 r) (n : G0 w0) (p : Qn Q) {k : Option Nat} {l : List St} (b : ER σ e ρ) (c : Iv σ w0 s w) (h : qa9 P pr r s k e l = some o) (j : xp σ w0 K Q o) : qV P Q l K ρ w := by
  unfold qa9 at h;split at h
  · cases h;exact j σ ρ w (Sg.le_refl σ) c b
  · rename_i g d x l;show (if gd ρ g=true then vJ (x.ev ρ w) (fun v=>qV P Q l K (qu ρ d v) w) else qV P Q l K (qu ρ d undef) w);split at h
    · rename_i a;rw [if_pos (qaL b a)];unfold qfN at h;split at h
      · rename_i v y;obtain ⟨A,u,z⟩:=xB c.mr b y;rw [u];exact qcn (d:=some d) m n p b c z h j
      · cases h
    · rename_i a;rw [if_neg (by rw [qaL b a];decide)];exact qcn (d:=some d) m n p b c qah h j
    · cases h
  · rename_i g d op ty l;show (if gd ρ g=true then qr P Q d op ty (qV P Q l K) ρ w else qV P Q l K (qm ρ d undef) w);split at h
    · rename_i a;rw [if_pos (qaL b a)];exact qvS t m n p b c h j
    · rename_i a;rw [if_neg (by rw [qaL b a];decide)];exact qcn m n p b c qah h j
    · cases h
theorem ku.up {c:Sg} {L:List Fa} (h:ku σ L w) (m:Grd σ L) (j:σ.le c):ku c L w:=fun f l a u=>by
  obtain ⟨⟨a0,b⟩,_⟩:=m f l;have:a=a0:=u.uniq (b.mono j);subst this;obtain ⟨n,p,t⟩:=h f l a b;exact ⟨n,p,t.mono j⟩
theorem qbV:MR σ .lf w:=fun i o h=>by cases h
theorem qz5 {a b:K1} (h:qdN a b=true):a=b:=by
  unfold qdN at h;split at h
  · rfl
  · simpa using h
  · rfl
  · cases h
theorem qs4:∀{L:List Fa} {k:K1} {a v:Value},qeG L k a=some v→∃f∈L,f.k=k∧f.a=a∧f.v=v
  |[],_,_,_,h=>by cases h
  | f :: l, k, a, v, h => by
    unfold qeG at h;cases b:(qdN f.k k&&zi 4 f.a a) with
    |true=>
      rw [b] at h;cases h;simp only [Bool.and_eq_true] at b;exact ⟨f,by simp,qz5 b.1,wx 4 _ _ b.2,rfl⟩
    |false=>
      rw [b] at h;obtain ⟨g,c,j⟩:=qs4 h;exact ⟨g,List.mem_cons_of_mem _ c,j⟩
theorem qtc {L : List Fa} (z : ku σ L w) (n : ER σ e ρ) {x : Ex} {v : Value} (h : evF L e x = some v) : ∃ b, x.ev ρ w = some b ∧ VR σ v b := by
  unfold evF at h;split at h
  · rename_i k x;split at h
    · rename_i a A;obtain ⟨t,m,p⟩:=xB (qbV (w:=w)) n A;split at h
      · rename_i u y;cases h;obtain ⟨B,c,j⟩:=qa1 (qbV (w:=w)) p y;exact ⟨B,by simp only [Ex.ev,m,Option.bind_some,c],j⟩
      · obtain ⟨f,l,rfl,rfl,rfl⟩:=qs4 h;obtain ⟨b,c,j⟩:=z f l t p;exact ⟨b,by simp only [Ex.ev,m,Option.bind_some,c],j⟩
    · cases h
  · exact xB qbV n h
theorem qfv {H : vg} (n : MR σ H w) : ∀ {t : OT} {e : Tr Value} {ρ : qa}, ER σ e ρ → ∀ f ∈ xZ H t e, ((∃ c, VR σ f.a c) ∧ ∃ j, VR σ f.v j) ∧ ∀ c, VR σ f.a c → ∃ j, qU w f.k c = some j ∧ VR σ f.v j
  | .take g d ex t, e, ρ, l, f, b => by
    unfold xZ at b;split at b
    · split at b
      · rename_i v I;obtain ⟨j,A,p⟩:=xB n l I;rcases List.mem_append.1 b with b|b
        · split at b
          · rename_i k x;split at b
            · rename_i a E;obtain ⟨c,y,u⟩:=xB (qbV (w:=w)) l E;split at b
              · simp at b
              · simp only [List.mem_singleton] at b;subst b;refine ⟨⟨⟨c,u⟩,⟨j,p⟩⟩,fun B m=> ?_⟩;have:B=c:=m.uniq u;subst this;refine ⟨j, ?_,p⟩;simpa only [Ex.ev,y,Option.bind_some] using A
            · simp at b
          · simp at b
        · split at b
          · rename_i z h;exact qfv n (qc0 l p h) f b
          · simp at b
      · simp at b
    · split at b
      · rename_i z h;exact qfv n (qc0 l qah h) f b
      · simp at b
    · simp at b
  | .done,_,_,_,f,b=>by simp [xZ] at b
  | .step ..,_,_,_,f,b=>by simp [xZ] at b
  | .both ..,_,_,_,f,b=>by simp [xZ] at b
theorem qwg {c:Sg} {L:List Fa} {H:vg} (t:Grd σ L) (j:σ.le c) (y:MR c H w) (h:qfV H L=true):ku σ L w:=fun f l A x=>by
  have b:=List.all_eq_true.1 h f l;split at b
  · rename_i u p;have:=wx 4 _ _ b;subst this;obtain ⟨m,z,n⟩:=qa1 y (x.mono j) p;obtain ⟨_,v0,a⟩:=t f l;have:m=v0:=n.uniq (a.mono j);subst this;exact ⟨m,z,a⟩
  · cases b
theorem qE1 {c l:Sx} (h:∀k,c.H.get k=l.H.get k) (m:c.nx=l.nx) (n:c.rs=l.rs) (a:Iv σ w0 l w):Iv σ w0 c w:=
  ⟨fun i o b=>a.mr i o (by rw [←h];exact b),by rw [m,n];exact a.dom,by rw [m,n];exact a.res,fun i j y u x t b z=>a.ap i j y u x t (by rw [←h];exact b) (by rw [←h];exact z),a.ext,fun i o p b=>a.own i o p (by rw [←h];exact b)⟩
theorem qzg (hpr : yq P pr) (Y : Sound P G0 r) (Z : G0 w0) (hq : Qn Q) {L : Option (List Fa)} {bs : Option Nat} {t : OT} {j : Sg} {S : World → Prop} (z : ER σ e ρ) (hI : Iv σ w0 s w) (h : qgH P pr r s L bs e t = some o) (R : xp σ w0 K Q o) (E : j.le σ)
    (hS:∀l,L=some l→Grd j l∧ku j l w∧S=ku j l):t.wp P Q S K ρ w:=by
  unfold qgH at h;split at h
  · cases h;exact R σ ρ w (Sg.le_refl σ) hI z
  · rename_i g d x t;split at h
    · cases h
    · rename_i l;obtain ⟨p,hfa,u⟩:=hS l rfl;have B:∀v v',VR σ v v'→qdr r s (some l) bs t e d (some v)=some o→t.wp P Q S K (qu ρ d v') w:=by
        intro v v' I hk;unfold qdr at hk;dsimp only at hk;split at hk
        · rename_i e' n;exact Y.ord _ _ _ _ _ _ hk j σ w0 _ w K Q S Z hI (qc0 z I n) hq R E hS
        · cases hk
      show (if gd ρ g=true then vJ (x.ev ρ w) (fun v=>(∀w',S w'→x.ev ρ w'=some v)∧t.wp P Q S K (qu ρ d v) w) else t.wp P Q S K (qu ρ d undef) w);split at h
      · rename_i J;rw [if_pos (qaL z J)];cases I:evF l e x with
        |none=>rw [I] at h;cases h
        |some v=>
          rw [I] at h;obtain ⟨v',O,h2⟩:=qtc (hfa.up p E) z I;rw [O];refine ⟨fun w' hw'=> ?_,B v v' h2 h⟩;rw [u] at hw';obtain ⟨u',h3,h4⟩:=qtc (hw'.up p E) z I;rw [h3,h4.uniq h2]
      · rename_i J;rw [if_neg (by rw [qaL z J];decide)];exact B undef undef qah h
      · cases h
  · rename_i x b t;show x.wp P Q (fun a w'=>(b=true→S w')∧t.wp P Q S K a w') ρ w;have go:∀o1,qa9 P pr r s (qmg bs x) e [x]=some o1→xp σ w0 (fun a w'=>(b=true→S w')∧t.wp P Q S K a w') Q o1→x.wp P Q (fun a w'=>(b=true→S w')∧t.wp P Q S K a w') ρ w:=fun o1 O h2=>qkl hpr Y Z hq z hI O h2;unfold ql5 at h;split at h
    · rename_i e' s' O;refine go _ O fun X a w' A m n=> ?_;cases b with
      |true=>
        cases L with
        |none=>cases h
        |some l=>
          obtain ⟨p,hfa,u⟩:=hS l rfl;obtain ⟨hsm,h⟩:=ji (b:=qfV s'.H l) h;have hf2:=qwg p (Sg.le_trans E A) m.mr hsm;exact ⟨fun _=>by rw [u];exact hf2,Y.ord _ _ _ _ _ _ h j X w0 _ w' K Q S Z m n hq (R.le A) (Sg.le_trans E A) fun l' W=>by cases W;exact ⟨p,hf2,u⟩⟩
      |false=>
        exact ⟨(fun hb=>by cases hb),Y.ord _ _ _ _ _ _ h j X w0 _ w' K Q S Z m n hq (R.le A) (Sg.le_trans E A) (fun l' W=>by cases W)⟩
    · rename_i c s' O;cases h;exact go _ O fun X a w' A m=>R X a w' A m
    · cases h
  · rename_i x y;unfold qtV at h;split at h
    · rename_i e1 s1 e2 s2 hx hy;obtain ⟨hc,h⟩:=ji h;cases h;simp only [Bool.and_eq_true,beq_iff_eq] at hc;obtain ⟨⟨⟨c1,c2⟩,c3⟩,c4⟩:=hc;have g1:=Tr.eqB_ok (wx 4) c1;have g2:=Tr.eqB_ok (fun _ _ h=>qbQ h) c2;refine ⟨Y.ord _ _ _ _ _ _ hx j σ w0 ρ w K Q S Z hI z hq R E hS,Y.ord _ _ _ _ _ _ hy j σ w0 ρ w K Q S Z hI z hq ?_ E hS⟩;exact fun X a w' A m n=>R X a w' A (qE1 g2 (Nat.eq_of_beq_eq_true c3) c4 m) fun i v I=>n i v (by rw [←g1];exact I)
    · cases h
end
end Go.Eng
namespace Go.Eng
open Go.RowKit
theorem qzX {p:Nat→Prop}:∀n,p n→∃m,p m∧∀k,p k→m≤k:=by
  intro n
  induction n using Nat.strongRecOn with
  | _ n j =>
    intro b;by_cases h:∃k,k<n∧p k
    · obtain ⟨k,a,c⟩:=h;exact j k a c
    · exact ⟨n,b,fun k a=>Nat.le_of_not_lt fun l=>h ⟨k,l,a⟩⟩
section
variable {cx:Cx} {K:qa→World→Prop} {Q:Ks} {ρ:qa} {w:World}
theorem qg0 (I:Nat→qa→World→Prop) (y:Nat) {a:IR} (R:I y ρ w) (h:∀m b w',I m b w'→a.wp cx (fun c l=>∃n,n<m∧I n c l) Q b w'):(IR.loop a).wp cx K Q ρ w:=by
  have E:∀b w',∃m,(∃k,I k b w')→I m b w'∧∀k,I k b w'→m≤k:=fun b w'=>by
    by_cases z:∃k,I k b w'
    · obtain ⟨k,A⟩:=z;obtain ⟨m,u⟩:=qzX (p:=fun k=>I k b w') k A;exact ⟨m,fun _=>u⟩
    · exact ⟨0,fun h=>absurd h z⟩
  obtain ⟨μ,t⟩:∃μ:qa→World→Nat,∀b w',(∃k,I k b w')→I (μ b w') b w'∧∀k,I k b w'→μ b w'≤k:=by
    obtain ⟨f,O⟩:=Classical.axiomOfChoice (r:=fun (x:qa×World) m=>(∃k,I k x.1 x.2)→I m x.1 x.2∧∀k,I k x.1 x.2→m≤k) fun x=>E x.1 x.2;exact ⟨fun b w'=>f (b,w'),fun b w'=>O (b,w')⟩
  refine yZ (fun b w'=>∃k,I k b w') μ ⟨y,R⟩ fun b w' J=> ?_;obtain ⟨B,_⟩:=t b w' J;refine IR.wp_mono (h _ b w' B) ?_ (fun _ _ _ h=>h) (fun _ _ h=>h) (fun _ _ _ h=>h) (fun h=>h) ⟨fun h=>h,fun h=>h⟩;rintro c l ⟨n,u,j⟩;exact ⟨⟨n,j⟩,Nat.lt_of_le_of_lt ((t c l ⟨n,j⟩).2 n j) u⟩
end
end Go.Eng
namespace Go.Eng
open Go.RowKit
def qfi (P:Program) (G0:World→Prop) (prim:qaZ):Prop:=∀f args s v s',prim f args s=some (v,s')→∀(σ:Sg) (w0 w:World) (args':List Value),G0 w0→Iv σ w0 s w→qn σ args args'→Calls P f args'.toArray w (vN σ w0 (.ret v s'))
def qjz (P:Program) (G0:World→Prop) (tr:Option TrP):Prop:=∀q,tr=some q→∀r,Sound P G0 r→∀s args o,qfq P r s q args=some o→∀(σ:Sg) (w0 w:World) (args':List Value),G0 w0→Iv σ w0 s w→qn σ args args'→Calls P q.f args'.toArray w (vN σ w0 o)
section
variable {P:Program} {G0:World→Prop} {r:Sx→Tk→Option Ou} {σ:Sg} {w0 w:World} {ρ:qa} {e:Tr Value} {s:Sx} {K:qa→World→Prop} {Q:Ks} {o:Ou} {pr:TypeId→Bool} {prim:qaZ} {tr:Option TrP} {sk:FuncId→Nat→List Nat}
theorem qzo (j:Iv σ w0 s w) (a:ER σ e ρ) {rv:RV} {v:Value} (h:qgO s.H e rv=some v):∃c,rv.val ρ w=some c∧VR σ v c:=by
  unfold qgO at h;split at h
  · exact ⟨_,rfl,a _ _ h⟩
  · split at h
    · rename_i u b;exact qa1 j.mr (a _ _ b) h
    · cases h
  · split at h
    · rename_i u b;exact qa1 j.mr (a _ _ b) h
    · cases h
theorem qlp (l:Iv σ w0 s w) (j:ER σ e ρ):∀{rs:List RV} {vs:List Value},qda s.H e rs=some vs→∃a,vE ρ w rs=some a∧qn σ vs a
  |[],vs,h=>by cases h;exact ⟨[],rfl,trivial⟩
  | r :: rs, vs, h => by
    unfold qda at h;split at h
    · rename_i v y u c;cases h;obtain ⟨p,t,x⟩:=qzo l j u;obtain ⟨b,m,n⟩:=qlp l j c;exact ⟨p::b,by simp only [vE,t,Option.bind_some,m,Option.map_some],x,n⟩
    · cases h
theorem qu1:∀{vs j:List Value},qn σ vs j→VR σ (wB vs) (wB j)
  |[],[],_=> .tup rfl fun i x y h=>by simp at h
  |[_],[_],h=>h.1
  |a::b::l,c::d::m,h=>by
    obtain ⟨n,p⟩:=qn.arr (cs:=(a::b::l).toArray) (ds:=(c::d::m).toArray) (by simpa using h);exact .tup n p
  |[],_::_,h=>h.elim
  |_::_,[],h=>h.elim
  |[_],_::_::_,h=>h.2.elim
  |_::_::_,[_],h=>h.2.elim
theorem qui:∀(l:List Value) (k:Nat) (e:Tr Value),k+l.length≤vk→∀i,(Jk l k e).get i=if k≤i∧i<k+l.length then l[i - k]? else e.get i
  |[],k,e,_,i=>by
    rw [if_neg (by simp only [List.length_nil];omega)];rfl
  | v :: l, k, e, h, i => by
    simp only [List.length_cons] at h;show (Jk l (k+1) (e.set k v)).get i=_;rw [qui l (k+1) _ (by omega) i,Tr.get_set _ _ (by omega)];by_cases b:k+1≤i∧i<k+1+l.length
    · rw [if_pos b,if_pos (by simp;omega),show i - k=(i - (k+1))+1 by omega];simp
    · rw [if_neg b];by_cases a:i=k
      · subst a;simp
      · rw [if_neg a,if_neg (by simp;omega)]
theorem qtW (hr : Sound P G0 r) (hg : G0 w0) {f : FuncId} {args a : List Value} (hI : Iv σ w0 s w) (hv : qn σ args a) (h : qe2 r s args (fnX P f) = some o) : Calls P f a.toArray w (vN σ w0 o) := by
  unfold qe2 at h;split at h
  · rename_i F j;obtain ⟨hc,h⟩:=ji h;simp only [Bool.and_eq_true,Nat.ble_eq,Nat.blt_eq] at hc;unfold fnX at j;split at j
    · cases j
    · rename_i fn z;split at j
      · cases j
      · rename_i c Z;split at j
        · rename_i ir rs b E;rw [qFD] at b;obtain ⟨A,j⟩:=ji j;cases j;simp only [Nat.ble_eq] at A;dsimp only at hc;have Y:xu fn (List.range fn.ntmps)=true:=by
            simp only [xu,Bool.and_eq_true,decide_eq_true_eq,List.all_eq_true];exact ⟨A,fun x hx=>List.mem_range.1 hx⟩
          have hlen:=hv.len;have u:a.toArray.size≤fn.ntmps:=by simp;omega
          have W:ER σ (Jk args 0 .lf) (x8 (List.range fn.ntmps) a.toArray):=by
            intro i v B;rw [qui args 0 _ (by omega)] at B;split at B
            · rename_i hi2;rw [Nat.sub_zero] at B;obtain ⟨v',J,X⟩:=hv.get i v B;have:x8 (List.range fn.ntmps) a.toArray i=v':=by
                unfold x8;rw [if_neg (by unfold gS;omega),if_pos (List.mem_range.2 (by omega))];simp [J]
              rw [this];exact X
            · cases B
          have hQ:∀R:Ending→World→Prop,Qn (qF rs R):=fun R _ _ _ _ h=>h;have y:∀(R:Ending→World→Prop),(∀o1,r s (.ir ⟨f,fn.ntmps,List.range fn.ntmps,ir,rs⟩ ir (Jk args 0 .lf))=some o1→xp σ w0 (qw rs R) (qF rs R) o1)→ir.norm.wp ⟨P,fn.ntmps,List.range fn.ntmps,[]⟩ (qw rs R) (qF rs R) (x8 (List.range fn.ntmps) a.toArray) w:=by
            intro R hR;rw [IR.norm_wp];cases p:r s (.ir ⟨f,fn.ntmps,List.range fn.ntmps,ir,rs⟩ ir (Jk args 0 .lf)) with
            |none=>unfold qg2 at h;rw [p] at h;cases h
            |some o1=>exact hr.ir _ _ _ _ _ p σ w0 _ w _ _ hg hI W (hQ R) (hR o1 p)
          have fin:ir.norm.wp ⟨P,fn.ntmps,List.range fn.ntmps,[]⟩ (qw rs (vN σ w0 o)) (qF rs (vN σ w0 o)) (x8 (List.range fn.ntmps) a.toArray) w:=by
            refine y _ fun o1 p=> ?_;unfold qg2 at h;rw [p] at h;have n:∀e s',qeJ rs e s'=some o→∀m ρ w,σ.le m→Iv m w0 s' w→ER m e ρ→qw rs (vN σ w0 o) ρ w:=by
              intro e s' I m ρ w S l t;unfold qeJ at I;split at I
              · rename_i vs O;cases I;obtain ⟨vs',J,X⟩:=qlp l t O;unfold qw;rw [J];exact ⟨m,_,S,l,qu1 X,rfl⟩
              · cases I
            cases o1 with
            |go e s'=>exact n e s' h
            |rt e s'=>exact n e s' h
            |pn c s'=>
              cases h;exact fun m ρ w S l=>⟨m,S,l,rfl⟩
            |ex i e s'=>cases h
            |ret v s'=>cases h
          cases c with
          |scope c'=>exact qjp z Z b rfl Y E u fin
          |_=>exact qtM z Z b rfl Y E u fin
        · cases j
  · cases h
theorem qFX (t : qfi P G0 prim) (p : qjz P G0 tr) (n : Sound P G0 r) (b : G0 w0) {f : FuncId} {args a : List Value} (c : Iv σ w0 s w) (j : qn σ args a) (h : qjq P prim tr r s f args = some o) : Calls P f a.toArray w (vN σ w0 o) := by
  unfold qjq at h;split at h
  · rename_i v s' m;cases h;exact t f args s v s' m σ w0 w a b c j
  · split at h
    · rename_i q;cases l:Nat.beq q.f f with
      |true=>
        rw [l] at h;have:=p q rfl r n s args o h σ w0 w a b c j
        rwa [Nat.eq_of_beq_eq_true l] at this
      |false=>
        rw [l] at h;exact qtW n b c j h
    · exact qtW n b c j h
theorem qxF (W : yq P pr) (O : Sound P G0 r) (R : G0 w0) (S : Qn Q) {F : Fx} {id : Nat} {ops : Array Oper} (A : ER σ e ρ) (Z : Iv σ w0 s w) (h : qgi r s F e (qdq P F.nt F.V (sk F.f id) (qka ops) (.region id ops true)) = some o) (ha : xp σ w0 K Q o) :
    (IR.raw (.region id ops true)).wp ⟨P,F.nt,F.V,[]⟩ K Q ρ w:=by
  unfold qgi at h;split at h
  · rename_i t X;have hpn:∀d∈t.takes,∀(ρ:qa) v c w,Q.pn (qu ρ d v) c w→Q.pn ρ c w:=fun _ _ _ _ _ _ h=>S _ _ _ _ h;have j:Qn Q.noRd:=S;have n:xp σ w0 K Q.noRd o:=by cases o<;>exact ha
    refine qxD (cx:=⟨P,F.nt,F.V,[]⟩) X (ku σ (xZ s.H t e)) (fun w' hE hh=> ?_) hpn;have a:=Z.toExt hE;have m:=qfv (H:=s.H) a.mr (t:=t) A;have J:Grd σ (xZ s.H t e):=fun f I=>(m f I).1;have u:ku σ (xZ s.H t e) w':=fun f I=>(m f I).2;refine ⟨u, ?_⟩;have x:∀l,some (xZ s.H t e)=some l→Grd σ l∧ku σ l w'∧ku σ (xZ s.H t e)=ku σ l:=fun l Y=>by cases Y;exact ⟨J,u,rfl⟩
    cases y:(qe1 t&&(Qf t).all (fun d=>Nat.blt d F.nt)) with
    |true=>
      rw [y] at h;simp only [Bool.and_eq_true] at y;have E:∀d∈Qf t,d<F.nt:=fun d z=>by simpa [Nat.blt_eq] using List.all_eq_true.1 y.2 d z
      refine O.ord _ _ _ _ _ _ h σ σ w0 ρ w' K Q.noRd _ R ?_ A j n (Sg.le_refl σ) x;refine ⟨a.mr,fun i p B=> ?_,fun i B=> ?_,a.ap,a.ext,a.own⟩
      · have:=a.dom i p B;refine ⟨by dsimp only;omega,fun b=> ?_⟩;rcases List.mem_append.1 b with b|b
        · exact this.2 b
        · obtain ⟨d,_,z⟩:=List.mem_map.1 b;omega
      · rcases List.mem_append.1 B with b|b
        · have:=a.res i b;dsimp only;omega
        · obtain ⟨d,z,rfl⟩:=List.mem_map.1 b;have:=E d z;dsimp only;omega
    |false=>
      rw [y] at h;exact O.ord _ _ _ _ _ _ h σ σ w0 ρ w' K Q.noRd _ R a A j n (Sg.le_refl σ) x
  · cases h
theorem qAi (S : yq P pr) (z : Sound P G0 r) (A : G0 w0) (B : Qn Q) {F : Fx} {a : IR} (E : ∀ b, a = .loop b → (IR.loop b).wp ⟨P, F.nt, F.V, []⟩ K Q ρ w) (n : ER σ e ρ) (p : Iv σ w0 s w) (h : irX P sk r s F e a = some o) (l : xp σ w0 K Q o) : a.wp ⟨P, F.nt, F.V, []⟩ K Q ρ w := by
  unfold irX at h;split at h
  · cases h;exact l σ ρ w (Sg.le_refl σ) p n
  · exact z.sts _ _ _ _ h σ w0 ρ w K Q A p n B l
  · cases h
  · rename_i a b;have go:∀o1,r s (.ir F a e)=some o1→xp σ w0 (fun m w'=>b.wp ⟨P,F.nt,F.V,[]⟩ K Q m w') Q o1→(IR.seq a b).wp ⟨P,F.nt,F.V,[]⟩ K Q ρ w:=fun o1 R W=>z.ir _ _ _ _ _ R σ w0 ρ w _ Q A p n B W;cases x:r s (.ir F a e) with
    |none=>rw [x] at h;cases h
    |some o1=>
      rw [x] at h;refine go o1 x ?_;cases o1 with
      |go y s'=>exact fun I m w' J t u=>z.ir _ _ _ _ _ h I w0 m w' K Q A t u B (l.le J)
      |ex i y s'=>cases h;exact l
      |rt y s'=>cases h;exact l
      |pn c s'=>cases h;exact l
      |ret v s'=>cases h;exact l
  · rename_i c a b;show yo (c.ev ρ w) _ _;unfold qtG at h;split at h
    · rename_i Y X;obtain ⟨Z,R,W⟩:=xB p.mr n X;rw [R];cases W;cases Y with
      |true=>exact z.ir _ _ _ _ _ h σ w0 ρ w K Q A p n B l
      |false=>exact z.ir _ _ _ _ _ h σ w0 ρ w K Q A p n B l
    · cases h
  · rename_i i a;cases x:r s (.ir F a e) with
    |none=>rw [x] at h;cases h
    |some o1=>
      rw [x] at h;refine z.ir _ _ _ _ _ x σ w0 ρ w K _ A p n (fun ρ m c w=>B ρ m c w) ?_;cases o1 with
      |go y s'=>cases h;exact l
      |ex j y s'=>
        intro I m w' J t u;dsimp only
        replace h:(bif Nat.beq j i then some (Ou.go y s') else some (Ou.ex j y s'))=some o:=h
        cases O:Nat.beq j i with
        |true=>
          rw [O] at h;cases h;rw [if_pos (Nat.eq_of_beq_eq_true O)];exact l I m w' J t u
        |false=>
          rw [O] at h;cases h;rw [if_neg (fun e=>by subst e;simp at O)];exact l I m w' J t u
      |rt y s'=>cases h;exact l
      |pn c s'=>cases h;exact l
      |ret v s'=>cases h;exact l
  · exact E _ rfl
  · cases h;exact l σ ρ w (Sg.le_refl σ) p n
  · cases h;exact l σ ρ w (Sg.le_refl σ) p n
  · split at h
    · cases h;exact qgh (l σ ρ w (Sg.le_refl σ) p n)
    · exact qxF S z A B n p h l
    · cases h
theorem qkW (A : yq P pr) (hp : qfi P G0 prim) (ht : qjz P G0 tr) : ∀ n, Sound P G0 (kC P prim tr sk pr n) := by
  intro n
  induction n using Nat.strongRecOn with
  | _ n ih =>
    cases n with
    |zero=>exact ⟨fun _ _ _ _ _ h=>by simp [kC] at h,fun _ _ _ _ h=>by simp [kC] at h,fun _ _ _ _ _ _ h=>by simp [kC] at h,fun _ _ _ _ h=>by simp [kC] at h⟩
    |succ n=>
      have W:=ih n (Nat.lt_succ_self n);refine ⟨fun F a e s o h σ w0 ρ w K Q u y B I E=> ?_,fun l e s o h σ w0 ρ w K Q u y B I E=>qkl A W u I B y h E,fun L bs t e s o h σ0 σ w0 ρ w K Q S u y B I E h0 hS=>qzg A W u I B y h E h0 hS,fun f args s o h σ w0 w ab u y hv=>qFX hp ht W u y hv h⟩;refine qAi (sk:=sk) A W u I (fun b hb=> ?_) B y h E;subst hb;refine qg0 (fun m z w'=>m≤n+1∧∃O J s',kC P prim tr sk pr m s' (.ir F (.loop b) J)=some o∧σ.le O∧Iv O w0 s' w'∧ER O J z) (n+1) ⟨Nat.le_refl _,σ,e,s,h,Sg.le_refl σ,y,B⟩ fun m z w' hm=> ?_;obtain ⟨hmn,O,J,s',x,hl,Y,Z⟩:=hm;cases m with
      |zero=>simp [kC] at x
      |succ m=>
        have hrm:=ih m (by omega);have j:qfS (kC P prim tr sk pr m) F (.loop b) (kC P prim tr sk pr m s' (.ir F b J))=some o:=x;cases X:kC P prim tr sk pr m s' (.ir F b J) with
        |none=>rw [X] at j;cases j
        |some o1=>
          rw [X] at j;refine hrm.ir _ _ _ _ _ X O w0 z w' _ Q u Y Z I ?_;have p:=E.le hl;cases o1 with
          |go e2 R=>exact fun υ ρ2 w2 hl2 hI2 aa=>⟨m,Nat.lt_succ_self m,by omega,υ,e2,R,j,Sg.le_trans hl hl2,hI2,aa⟩
          |ex i e2 R=>cases j;exact p
          |rt e2 R=>cases j;exact p
          |pn c R=>cases j;exact p
          |ret v R=>cases j;exact p
end
end Go.Eng
namespace Go.Eng
open Go.RowKit
theorem Ex.ev_ext {w w':World} (h:qb w w') {ρ:qa}:∀(e:Ex) {v:Value},e.ev ρ w=some v→e.ev ρ w'=some v
  | .var _,_,j=>j
  | .const _,_,j=>j
  | .op1 k x,v,j=>by
    simp only [Ex.ev,Option.bind_eq_some_iff] at j⊢;obtain ⟨a,m,l⟩:=j;exact ⟨a,Ex.ev_ext h x m,qlC h l⟩
  | .op2 k x y,v,j=>by
    simp only [Ex.ev,Option.bind_eq_some_iff] at j⊢;obtain ⟨a,m,b,n,l⟩:=j;exact ⟨a,Ex.ev_ext h x m,b,Ex.ev_ext h y n,l⟩
  | .op3 k x y z,v,j=>by
    simp only [Ex.ev,Option.bind_eq_some_iff] at j⊢;obtain ⟨a,m,b,n,c,p,l⟩:=j;exact ⟨a,Ex.ev_ext h x m,b,Ex.ev_ext h y n,c,Ex.ev_ext h z p,l⟩
  | .op4 k x y z u,v,j=>by
    simp only [Ex.ev,Option.bind_eq_some_iff] at j⊢;obtain ⟨a,m,b,n,c,p,d,t,l⟩:=j;exact ⟨a,Ex.ev_ext h x m,b,Ex.ev_ext h y n,c,Ex.ev_ext h z p,d,Ex.ev_ext h u t,l⟩
  | .ite c x y,v,j=>by
    simp only [Ex.ev,Option.bind_eq_some_iff] at j⊢;obtain ⟨a,m,l⟩:=j;refine ⟨a,Ex.ev_ext h c m, ?_⟩;unfold QP at l⊢;split at l
    · exact Ex.ev_ext h x l
    · exact Ex.ev_ext h y l
    · cases l
def Pu (P:Program) (w0:World) (f:FuncId) (args:Array Value) (v:Value):Prop:=qf P f=true∧∀w,qb w0 w→Calls P f args w fun e w'=>e= .returned v∧qb w w'
abbrev xU:=FuncId→List Value→Option Value
def qbP (C:xU) (ρ:qa):Op→Option Value
  | .call {callee:= .value (.func f),args, .. }=>C f (args.toList.map (qd ρ))
  |_=>none
def QW (C:xU) (w0:World):St→(qa→Prop)→qa→Prop
  | .asg g d e,K,ρ=>if gd ρ g then vJ (e.ev ρ w0) (fun v=>K (qu ρ d v)) else K (qu ρ d undef)
  | .eff g dst op _,K,ρ=>if gd ρ g then vJ (qbP C ρ op) (fun v=>K (qm ρ dst v)) else K (qm ρ dst undef)
def mw (C:xU) (w0:World):List St→(qa→Prop)→qa→Prop
  |[],K,ρ=>K ρ
  |s::r,K,ρ=>QW C w0 s (mw C w0 r K) ρ
structure Kp where
  ex:Nat→qa→Prop
  rt:qa→Prop
def Kp.blk (Q:Kp) (i:Nat) (K:qa→Prop):Kp:={Q with ex:=fun j=>if j=i then K else Q.ex j}
def IR.mi (C:xU) (w0:World):IR→(qa→Prop)→Kp→qa→Prop
  | .skip,K,_,ρ=>K ρ
  | .reg l,K,_,ρ=>mw C w0 l K ρ
  | .drw l,K,_,ρ=>mw C w0 l K ρ
  | .seq a b,K,Q,ρ=>a.mi C w0 (fun ρ'=>b.mi C w0 K Q ρ') Q ρ
  | .cond c a b,K,Q,ρ=>yo (c.ev ρ w0) (a.mi C w0 K Q ρ) (b.mi C w0 K Q ρ)
  | .block id a,K,Q,ρ=>a.mi C w0 K (Q.blk id K) ρ
  | .loop a,_,Q,ρ=>∃(I:qa→Prop) (μ:qa→Nat),I ρ∧∀ρ',I ρ'→a.mi C w0 (fun ρ''=>I ρ''∧μ ρ''<μ ρ') Q ρ'
  | .exit id,_,Q,ρ=>Q.ex id ρ
  | .ret,_,Q,ρ=>Q.rt ρ
  | .raw _,_,_,_=>False
section
variable {P:Program} {C:xU} {w0:World}
def Qq (P:Program) (C:xU) (w0:World):Prop:=∀f l v,C f l=some v→Pu P w0 f l.toArray v
theorem qbT (n : Qq P C w0) {Q : Ks} : ∀ (l : List St) {K : qa → Prop} {K' : qa → World → Prop} {ρ : qa} {w : World}, qb w0 w → (∀ m w', qb w0 w' → K m → K' m w') → mw C w0 l K ρ → qV P Q l K' ρ w
  |[],_,_,_,_,b,c,h=>c _ _ b h
  | .asg g d e::r,K,K',ρ,w,b,c,h=>by
    simp only [qV,St.wp,mw,QW] at h⊢;split
    · rename_i j;rw [if_pos j] at h;cases a:e.ev ρ w0 with
      |none=>rw [a] at h;exact h.elim
      |some v=>
        rw [a] at h;rw [Ex.ev_ext b e a];exact qbT n r b c h
    · rename_i j;rw [if_neg j] at h;exact qbT n r b c h
  | .eff g dst op ty::r,K,K',ρ,w,b,c,h=>by
    simp only [qV,St.wp,mw,QW] at h⊢;split
    · rename_i j;rw [if_pos j] at h;cases a:qbP C ρ op with
      |none=>rw [a] at h;exact h.elim
      |some v=>
        rw [a] at h;unfold qbP at a;split at a
        · rename_i f args u;obtain ⟨x,t⟩:=n _ _ _ a;simp only [qFj];refine ⟨x, ?_⟩;have y:(args.toList.map (qd ρ)).toArray=args.map (qd ρ):=Array.ext' (by rw [Array.toList_map]);rw [←y];refine (t w b).mono ?_;rintro _ w' ⟨rfl,p⟩;exact qbT n r (b.trans' p) c h
        · cases a
    · rename_i j;rw [if_neg j] at h;exact qbT n r b c h
theorem qbU (p : Qq P C w0) : ∀ (l : List St) {K K' : qa → Prop} {ρ : qa} {w : World}, qb w0 w → (∀ m, K m → K' m) → mw C w0 l K ρ → ja P w l K' ρ
  |[],_,_,_,_,b,c,h=>c _ h
  | .asg g d e::r,K,K',ρ,w,b,c,h=>by
    simp only [ja,mw,QW] at h⊢;split
    · rename_i j;rw [if_pos j] at h;cases a:e.ev ρ w0 with
      |none=>rw [a] at h;exact h.elim
      |some v=>
        rw [a] at h;rw [Ex.ev_ext b e a];exact qbU p r b c h
    · rename_i j;rw [if_neg j] at h;exact qbU p r b c h
  | .eff g dst op ty::r,K,K',ρ,w,b,c,h=>by
    simp only [ja,mw,QW] at h⊢;split
    · rename_i j;rw [if_pos j] at h;cases a:qbP C ρ op with
      |none=>rw [a] at h;exact h.elim
      |some v=>
        rw [a] at h;refine ⟨v, ?_,qbU p r b c h⟩;unfold qbP at a;split at a
        · rename_i f args y;obtain ⟨z,x⟩:=p _ _ _ a;refine ⟨z,fun u n=> ?_⟩;have A:(args.toList.map (qd ρ)).toArray=args.map (qd ρ):=Array.ext' (by rw [Array.toList_map]);rw [←A];refine (x u (b.trans' n)).mono ?_;rintro _ w' ⟨rfl,t⟩;exact ⟨rfl,n.trans' t⟩
        · cases a
    · rename_i j;rw [if_neg j] at h;exact qbU p r b c h
theorem yY {cx:Cx} (x:Qq cx.P C w0):∀(a:IR) {K:qa→Prop} {K':qa→World→Prop} {Q:Kp} {Q':Ks} {ρ:qa} {w:World},qb w0 w→(∀j w',qb w0 w'→K j→K' j w')→
    (∀i j w',qb w0 w'→Q.ex i j→Q'.ex i j w')→(∀j w',qb w0 w'→Q.rt j→Q'.rt j w')→a.mi C w0 K Q ρ→a.wp cx K' Q' ρ w
  | .skip,_,_,_,_,_,_,m,p,_,_,h=>p _ _ m h
  | .reg l,_,_,_,_,_,_,m,p,_,_,h=>qbT x l m p h
  | .drw l,_,_,_,_,_,_,m,p,_,_,h=>qbU x l m (fun j A w' n=>p _ _ (m.trans' n) A) h
  | .seq a b,_,_,_,_,_,_,m,p,u,t,h=>yY x a m (fun _ _ n A=>yY x b n p u t A) u t h
  | .cond c a b,K,K',Q,Q',ρ,w,m,p,u,t,h=>by
    simp only [IR.mi] at h;simp only [IR.wp];cases B:c.ev ρ w0 with
    |none=>rw [B] at h;exact h.elim
    |some v=>
      rw [B] at h;rw [Ex.ev_ext m c B];exact qji (fun h=>yY x a m p u t h) (fun h=>yY x b m p u t h) h
  | .block id a,K,K',Q,Q',ρ,w,m,p,u,t,h=>by
    simp only [IR.mi] at h;simp only [IR.wp];refine yY x a (Q:=Q.blk id K) m p (fun i j w' n y=> ?_) t h;simp only [Kp.blk] at y;show (if i=id then K' else Q'.ex i) j w';split
    · rename_i e;rw [if_pos e] at y;exact p _ _ n y
    · rename_i e;rw [if_neg e] at y;exact u _ _ _ n y
  | .loop a,K,K',Q,Q',ρ,w,m,p,u,t,h=>by
    obtain ⟨I,μ,W,O⟩:=h;exact ⟨fun j w'=>I j∧qb w0 w',fun j _=>μ j,⟨W,m⟩,fun j w' ⟨R,n⟩=>yY x a n (fun E S z ⟨J,X⟩=>⟨⟨J,z⟩,X⟩) u t (O j R)⟩
  | .exit id,_,_,_,_,_,_,m,_,u,_,h=>u _ _ _ m h
  | .ret,_,_,_,_,_,_,m,_,_,t,h=>t _ _ m h
end
section
variable {C:xU} {w0:World} {K:qa→Prop} {Q:Kp} {ρ:qa}
@[simp] theorem qHW {a b:IR}:(IR.seq a b).mi C w0 K Q ρ=a.mi C w0 (b.mi C w0 K Q) Q ρ:=rfl
@[simp] theorem qHY {l:List St}:(IR.reg l).mi C w0 K Q ρ=mw C w0 l K ρ:=rfl
@[simp] theorem qH0 {l:List St}:(IR.drw l).mi C w0 K Q ρ=mw C w0 l K ρ:=rfl
@[simp] theorem qHV:IR.skip.mi C w0 K Q ρ=K ρ:=rfl
@[simp] theorem qHZ {i:Nat}:(IR.exit i).mi C w0 K Q ρ=Q.ex i ρ:=rfl
@[simp] theorem qHX:IR.ret.mi C w0 K Q ρ=Q.rt ρ:=rfl
@[simp] theorem qH2 {i:Nat} {a:IR}:(IR.block i a).mi C w0 K Q ρ=a.mi C w0 K (Q.blk i K) ρ:=rfl
def mA (g:Bool) (o:Option Value) (d:Option Nat) (C:xU) (w0:World) (r:List St) (K:qa→Prop) (ρ:qa):Prop:=if g then vJ o (fun v=>mw C w0 r K (qm ρ d v)) else mw C w0 r K (qm ρ d undef)
def mC (o:Option Value) (a b:IR) (C:xU) (w0:World) (K:qa→Prop) (Q:Kp) (ρ:qa):Prop:=yo o (a.mi C w0 K Q ρ) (b.mi C w0 K Q ρ)
@[simp] theorem qH5 {d:Option Nat} {v:Value} {r:List St}:mA true (some v) d C w0 r K ρ=mw C w0 r K (qm ρ d v):=rfl
@[simp] theorem qH6 {d:Option Nat} {o:Option Value} {r:List St}:mA false o d C w0 r K ρ=mw C w0 r K (qm ρ d undef):=rfl
theorem qzP {b:Bool} {d:Option Nat} {o:Option Value} {r:List St} (a:b=true→mA true o d C w0 r K ρ) (c:b=false→mw C w0 r K (qm ρ d undef)):mA b o d C w0 r K ρ:=by
  cases b
  · exact c rfl
  · exact a rfl
theorem qgZ {b:Bool} {d:Option Nat} {v:Value} {r:List St} (a:b=true→mw C w0 r K (qm ρ d v)) (c:b=false→mw C w0 r K (qm ρ d undef)):mA b (some v) d C w0 r K ρ:=qzP a c
theorem qgY {c:Bool} {a b:IR} (h:c=true→a.mi C w0 K Q ρ) (j:c=false→b.mi C w0 K Q ρ):mC (some (.bool c)) a b C w0 K Q ρ:=by
  cases c
  · exact j rfl
  · exact h rfl
@[simp] theorem qH3 {a b:IR}:mC (some (.bool true)) a b C w0 K Q ρ=a.mi C w0 K Q ρ:=rfl
@[simp] theorem qH4 {a b:IR}:mC (some (.bool false)) a b C w0 K Q ρ=b.mi C w0 K Q ρ:=rfl
theorem qzO {a b:IR} {c:Bool}:mC (some (.bool c)) a b C w0 K Q ρ=if c then a.mi C w0 K Q ρ else b.mi C w0 K Q ρ:=by cases c<;>rfl
@[simp] theorem qH1 {c:Ex} {a b:IR}:(IR.cond c a b).mi C w0 K Q ρ=mC (c.ev ρ w0) a b C w0 K Q ρ:=rfl
@[simp] theorem qHR:mw C w0 [] K ρ=K ρ:=rfl
@[simp] theorem qHT {g:Option (Nat×Bool)} {d:Nat} {e:Ex} {r:List St}:mw C w0 (.asg g d e::r) K ρ=mA (gd ρ g) (e.ev ρ w0) (some d) C w0 r K ρ:=rfl
@[simp] theorem qHS {g:Option (Nat×Bool)} {d:Option Nat} {f:FuncId} {args:Array Operand} {a:Array TypeId} {ty:TypeId} {r:List St}:
    mw C w0 (.eff g d (.call {callee:= .value (.func f),args:=args,argTypes:=a}) ty::r) K ρ=mA (gd ρ g) (C f (args.toList.map (qd ρ))) d C w0 r K ρ:=rfl
@[simp] theorem qIi (Q:Kp) (i:Nat) (K:qa→Prop):(Q.blk i K).rt=Q.rt:=rfl
@[simp] theorem qIj (Q:Kp) (i j:Nat) (K:qa→Prop) (ρ:qa):(Q.blk i K).ex j ρ=if j=i then K ρ else Q.ex j ρ:=by simp only [Kp.blk];split<;>rfl
theorem IR.mi_mono : ∀ {a : IR} {K K' : qa → Prop} {Q : Kp} {ρ : qa}, (∀ ρ, K ρ → K' ρ) → a.mi C w0 K Q ρ → a.mi C w0 K' Q ρ := by
  intro a;have x:∀(l:List St) {K K':qa→Prop} {ρ:qa},(∀ρ,K ρ→K' ρ)→mw C w0 l K ρ→mw C w0 l K' ρ:=by
    intro l
    induction l with
    |nil=>intro K K' ρ j h;exact j _ h
    |cons s r y=>
      intro K K' ρ j h;cases s with
      |asg g d e=>
        simp only [mw,QW] at h⊢;split
        · rename_i t;rw [if_pos t] at h;exact qdv (fun _ h=>y j h) h
        · rename_i t;rw [if_neg t] at h;exact y j h
      |eff g d op ty=>
        simp only [mw,QW] at h⊢;split
        · rename_i t;rw [if_pos t] at h;exact qdv (fun _ h=>y j h) h
        · rename_i t;rw [if_neg t] at h;exact y j h
  have key:∀(a:IR) {K K':qa→Prop} {Q Q':Kp} {ρ:qa},(∀ρ,K ρ→K' ρ)→(∀i ρ,Q.ex i ρ→Q'.ex i ρ)→(∀ρ,Q.rt ρ→Q'.rt ρ)→a.mi C w0 K Q ρ→a.mi C w0 K' Q' ρ:=by
    intro a
    induction a with
    |skip=>intro K K' Q Q' ρ j _ _ h;exact j _ h
    |reg l=>intro K K' Q Q' ρ j _ _ h;exact x l j h
    |drw l=>intro K K' Q Q' ρ j _ _ h;exact x l j h
    |seq a b m u=>intro K K' Q Q' ρ j p n h;exact m (fun _ h=>u j p n h) p n h
    |cond c a b m u=>intro K K' Q Q' ρ j p n h;exact qji (fun h=>m j p n h) (fun h=>u j p n h) h
    |block id a m=>
      intro K K' Q Q' ρ j p n h;refine m (Q:=Q.blk id K) (Q':=Q'.blk id K') j (fun i ρ h=> ?_) n h;simp only [Kp.blk] at h⊢;split
      · rename_i e;rw [if_pos e] at h;exact j _ h
      · rename_i e;rw [if_neg e] at h;exact p _ _ h
    |loop a m=>intro K K' Q Q' ρ j p n ⟨I,μ,B,h⟩;exact ⟨I,μ,B,fun z A=>m (fun _ h=>h) p n (h z A)⟩
    |exit id=>intro K K' Q Q' ρ j p n h;exact p _ _ h
    |ret=>intro K K' Q Q' ρ j p n h;exact n _ h
    |raw c=>intro K K' Q Q' ρ j p n h;exact h.elim
  intro K K' Q ρ j h;exact key a j (fun _ _ h=>h) (fun _ h=>h) h
theorem qmr (s n:Nat) (I:Nat→qa→Prop) {a:IR} (m:ρ s= .int .i64 0) (t:I 0 ρ)
    (h:∀(k:Nat) (b:qa),k≤n→b s= .int .i64 k→I k b→a.mi C w0 (fun c=>k<n∧c s= .int .i64 ((k:Int)+1)∧I (k+1) c) Q b):(IR.loop a).mi C w0 K Q ρ:=by
  refine ⟨fun b=>∃k:Nat,k≤n∧b s= .int .i64 k∧I k b,fun b=>n - (RowKit.intOf (b s)).toNat,⟨0,Nat.zero_le _,m,t⟩, ?_⟩;rintro b ⟨k,u,p,x⟩;refine IR.mi_mono ?_ (h k b u p x);rintro c ⟨y,j,l⟩;refine ⟨⟨k+1,by omega,by rw [j];simp,l⟩, ?_⟩;show n - (intOf (c s)).toNat<n - (intOf (b s)).toNat;rw [j,p];simp;omega
end
section
variable {C:xU} {w0:World} {K:qa→Prop} {Q:Kp} {ρ:qa}
theorem qzJ (s b n:Nat) (I:Nat→qa→Prop) {a:IR} (p:ρ s= .int .i64 b) (y:b≤n) (B:I b ρ)
    (h:∀(k:Nat) (c:qa),b≤k→k≤n→c s= .int .i64 k→I k c→a.mi C w0 (fun j=>k<n∧j s= .int .i64 ((k:Int)+1)∧I (k+1) j) Q c):(IR.loop a).mi C w0 K Q ρ:=by
  refine ⟨fun c=>∃k:Nat,b≤k∧k≤n∧c s= .int .i64 k∧I k c,fun c=>n - (RowKit.intOf (c s)).toNat,⟨b,Nat.le_refl _,y,p,B⟩, ?_⟩;rintro c ⟨k,t,x,u,z⟩;refine IR.mi_mono ?_ (h k c t x u z);rintro j ⟨A,l,m⟩;refine ⟨⟨k+1,by omega,by omega,by rw [l];simp,m⟩, ?_⟩;show n - (intOf (j s)).toNat<n - (intOf (c s)).toNat;rw [l,u];simp;omega
end
section
variable {cx:Cx} {K:qa→World→Prop} {Q:Ks} {ρ:qa} {w:World}
theorem qzQ (s b n:Nat) (I:Nat→qa→World→Prop) {a:IR} (t:ρ s= .int .i64 b) (z:b≤n) (E:I b ρ w)
    (h:∀(k:Nat) (c:qa) (w':World),b≤k→k≤n→c s= .int .i64 k→I k c w'→a.wp cx (fun j p=>k<n∧j s= .int .i64 ((k:Int)+1)∧I (k+1) j p) Q c w'):(IR.loop a).wp cx K Q ρ w:=by
  refine yZ (fun c w'=>∃k:Nat,b≤k∧k≤n∧c s= .int .i64 k∧I k c w') (fun c _=>n - (RowKit.intOf (c s)).toNat) ⟨b,Nat.le_refl _,z,t,E⟩ ?_;rintro c w' ⟨k,u,y,x,A⟩;refine IR.wp_mono (h k c w' u y x A) ?_ (fun _ _ _ h=>h) (fun _ _ h=>h) (fun _ _ _ h=>h) (fun h=>h) ⟨fun h=>h,fun h=>h⟩;rintro j p ⟨B,l,m⟩;refine ⟨⟨k+1,by omega,by omega,by rw [l];simp,m⟩, ?_⟩;show n - (intOf (j s)).toNat<n - (intOf (c s)).toNat;rw [l,x];simp;omega
end
def ql6:xU:=fun _ _=>none
theorem qzh (P:Program) (w0:World):Qq P ql6 w0:=fun _ _ _ h=>by cases h
theorem qyc {cx:Cx} {C:xU} {w0 w:World} (c:Qq cx.P C w0) (j:qb w0 w) {ir:IR} {rs:List RV} {R:Ending→World→Prop} {ρ:qa} (T:qa→Prop) (b:∀a w',qb w0 w'→T a→qw rs R a w')
    (h:ir.mi C w0 T ⟨fun _ _=>False,T⟩ ρ):ir.wp cx (qw rs R) (qF rs R) ρ w:=
  yY c ir j b (fun _ _ _ _ (h:False)=>h.elim) b h
theorem qlG {cx:Cx} {C:xU} {w0 w:World} {l:List St} {a:IR} (c:Qq cx.P C w0) (j:qb w0 w) {rs:List RV} {R:Ending→World→Prop} {ρ:qa} (T:qa→Prop) (m:∀b w',qb w0 w'→T b→qw rs R b w')
    (h:(IR.seq (.reg l) a).mi C w0 T ⟨fun _ _=>False,T⟩ ρ):qV cx.P (qF rs R) l (a.wp cx (qw rs R) (qF rs R)) ρ w:=qyc (ir:= .seq (.reg l) a) c j T m h
end Go.Eng
namespace Go.L01
open Go.Eng
abbrev Bs:=List UInt8
structure Tok where
 kind:Nat
 text:Bs
 line:Int
 deriving DecidableEq
def ve (c:UInt8):Bool:=decide (97≤c.toNat)&&decide (c.toNat≤122)
def qO (c:UInt8):Bool:=decide (48≤c.toNat)&&decide (c.toNat≤57)
def part (c:UInt8):Bool:=ve c||qO c
def yp (c:UInt8):Bool:=decide (c=32)||decide (c=9)||decide (c=10)
def vO:List Bs:=
 [[97,110,100],[97,114,114,97,121],[98,101,103,105,110],[98,111,111,108],[98,114,101,97,107],[99,108,117,115,116,101,114],[100,111],[100,111,119,110],[101,108,115,101],[101,108,115,101,105,102],[101,110,100],[101,120,99,101,112,116],[102,97,108,115,101],[102,111,114],[104,97,115],[105,102],[105,110],[105,110,116],[105,115],[105,116,101,114],[109,111,100],[110,105,108],[110,111,116],[110,117,108,108],[111,110,101,111,102],[111,114],[111,116,104,101,114,115],[112,114,111,99],[112,117,116],[114,101,99,111,114,100],[114,101,112],[114,101,116,117,114,110],[114,101,116,117,114,110,115],[115,105,103,110,97,108],[115,105,103,110,97,108,115],[116,97,103],[116,97,103,99,97,115,101],[116,104,101,110],[116,114,117,101],[117,112],[118,97,114],[119,104,101,110],[119,104,101,114,101],[119,104,105,108,101],[121,105,101,108,100],[121,105,101,108,100,115]]
def qW:List Bs:=
 [[36],[40],[41],[42],[43],[44],[45],[46],[47],[58],[58,61],[59],[60],[60,61],[61],[63],[91],[93],[95],[123],[125]]
def qP (s:Bs):Nat:=(s.takeWhile part).length
def jO (s:Bs):Nat:=(s.takeWhile qO).length
def jV (s:Bs):Bool:=vO.contains s
def qh (s:Bs):Bool:=decide (0<s.length)&&decide (s.length≤12)&&ve (s.getD 0 0)&&decide (qP s=s.length)&& !jV s
def most:Bs:=[49,48,48,48,48,48,48,48,48,48]
def jz (s:Bs):Bool:=
 !(decide (s.length=0)||decide (10<s.length)||decide (jO s≠s.length)||(decide (1<s.length)&&decide (s.getD 0 0=48)))&&(decide (s.length<10)||decide (s=most))
def js (s:Bs):Bool:=qW.contains s
def right (k:Nat) (s:Bs):Bool:=
 if k=1 then qh s else if k=2 then jV s else if k=3 then jz s else if k=4 then js s else false
def first (s:Bs):Nat×Nat×Int:=
 if ve (s.getD 0 0) then (if jV (s.take (qP s)) then (2,qP s,0) else if 12<qP s then (0,0,12) else (1,qP s,0))
 else if qO (s.getD 0 0) then (if jz (s.take (jO s)) then (3,jO s,0) else (0,0,11))
 else if 1<s.length∧js (s.take 2)=true then (4,2,0) else if js (s.take 1) then (4,1,0) else (0,0,10)
def jb (s:Bs):Nat:=(s.takeWhile fun c=>decide (c≠10)).length
inductive Res where
 |bad (e line:Int)
 |ok (ts:List Tok) (cs:List Bs)
 deriving DecidableEq
def Res.add (out:List Tok) (com:List Bs):Res→Res
 | .bad e l=> .bad e l
 | .ok ts cs=> .ok (out++ts) (com++cs)
def kQ:Nat→Bs→Int→Res
 |0,_,_=> .ok [] []
 |_+1,[],_=> .ok [] []
 |f+1,c::r,l=>
  if c=10 then kQ f r (l+1)
  else if c=32∨c=9 then kQ f r l
  else if c=37 then (kQ f ((c::r).drop (jb (c::r))) l).add [] [(c::r).take (jb (c::r))]
  else if (first (c::r)).2.2≠0 then .bad (first (c::r)).2.2 l
  else (kQ f ((c::r).drop (first (c::r)).2.1) l).add [⟨(first (c::r)).1,(c::r).take (first (c::r)).2.1,l⟩] []
def qX (s:Bs) (l:Int):Res:=kQ s.length s l
def ql (s:Bs):Res:=if 20000<s.length then .bad 2 0 else qX s 1
def Res.toks:Res→List Tok| .ok ts _=>ts|_=>[]
def Res.coms:Res→List Bs| .ok _ cs=>cs|_=>[]
def Res.err:Res→Int| .bad e _=>e|_=>0
def Res.at:Res→Int| .bad _ l=>l|_=>0
theorem qk9 {s:Bs} (h:ve (s.getD 0 0)=true):0<qP s:=by
 cases s with
 |nil=>simp [ve] at h
 |cons c r=>
  have a:part c=true:=by simp [part];exact .inl (by simpa using h)
  simp [qP,List.takeWhile_cons,a]
theorem qFm {s:Bs} (h:qO (s.getD 0 0)=true):0<jO s:=by
 cases s with
 |nil=>simp [qO] at h
 |cons c r=>
  have a:qO c=true:=by simpa using h
  simp [jO,List.takeWhile_cons,a]
theorem yB {α:Type} (p:α→Bool) (s:List α):(s.takeWhile p).length≤s.length:=(List.takeWhile_sublist p).length_le
theorem qaM {s:Bs} (h:(first s).2.2=0) (m:s≠[]):0<(first s).2.1∧(first s).2.1≤s.length:=by
 have t:0<s.length:=List.length_pos_iff.2 m;unfold first at h⊢
 split
 ·rename_i c;rw [if_pos c] at h;have b:=qk9 c;have a:qP s≤s.length:=yB _ _;split
  ·exact ⟨b,a⟩
  ·rename_i p;rw [if_neg p] at h;split
   ·rename_i l;rw [if_pos l] at h;cases h
   ·exact ⟨b,a⟩
 ·rename_i c;rw [if_neg c] at h;split
  ·rename_i j;rw [if_pos j] at h;have b:=qFm j;have a:jO s≤s.length:=yB _ _;split
   ·exact ⟨b,a⟩
   ·rename_i n;rw [if_neg n] at h;cases h
  ·rename_i j;rw [if_neg j] at h;split
   ·rename_i a;exact ⟨by simp,by simp;omega⟩
   ·rename_i a;rw [if_neg a] at h;split
    ·exact ⟨by simp,by simp;omega⟩
    ·rename_i b;rw [if_neg b] at h;cases h
theorem qeT (r:Bs):0<jb (37::r):=by simp [jb,List.takeWhile_cons]
theorem qtI (s:Bs):jb s≤s.length:=yB _ _
theorem qan:∀(f g:Nat) (s:Bs) (l:Int),s.length≤f→s.length≤g→kQ f s l=kQ g s l
 |0,g,s,l,b,_=>by
  have:s=[]:=List.length_eq_zero_iff.1 (by omega);subst this;cases g<;>rfl
 |f+1,0,s,l,_,a=>by
  have:s=[]:=List.length_eq_zero_iff.1 (by omega);subst this;rfl
 |f+1,g+1,[],l,_,_=>rfl
 |f+1,g+1,c::r,l,b,a=>by
  simp only [List.length_cons] at b a;unfold kQ;split
  ·exact qan f g r _ (by omega) (by omega)
  ·split
   ·exact qan f g r _ (by omega) (by omega)
   ·split
    ·rename_i h;subst h;have m:=qeT r;rw [qan f g _ _ (by simp only [List.length_drop,List.length_cons];omega) (by simp only [List.length_drop,List.length_cons];omega)]
    ·split
     ·rfl
     ·rename_i j;have m:=qaM (s:=c::r) (by simpa using j) (by simp);rw [qan f g _ _ (by simp only [List.length_drop,List.length_cons];omega) (by simp only [List.length_drop,List.length_cons];omega)]
theorem qc2 (l:Int):qX [] l= .ok [] []:=rfl
theorem yJ (c:UInt8) (r:Bs) (l:Int):qX (c::r) l=
  if c=10 then qX r (l+1)
  else if c=32∨c=9 then qX r l
  else if c=37 then (qX ((c::r).drop (jb (c::r))) l).add [] [(c::r).take (jb (c::r))]
  else if (first (c::r)).2.2≠0 then .bad (first (c::r)).2.2 l
  else (qX ((c::r).drop (first (c::r)).2.1) l).add [⟨(first (c::r)).1,(c::r).take (first (c::r)).2.1,l⟩] []:=by
 show kQ (r.length+1) (c::r) l=_;rw [kQ];split
 ·rfl
 ·split
  ·rfl
  ·split
   ·rename_i a;subst a;have h:=qeT r;rw [qX,qan r.length _ _ _ (by simp only [List.length_drop,List.length_cons];omega) (Nat.le_refl _)]
   ·split
    ·rfl
    ·rename_i b;have h:=qaM (s:=c::r) (by simpa using b) (by simp);rw [qX,qan r.length _ _ _ (by simp only [List.length_drop,List.length_cons];omega) (Nat.le_refl _)]
theorem Res.add_add (a b:List Tok) (c d:List Bs) (r:Res):(r.add b d).add a c=r.add (a++b) (c++d):=by
 cases r<;>simp [Res.add]
@[simp] theorem Res.add_nil (r:Res):r.add [] []=r:=by cases r<;>rfl
end Go.L01
namespace Go.L02
open Go.Eng
open Go.L01 (Bs Tok)
structure D where
 kind:Nat
 name:Bs:=[]
 vr:Bs:=[]
 typ:Bs:=[]
 n:Int:=0
 deriving DecidableEq
inductive T where
 |mk (d:D) (kids:List T)
def T.d:T→D| .mk d _=>d
def T.kids:T→List T| .mk _ ks=>ks
structure Nd where
 d:D
 kids:List Int
 deriving DecidableEq
mutual
def T.size:T→Nat| .mk _ ks=>sizes ks+1
def sizes:List T→Nat|[]=>0|t::ts=>t.size+sizes ts
end
def qL:Nat→List T→List Int
 |_,[]=>[]
 |b,t::ts=>((b:Int)+t.size - 1)::qL (b+t.size) ts
mutual
def T.flat:Nat→T→List Nd|b, .mk d ks=>flats b ks++[⟨d,qL b ks⟩]
def flats:Nat→List T→List Nd|_,[]=>[] |b,t::ts=>t.flat b++flats (b+t.size) ts
end
structure Sig where
 iter:Bool:=false
 args:List Bs:=[]
 result:Bs:=[]
 signals:List Bs:=[]
 deriving DecidableEq
structure Rout where
 name:Bs
 sig:Sig
 params:List Bs
 nodes:List Nd
 deriving DecidableEq
structure Need where
 op:Bs
 sig:Sig
 deriving DecidableEq
structure Opn where
 name:Bs
 sig:Sig:={}
 deriving DecidableEq
structure Face where
 name:Bs
 kind:Nat
 param:Bool
 needs:List Need
 ops:List Opn
 deriving DecidableEq
structure Mod where
 face:Face
 rep:Bs
 routs:List Rout
 deriving DecidableEq
inductive Rs (α:Type) where
 |ok (a:α) (i f:Nat)
 |no (f:Nat)
 |oof
def Rs.andThen {α β:Type} (r:Rs α) (k:α→Nat→Nat→Rs β):Rs β:=match r with| .ok a i f=>k a i f| .no f=> .no f| .oof=> .oof
abbrev M (α:Type):=Nat→Nat→Rs α
def ret {α:Type} (a:α):M α:=fun i f=> .ok a i f
def oof {α:Type}:M α:=fun _ _=> .oof
def qeH {α:Type}:M α:=fun i f=> .no (max f i)
def bnd {α β:Type} (m:M α) (k:α→M β):M β:=fun i f=>(m i f).andThen k
def sq {α β:Type} (m:M α) (k:M β):M β:=bnd m fun _=>k
section
variable (L:List Tok)
def tk (i:Nat):Tok:=L.getD i ⟨0,[],0⟩
def jW (i:Nat) (ss:List Bs):Bool:=(decide ((tk L i).kind=2)||decide ((tk L i).kind=4))&&ss.contains (tk L i).text
def qH {α:Type} (s:Bs) (x y:M α):M α:=fun i f=>if jW L i [s] then x (i+1) f else y i f
def needs:List Bs→M Unit
 |[]=>ret ()
 |s::ss=>qH L s (needs ss) qeH
def name:M Bs:=fun i f=>if (tk L i).kind=1 then .ok (tk L i).text (i+1) f else .no (max f i)
def param:M Unit:=fun i f=>if (tk L i).kind=1∧(tk L i).text=[116] then .ok () (i+1) f else .no (max f i)
def fin:M Unit:=fun i f=>if i<L.length then .no (max f i) else .ok () i f
def more {α:Type} (one:M α):Nat→M (List α)
 |0=>oof
 |n+1=>qH L [44] (bnd one fun x=>bnd (more one n) fun xs=>ret (x::xs)) (ret [])
def listed {α:Type} (n:Nat) (one:M α):M (List α):=bnd one fun x=>bnd (more L one n) fun xs=>ret (x::xs)
def qcq {α:Type} (n:Nat) (one:M α):M (List α):=
 sq (needs L [[40]]) (qH L [41] (ret []) (bnd (listed L n one) fun xs=>sq (needs L [[41]]) (ret xs)))
def xc (k:M Unit):M Bs:=sq (name L) (sq (needs L [[58]]) (sq k (ret [])))
def kind:Nat→M Unit
 |0=>oof
 |n+1=>
  qH L [105,110,116] (ret ()) (qH L [98,111,111,108] (ret ()) (qH L [110,117,108,108] (ret ()) (qH L [97,114,114,97,121] (sq (needs L [[91]]) (sq (kind n) (needs L [[93]])))
  (qH L [114,101,99,111,114,100] (sq (needs L [[91]]) (sq (listed L n (xc L (kind n))) (needs L [[93]])))
  (qH L [111,110,101,111,102] (sq (needs L [[91]]) (sq (listed L n (xc L (kind n))) (needs L [[93]])))
  (qH L [63] (param L) (sq (name L) (qH L [91] (sq (kind n) (needs L [[93]])) (ret ())))))))))
def jR (l:List Tok):Bs:=(l.map (·.text)).flatten
def vW (i j:Nat):List Tok:=(L.take j).drop i
def yz (n:Nat):M Bs:=fun i f=>(kind L n i f).andThen fun _ j g=> .ok (jR (vW L i j)) j g
def vP:List Bs:=[[109,111,100],[97,110,100],[111,114],[110,111,116]]
def op:M Bs:=fun i f=>if (tk L i).kind=2∧vP.contains (tk L i).text then .ok (tk L i).text (i+1) f
 else (bnd (name L) fun s=>qH L [95] (bnd (name L) fun u=>ret (s++([95]++u))) (ret s)) i f
def qgG (n:Nat):M Bs:=bnd (yz L n) fun s=>sq (needs L [[36]]) (ret s)
def wi:List Bs:=[[43],[45],[42],[47],[109,111,100],[60],[60,61],[61],[97,110,100],[111,114]]
def qzw (s:Bs):Int:=s.foldl (fun n c=>10*n+((c.toNat:Int) - 48)) 0
def quR (e:M T):M T:=fun i f=>
 (sq (needs L [[40]]) (bnd e fun t=>sq (needs L [[41]]) (ret (T.mk {kind:=if jW L i [[100,111,119,110]] then 10 else 9} [t])))) (i+1) f
def qyk (e:M T):M T:=bnd e fun t=>sq (needs L [[41]]) (ret t)
def qmo (n:Nat) (e:M T):M T:=bnd (name L) fun nm=>
 qH L [123] (bnd (yz L n) fun t=>sq (needs L [[125]]) (bnd (qcq L n e) fun ks=>ret (T.mk {kind:=5,name:=nm,typ:=t} ks)))
  (bnd (qcq L n e) fun ks=>ret (T.mk {kind:=5,name:=nm} ks))
def qgL (n:Nat) (e:M T) (o:Bs):M T:=bnd (op L) fun nm=>bnd (qcq L n e) fun ks=>ret (T.mk {kind:=5,vr:=o,name:=nm} ks)
def qFY (n:Nat) (e:M T):M T:=fun i f=>
 if (tk L i).kind=1∧((tk L (i+1)).text=[40]∨(tk L (i+1)).text=[123]) then qmo L n e i f else (bnd (qgG L n) (qgL L n e)) i f
def qa5 {α:Type} (b:Bool) (m:M α):M (α×Bool):=bnd m fun x=>ret (x,b)
def qzB (n:Nat) (e:M T):M (T×Bool):=fun i f=>
 if (tk L i).kind=1∧((tk L (i+1)).text=[40]∨(tk L (i+1)).text=[123]) then qa5 true (qmo L n e) i f
 else if (tk L i).kind=1∧(tk L (i+1)).text=[91] then
  match qgG L n i f with
  | .ok s j g=>qa5 true (qgL L n e s) j g
  | .no g=> .ok (T.mk {kind:=4,name:=(tk L i).text} [],false) (i+1) g
  | .oof=> .oof
 else if (tk L i).kind=1∧(tk L (i+1)).text≠[36] then .ok (T.mk {kind:=4,name:=(tk L i).text} [],false) (i+1) f
 else qa5 true (bnd (qgG L n) (qgL L n e)) i f
def qvY (n:Nat) (e:M T):M (T×Bool):=fun i f=>
 if (tk L i).kind=3 then .ok (T.mk {kind:=1,n:=qzw (tk L i).text} [],false) (i+1) f
 else (qH L [116,114,117,101] (ret (T.mk {kind:=2,n:=1} [],false)) (qH L [102,97,108,115,101] (ret (T.mk {kind:=2} [],false)) (qH L [110,105,108] (ret (T.mk {kind:=3} [],false))
  fun i f=>if jW L i [[117,112],[100,111,119,110]] then qa5 false (quR L e) i f else qH L [40] (qa5 false (qyk L e)) (qzB L n e) i f))) i f
def qfw (e:M T):Nat→T→Nat→M (T×Nat)
 |0,_,_=>oof
 |n+1,t,fm=>qH L [91] (bnd e fun k=>sq (needs L [[93]]) (qfw e n (T.mk {kind:=7} [t,k]) 2))
   (qH L [46] (bnd (name L) fun s=>qfw e n (T.mk {kind:=8,name:=s} [t]) 3) (ret (t,fm)))
def qlM (n:Nat) (e:M T):M (T×Nat):=bnd (qvY L n e) fun p=>qfw L e n p.1 (if p.2 then 1 else 0)
def qEZ (p:M (T×Nat)):M T:=
 qH L [110,111,116] (bnd p fun x=>ret (T.mk {kind:=6,name:=[110,111,116]} [x.1]))
  (bnd p fun x=>fun i f=>if jW L i wi then (bnd p fun y=>ret (T.mk {kind:=6,name:=(tk L i).text} [x.1,y.1])) (i+1) f else .ok x.1 i f)
def qiO:Nat→M T
 |0=>oof
 |n+1=>qEZ L (qlM L n (qiO n))
def qt4 (i:Nat):Bool:=decide ((tk L i).kind=1)||decide ((tk L i).kind=3)||
 jW L i [[116,114,117,101],[102,97,108,115,101],[110,105,108],[117,112],[100,111,119,110],[40],[110,111,116],[105,110,116],[98,111,111,108],[110,117,108,108],[97,114,114,97,121],[114,101,99,111,114,100],[111,110,101,111,102],[63]]
def qvR (i:Nat):Bool:=jW L i [[118,97,114],[112,117,116],[105,102],[119,104,105,108,101],[102,111,114],[114,101,116,117,114,110],[121,105,101,108,100],[115,105,103,110,97,108],[98,114,101,97,107],[98,101,103,105,110],[116,97,103,99,97,115,101]] ||(qt4 L i&& !jW L i [[110,111,116]])
def qkp (s:M T):Nat→M (List T)
 |0=>oof
 |n+1=>qH L [59] (bnd s fun x=>bnd (qkp s n) fun xs=>ret (x::xs)) (ret [])
def qt1 (n:Nat) (s:M T):M T:=fun i f=>
 if qvR L i then (bnd s fun x=>bnd (qkp L s n) fun xs=>ret (T.mk {kind:=20} (x::xs))) i f else .ok (T.mk {kind:=20} []) i f
def qjh (n:Nat):M (Bs×Bs):=bnd (name L) fun nm=>sq (needs L [[58]]) (bnd (yz L n) fun t=>ret (nm,t))
def qtF (e b:M T):Nat→M T
 |0=>oof
 |n+1=>bnd e fun x=>sq (needs L [[116,104,101,110]]) (bnd b fun q=>
   qH L [101,108,115,101,105,102] (bnd (qtF e b n) fun c=>ret (T.mk {kind:=26} [x,q,T.mk {kind:=20} [c]]))
    (qH L [101,108,115,101] (bnd b fun r=>sq (needs L [[101,110,100]]) (ret (T.mk {kind:=26} [x,q,r]))) (sq (needs L [[101,110,100]]) (ret (T.mk {kind:=26} [x,q])))))
def qsR (b:M T):Nat→Bool→M (List T)
 |0,_=>oof
 |n+1,first=>fun i f=>if jW L i [[119,104,101,110]] ||first then
   (sq (needs L [[119,104,101,110]]) (qH L [111,116,104,101,114,115] (sq (needs L [[58]]) (bnd b fun q=>ret [T.mk {kind:=33} [q]]))
    (bnd (name L) fun s=>sq (needs L [[58]]) (bnd b fun q=>bnd (qsR b n false) fun ws=>ret (T.mk {kind:=33,name:=s} [q]::ws))))) i f
  else .ok [] i f
def qEB (n:Nat) (b:M T):M T:=bnd b fun q=>sq (needs L [[101,120,99,101,112,116]]) (bnd (qsR L b n true) fun ws=>sq (needs L [[101,110,100]]) (ret (T.mk {kind:=32} (q::ws))))
def quh (k:Nat) (b:M T):Nat→Bool→M (List T)
 |0,_=>oof
 |n+1,first=>fun i f=>if jW L i [[116,97,103]] ||first then
   (sq (needs L [[116,97,103]]) (bnd (name L) fun s=>sq (needs L [[40]]) (bnd (name L) fun v=>sq (needs L [[58]]) (bnd (yz L k) fun t=>sq (needs L [[41],[58]])
    (bnd b fun q=>bnd (quh k b n false) fun ws=>ret (T.mk {kind:=36,name:=s,vr:=v,typ:=t} [q]::ws)))))) i f
  else .ok [] i f
def qGu (n:Nat) (e b:M T):M T:=bnd e fun x=>bnd (quh L n b n true) fun ws=>sq (needs L [[101,110,100]]) (ret (T.mk {kind:=35} (x::ws)))
def quC (n:Nat) (e:M T) (p:M (T×Nat)):M T:=fun i f=>
 if (tk L i).kind=1∧(tk L (i+1)).text=[58,61] then (bnd e fun x=>ret (T.mk {kind:=22,name:=(tk L i).text} [x])) (i+2) f
 else (bnd p fun x=>fun i f=>
  if x.2=1∧jW L i [[58,61]]=false then .ok (T.mk {kind:=25} [x.1]) i f
  else if x.2=2∧jW L i [[58,61]]=true then (bnd e fun y=>ret (T.mk {kind:=23} (x.1.kids++[y]))) (i+1) f
  else if x.2=3∧jW L i [[58,61]]=true then (bnd e fun y=>ret (T.mk {kind:=24,name:=x.1.d.name} (x.1.kids++[y]))) (i+1) f
  else .no (max f i)) i f
def qvQ (n:Nat) (e:M T) (p:M (T×Nat)) (b:M T):M T:=
 qH L [118,97,114] (bnd (qjh L n) fun x=>sq (needs L [[58,61]]) (bnd e fun y=>ret (T.mk {kind:=21,name:=x.1,typ:=x.2} [y])))
 (qH L [112,117,116] (bnd e fun y=>ret (T.mk {kind:=37} [y]))
 (qH L [105,102] (qtF L e b n)
 (qH L [119,104,105,108,101] (bnd e fun x=>sq (needs L [[100,111]]) (bnd b fun q=>sq (needs L [[101,110,100]]) (ret (T.mk {kind:=27} [x,q]))))
 (qH L [102,111,114] (bnd (qjh L n) fun x=>sq (needs L [[105,110]]) (bnd (qFY L n e) fun c=>sq (needs L [[100,111]]) (bnd b fun q=>sq (needs L [[101,110,100]]) (ret (T.mk {kind:=28,name:=x.1,typ:=x.2} [c,q])))))
 (qH L [114,101,116,117,114,110] (fun i f=>if qt4 L i then (bnd e fun x=>ret (T.mk {kind:=29} [x])) i f else .ok (T.mk {kind:=29} []) i f)
 (qH L [121,105,101,108,100] (bnd e fun y=>ret (T.mk {kind:=30} [y]))
 (qH L [115,105,103,110,97,108] (bnd (name L) fun s=>ret (T.mk {kind:=31,name:=s} []))
 (qH L [98,114,101,97,107] (ret (T.mk {kind:=34} []))
 (qH L [98,101,103,105,110] (qEB L n b)
 (qH L [116,97,103,99,97,115,101] (qGu L n e b) (quC L n e p)))))))))))
def qks:Nat→M T
 |0=>oof
 |n+1=>qvQ L n (qiO L n) (qlM L n (qiO L n)) (qt1 L n (qks n))
def block (n:Nat):M T:=qt1 L n (qks L n)
def signals (n:Nat):M (List Bs):=qH L [115,105,103,110,97,108,115] (sq (needs L [[40]]) (bnd (listed L n (name L)) fun l=>sq (needs L [[41]]) (ret l))) (ret [])
def qt3 (n:Nat) (iter:Bool):M (Bs×List Bs):=
 if iter then sq (needs L [[121,105,101,108,100,115]]) (bnd (yz L n) fun t=>bnd (signals L n) fun l=>ret (t,l))
 else qH L [114,101,116,117,114,110,115] (bnd (yz L n) fun t=>bnd (signals L n) fun l=>ret (t,l)) (bnd (signals L n) fun l=>ret ([],l))
def qfO:M Bool:=qH L [105,116,101,114] (ret true) (sq (needs L [[112,114,111,99]]) (ret false))
def head (n:Nat) (iter:Bool):M (Sig×List Bs):=bnd (qcq L n (qjh L n)) fun l=>bnd (qt3 L n iter) fun b=>
 ret (⟨iter,l.map (·.2),b.1,b.2⟩,l.map (·.1))
def qtX (n:Nat):M (List Nd):=sq (needs L [[105,115]]) (bnd (block L n) fun t=>sq (needs L [[101,110,100]]) (ret (t.flat 0)))
def qzA (n:Nat):M Need:=bnd (name L) fun o=>sq (needs L [[58]]) (bnd (qfO L) fun it=>bnd (qcq L n (yz L n)) fun ws=>bnd (qt3 L n it) fun b=>
 ret ⟨o,⟨it,ws,b.1,b.2⟩⟩)
def qjN (n:Nat):M (List Need):=qH L [119,104,101,114,101] (sq (param L) (sq (needs L [[104,97,115]]) (listed L n (qzA L n)))) (ret [])
def params:M Bool:=qH L [91] (sq (param L) (sq (needs L [[93]]) (ret true))) (ret false)
def qw1 (n:Nat):M Rout:=bnd (qfO L) fun it=>bnd (name L) fun nm=>bnd (head L n it) fun h=>bnd (qtX L n) fun l=>ret ⟨nm,h.1,h.2,l⟩
def routs (n:Nat):Nat→M (List Rout)
 |0=>oof
 |k+1=>bnd (qw1 L n) fun r=>fun i f=>if jW L i [[112,114,111,99],[105,116,101,114]] then (bnd (routs n k) fun rs=>ret (r::rs)) i f else .ok [r] i f
def ql9 (names:List Bs) (rs:List Rout):List Opn:=names.mapIdx fun i s=>⟨s,match rs[i]? with|some r=>r.sig|none=>{}⟩
def qFG (n:Nat):M Mod:=bnd (name L) fun nm=>bnd (params L) fun pr=>sq (needs L [[105,115]]) (bnd (listed L n (name L)) fun names=>bnd (qjN L n) fun ws=>
 sq (needs L [[114,101,112],[61]]) (bnd (yz L n) fun rep=>bnd (routs L n n) fun rs=>sq (needs L [[101,110,100]]) (ret ⟨⟨nm,3,pr,ws,ql9 names rs⟩,rep,rs⟩)))
def qzp (n:Nat):M Mod:=qH L [99,108,117,115,116,101,114] (qFG L n) (bnd (qfO L) fun it=>bnd (name L) fun nm=>bnd (params L) fun pr=>bnd (head L n it) fun h=>
 bnd (qjN L n) fun ws=>bnd (qtX L n) fun l=>ret ⟨⟨nm,if it then 2 else 1,pr,ws,[⟨nm,h.1⟩]⟩,[],[⟨nm,h.1,h.2,l⟩]⟩)
end
inductive Ro (α:Type) where
 |val (o:Option α) (i f:Nat)
 |oof
def Ro.andThen {α β:Type} (r:Ro α) (k:α→Nat→Nat→Ro β):Ro β:=match r with| .val (some a) i f=>k a i f| .val none i f=> .val none i f| .oof=> .oof
abbrev N (α:Type):=Nat→Nat→Ro α
def vj {α:Type} (a:α):N α:=fun i f=> .val (some a) i f
def qgM {α:Type}:N α:=fun _ _=> .oof
def kE {α:Type}:N α:=fun i f=> .val none i f
def jJ {α β:Type} (m:N α) (k:α→N β):N β:=fun i f=>(m i f).andThen k
section
variable (L:List Tok)
def qy (i k:Nat) (s:Bs):Bool:=decide (i<L.length)&&decide ((tk L i).kind=k)&&(decide (s=[])||decide ((tk L i).text=s))
def jr {α:Type} (k:Nat) (s:Bs) (x y:N α):N α:=fun i f=>if qy L i k s then x (i+1) f else y i (max f i)
def xr {α:Type} (s:Bs) (x:N α):N α:=jr L 4 s x kE
def kW {α:Type} (x:Bs→N α):N α:=fun i f=>if qy L i 1 [] then x (tk L i).text (i+1) f else .val none i (max f i)
def seen {α:Type} (k:Nat) (x:Bs→N α) (y:N α):List Bs→N α
 |[]=>y
 |s::ss=>jr L k s (x s) (seen k x y ss)
def xf (t:N Bs):Nat→N Bs
 |0=>qgM
 |n+1=>kW L fun nm=>xr L [58] (jJ t fun u=>jr L 4 [44] (jJ (xf t n) fun r=>vj (nm++[58]++u++[44]++r)) (vj (nm++[58]++u)))
def jE:Nat→N Bs
 |0=>qgM
 |n+1=>seen L 2 vj
  (jr L 2 [97,114,114,97,121] (xr L [91] (jJ (jE n) fun t=>xr L [93] (vj ([97,114,114,97,121,91]++t++[93]))))
  (seen L 2 (fun many=>xr L [91] (jJ (xf L (jE n) n) fun l=>xr L [93] (vj (many++[91]++l++[93]))))
  (jr L 4 [63] (jr L 1 [116] (vj [63,116]) kE)
  (kW L fun nm=>jr L 4 [91] (jJ (jE n) fun t=>xr L [93] (vj (nm++[91]++t++[93]))) (vj nm)))
  [[114,101,99,111,114,100],[111,110,101,111,102]])) [[105,110,116],[98,111,111,108],[110,117,108,108]]
def QC:List Bs:=[[43],[45],[42],[47],[60],[60,61],[61]]
def Qs:List Bs:=[[109,111,100],[97,110,100],[111,114]]
end
end Go.L02
namespace Go.L01
open Go.Eng
theorem qFn {c:UInt8} (h:qO c=true):part c=true:=by simp [part,h]
theorem qkV {p:UInt8→Bool} {s r b:Bs} (h:((s++r).takeWhile p).length=s.length) (z:b=[]∨∃c x,b=c::x∧(p c=false∨∃y,r=c::y)):((s++b).takeWhile p).length=s.length:=by
 have a:∀x∈s,p x=true:=by
  have u:(s++r).takeWhile p=s:=by
   have I:=List.takeWhile_prefix p (l:=s++r);have n:s<+:s++r:=List.prefix_append _ _;exact List.prefix_of_prefix_length_le I n (by omega)|>.eq_of_length h
  intro x E;have t:x∈(s++r).takeWhile p:=by rw [u];exact E
  exact List.all_eq_true.1 (List.all_takeWhile (p:=p) (l:=s++r)) x t
 rw [List.takeWhile_append_of_pos a,List.length_append];rw [List.takeWhile_append_of_pos a,List.length_append] at h;have m:(r.takeWhile p)=[]:=List.length_eq_zero_iff.1 (by omega);rcases z with rfl|⟨c,x,rfl,B|⟨y,rfl⟩⟩
 ·simp
 ·simp [List.takeWhile_cons,B]
 ·have j:p c=false:=by
   cases A:p c with
   |false=>rfl
   |true=>rw [List.takeWhile_cons,A] at m;simp at m
  simp [List.takeWhile_cons,j]
theorem qbi:∀s∈qW,(s.length=1∨s.length=2)∧ve (s.getD 0 0)=false∧qO (s.getD 0 0)=false∧(s.length=2→yp (s.getD 1 0)=false)∧(∀c∈s,c≠10∧c≠37∧c≠32∧c≠9):=by decide
theorem qcG:∀s∈vO,ve (s.getD 0 0)=true∧qP s=s.length∧s≠[]:=by decide
theorem wN {k:Nat} {s:Bs} (h:right k s=true):s≠[]∧first s=(k,s.length,0):=by
 unfold right at h;split at h
 ·rename_i c;subst c;simp only [qh,Bool.and_eq_true,decide_eq_true_eq,Bool.not_eq_true'] at h;obtain ⟨⟨⟨⟨j,n⟩,l⟩,t⟩,u⟩:=h;refine ⟨by rintro rfl;simp at j, ?_⟩;unfold first
  rw [if_pos l,t,List.take_length,u,if_neg (by simp),if_neg (by omega)]
 ·split at h
  ·rename_i c;subst c;obtain ⟨j,n,l⟩:=qcG s (by simpa [jV] using h);refine ⟨l, ?_⟩;unfold first
   rw [if_pos j,n,List.take_length,if_pos h]
  ·split at h
   ·rename_i c;subst c;have y:=h;simp only [jz,Bool.and_eq_true,Bool.not_eq_true',Bool.or_eq_false_iff,decide_eq_false_iff_not,Decidable.not_not] at h;obtain ⟨⟨⟨⟨j,n⟩,l⟩,t⟩,u⟩:=h;have x:s≠[]:=by rintro rfl;simp at j
    obtain ⟨a,s',rfl⟩:∃a s',s=a::s':=by cases s with|nil=>exact absurd rfl x|cons a s'=>exact ⟨a,s',rfl⟩
    have m:qO a=true:=by
     cases m:qO a with
     |true=>rfl
     |false=>simp [jO,List.takeWhile_cons,m] at l
    have p:ve a=false:=by
     simp only [qO,Bool.and_eq_true,decide_eq_true_eq] at m;simp only [ve,Bool.and_eq_false_iff,decide_eq_false_iff_not];omega
    refine ⟨x, ?_⟩;unfold first
    have g:(a::s').getD 0 0=a:=rfl;rw [g,if_neg (by rw [p];simp),if_pos m,l,List.take_length,if_pos y]
   ·split at h
    ·rename_i c;subst c;obtain ⟨b,p,m,_,_⟩:=qbi s (by simpa [js] using h);refine ⟨by rintro rfl;simp at b, ?_⟩;unfold first
     rw [if_neg (by rw [p];simp),if_neg (by rw [m];simp)];rcases b with j|n
     ·rw [if_neg (by omega),←j,List.take_length,if_pos h]
     ·rw [←n,List.take_length,if_pos ⟨by omega,h⟩]
    ·cases h
theorem qj9 {p:UInt8→Bool} (s:Bs):(s.take (s.takeWhile p).length)=s.takeWhile p:=by
 have h:=List.takeWhile_prefix p (l:=s);exact (List.prefix_iff_eq_take.1 h).symm
theorem qvf {p:UInt8→Bool} (s:Bs):((s.takeWhile p).takeWhile p)=s.takeWhile p:=by
 induction s with
 |nil=>rfl
 |cons a s b=>
  by_cases h:p a=true
  ·simp [List.takeWhile_cons,h,b]
  ·simp [List.takeWhile_cons,h]
theorem qs3 {s:Bs} (E:s≠[]) (h:(first s).2.2=0):right (first s).1 (s.take (first s).2.1)=true∧((first s).1=1∨(first s).1=2∨(first s).1=3∨(first s).1=4):=by
 obtain ⟨a,t,rfl⟩:∃a t,s=a::t:=by cases s with|nil=>exact absurd rfl E|cons a t=>exact ⟨a,t,rfl⟩
 have g:(a::t).getD 0 0=a:=rfl;unfold first at h⊢
 rw [g] at h⊢;by_cases l:ve a=true
 ·rw [if_pos l] at h⊢;have y:0<qP (a::t):=qk9 (by rw [g];exact l);have u:(a::t).take (qP (a::t))=(a::t).takeWhile part:=qj9 _;by_cases j:jV ((a::t).take (qP (a::t)))=true
  ·rw [if_pos j];exact ⟨by simpa [right] using j,by simp⟩
  ·rw [if_neg j] at h⊢;by_cases b:12<qP (a::t)
   ·rw [if_pos b] at h;cases h
   ·rw [if_neg b];refine ⟨?_,by simp⟩;simp only [right,if_true,qh,Bool.and_eq_true,decide_eq_true_eq,Bool.not_eq_true'];have A:qP (a::t)≤(a::t).length:=yB _ _;have c:((a::t).take (qP (a::t))).length=qP (a::t):=by rw [List.length_take];omega
    refine ⟨⟨⟨⟨by omega,by omega⟩, ?_⟩, ?_⟩,by simpa using j⟩
    ·obtain ⟨m,B⟩:∃m,qP (a::t)=m+1:=⟨qP (a::t) - 1,by omega⟩;rw [B];simpa using l
    ·rw [c,u];show ((List.takeWhile part (a::t)).takeWhile part).length=_;rw [qvf];rfl
 ·rw [if_neg l] at h⊢;by_cases z:qO a=true
  ·rw [if_pos z] at h⊢;by_cases x:jz ((a::t).take (jO (a::t)))=true
   ·rw [if_pos x];exact ⟨by simpa [right] using x,by simp⟩
   ·rw [if_neg x] at h;cases h
  ·rw [if_neg z] at h⊢;by_cases n:1<(a::t).length∧js ((a::t).take 2)=true
   ·rw [if_pos n];exact ⟨by simpa [right] using n.2,by simp⟩
   ·rw [if_neg n] at h⊢;by_cases p:js ((a::t).take 1)=true
    ·rw [if_pos p];exact ⟨by simpa [right] using p,by simp⟩
    ·rw [if_neg p] at h;cases h
theorem qbv {k:Nat} {s:Bs} (h:right k s=true):∀c∈s,c≠10∧c≠37∧c≠32∧c≠9:=by
 have n:∀c:UInt8,part c=true→c≠10∧c≠37∧c≠32∧c≠9:=by
  intro c a;refine ⟨?_, ?_, ?_, ?_⟩<;>rintro rfl<;>revert a<;>decide
 have b:qP s=s.length→∀c∈s,part c=true:=by
  intro u c a;have j:=List.takeWhile_prefix part (l:=s);have m:=j.eq_of_length u;exact List.all_eq_true.1 (List.all_takeWhile (p:=part) (l:=s)) c (by rw [m];exact a)
 unfold right at h;split at h
 ·simp only [qh,Bool.and_eq_true,decide_eq_true_eq] at h;exact fun c a=>n c (b h.1.2 c a)
 ·split at h
  ·obtain ⟨_,j,_⟩:=qcG s (by simpa [jV] using h);exact fun c a=>n c (b j c a)
  ·split at h
   ·simp only [jz,Bool.and_eq_true,Bool.not_eq_true',Bool.or_eq_false_iff,decide_eq_false_iff_not,Decidable.not_not] at h;obtain ⟨⟨⟨⟨y,j⟩,m⟩,x⟩,z⟩:=h;have t:=(List.takeWhile_prefix qO (l:=s)).eq_of_length m;exact fun c a=>n c (qFn (List.all_eq_true.1 (List.all_takeWhile (p:=qO) (l:=s)) c (by rw [t];exact a)))
   ·split at h
    ·exact (qbi s (by simpa [js] using h)).2.2.2.2
    ·cases h
theorem qc1 {k:Nat} {s r:Bs} {l:Int} (j:s≠[]) (h:first (s++r)=(k,s.length,0)) (b:∀c∈s,c≠10∧c≠37∧c≠32∧c≠9):qX (s++r) l=(qX r l).add [⟨k,s,l⟩] []:=by
 obtain ⟨a,t,rfl⟩:∃a t,s=a::t:=by cases s with|nil=>exact absurd rfl j|cons a t=>exact ⟨a,t,rfl⟩
 obtain ⟨m,b2,b3,b4⟩:=b a (by simp);rw [List.cons_append] at h⊢;rw [yJ,if_neg m,if_neg (by rintro (h|h)<;>contradiction),if_neg b2,h];rw [if_neg (by simp)];have e:a::(t++r)=(a::t)++r:=rfl;simp only [e];rw [List.drop_left,List.take_left]
theorem qkQ {P:Bs→Int→Prop} (I:∀l,P [] l) (S:∀r l,P r (l+1)→P (10::r) l) (h2:∀c r l,(c=32∨c=9)→P r l→P (c::r) l)
  (O:∀a r l,(∀c∈a,c≠10)→(r=[]∨∃x,r=10::x)→P r l→P (37::a++r) l)
  (R:∀c r l,c≠10→c≠32→c≠9→c≠37→(first (c::r)).2.2≠0→P (c::r) l)
  (X:∀k s r l,right k s=true→first (s++r)=(k,s.length,0)→P r l→P (s++r) l):∀s l,P s l:=by
 have key:∀n,∀s:Bs,s.length≤n→∀l,P s l:=by
  intro n
  induction n with
  |zero=>
   intro s A l;have:s=[]:=List.length_eq_zero_iff.1 (by omega);subst this;exact I l
  |succ n t=>
   intro s A l;cases s with
   |nil=>exact I l
   |cons c r=>
    simp only [List.length_cons] at A;by_cases E:c=10
    ·subst E;exact S r l (t r (by omega) _)
    ·by_cases z:c=32∨c=9
     ·exact h2 c r l z (t r (by omega) _)
     ·by_cases B:c=37
      ·subst B;have Y:r=r.takeWhile (fun c=>decide (c≠10))++r.dropWhile (fun c=>decide (c≠10)):=List.takeWhile_append_dropWhile.symm;have u:(r.dropWhile (fun c=>decide (c≠10))).length≤r.length:=(List.dropWhile_sublist _).length_le;have h:=O (r.takeWhile (fun c=>decide (c≠10))) (r.dropWhile (fun c=>decide (c≠10))) l (fun c Z=>by
        have:=List.all_eq_true.1 (List.all_takeWhile (p:=fun c=>decide (c≠10)) (l:=r)) c Z;simpa using this) ?_ (t _ (by omega) _)
       ·rw [List.cons_append,←Y] at h;exact h
       ·cases J:r.dropWhile (fun c=>decide (c≠10)) with
        |nil=>exact .inl rfl
        |cons x y=>
         refine .inr ⟨y, ?_⟩;have:=List.head_dropWhile_not (p:=fun c=>decide (c≠10)) (l:=r) (by rw [J];simp);simp only [J,List.head_cons] at this;rw [show x=10 by simpa using this]
      ·by_cases m:(first (c::r)).2.2=0
       ·obtain ⟨W,_⟩:=qs3 (s:=c::r) (by simp) m;obtain ⟨hp,u⟩:=qaM (s:=c::r) m (by simp);have j:(c::r)=(c::r).take (first (c::r)).2.1++(c::r).drop (first (c::r)).2.1:=(List.take_append_drop _ _).symm;have b:((c::r).take (first (c::r)).2.1).length=(first (c::r)).2.1:=by rw [List.length_take];omega
        have h:=X (first (c::r)).1 ((c::r).take (first (c::r)).2.1) ((c::r).drop (first (c::r)).2.1) l W (by rw [←j,b,←m]) (t _ (by simp only [List.length_drop,List.length_cons];omega) _);rw [←j] at h;exact h
       ·exact R c r l E (fun h=>z (.inl h)) (fun h=>z (.inr h)) B m
 exact fun s l=>key s.length s (Nat.le_refl _) l
theorem qbo (r:Bs) (l:Int):qX (10::r) l=qX r (l+1):=by rw [yJ,if_pos rfl]
theorem qbn {c:UInt8} (r:Bs) (l:Int) (h:c=32∨c=9):qX (c::r) l=qX r l:=by
 rw [yJ,if_neg (by rcases h with rfl|rfl<;>decide),if_pos h]
theorem qFF {a r:Bs} (j:∀c∈a,c≠10) (h:r=[]∨∃x,r=10::x):jb (37::a++r)=(37::a).length:=by
 unfold jb;rw [List.takeWhile_append_of_pos (fun c b=>by
  rcases List.mem_cons.1 b with rfl|b
  ·decide
  ·simpa using j c b)]
 rcases h with rfl|⟨x,rfl⟩<;>simp
theorem qkT {a r:Bs} (l:Int) (j:∀c∈a,c≠10) (b:r=[]∨∃x,r=10::x):qX (37::a++r) l=(qX r l).add [] [37::a]:=by
 have h:=qFF j b;rw [List.cons_append] at h⊢;rw [yJ,if_neg (by decide),if_neg (by decide),if_pos rfl,h];have e:(37:UInt8)::(a++r)=(37::a)++r:=rfl;simp only [e];rw [List.drop_left,List.take_left]
theorem qkS {c:UInt8} {r:Bs} (l:Int) (b:c≠10) (m:c≠32) (j:c≠9) (a:c≠37) (h:(first (c::r)).2.2≠0):qX (c::r) l= .bad (first (c::r)).2.2 l:=by
 rw [yJ,if_neg b,if_neg (by rintro (h|h)<;>contradiction),if_neg a,if_pos h]
end Go.L01
namespace Go.L02
open Go.Eng
open Go.L01 (Bs Tok jV js jz qh right)
def xo (L:List Tok):Prop:=∀t∈L,right t.kind t.text=true
def qcB {β:Type} (f:Nat) (D:Nat→Nat→Prop):Ro β→Prop
 | .oof=>True
 | .val none _ g=>f=g
 | .val (some _) j g=>f=max g j∧D f j
def jU {α β:Type} (i:Nat) (D:Nat→Nat→Prop) (V:Nat→α→β→Prop) (r:Rs α):Ro β→Prop
 | .oof=>True
 | .val o j' g=>match r with
  | .oof=>True
  | .no f=>i≤f∧qcB f D (.val o j' g)
  | .ok a j f=>∃b,o=some b∧j'=j∧i≤j∧max f j=max g j∧V j a b
section
variable {α β γ δ:Type} {i:Nat} {D D':Nat→Nat→Prop} {V:Nat→α→β→Prop} {U:Nat→γ→δ→Prop}
theorem jU.lower {r:Rs α} {s:Ro β} {k:Nat} (h:jU i D V r s) (c:k≤i):jU k D V r s:=by
 cases s with
 |oof=>trivial
 |val o t g=>cases r with
  |oof=>trivial
  |no f=>exact ⟨Nat.le_trans c h.1,h.2⟩
  |ok a j f=>obtain ⟨b,n,p,l,m⟩:=h;exact ⟨b,n,p,Nat.le_trans c l,m⟩
theorem jU.no {f:Nat} {s:Ro β} (a:i≤f) (h:qcB f D s):jU i D V (.no f:Rs α) s:=by
 cases s with
 |oof=>trivial
 |val o j g=>exact ⟨a,h⟩
theorem jU.soof {s:Ro β}:jU i D V (.oof:Rs α) s:=by cases s<;>trivial
theorem ye {a:α} {b:β} {f g:Nat} (h:max f i=max g i) (c:V i a b):jU i D V (ret a i f) (vj b i g):=⟨b,rfl,rfl,Nat.le_refl _,h,c⟩
theorem qkE {f g:Nat} (b:max f i=max g i) (a:i≤g):jU i D V (qeH i f) (kE i g:Ro β):=⟨Nat.le_max_right _ _,by show max f i=g;omega⟩
theorem qbh {m:M α} {n:N β} {k:α→M γ} {c:β→N δ} {f g:Nat} (h:jU i D V (m i f) (n i g))
  (z:∀j a b f g,i≤j→max f j=max g j→V j a b→jU j D' U (k a j f) (c b j g))
  (E:∀j b f g,f=max g j→D f j→qcB f D' (c b j g)):jU i D' U (bnd m k i f) (jJ n c i g):=by
 unfold bnd jJ;cases y:n i g with
 |oof=>trivial
 |val o B u=>
  rw [y] at h;cases t:m i f with
  |oof=>exact .soof
  |no l=>
   rw [t] at h;refine .no h.1 ?_;cases o with
   |none=>exact h.2
   |some b=>exact E B b l u h.2.1 h.2.2
  |ok a j l=>
   rw [t] at h;obtain ⟨b,rfl,rfl,p,x,A⟩:=h;exact (z _ a b l u p x A).lower p
end
section
variable {L:List Tok}
theorem zr {i:Nat} (h:i<L.length):tk L i=L[i]:=by simp [tk,h]
theorem Qw {i:Nat} (h:L.length≤i):tk L i=⟨0,[],0⟩:=by simp [tk,h]
theorem xo.tk (b:xo L) {i:Nat} (h:(tk L i).kind≠0):i<L.length∧right (tk L i).kind (tk L i).text=true:=by
 by_cases a:i<L.length
 ·exact ⟨a,by rw [zr a];exact b _ (List.getElem_mem a)⟩
 ·rw [Qw (by omega)] at h;exact absurd rfl h
theorem qmD {k m:Nat} {s:Bs} (h:right k s=true) (g:right m s=true):k=m:=by
 have:=(L01.wN h).2;rw [(L01.wN g).2] at this;cases this;rfl
theorem qmY (m:xo L) {i k:Nat} {s:Bs} (j:right k s=true):qy L i k s=decide ((tk L i).text=s):=by
 have a:=(L01.wN j).1;unfold qy;simp only [a,decide_false,Bool.false_or];by_cases h:(tk L i).text=s
 ·have b:(tk L i).kind≠0:=by
   intro b;by_cases c:i<L.length
   ·have:=m _ (List.getElem_mem c);rw [←zr c,b] at this;simp [right] at this
   ·rw [Qw (by omega)] at h;exact a h.symm
  obtain ⟨n,l⟩:=m.tk b;rw [h] at l;simp [n,h,qmD l j]
 ·simp [h]
theorem qAc (l:xo L) {i k:Nat} {s:Bs} (j:right k s=true) (p:k=2∨k=4):jW L i [s]=decide ((tk L i).text=s):=by
 rw [←qmY l j];have a:=(L01.wN j).1;unfold jW qy;by_cases h:(tk L i).text=s
 ·have c:(tk L i).kind≠0:=by
   intro c;by_cases m:i<L.length
   ·have:=l _ (List.getElem_mem m);rw [←zr m,c] at this;simp [right] at this
   ·rw [Qw (by omega)] at h;exact a h.symm
  obtain ⟨t,n⟩:=l.tk c;rw [h] at n;have b:=qmD n j;rcases p with rfl|rfl<;>simp [h,t,b,a]
 ·have:¬s=(tk L i).text:=fun e=>h e.symm;simp [h,a]
theorem qmW (b:xo L) {i k:Nat} {s:Bs} (a:right k s=true) (c:k=2∨k=4):jW L i [s]=qy L i k s:=by rw [qAc b a c,qmY b a]
end
section
variable {L:List Tok} {α β:Type} {i f g:Nat} {D:Nat→Nat→Prop} {V:Nat→α→β→Prop}
theorem yd (n:xo L) (k:Nat) {s:Bs} {x y:M α} {b a:N β} (j:right k s=true) (l:k=2∨k=4) (p:max f i=max g i)
  (c:∀f g,qy L i k s=true→max f (i+1)=max g (i+1)→jU (i+1) D V (x (i+1) f) (b (i+1) g)) (m:∀g,qy L i k s=false→i≤g→max f i=max g i→jU i D V (y i f) (a i g)):
  jU i D V (qH L s x y i f) (jr L k s b a i g):=by
 unfold qH jr;rw [qmW n j l];split
 ·rename_i h;exact (c f g h (by omega)).lower (by omega)
 ·rename_i h;exact m _ (by simpa using h) (Nat.le_max_right _ _) (by omega)
theorem qam (l:xo L) (k:Nat) {s:Bs} {m:Unit→M α} {a:N β} (c:right k s=true) (j:k=2∨k=4) (n:max f i=max g i)
  (b:∀f g,qy L i k s=true→max f (i+1)=max g (i+1)→jU (i+1) D V (m () (i+1) f) (a (i+1) g)):jU i D V (bnd (needs L [s]) m i f) (jr L k s a kE i g):=by
 unfold bnd needs qH jr;rw [qmW l c j];split
 ·rename_i h;exact (b f g h (by omega)).lower (by omega)
 ·exact qkE (by omega) (Nat.le_max_right _ _)
theorem qkC (c:xo L) {k:Bs→M α} {a:Bs→N β} (j:max f i=max g i)
  (b:∀f g,(tk L i).kind=1→max f (i+1)=max g (i+1)→jU (i+1) D V (k (tk L i).text (i+1) f) (a (tk L i).text (i+1) g)):jU i D V (bnd (name L) k i f) (kW L a i g):=by
 unfold bnd name kW qy;by_cases h:(tk L i).kind=1
 ·have:=(c.tk (i:=i) (by omega)).1;simp only [h,if_true,Rs.andThen,this,decide_true,Bool.true_and,Bool.true_or];exact (b f g h (by omega)).lower (by omega)
 ·simp only [h,if_false,Rs.andThen,decide_false,Bool.false_and,Bool.and_false];exact ⟨Nat.le_max_right _ _,by show max f i=max g i;omega⟩
theorem qAh (a:xo L):qy L i 1 [116]=(decide ((tk L i).kind=1)&&decide ((tk L i).text=[116])):=by
 unfold qy;by_cases h:(tk L i).kind=1
 ·simp [h,(a.tk (i:=i) (by omega)).1]
 ·simp [h]
theorem qdR {k:Nat} {s:Bs} (h:qy L i k s=true) (a:s≠[]):i<L.length∧(tk L i).kind=k∧(tk L i).text=s:=by
 simpa [qy,a,and_assoc] using h
end
theorem qGk {α β γ:Type} (m:M α) (k:α→M β) (l:β→M γ):bnd (bnd m k) l=bnd m fun x=>bnd (k x) l:=by
 funext i f;unfold bnd;cases m i f<;>rfl
theorem qGj {α β:Type} (a:α) (k:α→M β):bnd (ret a) k=k a:=rfl
theorem yf {α:Type} (m:M α):(bnd m fun x=>ret x)=m:=by
 funext i f;unfold bnd ret;cases m i f<;>rfl
theorem qvc {α β:Type} {L:List Tok} (s:Bs) (x y:M α) (k:α→M β):bnd (qH L s x y) k=qH L s (bnd x k) (bnd y k):=by
 funext i f;unfold bnd qH;split<;>rfl
section
variable {L:List Tok}
theorem kg {i j k:Nat} (a:i≤j) (b:j≤k):jR (vW L i k)=jR (vW L i j)++jR (vW L j k):=by
 unfold jR vW;rw [←List.flatten_append,←List.map_append];congr 2;have e:L.take k=L.take j++(L.take k).drop j:=by
  have:=List.take_append_drop j (L.take k);rw [List.take_take,Nat.min_eq_left b] at this;exact this.symm
 conv=>lhs;rw [e]
 rw [List.drop_append];congr 1;by_cases c:j≤L.length
 ·rw [List.length_take,Nat.min_eq_left c,Nat.sub_eq_zero_of_le a];rfl
 ·have:(L.take k).drop j=[]:=List.drop_eq_nil_of_le (by simp;omega);rw [this];simp
theorem qbZ (i:Nat):jR (vW L i (i+1))=(tk L i).text:=by
 unfold jR vW;by_cases h:i<L.length
 ·rw [List.take_succ_eq_append_getElem h,List.drop_append,List.drop_eq_nil_of_le (by simp;omega)];have:i - (L.take i).length=0:=by simp;omega
  rw [this,zr h];simp
 ·rw [Qw (by omega),List.drop_eq_nil_of_le (by simp;omega)];rfl
abbrev wT:Nat→Nat→Prop:=fun _ _=>False
abbrev TxV (L:List Tok) (i:Nat) {α:Type}:Nat→α→Bs→Prop:=fun j _ s=>s=jR (vW L i j)
theorem xY {i:Nat} {k:Nat} {s:Bs} (h:qy L i k s=true) (a:s≠[]):s=jR (vW L i (i+1)):=by rw [qbZ];exact (qdR h a).2.2.symm
theorem qkD {k:M Unit} {t:N Bs} (l:xo L) (y:∀i f g,max f i=max g i→jU i wT (TxV L i) (k i f) (t i g)):∀n m i f g,max f i=max g i→jU i wT (TxV L i) (listed L n (xc L k) i f) (xf L t m i g)
 |n,0,i,f,g,b=>trivial
 |n,m+1,i,f,g,b=>by
  have e:listed L n (xc L k)=bnd (name L) fun _=>bnd (needs L [[58]]) fun _=>bnd k fun _=>bnd (more L (xc L k) n) fun xs=>ret ([]::xs):=by
   simp only [listed,xc,sq,qGk,qGj]
  rw [e];show jU i wT _ _ (kW L (fun nm=>xr L [58] (jJ t fun u=>jr L 4 [44] (jJ (xf L t m) fun r=>vj (nm++[58]++u++[44]++r)) (vj (nm++[58]++u)))) i g);refine qkC l b fun f g I b=> ?_;refine qam l 4 (by decide) (.inr rfl) b fun f g E b=> ?_;refine qbh (y _ _ _ b) (fun j a u f g O b z=> ?_) (fun _ _ _ _ _ h=>h.elim);have c:(tk L i).text++[58]++u=jR (vW L i j):=by
   rw [kg (j:=i+1) (by omega) (by omega),qbZ,kg (i:=i+1) (j:=i+1+1) (by omega) (by omega),←xY E (by decide),z];simp
  cases n with
  |zero=>exact .soof
  |succ n=>
   show jU j wT _ (bnd (qH L [44] (listed L n (xc L k)) (ret [])) (fun xs=>ret ([]::xs)) j f) _;rw [qvc];refine yd l 4 (by decide) (.inr rfl) b (fun f g x b=> ?_) (fun g x _ b=> ?_)
   ·refine qbh (qkD l y n m _ _ _ b) (fun B J r f g A b p=> ?_) (fun _ _ _ _ _ h=>h.elim);refine ye b ?_;show _++_++_++_++r=jR (vW L i B);rw [kg (j:=j) (by omega) (by omega),kg (i:=j) (j:=j+1) (by omega) (by omega),←xY x (by decide),c,p];simp
   ·exact ye b c
theorem qbg (c:xo L):∀n m i f g,max f i=max g i→jU i wT (TxV L i) (kind L n i f) (jE L m i g)
 |0,m,i,f,g,b=> .soof
 |n+1,0,i,f,g,b=>trivial
 |n+1,m+1,i,f,g,b=>by
  have p:∀(w:Bs) (f g:Nat),qy L i 2 w=true→w≠[]→max f (i+1)=max g (i+1)→jU (i+1) wT (TxV L i) (sq (needs L [[91]]) (sq (listed L n (xc L (kind L n))) (needs L [[93]])) (i+1) f)
    (xr L [91] (jJ (xf L (jE L m) m) fun l=>xr L [93] (vj (w++[91]++l++[93]))) (i+1) g):=by
   intro w f g B z b;refine qam c 4 (by decide) (.inr rfl) b fun f g x b=> ?_;refine qbh (qkD c (qbg c n m) _ _ _ _ _ b) (fun j a l f g A b u=> ?_) (fun _ _ _ _ _ h=>h.elim);show jU _ _ _ (needs L [[93]] j f) _;rw [←yf (needs L [[93]])];refine qam c 4 (by decide) (.inr rfl) b fun f g t b=> ?_;refine ye b ?_;show _=jR (vW L i (j+1));rw [kg (j:=i+1) (by omega) (by omega),←xY B z,kg (i:=i+1) (j:=i+1+1) (by omega) (by omega),←xY x (by decide),kg (i:=i+1+1) (j:=j) (by omega) (by omega),←xY t (by decide),u];simp
  show jU i wT _ (qH L [105,110,116] _ _ i f) (jr L 2 [105,110,116] (vj [105,110,116]) (jr L 2 [98,111,111,108] (vj [98,111,111,108]) (jr L 2 [110,117,108,108] (vj [110,117,108,108]) _)) i g);refine yd c 2 (by decide) (.inl rfl) b (fun f g h b=>ye b (xY h (by decide))) (fun g _ _ b=> ?_);refine yd c 2 (by decide) (.inl rfl) b (fun f g h b=>ye b (xY h (by decide))) (fun g _ _ b=> ?_);refine yd c 2 (by decide) (.inl rfl) b (fun f g h b=>ye b (xY h (by decide))) (fun g _ _ b=> ?_);refine yd c 2 (by decide) (.inl rfl) b (fun f g y b=> ?_) (fun g _ _ b=> ?_)
  ·refine qam c 4 (by decide) (.inr rfl) b fun f g x b=> ?_;refine qbh (qbg c n m _ _ _ b) (fun j a l f g A b u=> ?_) (fun _ _ _ _ _ h=>h.elim);show jU _ _ _ (needs L [[93]] j f) _;rw [←yf (needs L [[93]])];refine qam c 4 (by decide) (.inr rfl) b fun f g t b=> ?_;refine ye b ?_;show _=jR (vW L i (j+1));rw [kg (j:=i+1) (by omega) (by omega),←xY y (by decide),kg (i:=i+1) (j:=i+1+1) (by omega) (by omega),←xY x (by decide),kg (i:=i+1+1) (j:=j) (by omega) (by omega),←xY t (by decide),u];simp
  show jU i wT _ _ (jr L 2 [114,101,99,111,114,100] _ (jr L 2 [111,110,101,111,102] _ _) i g);refine yd c 2 (by decide) (.inl rfl) b (fun f g h b=>p _ f g h (by decide) b) (fun g _ _ b=> ?_);refine yd c 2 (by decide) (.inl rfl) b (fun f g h b=>p _ f g h (by decide) b) (fun g _ _ b=> ?_);refine yd c 4 (by decide) (.inr rfl) b (fun f g y b=> ?_) (fun g _ _ b=> ?_)
  ·rw [←yf (param L)];unfold bnd param jr;rw [qAh c];by_cases h:(tk L (i+1)).kind=1∧(tk L (i+1)).text=[116]
   ·simp only [h,and_self,if_true,Rs.andThen,decide_true,Bool.and_self];refine ⟨_,rfl,rfl,by omega,by omega, ?_⟩;show _=jR (vW L i (i+1+1));rw [kg (j:=i+1) (by omega) (by omega),←xY y (by decide),qbZ,h.2];rfl
   ·rw [if_neg h,if_neg (by simpa using h)];exact qkE (i:=i+1) (f:=f) (by omega) (Nat.le_max_right _ _)
  ·refine qkC c b fun f g y b=> ?_;refine yd c 4 (by decide) (.inr rfl) b (fun f g x b=> ?_) (fun g _ _ b=> ?_)
   ·refine qbh (qbg c n m _ _ _ b) (fun j a l f g A b u=> ?_) (fun _ _ _ _ _ h=>h.elim);show jU _ _ _ (needs L [[93]] j f) _;rw [←yf (needs L [[93]])];refine qam c 4 (by decide) (.inr rfl) b fun f g t b=> ?_;refine ye b ?_;show _=jR (vW L i (j+1));rw [kg (j:=i+1) (by omega) (by omega),qbZ,kg (i:=i+1) (j:=i+1+1) (by omega) (by omega),←xY x (by decide),kg (i:=i+1+1) (j:=j) (by omega) (by omega),←xY t (by decide),u];simp
   ·exact ye b (qbZ i).symm
end
section
variable {L:List Tok}
theorem qlk {α:Type} {k:Nat} {s:Bs} {x y:N α} {i g:Nat} (h:qy L i k s=true):jr L k s x y i g=x (i+1) g:=by unfold jr;rw [h];rfl
theorem qll {α:Type} {k:Nat} {s:Bs} {x y:N α} {i g:Nat} (h:qy L i k s=false):jr L k s x y i g=y i (max g i):=by unfold jr;rw [h];rfl
theorem qAg {i k m:Nat} {s t:Bs} (h:qy L i k s=true) (l:s≠[]) (n:t≠[]) (a:¬(k=m∧s=t)):qy L i m t=false:=by
 obtain ⟨_,p,u⟩:=qdR h l;cases c:qy L i m t with
 |false=>rfl
 |true=>
  obtain ⟨_,b,j⟩:=qdR c n;exact absurd ⟨p.symm.trans b,u.symm.trans j⟩ a
def qut {α:Type} (m:M α):Prop:=∀i,(∃a k,∀f,m i f= .ok a k f)∨(∃p,∀f,m i f= .no (max f p))∨∀f,m i f= .oof
theorem qut.all {α:Type} {m:M α} (h:qut m) {i k f n:Nat} {a:α} (c:m i f= .ok a k n):n=f∧∀g,m i g= .ok a k g:=by
 rcases h i with ⟨b,l,j⟩|⟨p,j⟩|j
 ·rw [j] at c;cases c;exact ⟨rfl,j⟩
 ·rw [j] at c;cases c
 ·rw [j] at c;cases c
def Up {α:Type} (m:M α):Prop:=∀i f,match m i f with| .ok _ j f'=>i≤j∧f≤f'| .no f'=>i≤f'∧f≤f'| .oof=>True
theorem Up.ok {α:Type} {m:M α} (h:Up m) {i f j b:Nat} {a:α} (e:m i f= .ok a j b):i≤j∧f≤b:=by have:=h i f;rw [e] at this;exact this
theorem Up.no {α:Type} {m:M α} (h:Up m) {i f a:Nat} (e:m i f= .no a):i≤a∧f≤a:=by have:=h i f;rw [e] at this;exact this
theorem wA {α:Type} (a:α):Up (ret a):=fun i f=>⟨Nat.le_refl _,Nat.le_refl _⟩
theorem qjQ {α:Type}:Up (oof:M α):=fun i f=>trivial
theorem quV {α:Type}:Up (qeH:M α):=fun i f=>⟨Nat.le_max_right _ _,Nat.le_max_left _ _⟩
theorem xq {α β:Type} {m:M α} {k:α→M β} (t:Up m) (p:∀a,Up (k a)):Up (bnd m k):=by
 intro i f;unfold bnd;cases h:m i f with
 |oof=>trivial
 |no n=>exact t.no h
 |ok a j n=>
  obtain ⟨z,A⟩:=t.ok h;simp only [Rs.andThen];cases c:k a j n with
  |oof=>trivial
  |no y=>obtain ⟨u,x⟩:=(p a).no c;exact ⟨by omega,by omega⟩
  |ok b l y=>obtain ⟨u,x⟩:=(p a).ok c;exact ⟨by omega,by omega⟩
theorem quW {α:Type} {x:M α} (b:Up x) (i f n:Nat):match x (i+n) f with| .ok _ j a=>i≤j∧f≤a| .no a=>i≤a∧f≤a| .oof=>True:=by
 have:=b (i+n) f;split<;>rename_i h<;>rw [h] at this
 ·exact ⟨by omega,this.2⟩
 ·exact ⟨by omega,this.2⟩
 ·trivial
theorem wy {α:Type} {s:Bs} {x y:M α} (a:Up x) (b:Up y):Up (qH L s x y):=by
 intro i f;unfold qH;cases h:jW L i [s] with
 |true=>exact quW a i f 1
 |false=>exact b i f
theorem xF:∀ss:List Bs,Up (needs L ss)
 |[]=>wA _
 |s::ss=>wy (xF ss) quV
theorem qag:Up (name L):=by
 intro i f;unfold name;by_cases h:(tk L i).kind=1
 ·simp only [h,if_true];exact ⟨by omega,Nat.le_refl _⟩
 ·simp only [h,if_false];exact ⟨by omega,by omega⟩
theorem quU:Up (param L):=by
 intro i f;unfold param;by_cases h:(tk L i).kind=1∧(tk L i).text=[116]
 ·rw [if_pos h];exact ⟨by omega,Nat.le_refl _⟩
 ·rw [if_neg h];exact ⟨by omega,by omega⟩
theorem qcJ {α:Type} {m:M α} (h:Up m):∀n,Up (more L m n)
 |0=>qjQ
 |n+1=>wy (xq h fun _=>xq (qcJ h n) fun _=>wA _) (wA _)
theorem qjR {α:Type} {m:M α} (h:Up m) (n:Nat):Up (listed L n m):=xq h fun _=>xq (qcJ h n) fun _=>wA _
theorem yy:∀n,Up (kind L n)
 |0=>qjQ
 |n+1=>by
  have a:=yy n;have b:Up (sq (needs L [[91]]) (sq (listed L n (xc L (kind L n))) (needs L [[93]]))):=xq (xF _) fun _=>xq
   (qjR (xq qag fun _=>xq (xF _) fun _=>xq a fun _=>wA _) n) fun _=>xF _
  exact wy (wA _) (wy (wA _) (wy (wA _) (wy (xq (xF _) fun _=>xq a fun _=>xF _)
   (wy b (wy b (wy quU (xq qag fun _=>wy (xq a fun _=>xF _) (wA _))))))))
def qfj {α:Type} (k g:Nat):Ro α→Prop
 | .oof=>True
 | .val none _ g'=>g'=g
 | .val (some _) k' g'=>k'=k∧g'=g
theorem qfj.bnd {α β:Type} {k g l i b:Nat} {m:N α} {x:α→N β} (h:qfj k g (m i b)) (n:∀a,qfj l g (x a k g)):qfj l g (jJ m x i b):=by
 unfold jJ;cases c:m i b with
 |oof=>trivial
 |val o j p=>
  rw [c] at h;cases o with
  |none=>exact h
  |some a=>obtain ⟨rfl,rfl⟩:=h;exact n a
end
section
variable {L:List Tok}
abbrev D1 (L:List Tok):Nat→Nat→Prop:=fun _ j=>qy L j 4 [36]=true∨qy L j 4 [40]=true∨qy L j 4 [123]=true
theorem D1.no {f j:Nat} (h:D1 L f j) {k:Nat} {s:Bs} (a:s≠[]) (b:[[36],[40],[123]].contains s=false):qy L j k s=false:=by
 rcases h with h|h|h<;>exact qAg h (by decide) a (by rintro ⟨_,rfl⟩;revert b;decide)
theorem D1.kind {f j:Nat} (h:D1 L f j):(tk L j).kind=4:=by
 rcases h with h|h|h<;>exact (qdR h (by decide)).2.1
theorem qe3 {α β:Type} {m:M α} {k:α→M β} {i f j b:Nat} {a:α} (h:m i f= .ok a j b):bnd m k i f=k a j b:=by unfold bnd;rw [h];rfl
theorem qzC {i f:Nat} (h:(tk L i).kind=1):name L i f= .ok (tk L i).text (i+1) f:=by unfold name;rw [if_pos h]
end
section
variable {L:List Tok}
theorem qt0 {α β:Type} {m:N α} {k:α→N β} {i g j a:Nat} (h:m i g= .val none j a):jJ m k i g= .val none j a:=by unfold jJ;rw [h];rfl
theorem qtZ {α β:Type} {m:N α} {k:α→N β} {i g j a:Nat} {x:α} (h:m i g= .val (some x) j a):jJ m k i g=k x j a:=by unfold jJ;rw [h];rfl
theorem qGl {α β:Type} {m:N α} {k:α→N β} {i g:Nat} (h:m i g= .oof):jJ m k i g= .oof:=by unfold jJ;rw [h];rfl
theorem qe4 {α β:Type} {m:M α} {k:α→M β} {i f a:Nat} (h:m i f= .no a):bnd m k i f= .no a:=by unfold bnd;rw [h];rfl
theorem qtY {α β:Type} {m:M α} {k:α→M β} {i f:Nat} (h:m i f= .oof):bnd m k i f= .oof:=by unfold bnd;rw [h];rfl
end
section
variable {L:List Tok}
def D2 (L:List Tok):Nat→Nat→Prop:=fun _ j=>qy L j 4 [59]=false∧∀s∈[[101,110,100],[101,108,115,101,105,102],[101,108,115,101],[101,120,99,101,112,116],[119,104,101,110],[116,97,103]],qy L j 2 s=false
theorem D2.far {f a j:Nat} (h:D2 L f j):D2 L a j:=h
def RU {α:Type} (m:N α):Prop:=∀i g,match m i g with| .val _ j g'=>i≤j∧g≤g'| .oof=>True
theorem RU.val {α:Type} {m:N α} (h:RU m) {i g j a:Nat} {o:Option α} (e:m i g= .val o j a):i≤j∧g≤a:=by have:=h i g;rw [e] at this;exact this
theorem yK {α:Type} (a:α):RU (vj a):=fun i g=>⟨Nat.le_refl _,Nat.le_refl _⟩
theorem QG {α:Type}:RU (kE:N α):=fun i g=>⟨Nat.le_refl _,Nat.le_refl _⟩
theorem qla {α:Type}:RU (qgM:N α):=fun i g=>trivial
theorem qbp {α β:Type} {m:N α} {k:α→N β} (n:RU m) (b:∀a,RU (k a)):RU (jJ m k):=by
 intro i g;cases h:m i g with
 |oof=>rw [qGl h];trivial
 |val o j p=>
  have c:=n.val h;cases o with
  |none=>rw [qt0 h];exact c
  |some a=>
   rw [qtZ h];cases t:k a j p with
   |oof=>trivial
   |val o l u=>have:=(b a).val t;exact ⟨by omega,by omega⟩
theorem kS {α:Type} {k:Nat} {s:Bs} {x y:N α} (c:RU x) (l:RU y):RU (jr L k s x y):=by
 intro i g;cases a:qy L i k s with
 |true=>
  rw [qlk a];cases h:x (i+1) g with
  |oof=>trivial
  |val o j b=>have:=c.val h;exact ⟨by omega,this.2⟩
 |false=>
  rw [qll a];cases h:y i (max g i) with
  |oof=>trivial
  |val o j b=>have:=l.val h;exact ⟨this.1,by omega⟩
theorem qlb {α:Type} {x:Bs→N α} (a:∀s,RU (x s)):RU (kW L x):=by
 intro i g;unfold kW;cases c:qy L i 1 [] with
 |true=>
  simp only [if_true];cases h:x (tk L i).text (i+1) g with
  |oof=>trivial
  |val o j b=>have:=(a _).val h;exact ⟨by omega,this.2⟩
 |false=>exact ⟨Nat.le_refl _,by omega⟩
theorem qf6 {α:Type} {k:Nat} {x:Bs→N α} {y:N α} (b:∀s,RU (x s)) (a:RU y):∀ss,RU (seen L k x y ss)
 |[]=>a
 |s::ss=>kS (b s) (qf6 b a ss)
theorem qc7 {t:N Bs} (a:RU t):∀n,RU (xf L t n)
 |0=>qla
 |n+1=>qlb fun _=>kS (qbp a fun _=>kS (qbp (qc7 a n) fun _=>yK _) (yK _)) QG
theorem QF:∀n,RU (jE L n)
 |0=>qla
 |n+1=>qf6 (fun _=>yK _) (kS (kS (qbp (QF n) fun _=>kS (yK _) QG) QG)
  (qf6 (fun _=>kS (qbp (qc7 (QF n) n) fun _=>kS (yK _) QG) QG)
   (kS (kS (yK _) QG) (qlb fun _=>kS (qbp (QF n) fun _=>kS (yK _) QG) (yK _))) _)) _
end
section
variable {L:List Tok}
theorem D2.w {F j:Nat} (h:D2 L F j) {s:Bs} (a:[[101,110,100],[101,108,115,101,105,102],[101,108,115,101],[101,120,99,101,112,116],[119,104,101,110],[116,97,103]].contains s=true):qy L j 2 s=false:=h.2 s (by simpa using a)
end
section
variable {L:List Tok}
def vw {α:Type} (L:List Tok) (N:Nat) (m:M α):Prop:=∀i f,L.length - i<N→m i f≠ .oof
def Con {α:Type} (L:List Tok) (m:M α):Prop:=∀i f a j f',m i f= .ok a j f'→i<j∧i<L.length
theorem vw.mono {α:Type} {N K:Nat} {m:M α} (h:vw L N m) (b:K≤N):vw L K m:=fun i f a=>h i f (by omega)
theorem wZ {α:Type} (a:α) (N:Nat):vw L N (ret a):=fun i f _ h=>by cases h
theorem qu7 {α:Type} (N:Nat):vw L N (qeH:M α):=fun i f _ h=>by cases h
theorem qj2 {α:Type} (m:M α):vw L 0 m:=fun i f h=>by omega
theorem kN {α β:Type} {N:Nat} {m:M α} {k:α→M β} (p:vw L N m) (n:Up m) (l:∀a,vw L N (k a)):vw L N (bnd m k):=by
 intro i f c;cases h:m i f with
 |oof=>exact absurd h (p i f c)
 |no b=>rw [qe4 h];simp
 |ok a j b=>rw [qe3 h];exact l a j b (by have:=(n.ok h).1;omega)
theorem qu8 {α β:Type} {N:Nat} {m:M α} {k:α→M β} (p:vw L N m) (l:Con L m) (n:∀a,vw L (N - 1) (k a)):vw L N (bnd m k):=by
 intro i f c;cases h:m i f with
 |oof=>exact absurd h (p i f c)
 |no b=>rw [qe4 h];simp
 |ok a j b=>rw [qe3 h];exact n a j b (by have:=l _ _ _ _ _ h;omega)
theorem qg6 {i:Nat} {ss:List Bs} (h:jW L i ss=true):i<L.length:=by
 by_cases a:i<L.length
 ·exact a
 ·unfold jW at h;rw [Qw (by omega)] at h;simp at h
theorem qg3 {i:Nat} {k:Nat} (h:(tk L i).kind=k) (b:k≠0):i<L.length:=by
 by_cases a:i<L.length
 ·exact a
 ·rw [Qw (by omega)] at h;exact absurd h.symm b
theorem wC {α:Type} {N:Nat} {s:Bs} {x y:M α} (b:vw L (N - 1) x) (c:vw L N y):vw L N (qH L s x y):=by
 intro i f a;unfold qH;split
 ·rename_i h;have:=qg6 h;exact b _ _ (by omega)
 ·exact c _ _ a
theorem Qu (N:Nat):∀ss:List Bs,vw L N (needs L ss)
 |[]=>wZ _ _
 |s::ss=>wC (Qu (N - 1) ss) (qu7 _)
theorem qj3 (N:Nat):vw L N (name L):=by
 intro i f _ h;unfold name at h;split at h<;>cases h
theorem qFB:Con L (name L):=by
 intro i f a j c h;unfold name at h;split at h
 ·rename_i b;simp only [Rs.ok.injEq] at h;have:=qg3 b (by decide);omega
 ·cases h
theorem qu5 (N:Nat):vw L N (param L):=by
 intro i f _ h;unfold param at h;split at h<;>cases h
theorem qj4 {α:Type} {e:M α} (a:Up e):∀n N,N≤n→vw L (N - 1) e→vw L N (more L e n)
 |0,N,h,_=>by
  obtain rfl:N=0:=by omega
  exact qj2 _
 |n+1,N,h,b=>wC (kN b a fun _=>kN (qj4 a n (N - 1) (by omega) (b.mono (by omega))) (qcJ a n) fun _=>wZ _ _) (wZ _ _)
theorem qu6 {α:Type} {e:M α} (a:Up e) {n N:Nat} (h:N≤n) (b:vw L N e):vw L N (listed L n e):=kN b a fun _=>kN (qj4 a n N h (b.mono (by omega))) (qcJ a n) fun _=>wZ _ _
theorem qa6 {k:M Unit} (h:Up k):Up (xc L k):=xq qag fun _=>xq (xF _) fun _=>xq h fun _=>wA _
theorem qft:∀n,vw L n (kind L n)
 |0=>qj2 _
 |n+1=>by
  have b:=qft n;have a:=yy (L:=L) n;have h:vw L n (xc L (kind L n)):=kN (qj3 _) qag fun _=>kN (Qu _ _) (xF _) fun _=>kN b a fun _=>wZ _ _;have c:vw L n (sq (needs L [[91]]) (sq (listed L n (xc L (kind L n))) (needs L [[93]]))):=kN (Qu _ _) (xF _) fun _=>kN (qu6 (qa6 a) (Nat.le_refl _) h) (qjR (qa6 a) n) fun _=>Qu _ _;exact wC (wZ _ _) (wC (wZ _ _) (wC (wZ _ _) (wC (kN (Qu _ _) (xF _) fun _=>kN b a fun _=>Qu _ _)
   (wC c (wC c (wC (qu5 _) (qu8 (qj3 _) qFB fun _=>wC (kN (b.mono (by omega)) a fun _=>Qu _ _) (wZ _ _))))))))
end
section
variable {L:List Tok}
theorem qmE {n:Nat} (h:L.length+3≤n) (f:Nat):kind L n 0 f≠ .oof:=qft n 0 f (by omega)
def zU {α:Type} (L:List Tok) (N:Nat) (m:Go.L02.N α):Prop:=∀i g,L.length - i<N→m i g≠ .oof
theorem zU.mono {α:Type} {N K:Nat} {m:Go.L02.N α} (h:zU L N m) (b:K≤N):zU L K m:=fun i g a=>h i g (by omega)
theorem yA {α:Type} (a:α) (N:Nat):zU L N (vj a):=fun i g _ h=>by cases h
theorem Qv {α:Type} (N:Nat):zU L N (kE:Go.L02.N α):=fun i g _ h=>by cases h
theorem qj5 {α:Type} (m:N α):zU L 0 m:=fun i g h=>by omega
theorem qa7 {α β:Type} {N:Nat} {m:Go.L02.N α} {k:α→Go.L02.N β} (c:zU L N m) (n:RU m) (b:∀a,zU L N (k a)):zU L N (jJ m k):=by
 intro i g p;cases h:m i g with
 |oof=>exact absurd h (c i g p)
 |val o j l=>
  cases o with
  |none=>rw [qt0 h];simp
  |some a=>rw [qtZ h];exact b a j l (by have:=(n.val h).1;omega)
theorem Qa {i k:Nat} {s:Bs} (h:qy L i k s=true):i<L.length:=by
 unfold qy at h;simp only [Bool.and_eq_true,decide_eq_true_eq] at h;exact h.1.1
theorem kO {α:Type} {N k:Nat} {s:Bs} {x y:Go.L02.N α} (b:zU L (N - 1) x) (c:zU L N y):zU L N (jr L k s x y):=by
 intro i g a;cases h:qy L i k s with
 |true=>rw [qlk h];have:=Qa h;exact b _ _ (by omega)
 |false=>rw [qll h];exact c _ _ a
theorem qj6 {α:Type} {N:Nat} {x:Bs→Go.L02.N α} (a:∀s,zU L (N - 1) (x s)):zU L N (kW L x):=by
 intro i g b;unfold kW;split
 ·rename_i h;have:=Qa h;exact a _ _ _ (by omega)
 ·simp
theorem qfu {α:Type} {N k:Nat} {x:Bs→Go.L02.N α} {y:Go.L02.N α} (b:∀s,zU L (N - 1) (x s)) (a:zU L N y):∀ss,zU L N (seen L k x y ss)
 |[]=>a
 |s::ss=>kO (b s) (qfu b a ss)
theorem qj7 {t:N Bs} (a:RU t):∀n N,N≤n→zU L (N - 1) t→zU L N (xf L t n)
 |0,N,h,_=>by
  obtain rfl:N=0:=by omega
  exact qj5 _
 |n+1,N,h,b=>qj6 fun _=>kO (qa7 (b.mono (by omega)) a fun _=>kO (qa7 (qj7 a n _ (by omega) (b.mono (by omega))) (qc7 a n) fun _=>yA _ _) (yA _ _)) (Qv _)
theorem qcO:∀n,zU L n (jE L n)
 |0=>qj5 _
 |n+1=>qfu (fun _=>yA _ _) (kO (kO (qa7 ((qcO n).mono (by omega)) (QF n) fun _=>kO (yA _ _) (Qv _)) (Qv _))
  (qfu (fun _=>kO (qa7 (qj7 (QF n) n _ (by omega) ((qcO n).mono (by omega))) (qc7 (QF n) n) fun _=>kO (yA _ _) (Qv _)) (Qv _))
   (kO (kO (yA _ _) (Qv _)) (qj6 fun _=>kO (qa7 ((qcO n).mono (by omega)) (QF n) fun _=>kO (yA _ _) (Qv _)) (yA _ _))) _)) _
theorem qjV {n:Nat} (h:L.length+3≤n) (g:Nat):jE L n 0 g≠ .oof:=qcO n 0 g (by omega)
end
end Go.L02
namespace Go.L01
open Go.Eng
set_option maxRecDepth 100000
def k9:Int→List Tok→Prop
 |_,[]=>True
 |last,t::ts=>last≤t.line∧right t.kind t.text=true∧k9 t.line ts
theorem k9.mono {a b:Int} {c:List Tok} (h:k9 b c) (j:a≤b):k9 a c:=by
 cases c with
 |nil=>trivial
 |cons t c=>exact ⟨Int.le_trans j h.1,h.2.1,h.2.2⟩
theorem k9.right {a:Int}:∀{c:List Tok},k9 a c→∀t∈c,L01.right t.kind t.text=true∧a≤t.line
 |[],_,t,b=>by simp at b
 |x::xs,h,t,b=>by
  rcases List.mem_cons.1 b with rfl|b
  ·exact ⟨h.2.1,h.1⟩
  ·have:=k9.right (h.2.2.mono h.1) t b;exact this
theorem k9.at {a:Int}:∀{c:List Tok},k9 a c→∀i (b:i+1<c.length),c[i].line≤c[i+1].line
 |[],_,i,b=>by simp at b
 |[x],_,i,b=>by simp at b
 |x::y::xs,h,0,b=>h.2.2.1
 |x::y::xs,h,i+1,b=>by
  have:=k9.at h.2.2 i (by simpa using b);simpa using this
theorem qvU (s:Bs) (l:Int):k9 l (qX s l).toks∧∀t∈(qX s l).toks,t.line≤l+s.length:=by
 refine qkQ (P:=fun s l=>k9 l (qX s l).toks∧∀t∈(qX s l).toks,t.line≤l+s.length) ?_ ?_ ?_ ?_ ?_ ?_ s l
 ·intro l;exact ⟨trivial,by simp [qc2,Res.toks]⟩
 ·intro r l h;rw [qbo];exact ⟨h.1.mono (by omega),fun t b=>by have:=h.2 t b;simp only [List.length_cons];omega⟩
 ·intro c r l z h;rw [qbn r l z];exact ⟨h.1,fun t b=>by have:=h.2 t b;simp only [List.length_cons];omega⟩
 ·intro a r l B j h;rw [qkT l B j];cases m:qX r l with
  |bad e x=>exact ⟨trivial,by simp [Res.add,Res.toks]⟩
  |ok y cs=>
   rw [m] at h;refine ⟨by simpa [Res.add,Res.toks] using h.1,fun t b=> ?_⟩;have:=h.2 t (by simpa [Res.add,Res.toks] using b);simp only [List.length_append,List.length_cons];omega
 ·intro c r l u E n p h;rw [qkS l u E n p h];exact ⟨trivial,by simp [Res.toks]⟩
 ·intro k s r l j A h;rw [qc1 (wN j).1 A (qbv j)];cases m:qX r l with
  |bad e x=>exact ⟨trivial,by simp [Res.add,Res.toks]⟩
  |ok y cs=>
   rw [m] at h;refine ⟨⟨Int.le_refl _,j,by simpa [Res.toks] using h.1⟩,fun t b=> ?_⟩;simp only [Res.add,Res.toks,List.cons_append,List.nil_append,List.mem_cons] at b;rcases b with rfl|b
   ·show l≤_;omega
   ·have:=h.2 t b;simp only [List.length_append];omega
end Go.L01
namespace Go.L02
open Go.Eng
open Go.L01 (Bs Tok jV js jz qh ql right)
def jh (s:Bs):Bool:=
 match ql s with
 | .ok ts _=>decide (s.length≤100)&&(match kind ts (ts.length+3) 0 0 with| .ok _ j _=>decide (ts.length≤j)|_=>false)&&decide (jR ts=s)
 | .bad _ _=>false
def kZ (s:Bs):Option Nat:=s.findIdx? (fun c=>decide (c=95))
def zP (s:Bs):Bool:=vP.contains s||(match kZ s with|none=>qh s|some k=>qh (s.take k)&&qh (s.drop (k+1)))
theorem qeD {s:Bs} {a:List Tok} {cs:List Bs} (h:ql s= .ok a cs):xo a:=by
 intro t c;have b:=(L01.qvU s 1).1.right;unfold ql at h;split at h
 ·cases h
 ·rw [show L01.qX s 1=_ from h] at b;exact (b t c).1
def qj (k:Nat):Bool:=decide (1≤k)&&decide (k≤10)
def kY (k:Nat):Bool:=(decide (21≤k)&&decide (k≤31))||decide (k=32)||decide (k=34)||decide (k=35)||decide (k=37)
structure Row where
 name:Option (Bs→Bool):=none
 vr:Option (Bs→Bool):=none
 typ:Option (Bs→Bool):=none
 n:Option (Int→Bool):=none
 first:List (Nat→Bool):=[]
 more:Option (Nat→Bool):=none
 least:Nat:=0
 most:Nat:=0
def jn (m:Int) (n:Int):Bool:=decide (0≤n)&&decide (n≤m)
def qt (k:Nat) (j:Nat):Bool:=decide (j=k)
def xg (_:Bs):Bool:=true
def wH:List Bs:=[[110,111,116],[43],[45],[42],[47],[109,111,100],[60],[60,61],[61],[97,110,100],[111,114]]
def qg (r:Row) (l:List (Nat→Bool)):Row:={r with first:=l,least:=l.length,most:=l.length}
def yL:List (Option Row):=
 let nm:Row:={name:=some qh}
 let ty:Row:={name:=some qh,typ:=some jh}
 [none,some (qg {n:=some (jn 1000000000)} []),some (qg {n:=some (jn 1)} []),some (qg {} []),some (qg nm []),
  some {name:=some xg,vr:=some xg,typ:=some xg,more:=some qj,most:=6},
  some {name:=some wH.contains,first:=[qj,qj],least:=1,most:=2},
  some (qg {} [qj,qj]),some (qg nm [qj]),some (qg {} [qj]),some (qg {} [qj]),
  none,none,none,none,none,none,none,none,none,
  some {more:=some kY,most:=400},some (qg ty [qj]),some (qg nm [qj]),some (qg {} [qj,qj,qj]),some (qg nm [qj,qj]),some (qg {} [qt 5]),
  some {first:=[qj,qt 20,qt 20],least:=2,most:=3},some (qg {} [qj,qt 20]),some (qg ty [qt 5,qt 20]),some {first:=[qj],most:=1},some (qg {} [qj]),some (qg nm []),
  some {first:=[qt 20],more:=some (qt 33),least:=2,most:=400},some (qg {name:=some xg} [qt 20]),some (qg {} []),
  some {first:=[qj],more:=some (qt 36),least:=2,most:=400},some (qg {name:=some qh,vr:=some qh,typ:=some jh} [qt 20]),some (qg {} [qj])]
def zZ (k:Nat):Option Row:=(yL[k]?).join
def jd (s:Bs) (p:Option (Bs→Bool)):Bool:=match p with|none=>decide (s=[])|some f=>f s
def jw (l:List Nd) (k:Int):Nat:=match l[k.toNat]? with|some x=>x.d.kind|none=>0
def xN (l:List Nd) (k:Int):Bs:=match l[k.toNat]? with|some x=>x.d.name|none=>[]
def qQ (l:List Nd) (r:Row):Nat→List Int→Bool
 |_,[]=>true
 |i,k::ks=>(match r.first[i]? with|some f=>f (jw l k)|none=>(match r.more with|some f=>f (jw l k)|none=>false))&&qQ l r (i+1) ks
def qco (d:D):Bool:=if d.vr=[] then qh d.name&&(decide (d.typ=[])||jh d.typ) else jh d.vr&&zP d.name&&decide (d.typ=[])
def wb (l:List Nd) (n:Nat):Nat→List Int→Bool
 |_,[]=>true
 |i,k::ks=>(qh (xN l k)|| !(!decide (xN l k=[])||decide (i+2<n)))&&wb l n (i+1) ks
def vi (l:List Nd) (x:Nd):Bool:=
 if x.d.kind=5 then qco x.d
 else if x.d.kind=6 then decide (x.d.name=[110,111,116])==decide (x.kids.length=1)
 else if x.d.kind=32 then wb l x.kids.length 0 (x.kids.drop 1) else true
def qZ (l:List Nd) (x:Nd):Bool:=
 match zZ x.d.kind with
 |none=>false
 |some r=>jd x.d.name r.name&&jd x.d.vr r.vr&&jd x.d.typ r.typ&&(match r.n with|none=>decide (x.d.n=0)|some f=>f x.d.n)&&
   (decide (r.least≤x.kids.length)&&decide (x.kids.length≤r.most))&&qQ l r 0 x.kids&&vi l x
def jv (k:Nat):UInt8:=if k=20 then 113 else if k=5 then 99 else if qj k then 101 else if k=33 then 119 else if k=36 then 97 else if decide (21≤k)&&decide (k≤37)&&decide (k≠33)&&decide (k≠36) then 115 else 63
def jQ (l:List Nd) (x:Nd):Bs:=x.kids.map fun k=>jv (jw l k)
def zR (a p:UInt8):Bool:=decide (a=p)||(decide (a=99)&&decide (p=101))
def jt:Bs→Bs→Bool
 |[],[]=>true
 |a::s,p::ps=>zR a p&&jt s ps
 |_,_=>false
def xC (s some:Bs):Bool:=s.all some.contains
def qI (d:D) (n v t m:Bool):Bool:=(n||decide (d.name=[]))&&(v||decide (d.vr=[]))&&(t||decide (d.typ=[]))&&(m||decide (d.n=0))
def qck (l:List Nd) (x:Nd):Bool:=((x.kids.drop 1).take (x.kids.length - 2)).all fun k=> !decide (xN l k=[])
def qx (l:List Nd) (x:Nd):Bool:=
 let k:=jQ l x
 let d:=x.d
 if d.kind=1 then qI d false false false true&&decide (0≤d.n)&&decide (d.n≤1000000000)&&decide (k=[])
 else if d.kind=2 then qI d false false false true&&(decide (d.n=0)||decide (d.n=1))&&decide (k=[])
 else if d.kind=3∨d.kind=34 then qI d false false false false&&decide (k=[])
 else if d.kind=4∨d.kind=31 then qI d true false false false&&qh d.name&&decide (k=[])
 else if d.kind=5 then decide (k.length≤6)&&xC k [101,99] &&(if d.vr=[] then qI d true false true false&&qh d.name&&(decide (d.typ=[])||jh d.typ) else qI d true true false false&&zP d.name&&jh d.vr)
 else if d.kind=6 then qI d true false false false&&((decide (d.name=[110,111,116])&&jt k [101])||(wi.contains d.name&&jt k [101,101]))
 else if d.kind=7 then qI d false false false false&&jt k [101,101]
 else if d.kind=8 then qI d true false false false&&qh d.name&&jt k [101]
 else if d.kind=9∨d.kind=10∨d.kind=30∨d.kind=37 then qI d false false false false&&jt k [101]
 else if d.kind=20 then qI d false false false false&&xC k [115]
 else if d.kind=21 then qI d true false true false&&qh d.name&&jh d.typ&&jt k [101]
 else if d.kind=22 then qI d true false false false&&qh d.name&&jt k [101]
 else if d.kind=23 then qI d false false false false&&jt k [101,101,101]
 else if d.kind=24 then qI d true false false false&&qh d.name&&jt k [101,101]
 else if d.kind=25 then qI d false false false false&&decide (k=[99])
 else if d.kind=26 then qI d false false false false&&(jt k [101,113] ||jt k [101,113,113])
 else if d.kind=27 then qI d false false false false&&jt k [101,113]
 else if d.kind=28 then qI d true false true false&&qh d.name&&jh d.typ&&decide (k=[99,113])
 else if d.kind=29 then qI d false false false false&&(decide (k=[])||jt k [101])
 else if d.kind=32 then decide (2≤k.length)&&decide (k.getD 0 0=113)&&xC (k.drop 1) [119] &&qck l x&&qI d false false false false
 else if d.kind=33 then qI d true false false false&&(decide (d.name=[])||qh d.name)&&decide (k=[113])
 else if d.kind=35 then qI d false false false false&&decide (1<k.length)&&jt (k.take 1) [101] &&xC (k.drop 1) [97]
 else if d.kind=36 then qI d true true true false&&qh d.name&&qh d.vr&&jh d.typ&&decide (k=[113])
 else false
def vm:List Nd→Nat→List Int→Option (List Int)
 |[],_,open'=>some open'
 |x::xs,i,open'=>if x.kids.length≤open'.length∧open'.drop (open'.length - x.kids.length)=x.kids then vm xs (i+1) (open'.take (open'.length - x.kids.length)++[(i:Int)]) else none
def vA (l:List Nd):Bool:=match vm l 0 [] with|some o=>decide (o.length=1)|none=>false
def kD (l:List Nd):Nat:=match l.getLast? with|some x=>x.d.kind|none=>0
def whole (l:List Nd) (root:Nat→Bool):Bool:=decide (1≤l.length)&&decide (l.length≤400)&&vA l&&root (kD l)&&l.all (qZ l)
def yT (l:List Nd):Bool:=decide (1≤l.length)&&decide (l.length≤400)&&vA l&&l.all (qx l)
def jI (l:List Nd):Bool:=whole l (qt 20)
theorem x9:∀(a b:List T),sizes (a++b)=sizes a+sizes b
 |[],b=>by simp [sizes]
 |t::a,b=>by simp [sizes,x9 a b];omega
theorem qgb:∀(a b:List T) (k:Nat),qL k (a++b)=qL k a++qL (k+sizes a) b
 |[],b,k=>by simp [qL,sizes]
 |t::a,b,k=>by simp [qL,sizes,qgb a b,Nat.add_assoc]
theorem qeE:∀(a b:List T) (k:Nat),flats k (a++b)=flats k a++flats (k+sizes a) b
 |[],b,k=>by simp [flats,sizes]
 |t::a,b,k=>by simp [flats,sizes,qeE a b,Nat.add_assoc]
theorem xb:∀(a:List T) (k:Nat),(qL k a).length=a.length
 |[],_=>rfl
 |t::a,k=>by simp [qL,xb a]
mutual
theorem T.flat_len:∀(t:T) (k:Nat),(t.flat k).length=t.size
 | .mk d ks,k=>by simp [T.flat,T.size,flats_len ks]
theorem flats_len:∀(a:List T) (k:Nat),(flats k a).length=sizes a
 |[],_=>rfl
 |t::a,k=>by simp [flats,sizes,T.flat_len t,flats_len a]
end
theorem T.size_pos (t:T):0<t.size:=by cases t;simp [T.size]
theorem qku:∀(l:List Nd) (j:List T) (o:List Int),vm l (sizes j) (qL 0 j)=some o→∃n,flats 0 j++l=flats 0 n∧o=qL 0 n
 |[],j,o,h=>by simp only [vm,Option.some.injEq] at h;exact ⟨j,by simp,h.symm⟩
 |x::xs,j,o,h=>by
  unfold vm at h;split at h
  ·rename_i t;rw [xb] at t h;obtain ⟨J,I⟩:=t;have c:j=j.take (j.length - x.kids.length)++j.drop (j.length - x.kids.length):=(List.take_append_drop _ _).symm;generalize E:j.take (j.length - x.kids.length)=a at c;generalize O:j.drop (j.length - x.kids.length)=b at c;have m:a.length=j.length - x.kids.length:=by rw [←E,List.length_take];omega
   have p:qL 0 j=qL 0 a++qL (sizes a) b:=by rw [c,qgb];simp
   have A:x.kids=qL (sizes a) b:=by
    rw [←I,p,List.drop_append,List.drop_eq_nil_of_le (by rw [xb];omega),xb,m];simp
   have y:(qL 0 j).take (j.length - x.kids.length)++[((sizes j:Nat):Int)]=qL 0 (a++[T.mk x.d b]):=by
    rw [p,List.take_append,List.take_of_length_le (by rw [xb];omega),xb,m,qgb];simp only [Nat.sub_self,List.take_zero,List.append_nil,Nat.zero_add,qL,T.size];congr 2;rw [c,x9]
    push_cast;omega
   have B:sizes j+1=sizes (a++[T.mk x.d b]):=by
    rw [x9];simp only [sizes,T.size]
    conv=>lhs;rw [c,x9]
    omega
   rw [y,B] at h;obtain ⟨n,u,z⟩:=qku xs _ _ h;refine ⟨n, ?_,z⟩;rw [←u,qeE];simp only [flats,T.flat,List.append_nil,Nat.zero_add];rw [c,qeE];simp only [Nat.zero_add];rw [←A];simp
  ·cases h
theorem qlP {l:List Nd} (h:vA l=true):∃t:T,l=t.flat 0:=by
 unfold vA at h;cases a:vm l 0 [] with
 |none=>rw [a] at h;cases h
 |some o=>
  rw [a] at h;obtain ⟨b,c,j⟩:=qku l [] o a;subst j;simp only [xb,decide_eq_true_eq] at h
  match b,h with
  |[t],_=>exact ⟨t,by simpa [flats] using c⟩
theorem qcT (x:Nd) (xs:List Nd) (i:Nat) (o:List Int):vm (x::xs) i o=if x.kids.length≤o.length∧o.drop (o.length - x.kids.length)=x.kids then vm xs (i+1) (o.take (o.length - x.kids.length)++[(i:Int)]) else none:=rfl
mutual
theorem qkt:∀(t:T) (b:Nat) (o:List Int) (xs:List Nd),vm (t.flat b++xs) b o=vm xs (b+t.size) (o++[(b:Int)+t.size - 1])
 | .mk d ks,b,o,xs=>by
  simp only [T.flat,T.size];rw [List.append_assoc,stack_trees ks b o];show vm ((⟨d,qL b ks⟩:Nd)::xs) _ _=_;rw [qcT];have j:(o++qL b ks).length - (qL b ks).length=o.length:=by simp
  simp only [j];rw [if_pos ⟨by simp,by simp⟩];have h:(o++qL b ks).take o.length=o:=by simp
  have c:b+sizes ks+1=b+(sizes ks+1):=by omega
  have a:((b+sizes ks:Nat):Int)=(b:Int)+((sizes ks+1:Nat):Int) - 1:=by omega
  rw [h,c,a]
theorem stack_trees:∀(a:List T) (b:Nat) (o:List Int) (xs:List Nd),vm (flats b a++xs) b o=vm xs (b+sizes a) (o++qL b a)
 |[],b,o,xs=>by simp [flats,sizes,qL]
 |t::a,b,o,xs=>by
  simp only [flats,sizes,qL];rw [List.append_assoc,qkt t b o,stack_trees a];simp [Nat.add_assoc]
end
theorem qdl (t:T):vA (t.flat 0)=true:=by
 unfold vA;have:=qkt t 0 [] [];simp only [List.append_nil] at this;rw [this];simp [vm]
theorem qs0 (t:T) (b:Nat):(t.flat b).getLast? =some ⟨t.d,qL b t.kids⟩:=by
 cases t;simp [T.flat,T.d,T.kids]
theorem qw5 (t:T):kD (t.flat 0)=t.d.kind:=by unfold kD;rw [qs0]
section
variable {L:List Tok}
def Sz {α:Type} (μ:α→Nat) (c:Nat) (m:M α):Prop:=∀i f a j f',m i f= .ok a j f'→i≤j∧μ a+2*i≤2*j+c
theorem Sz.mono {α:Type} {μ:α→Nat} {c d:Nat} {m:M α} (h:Sz μ c m) (l:c≤d):Sz μ d m:=fun i f a j b e=>by have:=h i f a j b e;omega
theorem qvu {α:Type} {m:M α} (h:Up m):Sz (fun _=>0) 0 m:=fun i f a j b e=>by have:=(h.ok e).1;simp;omega
def sz' (t:T):Nat:=t.size+1
end
end Go.L02
