/- Texts of mine for the claims about layer 2 (tree), joined: EngC. -/
import Derived.Test.YtbcmiempigoooaaGreatDoorJab
set_option linter.all false
set_option linter.unusedSimpArgs false
set_option linter.unusedVariables false
namespace Go.Eng
open Go.RowKit
inductive Ex where
  |var (i:Nat)
  |const (v:Value)
  |op1 (k:K1) (x:Ex)
  |op2 (k:K2) (x y:Ex)
  |op3 (k:K3) (x y z:Ex)
  |op4 (k:K4) (x y z u:Ex)
  |ite (c x y:Ex)
def pickV (c:Value) (x y:Option Value):Option Value:=
  match c with
  | .bool true=>x
  | .bool false=>y
  |_=>none
def Ex.ev (ρ:Env) (w:World):Ex→Option Value
  | .var i=>some (ρ i)
  | .const v=>some v
  | .op1 k x=>(x.ev ρ w).bind (pv1 w k)
  | .op2 k x y=>(x.ev ρ w).bind fun a=>(y.ev ρ w).bind fun b=>pv2 w k a b
  | .op3 k x y z=>(x.ev ρ w).bind fun a=>(y.ev ρ w).bind fun b=>(z.ev ρ w).bind fun c=>pv3 w k a b c
  | .op4 k x y z u=>(x.ev ρ w).bind fun a=>(y.ev ρ w).bind fun b=>(z.ev ρ w).bind fun c=>(u.ev ρ w).bind fun d=>pv4 w k a b c d
  | .ite c x y=>(c.ev ρ w).bind fun a=>pickV a (x.ev ρ w) (y.ev ρ w)
def constOf:Operand→Value
  | .const v=>v
  | .global g=> .pointer (some ⟨g,0,none⟩)
  | .func f=> .func (.func f) #[] #[]
  | .tmp _=>undef
def leaf:Operand→Ex
  | .tmp t=> .var t
  |x=> .const (constOf x)
def dstOf (ops:Array Oper) (i:Nat):Option Nat:=(ops[i]?).bind (·.dst)
def fusedIn (V:List Nat):Operand→Bool
  | .tmp t=> !V.contains t
  |_=>false
def PO.opds:PO→List Operand
  | .k1 _ x=>[x]
  | .k2 _ x y=>[x,y]
  | .k3 _ x y z=>[x,y,z]
  | .k4 _ x y z u=>[x,y,z,u]
def PO.mk:PO→List Ex→Option Ex
  | .k1 .same _,[a]=>some a
  | .k1 k _,[a]=>some (.op1 k a)
  | .k2 k _ _,[a,b]=>some (.op2 k a b)
  | .k3 k _ _ _,[a,b,c]=>some (.op3 k a b c)
  | .k4 k _ _ _ _,[a,b,c,d]=>some (.op4 k a b c d)
  |_,_=>none
def guardLt (g:Option (Nat×Bool)) (j:Nat):Bool:=match g with|none=>true|some (i,_)=>decide (i<j)
def pickShape (V:List Nat):Op→Option (Operand×Operand×Value×Bool)
  | .pick c (.const va) b=>if fusedIn V b then some (c,b,va,false) else none
  | .pick c a (.const vb)=>if fusedIn V a then some (c,a,vb,true) else none
  |_=>none
section
variable (P:Program) (ops:Array Oper) (V:List Nat)
def pxo (rec : Nat → Option (Ex × Nat)) (g : Option (Nat × Bool)) (x : Operand) (pos : Nat) : Option (Ex × Nat) :=
  if fusedIn V x then
    match x,pos with
    | .tmp t,p+1=>if dstOf ops p=some t∧(ops[p]?).map (·.guard)=some g then rec p else none
    |_,_=>none
  else some (leaf x,pos)
def pxos (rec:Nat→Option (Ex×Nat)) (g:Option (Nat×Bool)):List Operand→Nat→Option (List Ex×Nat)
  |[],pos=>some ([],pos)
  |x::xs,pos=>(pxos rec g xs pos).bind fun (es,j)=>(pxo ops V rec g x j).bind fun (e,j')=>some (e::es,j')
def pxNode (rec : Nat → Option (Ex × Nat)) (o : Oper) (k : Nat) : Option (Ex × Nat) :=
  match pickShape V o.op with
  | some (c, y, cv, want) =>
    match k,c,y with
    | p + 1, .tmp tc, .tmp ty =>
      match (ops[p]?).bind (·.guard) with
      |some (i,want')=>
        if want'=want∧dstOf ops p=some ty∧dstOf ops i=some tc∧(o.guard=none∨fusedIn V c=true) then
          (rec p).bind fun (ey,jy)=>(pxo ops V rec o.guard c jy).bind fun (ec,jc)=>some (if want then .ite ec ey (.const cv) else .ite ec (.const cv) ey,jc)
        else none
      |none=>none
    |_,_,_=>none
  |none=>
    match o.op with
    | .pick c a b=>if fusedIn V a||fusedIn V b then none else (pxo ops V rec o.guard c k).bind fun (ec,jc)=>some (.ite ec (leaf a) (leaf b),jc)
    |op=>(trOp P op).bind fun p=>(pxos ops V rec o.guard p.opds k).bind fun (es,j)=>(p.mk es).map fun e=>(e,j)
def px:Nat→Nat→Option (Ex×Nat)
  |0,_=>none
  |fuel+1,k=>(ops[k]?).bind fun o=>(pxNode P ops V (px fuel) o k).bind fun (e,j)=>if guardLt o.guard j then some (e,j) else none
end
def PV (P:Program) (w:World) (o:Oper) (a:Act) (v:Value):Prop:=∀w',Ext w w'→(execOp a.eval o).run P w'= .ok (.value v) w'
def PS (P : Program) (w : World) (ops : Array Oper) : List Nat → Act → (Act → Prop) → Prop
  |[],a,K=>K a
  |i::is,a,K=>match ops[i]? with
    |none=>PS P w ops is a K
    |some o=>if Region.wanted o (yielded ops a.tmps) then∃v,PV P w o a v∧PS P w ops is (a.put o.dst v) K else PS P w ops is (a.put o.dst undef) K
theorem PS_append {P : Program} {w : World} {ops : Array Oper} : ∀ (l m : List Nat) (a : Act) (K : Act → Prop), PS P w ops l a (fun a' => PS P w ops m a' K) → PS P w ops (l ++ m) a K
  |[],_,_,_,h=>h
  | i :: l, m, a, K, h => by
    simp only [List.cons_append,PS] at h⊢
    split
    · rename_i e;simp only [e] at h;exact PS_append l m a K h
    · rename_i o e
      simp only [e] at h
      split
      · rename_i hw;simp only [hw,if_true] at h
        obtain ⟨v,hv,hk⟩:=h
        exact ⟨v,hv,PS_append l m _ K hk⟩
      · rename_i hw;simp only [hw] at h
        exact PS_append l m _ K (by simpa using h)
def gS:Nat:=1000000000
def encD:Deferred→Value
  |⟨.collected r,_⟩=> .int .i64 r
  |⟨.fn f caps,args⟩=> .func f args caps
  |_=> .bool false
def encDs (l:List Deferred):Value:= .tuple (l.map encD).toArray
def consD (d:Deferred):Value→Value
  | .tuple vs=> .tuple (encD d::vs.toList).toArray
  |v=>v
theorem consD_encDs (d:Deferred) (l:List Deferred):consD d (encDs l)=encDs (d::l):=by simp [consD,encDs]
def envOf (V:List Nat) (a:Act):Env:=fun i=>if i=gS then encDs a.defers else if i∈V then a.tmps.getD i undef else undef
structure Agree (n:Nat) (V:List Nat) (ρ:Env) (a:Act):Prop where
  size:a.tmps.size=n
  env:ρ=envOf V a
  lt:∀i∈V,i<n
  big:n≤gS
theorem Agree.ne {n:Nat} {V:List Nat} {ρ:Env} {a:Act} (h:Agree n V ρ a) {i:Nat} (hi:i∈V):i≠gS:=by
  have h1:=h.lt i hi
  have h2:=h.big
  omega
theorem Agree.at {n:Nat} {V:List Nat} {ρ:Env} {a:Act} (h:Agree n V ρ a) {i:Nat} (hi:i∈V):ρ i=a.tmps.getD i undef:=by
  rw [h.env];simp only [envOf];rw [if_neg (h.ne hi),if_pos hi]
theorem Agree.ds {n:Nat} {V:List Nat} {ρ:Env} {a:Act} (h:Agree n V ρ a):ρ gS=encDs a.defers:=by
  rw [h.env];simp [envOf]
structure Fr (ops:Array Oper) (j k:Nat) (a a':Act):Prop where
  size:a'.tmps.size=a.tmps.size
  defers:a'.defers=a.defers
  keep:∀t,(∀i,j≤i→i<k→dstOf ops i≠some t)→a'.tmps[t]? =a.tmps[t]?
theorem Fr.refl (ops:Array Oper) (j k:Nat) (a:Act):Fr ops j k a a:=⟨rfl,rfl,fun _ _=>rfl⟩
theorem Fr.trans {ops:Array Oper} {i j k:Nat} {a b c:Act} (h:Fr ops i j a b) (h':Fr ops j k b c) (hij:i≤j) (hjk:j≤k):Fr ops i k a c:=
  ⟨h'.size.trans h.size,h'.defers.trans h.defers,fun t ht=>(h'.keep t fun x hx hx'=>ht x (by omega) hx').trans (h.keep t fun x hx hx'=>ht x hx (by omega))⟩
theorem Fr.put {ops:Array Oper} {k:Nat} {o:Oper} (ho:ops[k]? =some o) (a:Act) (v:Value):Fr ops k (k+1) a (a.put o.dst v):=by
  have hd:dstOf ops k=o.dst:=by simp [dstOf,ho]
  cases h:o.dst with
  |none=>exact Fr.refl _ _ _ _
  |some d=>
    refine ⟨by simp [Act.put],rfl,fun t ht=> ?_⟩
    have hne:d≠t:=fun e=>ht k (Nat.le_refl _) (by omega) (by rw [hd,h,e])
    simp [Act.put,hne]
structure Region1 (n:Nat) (ops:Array Oper):Prop where
  once:∀i i' t,dstOf ops i=some t→dstOf ops i'=some t→i=i'
  lt:∀i t,dstOf ops i=some t→t<n
def Free (ops:Array Oper) (V:List Nat) (j k:Nat):Prop:=∀i,j≤i→i<k→∀t,dstOf ops i=some t→t∉V
theorem Agree.fr {n:Nat} {V:List Nat} {ρ:Env} {a a':Act} {ops:Array Oper} {j k:Nat} (h:Agree n V ρ a) (hf:Fr ops j k a a') (hfree:Free ops V j k):Agree n V ρ a':=by
  refine ⟨hf.size.trans h.size, ?_,h.lt,h.big⟩
  rw [h.env]
  funext i
  simp only [envOf,hf.defers]
  split
  · rfl
  · split
    · rename_i hi
      have:=hf.keep i fun x hx hx' e=>hfree x hx hx' i e hi
      simp only [Array.getD_eq_getD_getElem?,this]
    · rfl
def gok (ops:Array Oper) (g:Option (Nat×Bool)) (a:Act):Bool:=match g with|none=>true|some (i,want)=>yielded ops a.tmps i==some want
theorem wanted_gok (ops:Array Oper) (o:Oper) (a:Act):Region.wanted o (yielded ops a.tmps)=gok ops o.guard a:=rfl
theorem yielded_fr {n:Nat} {ops:Array Oper} (hr:Region1 n ops) {j k i:Nat} {a a':Act} (hf:Fr ops j k a a') (hi:i<j):yielded ops a'.tmps i=yielded ops a.tmps i:=by
  simp only [yielded]
  cases hd:dstOf ops i with
  |none=>simp only [dstOf] at hd;simp [hd]
  |some t=>
    have hk:=hf.keep t fun x hx hx' e=>by have:=hr.once _ _ _ hd e;omega
    simp only [dstOf] at hd
    simp [hd,hk]
theorem gok_fr {n:Nat} {ops:Array Oper} (hr:Region1 n ops) {j k:Nat} {a a':Act} {g:Option (Nat×Bool)} (hf:Fr ops j k a a') (hg:guardLt g j=true):gok ops g a'=gok ops g a:=by
  cases g with
  |none=>rfl
  |some p=>
    obtain ⟨i,want⟩:=p
    simp only [guardLt,decide_eq_true_eq] at hg
    simp only [gok,yielded_fr hr hf hg]
def Safe (ops:Array Oper) (V:List Nat) (x:Operand) (pos:Nat):Prop:=∀t,x= .tmp t→t∈V∨∃i,i<pos∧dstOf ops i=some t
theorem eval_fr {n:Nat} {ops:Array Oper} {V:List Nat} (hr:Region1 n ops) {x:Operand} {pos j k:Nat} {a a':Act} (hs:Safe ops V x pos) (hf:Fr ops j k a a') (hp:pos≤j) (hfree:Free ops V j k):
    a'.eval x=a.eval x:=by
  cases x with
  |tmp t=>
    have:a'.tmps[t]? =a.tmps[t]? :=hf.keep t fun i hi hi' e=>by
      rcases hs t rfl with h|⟨i',hi2,e'⟩
      · exact hfree i hi hi' t e h
      · have:=hr.once _ _ _ e e';omega
    simp only [Act.eval,Array.getD_eq_getD_getElem?,this]
  |const v=>rfl
  |global g=>rfl
  |func f=>rfl
section
variable (P:Program) (ops:Array Oper) (V:List Nat) (n:Nat)
structure SemX (k:Nat) (e:Ex) (j:Nat):Prop where
  le:j≤k
  free:Free ops V j k
  lt:∀o,ops[k]? =some o→guardLt o.guard j=true
  yes:∀o,ops[k]? =some o→∀(ρ:Env) (w:World) (a:Act) (v:Value),Agree n V ρ a→gok ops o.guard a=true→e.ev ρ w=some v→∀K:Act→Prop,
    (∀a',Fr ops j (k+1) a a'→(∀d,o.dst=some d→a'.tmps[d]? =some v)→K a')→PS P w ops (List.range' j (k+1 - j)) a K
  no:∀o,ops[k]? =some o→∀(w:World) (a:Act),a.tmps.size=n→gok ops o.guard a=false→∀K:Act→Prop,
    (∀a',Fr ops j (k+1) a a'→(∀d,o.dst=some d→a'.tmps[d]? =some undef)→K a')→PS P w ops (List.range' j (k+1 - j)) a K
structure SemL (g:Option (Nat×Bool)) (xs:List Operand) (pos:Nat) (es:List Ex) (j:Nat):Prop where
  le:j≤pos
  free:Free ops V j pos
  safe:∀x∈xs,Safe ops V x pos
  yes:guardLt g j=true→∀(ρ:Env) (w:World) (a:Act) (vs:List Value),Agree n V ρ a→gok ops g a=true→es.map (·.ev ρ w)=vs.map some→∀K:Act→Prop,
    (∀a',Fr ops j pos a a'→xs.map a'.eval=vs→K a')→PS P w ops (List.range' j (pos - j)) a K
  no:guardLt g j=true→∀(w:World) (a:Act),a.tmps.size=n→gok ops g a=false→∀K:Act→Prop,
    (∀a',Fr ops j pos a a'→(∀x∈xs,fusedIn V x=true→a'.eval x=undef)→K a')→PS P w ops (List.range' j (pos - j)) a K
end
theorem map_some1 {x:Option Value} {vs:List Value} (h:[x]=vs.map some):∃v,vs=[v]∧x=some v:=by
  cases vs with
  |nil=>cases h
  |cons v vs=>cases vs with
    |nil=>exact ⟨v,rfl,by simpa using h⟩
    |cons u us=>simp at h
theorem leaf_ev {n:Nat} {V:List Nat} {ρ:Env} {a:Act} {w:World} {x:Operand} {v:Value} (h:Agree n V ρ a) (hx:fusedIn V x=false) (hv:(leaf x).ev ρ w=some v):a.eval x=v:=by
  cases x with
  |tmp t=>
    simp only [leaf,Ex.ev,Option.some.injEq] at hv
    have ht:t∈V:=by simpa [fusedIn] using hx
    rw [←hv,h.at ht]
    simp [Act.eval]
  |const u=>simpa [leaf,Ex.ev,constOf,Act.eval] using hv
  |global g=>simpa [leaf,Ex.ev,constOf,Act.eval] using hv
  |func f=>simpa [leaf,Ex.ev,constOf,Act.eval] using hv
theorem leaf_safe {ops:Array Oper} {V:List Nat} {x:Operand} (hx:fusedIn V x=false) (pos:Nat):Safe ops V x pos:=fun t e=>by
  subst e;exact .inl (by simpa [fusedIn] using hx)
section
variable {P:Program} {ops:Array Oper} {V:List Nat} {n:Nat} {rec:Nat→Option (Ex×Nat)}
theorem pxo_sem (_hr : Region1 n ops) (hrec : ∀ k e j, rec k = some (e, j) → SemX P ops V n k e j) {g : Option (Nat × Bool)} {x : Operand} {pos : Nat} {e : Ex} {j : Nat}
    (h:pxo ops V rec g x pos=some (e,j)):SemL P ops V n g [x] pos [e] j:=by
  unfold pxo at h
  split at h
  · rename_i hfu
    split at h
    · rename_i t p
      split at h
      · rename_i hc
        obtain ⟨hd,hg⟩:=hc
        have hs:=hrec _ _ _ h
        obtain ⟨o,ho,hgo⟩:∃o,ops[p]? =some o∧o.guard=g:=by
          cases ho:ops[p]? with
          |none=>simp [ho] at hg
          |some o=>simp only [ho,Option.map_some,Option.some.injEq] at hg;exact ⟨o,rfl,hg⟩
        have hdo:o.dst=some t:=by simpa [dstOf,ho] using hd
        have htV:t∉V:=by simpa [fusedIn] using hfu
        refine ⟨by have:=hs.le;omega,fun i hi hi' u hu=> ?_,fun y hy u hu=> ?_,fun _ ρ w a vs ha hok hev K hK=> ?_,fun _ w a hsz hok K hK=> ?_⟩
        · by_cases hip:i=p
          · subst hip;rw [hd] at hu;cases hu;exact htV
          · exact hs.free i hi (by omega) u hu
        · have hy':y= .tmp t:=by simpa using hy
          subst hy';cases hu
          exact .inr ⟨p,by omega,hd⟩
        · obtain ⟨v,rfl,hev'⟩:=map_some1 hev
          refine hs.yes o ho ρ w a v ha (by rw [hgo];exact hok) hev' K fun a' hfr hv=>hK a' hfr ?_
          have:=hv t hdo
          simp [Act.eval,Array.getD_eq_getD_getElem?,this]
        · refine hs.no o ho w a hsz (by rw [hgo];exact hok) K fun a' hfr hv=>hK a' hfr fun y hy _=> ?_
          have hy':y= .tmp t:=by simpa using hy
          subst hy'
          simp [Act.eval,Array.getD_eq_getD_getElem?,hv t hdo]
      · cases h
    · cases h
  · rename_i hfu
    have hfu':fusedIn V x=false:=by simpa using hfu
    simp only [Option.some.injEq,Prod.mk.injEq] at h
    obtain ⟨rfl,rfl⟩:=h
    refine ⟨Nat.le_refl _,fun i hi hi'=>by omega,fun y hy=> ?_,fun _ ρ w a vs ha hok hev K hK=> ?_,fun _ w a hsz hok K hK=> ?_⟩
    · have hy':y=x:=by simpa using hy
      subst hy';exact leaf_safe hfu' _
    · obtain ⟨v,rfl,hev'⟩:=map_some1 hev
      simp only [Nat.sub_self,List.range',PS]
      exact hK a (Fr.refl _ _ _ _) (by simp [leaf_ev ha hfu' hev'])
    · simp only [Nat.sub_self,List.range',PS]
      refine hK a (Fr.refl _ _ _ _) fun y hy hyf=> ?_
      have hy':y=x:=by simpa using hy
      subst hy';simp [hfu'] at hyf
theorem range'_split {i j k:Nat} (h1:i≤j) (h2:j≤k):List.range' i (k - i)=List.range' i (j - i)++List.range' j (k - j):=by
  have h:= @List.range'_append_1 i (j - i) (k - j)
  rw [show i+(j - i)=j by omega,show (j - i)+(k - j)=k - i by omega] at h
  exact h.symm
theorem pxos_sem (hr : Region1 n ops) (hrec : ∀ k e j, rec k = some (e, j) → SemX P ops V n k e j) {g : Option (Nat × Bool)} : ∀ {xs : List Operand} {pos : Nat} {es : List Ex} {j : Nat},
    pxos ops V rec g xs pos=some (es,j)→SemL P ops V n g xs pos es j
  |[],pos,es,j,h=>by
    simp only [pxos,Option.some.injEq,Prod.mk.injEq] at h
    obtain ⟨rfl,rfl⟩:=h
    refine ⟨Nat.le_refl _,fun i hi hi'=>by omega,fun y hy=>(by cases hy),fun _ ρ w a vs ha hok hev K hK=> ?_,fun _ w a hsz hok K hK=> ?_⟩
    · simp only [Nat.sub_self,List.range',PS]
      match vs,hev with
      |[],_=>exact hK a (Fr.refl _ _ _ _) rfl
    · simp only [Nat.sub_self,List.range',PS]
      exact hK a (Fr.refl _ _ _ _) fun y hy=>by cases hy
  | x :: xs, pos, es, j, h => by
    simp only [pxos,Option.bind_eq_some_iff,Prod.exists,Option.some.injEq,Prod.mk.injEq] at h
    obtain ⟨es',j1,h1,e,j2,h2,rfl,rfl⟩:=h
    have s1:=pxos_sem hr hrec h1
    have s2:=pxo_sem hr hrec h2
    have l1:=s1.le
    have l2:=s2.le
    refine ⟨by omega,fun i hi hi'=> ?_,fun y hy=> ?_,fun hlt ρ w a vs ha hok hev K hK=> ?_,fun hlt w a hsz hok K hK=> ?_⟩
    · by_cases hij:i<j1
      · exact s2.free i hi hij
      · exact s1.free i (by omega) hi'
    · rcases List.mem_cons.1 hy with rfl|hy
      · intro t ht
        rcases s2.safe _ (List.mem_singleton.2 rfl) t ht with hh|⟨i,hi,hd⟩
        · exact .inl hh
        · exact .inr ⟨i,by omega,hd⟩
      · exact s1.safe y hy
    · match vs,hev with
      | v :: vs, hev =>
        simp only [List.map_cons,List.cons.injEq] at hev
        obtain ⟨hev1,hev2⟩:=hev
        have hlt1:guardLt g j1=true:=by
          cases g with
          |none=>rfl
          |some p=>simp only [guardLt,decide_eq_true_eq] at hlt⊢;omega
        rw [range'_split l2 l1]
        refine PS_append _ _ _ _ (s2.yes hlt ρ w a [v] ha hok (by simpa using hev1) _ fun a1 hf1 hv1=> ?_)
        refine s1.yes hlt1 ρ w a1 vs (ha.fr hf1 s2.free) (by rw [gok_fr hr hf1 hlt];exact hok) hev2 _ fun a2 hf2 hv2=> ?_
        refine hK a2 (hf1.trans hf2 l2 l1) ?_
        have h0:a2.eval x=a1.eval x:=eval_fr hr (s2.safe x (List.mem_singleton.2 rfl)) hf2 (Nat.le_refl _) s1.free
        simp only [List.map_cons,List.cons.injEq,List.map_nil,and_true] at hv1
        simp only [List.map_cons,h0,hv1,hv2]
    · have hlt1:guardLt g j1=true:=by
        cases g with
        |none=>rfl
        |some p=>simp only [guardLt,decide_eq_true_eq] at hlt⊢;omega
      rw [range'_split l2 l1]
      refine PS_append _ _ _ _ (s2.no hlt w a hsz hok _ fun a1 hf1 hv1=> ?_)
      refine s1.no hlt1 w a1 (hf1.size.trans hsz) (by rw [gok_fr hr hf1 hlt];exact hok) _ fun a2 hf2 hv2=> ?_
      refine hK a2 (hf1.trans hf2 l2 l1) fun y hy hyf=> ?_
      rcases List.mem_cons.1 hy with rfl|hy
      · rw [eval_fr hr (s2.safe y (List.mem_singleton.2 rfl)) hf2 (Nat.le_refl _) s1.free]
        exact hv1 y (List.mem_singleton.2 rfl) hyf
      · exact hv2 y hy hyf
theorem PS_one {w:World} {a:Act} {k:Nat} {o:Oper} (ho:ops[k]? =some o) (hok:gok ops o.guard a=true) {v:Value} (hv:PV P w o a v) {K:Act→Prop} (h:K (a.put o.dst v)):PS P w ops [k] a K:=by
  simp only [PS,ho,wanted_gok,hok,if_true]
  exact ⟨v,hv,h⟩
theorem PS_skip {w:World} {a:Act} {k:Nat} {o:Oper} (ho:ops[k]? =some o) (hok:gok ops o.guard a=false) {K:Act→Prop} (h:K (a.put o.dst undef)):PS P w ops [k] a K:=by
  simp only [PS,ho,wanted_gok,hok]
  exact h
theorem put_get {a:Act} {o:Oper} {v:Value} (hlt:∀d,o.dst=some d→d<a.tmps.size):∀d,o.dst=some d→(a.put o.dst v).tmps[d]? =some v:=by
  intro d hd
  simp [Act.put,hd,hlt d hd]
theorem dst_lt (hr:Region1 n ops) {k:Nat} {o:Oper} (ho:ops[k]? =some o) {a:Act} (hsz:a.tmps.size=n):∀d,o.dst=some d→d<a.tmps.size:=by
  intro d hd
  rw [hsz];exact hr.lt k d (by simp [dstOf,ho,hd])
theorem mk_ev {p:PO} {es:List Ex} {e:Ex} (h:p.mk es=some e) {ρ:Env} {w:World} {v:Value} (hv:e.ev ρ w=some v):
    ∃vs,es.map (·.ev ρ w)=vs.map some∧∀f:Operand→Value,p.opds.map f=vs→p.val w f=some v:=by
  unfold PO.mk at h
  split at h
  · cases h
    exact ⟨[v],by simp [hv],fun f hf=>by simp only [PO.opds,List.map_cons,List.map_nil,List.cons.injEq,and_true] at hf;simp [PO.val,pv1,hf]⟩
  · cases h
    simp only [Ex.ev,Option.bind_eq_some_iff] at hv
    obtain ⟨a,ha,hv⟩:=hv
    exact ⟨[a],by simp [ha],fun f hf=>by simp only [PO.opds,List.map_cons,List.map_nil,List.cons.injEq,and_true] at hf;simp [PO.val,hf,hv]⟩
  · cases h
    simp only [Ex.ev,Option.bind_eq_some_iff] at hv
    obtain ⟨a,ha,b,hb,hv⟩:=hv
    exact ⟨[a,b],by simp [ha,hb],fun f hf=>by simp only [PO.opds,List.map_cons,List.map_nil,List.cons.injEq,and_true] at hf;simp [PO.val,hf.1,hf.2,hv]⟩
  · cases h
    simp only [Ex.ev,Option.bind_eq_some_iff] at hv
    obtain ⟨a,ha,b,hb,c,hc,hv⟩:=hv
    exact ⟨[a,b,c],by simp [ha,hb,hc],fun f hf=>by simp only [PO.opds,List.map_cons,List.map_nil,List.cons.injEq,and_true] at hf;simp [PO.val,hf.1,hf.2.1,hf.2.2,hv]⟩
  · cases h
    simp only [Ex.ev,Option.bind_eq_some_iff] at hv
    obtain ⟨a,ha,b,hb,c,hc,d,hd,hv⟩:=hv
    exact ⟨[a,b,c,d],by simp [ha,hb,hc,hd],fun f hf=>by simp only [PO.opds,List.map_cons,List.map_nil,List.cons.injEq,and_true] at hf;simp [PO.val,hf.1,hf.2.1,hf.2.2.1,hf.2.2.2,hv]⟩
  · cases h
theorem range'_last {j k:Nat} (h:j≤k):List.range' j (k+1 - j)=List.range' j (k - j)++[k]:=by
  have:=range'_split (i:=j) (j:=k) (k:=k+1) h (by omega)
  simpa using this
theorem pickShape_spec {op:Op} {c y:Operand} {cv:Value} {want:Bool} (h:pickShape V op=some (c,y,cv,want)):
    fusedIn V y=true∧((want=false∧op= .pick c (.const cv) y)∨(want=true∧op= .pick c y (.const cv))):=by
  unfold pickShape at h
  split at h
  · split at h
    · rename_i hf;cases h;exact ⟨hf, .inl ⟨rfl,rfl⟩⟩
    · cases h
  · split at h
    · rename_i hf;cases h;exact ⟨hf, .inr ⟨rfl,rfl⟩⟩
    · cases h
  · cases h
theorem pxNode_sem (hr : Region1 n ops) (hrec : ∀ k e j, rec k = some (e, j) → SemX P ops V n k e j) {k : Nat} {o : Oper} (ho : ops[k]? = some o) {e : Ex} {j : Nat}
    (h:pxNode P ops V rec o k=some (e,j)) (hlt:guardLt o.guard j=true):SemX P ops V n k e j:=by
  have ho':∀o',ops[k]? =some o'→o'=o:=fun o' h'=>Option.some.inj (h'.symm.trans ho)
  unfold pxNode at h
  split at h
  ·
    rename_i c y cv want hsh
    obtain ⟨hfy,hop⟩:=pickShape_spec hsh
    split at h
    · rename_i p tc ty
      split at h
      · rename_i i want' hgp
        split at h
        · rename_i hc
          obtain ⟨rfl,hdp,hdi,hcf⟩:=hc
          simp only [Option.bind_eq_some_iff,Prod.exists,Option.some.injEq,Prod.mk.injEq] at h
          obtain ⟨ey,jy,hy,ec,jc,hcx,rfl,rfl⟩:=h
          have sy:=hrec _ _ _ hy
          have sc:=pxo_sem hr hrec hcx
          obtain ⟨op',hop',hgo'⟩:∃o',ops[p]? =some o'∧o'.guard=some (i,want'):=by
            cases hp:ops[p]? with
            |none=>simp [hp] at hgp
            |some o'=>simp only [hp,Option.bind_some] at hgp;exact ⟨o',rfl,hgp⟩
          have hdop:op'.dst=some ty:=by simpa [dstOf,hop'] using hdp
          have lty:=sy.lt op' hop'
          rw [hgo'] at lty
          simp only [guardLt,decide_eq_true_eq] at lty
          have ly:=sy.le
          have lc:=sc.le
          have htyV:ty∉V:=by simpa [fusedIn] using hfy
          have free_y:Free ops V jy (p+1):=fun x hx hx' t ht=>by
            by_cases hxp:x=p
            · subst hxp;rw [hdp] at ht;cases ht;exact htyV
            · exact sy.free x hx (by omega) t ht
          have hltp:guardLt o.guard (p+1)=true:=by
            cases hg:o.guard with
            |none=>rfl
            |some q=>rw [hg] at hlt;simp only [guardLt,decide_eq_true_eq] at hlt⊢;omega
          have hyield:∀(a1:Act) (b:Bool),a1.tmps.size=n→a1.eval (.tmp tc)= .bool b→yielded ops a1.tmps i=some b:=by
            intro a1 b hsz hb
            have hdi':((ops[i]?).bind (·.dst))=some tc:=hdi
            have htc:tc<a1.tmps.size:=by rw [hsz];exact hr.lt _ _ hdi
            simp only [Act.eval,Array.getD_eq_getD_getElem?] at hb
            simp only [yielded,hdi',Option.bind_some]
            cases hg:a1.tmps[tc]? with
            |none=>simp [Array.getElem?_eq_getElem htc] at hg
            |some u=>simp only [hg,Option.getD_some] at hb;subst hb;rfl
          refine ⟨by omega,fun x hx hx' t ht=> ?_,fun o' h'=>by rw [ho' o' h'];exact hlt,fun o' h' ρ w a v ha hok hev K hK=> ?_,fun o' h' w a hsz hok K hK=> ?_⟩
          · by_cases hxj:x<jy
            · exact sc.free x hx hxj t ht
            · exact free_y x (by omega) hx' t ht
          · obtain rfl:=ho' o' h'
            obtain ⟨cb,hcb⟩:∃cb,ec.ev ρ w=some (.bool cb)∧(if cb=want' then ey.ev ρ w=some v else v=cv):=by
              cases want'<;>simp only [Bool.false_eq_true,if_false,if_true,Ex.ev,Option.bind_eq_some_iff,pickV] at hev<;>obtain ⟨u,hu,hev⟩:=hev<;>
                (split at hev
                 · exact ⟨true,hu,by simpa [eq_comm] using hev⟩
                 · exact ⟨false,hu,by simpa [eq_comm] using hev⟩
                 · cases hev)
            obtain ⟨hcb,hval⟩:=hcb
            rw [range'_last (by omega),range'_split (j:=jy) lc (by omega)]
            refine PS_append _ _ _ _ (PS_append _ _ _ _ (sc.yes hlt ρ w a [.bool cb] ha hok (by simp [hcb]) _ fun a1 hf1 hv1=> ?_))
            simp only [List.map_cons,List.map_nil,List.cons.injEq,and_true] at hv1
            have hsz1:a1.tmps.size=n:=hf1.size.trans ha.size
            have ha1:=ha.fr hf1 sc.free
            have hyl:=hyield a1 cb hsz1 hv1
            have hgy:gok ops op'.guard a1=(cb==want'):=by rw [hgo'];simp only [gok,hyl];cases cb<;>cases want'<;>rfl
            have hok1:gok ops o'.guard a1=true:=by rw [gok_fr hr hf1 hlt];exact hok
            have fin:∀a2,Fr ops jy (p+1) a1 a2→(if cb=want' then a2.tmps[ty]? =some v else a2.tmps[ty]? =some undef)→PS P w ops [p+1] a2 K:=by
              intro a2 hf2 hv2
              have hcv:a2.eval (.tmp tc)= .bool cb:=(eval_fr hr (sc.safe _ (List.mem_singleton.2 rfl)) hf2 (Nat.le_refl _) free_y).trans hv1
              have hlty:guardLt o'.guard jy=true:=by
                cases hg:o'.guard with
                |none=>rfl
                |some q=>rw [hg] at hlt;simp only [guardLt,decide_eq_true_eq] at hlt⊢;omega
              have hok2:gok ops o'.guard a2=true:=by rw [gok_fr hr hf2 hlty];exact hok1
              refine PS_one ho hok2 (v:=v) (fun w' _=> ?_) (hK _ ((hf1.trans hf2 lc (by omega)).trans (Fr.put ho a2 v) (by omega) (by omega)) (put_get (dst_lt hr ho (hf2.size.trans hsz1))))
              have hyv:cb=want'→a2.eval (.tmp ty)=v:=fun e=>by
                simp only [e,if_true] at hv2
                simp [Act.eval,Array.getD_eq_getD_getElem?,hv2]
              rcases hop with ⟨rfl,hop⟩|⟨rfl,hop⟩
              · cases cb
                · simp [execOp,hop,hcv,asBool,hyv rfl]
                · simp only [Bool.true_eq_false,if_false] at hval
                  subst hval
                  have hcst:a2.eval (.const v)=v:=rfl
                  simp [execOp,hop,hcv,asBool,hcst]
              · cases cb
                · simp only [Bool.false_eq_true,if_false] at hval
                  subst hval
                  have hcst:a2.eval (.const v)=v:=rfl
                  simp [execOp,hop,hcv,asBool,hcst]
                · simp [execOp,hop,hcv,asBool,hyv rfl]
            by_cases hcw:cb=want'
            · simp only [hcw,if_true] at hval
              refine sy.yes op' hop' ρ w a1 v ha1 (by rw [hgy,hcw];simp) hval _ fun a2 hf2 hv2=>fin a2 hf2 ?_
              rw [if_pos hcw];exact hv2 ty hdop
            · refine sy.no op' hop' w a1 hsz1 (by rw [hgy];simpa using hcw) _ fun a2 hf2 hv2=>fin a2 hf2 ?_
              rw [if_neg hcw];exact hv2 ty hdop
          · obtain rfl:=ho' o' h'
            have hcf':fusedIn V (.tmp tc)=true:=by
              rcases hcf with hcf|hcf
              · rw [hcf] at hok;cases hok
              · exact hcf
            rw [range'_last (by omega),range'_split (j:=jy) lc (by omega)]
            refine PS_append _ _ _ _ (PS_append _ _ _ _ (sc.no hlt w a hsz hok _ fun a1 hf1 hv1=> ?_))
            have hsz1:a1.tmps.size=n:=hf1.size.trans hsz
            have hcu:a1.eval (.tmp tc)=undef:=hv1 _ (List.mem_singleton.2 rfl) hcf'
            have hgy:gok ops op'.guard a1=false:=by
              rw [hgo']
              have hdi':((ops[i]?).bind (·.dst))=some tc:=hdi
              have htc:tc<a1.tmps.size:=by rw [hsz1];exact hr.lt _ _ hdi
              simp only [gok,yielded,hdi',Option.bind_some]
              simp only [Act.eval,Array.getD_eq_getD_getElem?] at hcu
              cases hg:a1.tmps[tc]? with
              |none=>simp [Array.getElem?_eq_getElem htc] at hg
              |some u=>simp only [hg,Option.getD_some] at hcu;subst hcu;rfl
            refine sy.no op' hop' w a1 hsz1 hgy _ fun a2 hf2 hv2=> ?_
            have hlty:guardLt o'.guard jy=true:=by
              cases hg:o'.guard with
              |none=>rfl
              |some q=>rw [hg] at hlt;simp only [guardLt,decide_eq_true_eq] at hlt⊢;omega
            have hok2:gok ops o'.guard a2=false:=by rw [gok_fr hr hf2 hlty,gok_fr hr hf1 hlt];exact hok
            exact PS_skip ho hok2 (hK _ ((hf1.trans hf2 lc (by omega)).trans (Fr.put ho a2 _) (by omega) (by omega)) (put_get (dst_lt hr ho (hf2.size.trans hsz1))))
        · cases h
      · cases h
    · cases h
  · split at h
    ·
      rename_i c x y hop
      split at h
      · cases h
      · rename_i hxy
        simp only [Bool.or_eq_true,not_or,Bool.not_eq_true] at hxy
        simp only [Option.bind_eq_some_iff,Prod.exists,Option.some.injEq,Prod.mk.injEq] at h
        obtain ⟨ec,jc,hcx,rfl,rfl⟩:=h
        have sc:=pxo_sem hr hrec hcx
        have lc:=sc.le
        refine ⟨sc.le,sc.free,fun o' h'=>by rw [ho' o' h'];exact hlt,fun o' h' ρ w a v ha hok hev K hK=> ?_,fun o' h' w a hsz hok K hK=> ?_⟩
        · obtain rfl:=ho' o' h'
          simp only [Ex.ev,Option.bind_eq_some_iff,pickV] at hev
          obtain ⟨u,hu,hev⟩:=hev
          obtain ⟨cb,rfl,hval⟩:∃cb,u= .bool cb∧(if cb then (leaf x).ev ρ w=some v else (leaf y).ev ρ w=some v):=by
            split at hev
            · exact ⟨true,rfl,hev⟩
            · exact ⟨false,rfl,by simpa using hev⟩
            · cases hev
          rw [range'_last lc]
          refine PS_append _ _ _ _ (sc.yes hlt ρ w a [.bool cb] ha hok (by simp [hu]) _ fun a1 hf1 hv1=> ?_)
          simp only [List.map_cons,List.map_nil,List.cons.injEq,and_true] at hv1
          have ha1:=ha.fr hf1 sc.free
          have hok1:gok ops o'.guard a1=true:=by rw [gok_fr hr hf1 hlt];exact hok
          refine PS_one ho hok1 (v:=v) (fun w' _=> ?_) (hK _ (hf1.trans (Fr.put ho a1 v) lc (by omega)) (put_get (dst_lt hr ho ha1.size)))
          cases cb
          · simp only [Bool.false_eq_true,if_false] at hval
            simp [execOp,hop,hv1,asBool,leaf_ev ha1 hxy.2 hval]
          · simp only [if_true] at hval
            simp [execOp,hop,hv1,asBool,leaf_ev ha1 hxy.1 hval]
        · obtain rfl:=ho' o' h'
          rw [range'_last lc]
          refine PS_append _ _ _ _ (sc.no hlt w a hsz hok _ fun a1 hf1 hv1=> ?_)
          have hok2:gok ops o'.guard a1=false:=by rw [gok_fr hr hf1 hlt];exact hok
          exact PS_skip ho hok2 (hK _ (hf1.trans (Fr.put ho a1 _) lc (by omega)) (put_get (dst_lt hr ho (hf1.size.trans hsz))))
    · rename_i hop
      simp only [Option.bind_eq_some_iff,Prod.exists,Option.map_eq_some_iff,Prod.mk.injEq] at h
      obtain ⟨p,hp,es,j',hes,e',hmk,rfl,rfl⟩:=h
      have sc:=pxos_sem hr hrec hes
      have lc:=sc.le
      refine ⟨sc.le,sc.free,fun o' h'=>by rw [ho' o' h'];exact hlt,fun o' h' ρ w a v ha hok hev K hK=> ?_,fun o' h' w a hsz hok K hK=> ?_⟩
      · obtain rfl:=ho' o' h'
        obtain ⟨vs,hvs,hval⟩:=mk_ev hmk hev
        rw [range'_last lc]
        refine PS_append _ _ _ _ (sc.yes hlt ρ w a vs ha hok hvs _ fun a1 hf1 hv1=> ?_)
        have ha1:=ha.fr hf1 sc.free
        have hok1:gok ops o'.guard a1=true:=by rw [gok_fr hr hf1 hlt];exact hok
        refine PS_one ho hok1 (v:=v) (fun w' hw'=> ?_) (hK _ (hf1.trans (Fr.put ho a1 v) lc (by omega)) (put_get (dst_lt hr ho ha1.size)))
        exact trOp_run hp (fun _=>rfl) (PO.val_ext hw' (hval a1.eval hv1))
      · obtain rfl:=ho' o' h'
        rw [range'_last lc]
        refine PS_append _ _ _ _ (sc.no hlt w a hsz hok _ fun a1 hf1 hv1=> ?_)
        have hok2:gok ops o'.guard a1=false:=by rw [gok_fr hr hf1 hlt];exact hok
        exact PS_skip ho hok2 (hK _ (hf1.trans (Fr.put ho a1 _) lc (by omega)) (put_get (dst_lt hr ho (hf1.size.trans hsz))))
end
theorem px_sem {P:Program} {ops:Array Oper} {V:List Nat} {n:Nat} (hr:Region1 n ops):∀(fuel k:Nat) (e:Ex) (j:Nat),px P ops V fuel k=some (e,j)→SemX P ops V n k e j
  |0,_,_,_,h=>by cases h
  |fuel+1,k,e,j,h=>by
    simp only [px,Option.bind_eq_some_iff,Prod.exists] at h
    obtain ⟨o,ho,e',j',hn,hg⟩:=h
    split at hg
    · rename_i hlt
      cases hg
      exact pxNode_sem hr (px_sem hr fuel) ho hn hlt
    · cases hg
end Go.Eng
