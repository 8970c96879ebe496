/- Texts of mine for the claims about layer 2 (tree), joined: EngY. -/
import Derived.Test.YtbcmiempigoooaaGreatDoorJaw
set_option linter.all false
set_option linter.unusedSimpArgs false
set_option linter.unusedVariables false
namespace Go.Eng
open Go.RowKit
def stsOf (P:Program) (nt:Nat) (V:List Nat):Code→Option (List (Option St))
  | .region _ ops true=>if regionB ops nt&&P.follows .mixedOrders then some ((List.range ops.size).map (stOf P ops V)) else none
  |_=>none
def depsOf:Code→List (List Nat)
  | .region _ ops _=>ops.toList.map fun o=>(o.after.toList.filter fun e=>Region.binds .any e).map (·.on)
  |_=>[]
def earlier (l:List (List Nat)):Bool:=l.zipIdx.all fun p=>p.1.all fun d=>decide (d<p.2)
section
variable {ops:Array Oper} {cx:Cx}
theorem unlisted {listed : Array Bool} (hs : listed.size = ops.size) (hn : Region.ready .any ops listed = []) (he : ∀ i o, ops[i]? = some o → ∀ e ∈ o.after, Region.binds .any e = true → e.on < i) : ∀ i, i < ops.size → listed.getD i false = true := by
  intro i
  induction i using Nat.strongRecOn with
  | _ i ih =>
    intro hi
    cases h:listed.getD i false with
    |true=>rfl
    |false=>
      exfalso
      have hmem:i∈Region.ready .any ops listed:=mem_ready.2 ⟨by
        rw [Array.getD_eq_getD_getElem?,Array.getElem?_eq_getElem (by omega)] at h⊢
        simpa using h,ops[i],Array.getElem?_eq_getElem hi,fun e he1 hb=> ?_⟩
      · rw [hn] at hmem;cases hmem
      · have hlt:=he i _ (Array.getElem?_eq_getElem hi) e he1 hb
        exact ih e.on hlt (by omega)
theorem wpAny_inv (hr : Region1 cx.n ops) {J : (Nat → Bool) → Env → World → Prop} {K : Env → World → Prop} {Q : Ks} (hrd : ¬ Q.rd) (hdf : Q.df → cx.D ≠ []) (he : ∀ i o, ops[i]? = some o → ∀ e ∈ o.after, Region.binds .any e = true → e.on < i)
    (hstep:∀(L:Nat→Bool) (i:Nat) (o:Oper),ops[i]? =some o→L i=false→(∀e∈o.after,Region.binds .any e=true→L e.on=true)→∃s,stOf cx.P ops cx.V i=some s∧∀ρ w,J L ρ w→s.wp cx.P Q (J (fun k=>if k=i then true else L k)) ρ w)
    (hend:∀L ρ w,(∀i,i<ops.size→L i=true)→J L ρ w→K ρ w):
    ∀(f:Nat) (listed:Array Bool),listed.size=ops.size→listed.toList.count false≤f→∀(ρ:Env) (a:Act) (w:World),Agree cx.n cx.V ρ a→dOk cx a→J (fun k=>listed.getD k false) ρ w→wpAny cx.P .any ops (lift cx K Q) f listed a w
  |0,listed,hs,hc,ρ,a,w,ha,hD,hJ=>by
    have hn : Region.ready .any ops listed = [] := by
      cases h:Region.ready .any ops listed with
      |nil=>rfl
      |cons x l=>
        exfalso
        have hx:=(mem_ready.1 (show x∈Region.ready .any ops listed by rw [h];simp)).1
        have hlt:x<listed.size:=by
          rcases Nat.lt_or_ge x listed.size with h1|h1
          · exact h1
          · rw [Array.getD_eq_getD_getElem?,Array.getElem?_eq_none h1] at hx
            simp at hx
        rw [Array.getD_eq_getD_getElem?,Array.getElem?_eq_getElem hlt] at hx
        have:false∈listed.toList:=by
          have h2:listed[x]=false:=by simpa using hx
          rw [←h2];exact Array.getElem_mem_toList hlt
        have:=List.count_pos_iff.2 this
        omega
    exact ⟨hn,hD,ρ,ha,hend _ ρ w (unlisted hs hn he) hJ⟩
  | f + 1, listed, hs, hc, ρ, a, w, ha, hD, hJ => by
    refine ⟨fun hn=>⟨hD,ρ,ha,hend _ ρ w (unlisted hs hn he) hJ⟩,fun i hi=> ?_⟩
    obtain ⟨hf,o,ho,hall⟩:=mem_ready.1 hi
    have hlt:i<listed.size:=by rw [hs];exact (Array.getElem?_eq_some_iff.1 ho).1
    have hf':listed.getD i false=false:=by
      rw [Array.getD_eq_getD_getElem?,Array.getElem?_eq_getElem hlt] at hf⊢
      simpa using hf
    obtain ⟨s,hst,hw⟩:=hstep (fun k=>listed.getD k false) i o ho hf' hall
    refine wpOp_mono (fun a' w' h=> ?_) (step_sem hr (K0:=K) hst ha hD hrd hdf (hw ρ w hJ))
    obtain ⟨hD',ρ',ha',hJ'⟩:=h
    refine wpAny_inv hr hrd hdf he hstep hend f (listed.setIfInBounds i true) (by simpa using hs) ?_ ρ' a' w' ha' hD' ?_
    · have h1:listed[i]=false:=by
        rw [Array.getD_eq_getD_getElem?,Array.getElem?_eq_getElem hlt] at hf'
        simpa using hf'
      have h2:(listed.setIfInBounds i true).toList=listed.toList.set i true:=by simp
      rw [h2,List.count_set (by simpa using hlt)]
      have h3:listed.toList[i]'(by simpa using hlt)=false:=by simpa using h1
      have hp:0<listed.toList.count false:=List.count_pos_iff.2 (h3▸List.getElem_mem _)
      rw [h3]
      simp
      simp at hc
      omega
    · have:(fun k=>(listed.setIfInBounds i true).getD k false)=fun k=>if k=i then true else listed.getD k false:=by
        funext k
        by_cases hk:k=i
        · subst hk
          rw [if_pos rfl,Array.getD_eq_getD_getElem?,Array.getElem?_setIfInBounds_self_of_lt hlt]
          rfl
        · rw [if_neg hk,Array.getD_eq_getD_getElem?,Array.getD_eq_getD_getElem?,Array.getElem?_setIfInBounds_ne (Ne.symm hk)]
      rw [this]
      exact hJ'
theorem raw_inv {c : Code} {sts : List (Option St)} {deps : List (List Nat)} (h : stsOf cx.P cx.n cx.V c = some sts) (hd : depsOf c = deps) (hall : sts.all Option.isSome = true) (hel : earlier deps = true) (J : (Nat → Bool) → Env → World → Prop) {K : Env → World → Prop} {Q : Ks} {ρ : Env} {w : World}
    (h0:∀w',Ext w w'→w'.heap=w.heap→J (fun _=>false) ρ w')
    (hstep:∀(L:Nat→Bool) (i:Nat) (s:St) (ds:List Nat),sts[i]? =some (some s)→deps[i]? =some ds→L i=false→(∀d∈ds,L d=true)→∀ρ w,J L ρ w→s.wp cx.P Q.noRd (J (fun k=>if k=i then true else L k)) ρ w)
    (hend:∀L ρ w,(∀i,i<sts.length→L i=true)→J L ρ w→K ρ w):(IR.raw c).wp cx K Q ρ w:=by
  intro a ha hD hdf
  unfold stsOf at h
  split at h
  · rename_i id ops
    split at h
    · rename_i hc
      simp only [Bool.and_eq_true] at hc
      obtain ⟨h1,h3⟩:=hc
      cases h
      have hlen:((List.range ops.size).map (stOf cx.P ops cx.V)).length=ops.size:=by simp
      have hdi:∀(i:Nat) (o:Oper),ops[i]? =some o→deps[i]? =some ((o.after.toList.filter fun e=>Region.binds .any e).map (·.on)):=fun i o ho=>by
        rw [←hd]
        simp [depsOf,ho]
      have hmem:∀(o:Oper) e,e∈o.after→Region.binds .any e=true→e.on∈(o.after.toList.filter fun e=>Region.binds .any e).map (·.on):=fun o e he hb=>List.mem_map.2 ⟨e,List.mem_filter.2 ⟨by simpa using he,hb⟩,rfl⟩
      refine wp_region_any h3 (wpAny_inv (regionB_spec h1) (Q:=Q.noRd) (J:=J) (fun h=>h) hdf ?_ ?_ ?_ _ _ (by simp) (by simp) ρ a _ ha hD ?_)
      · intro i o ho e he hb
        have h5:=hdi i o ho
        unfold earlier at hel
        have h6:=List.all_eq_true.1 hel (_,i) (List.mem_zipIdx_iff_getElem?.2 h5)
        exact of_decide_eq_true (List.all_eq_true.1 h6 e.on (hmem o e he hb))
      · intro L i o ho hL hds
        have hi:=(Array.getElem?_eq_some_iff.1 ho).1
        have h5:((List.range ops.size).map (stOf cx.P ops cx.V))[i]? =some (stOf cx.P ops cx.V i):=by simp [hi]
        have h6:=List.all_eq_true.1 hall _ (List.mem_of_getElem? h5)
        obtain ⟨s,hs⟩:=Option.isSome_iff_exists.1 h6
        rw [hs] at h5
        refine ⟨s,hs,fun ρ w hJ=>hstep L i s _ h5 (hdi i o ho) hL (fun d hd'=> ?_) ρ w hJ⟩
        obtain ⟨e,he,rfl⟩:=List.mem_map.1 hd'
        obtain ⟨he1,he2⟩:=List.mem_filter.1 he
        exact hds e (by simpa using he1) he2
      · intro L ρ w hL hJ
        exact hend L ρ w (fun i hi=>hL i (by rw [hlen] at hi;exact hi)) hJ
      · have:(fun k=>(Array.replicate ops.size false).getD k false)=fun _=>false:=by
          funext k
          rw [Array.getD_eq_getD_getElem?,Array.getElem?_replicate]
          split<;>rfl
        rw [this]
        exact h0 _ ⟨rfl,rfl,rfl,Nat.le_refl _,fun _ _=>rfl⟩ rfl
    · cases h
  · cases h
end
end Go.Eng
