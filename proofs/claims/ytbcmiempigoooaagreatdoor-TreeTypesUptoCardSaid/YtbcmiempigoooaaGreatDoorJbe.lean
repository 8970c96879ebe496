/- Texts of mine for the claims about layer 2 (tree), joined: EngXf. -/
import Derived.Test.YtbcmiempigoooaaGreatDoorJbd
set_option linter.all false
set_option linter.unusedSimpArgs false
set_option linter.unusedVariables false
namespace Go.Eng
open Go.RowKit
theorem all2_ok {f:Value→Value→Bool} (hf:∀a b,f a b=true→a=b):∀{l m:List Value},veq.all2 f l m=true→l=m
  |[],[],_=>rfl
  |a::l,b::m,h=>by
    simp only [veq.all2,Bool.and_eq_true] at h
    rw [hf a b h.1,all2_ok hf h.2]
  |[],_::_,h=>by simp [veq.all2] at h
  |_::_,[],h=>by simp [veq.all2] at h
theorem all2_arr {f:Value→Value→Bool} (hf:∀a b,f a b=true→a=b) {a b:Array Value} (h:veq.all2 f a.toList b.toList=true):a=b:=Array.toList_inj.1 (all2_ok hf h)
theorem veq_ok:∀(n:Nat) (a b:Value),veq n a b=true→a=b
  |0,_,_,h=>by simp [veq] at h
  | n + 1, a, b, h => by
    unfold veq at h
    split at h
    · simpa using h
    · simpa using h
    · rw [strB_iff.1 h]
    · rfl
    · simpa using h
    · simpa using h
    · simpa [and_assoc] using h
    · simpa using h
    · rfl
    · rfl
    · simp only [Bool.and_eq_true,beq_iff_eq] at h
      rw [h.1.1,all2_arr (veq_ok n) h.1.2,all2_arr (veq_ok n) h.2]
    · rw [all2_arr (veq_ok n) h]
    · rw [all2_arr (veq_ok n) h]
    · simp only [Bool.and_eq_true,beq_iff_eq] at h
      rw [h.1,veq_ok n _ _ h.2]
    · cases h
theorem obeq_ok {a b:Ob} (h:obeq a b=true):a=b:=by
  unfold obeq at h
  simp only [Bool.and_eq_true,beq_iff_eq] at h
  cases a;cases b
  simp only [Ob.mk.injEq]
  exact ⟨all2_ok (veq_ok 4) h.1.1.1.1,h.1.1.1.2,h.1.1.2,h.1.2,h.2⟩
theorem Tr.noneB_ok {α:Type}:∀{t:Tr α},t.noneB=true→∀k,t.get k=none
  | .lf,_,_=>rfl
  | .nd none l r,h,k=>by
    simp only [Tr.noneB,Bool.and_eq_true] at h
    rw [Tr.get_nd,Tr.noneB_ok h.1,Tr.noneB_ok h.2]
    simp
  | .nd (some _) _ _,h,k=>by simp [Tr.noneB] at h
theorem Tr.eqB_ok {α:Type} {f:α→α→Bool} (hf:∀a b,f a b=true→a=b):∀{t u:Tr α},t.eqB f u=true→∀k,t.get k=u.get k
  | .nd v l r, .nd u m q,h,k=>by
    simp only [Tr.eqB,Bool.and_eq_true] at h
    rw [Tr.get_nd,Tr.get_nd,Tr.eqB_ok hf h.1.2,Tr.eqB_ok hf h.2]
    have:v=u:=by
      have:=h.1.1
      unfold optB at this
      split at this
      · rfl
      · rw [hf _ _ this]
      · cases this
    rw [this]
  | .lf,t,h,k=>by
    have h':t.noneB=true:=by cases t<;>exact h
    rw [Tr.noneB_ok h' k];rfl
  | .nd v l r, .lf,h,k=>by
    have h':(Tr.nd v l r).noneB=true:=h
    rw [Tr.noneB_ok h' k];rfl
def After (σ:Sg) (w0:World) (K:Env→World→Prop) (Q:Ks):Ou→Prop
  | .go e s=>∀τ ρ w,σ.le τ→Iv τ w0 s w→ER τ e ρ→K ρ w
  | .ex i e s=>∀τ ρ w,σ.le τ→Iv τ w0 s w→ER τ e ρ→Q.ex i ρ w
  | .rt e s=>∀τ ρ w,σ.le τ→Iv τ w0 s w→ER τ e ρ→Q.rt ρ w
  | .pn c s=>∀τ ρ w,σ.le τ→Iv τ w0 s w→Q.pn ρ c w
  | .ret _ _=>False
theorem After.le {σ τ:Sg} {w0:World} {K:Env→World→Prop} {Q:Ks} {o:Ou} (h:After σ w0 K Q o) (hl:σ.le τ):After τ w0 K Q o:=by
  cases o with
  |go e s=>exact fun υ ρ w hu=>h υ ρ w (Sg.le_trans hl hu)
  |ex i e s=>exact fun υ ρ w hu=>h υ ρ w (Sg.le_trans hl hu)
  |rt e s=>exact fun υ ρ w hu=>h υ ρ w (Sg.le_trans hl hu)
  |pn c s=>exact fun υ ρ w hu=>h υ ρ w (Sg.le_trans hl hu)
  |ret v s=>exact h
def CallAfter (σ:Sg) (w0:World):Ou→Ending→World→Prop
  | .ret v s=>fun e w=>∃τ v',σ.le τ∧Iv τ w0 s w∧VR τ v v'∧e= .returned v'
  | .pn c s=>fun e w=>∃τ,σ.le τ∧Iv τ w0 s w∧e= .panicked c
  |_=>fun _ _=>False
def Qn (Q:Ks):Prop:=∀ρ ρ' c w,Q.pn ρ c w→Q.pn ρ' c w
def FaOk (σ:Sg) (L:List Fa) (w:World):Prop:=∀f∈L,∀a',VR σ f.a a'→∃v',pv1 w f.k a'=some v'∧VR σ f.v v'
def Grd (σ:Sg) (L:List Fa):Prop:=∀f∈L,(∃a',VR σ f.a a')∧∃v',VR σ f.v v'
structure Sound (P:Program) (G0:World→Prop) (r:Sx→Tk→Option Ou):Prop where
  ir:∀F a e s o,r s (.ir F a e)=some o→∀(σ:Sg) (w0:World) (ρ:Env) (w:World) (K:Env→World→Prop) (Q:Ks),G0 w0→Iv σ w0 s w→ER σ e ρ→Qn Q→After σ w0 K Q o→a.wp ⟨P,F.nt,F.V,[]⟩ K Q ρ w
  sts:∀l e s o,r s (.sts l e)=some o→∀(σ:Sg) (w0:World) (ρ:Env) (w:World) (K:Env→World→Prop) (Q:Ks),G0 w0→Iv σ w0 s w→ER σ e ρ→Qn Q→After σ w0 K Q o→wps P Q l K ρ w
  ord:∀L bs t e s o,r s (.ord L bs t e)=some o→∀(σ0 σ:Sg) (w0:World) (ρ:Env) (w:World) (K:Env→World→Prop) (Q:Ks) (S:World→Prop),G0 w0→Iv σ w0 s w→ER σ e ρ→Qn Q→After σ w0 K Q o→σ0.le σ→
    (∀l,L=some l→Grd σ0 l∧FaOk σ0 l w∧S=FaOk σ0 l)→t.wp P Q S K ρ w
  call:∀f args s o,r s (.call f args)=some o→∀(σ:Sg) (w0 w:World) (args':List Value),G0 w0→Iv σ w0 s w→VRs σ args args'→Calls P f args'.toArray w (CallAfter σ w0 o)
section
variable {P:Program} {G0:World→Prop} {r:Sx→Tk→Option Ou} {σ:Sg} {w0 w:World} {ρ:Env} {e:Tr Value} {s:Sx} {K:Env→World→Prop} {Q:Ks} {o:Ou} {pr:TypeId→Bool}
theorem contX_ok (hr:Sound P G0 r) (hg:G0 w0) (hq:Qn Q) {l:List St} {d:Option Nat} {v v':Value} (he:ER σ e ρ) (hI:Iv σ w0 s w) (hv:VR σ v v') (h:contX r l d e v s=some o) (ha:After σ w0 K Q o):wps P Q l K (updO ρ d v') w:=by
  unfold contX at h
  split at h
  · rename_i e' he'
    exact hr.sts l e' s o h σ w0 _ w K Q hg hI (putX_ok he hv he') hq ha
  · cases h
theorem effW_callX {d:Option Nat} {ty:TypeId} {c:Operand} {args:Array Operand} {ats:Array TypeId} {f:FuncId} {fs cs:Array Value} (h:callB P f=true) (hc:evE ρ c= .func (.func f) fs cs) (hk:Calls P f (fs++args.map (evE ρ)++cs) w (callK Q d K ρ)):
    effW P Q d (.call {callee:= .value c,args:=args,argTypes:=ats}) ty K ρ w:=by
  have key:effE P Q d (.call {callee:= .value c,args:=args,argTypes:=ats}) ty K ρ w:=by
    unfold effE
    rw [run_callv (P:=P) h hc]
    exact hk.mono fun e w' hh=>by cases e<;>exact hh
  cases c with
  |func g=>
    have hc':Value.func (.func g) #[] #[]= .func (.func f) fs cs:=hc
    cases hc'
    refine ⟨h, ?_⟩
    simpa using hk
  |_=>exact key
theorem stCall_ok (hr : Sound P G0 r) (hg : G0 w0) (hq : Qn Q) {l : List St} {d : Option Nat} {ty : TypeId} {c : Operand} {args : Array Operand} {ats : Array TypeId} (he : ER σ e ρ) (hI : Iv σ w0 s w) (h : stCall P r s l d e (opX e c) (opsX e args.toList) = some o) (ha : After σ w0 K Q o) :
    effW P Q d (.call {callee:= .value c,args:=args,argTypes:=ats}) ty (wps P Q l K) ρ w:=by
  unfold stCall at h
  split at h
  · rename_i f fs cs vs hc hvs
    obtain ⟨hcb,h⟩:=bifP h
    have hvc:=opX_ok he hc
    have hva:=opsX_ok he hvs
    generalize hq1:evE ρ c=q at hvc
    cases hvc with
    |pln h'=>cases h'
    | fnc h1 h2 h3 h4 =>
      rename_i fs' cs'
      have hfs:VRs σ fs.toList fs'.toList:=VRs.of (by simpa using h1) fun j x y hx hy=>h2 j x y (by simpa using hx) (by simpa using hy)
      have hcs:VRs σ cs.toList cs'.toList:=VRs.of (by simpa using h3) fun j x y hx hy=>h4 j x y (by simpa using hx) (by simpa using hy)
      unfold backK at h
      have key:∀o1,r s (.call f (fs.toList++(vs++cs.toList)))=some o1→(∀en w',CallAfter σ w0 o1 en w'→callK Q d (wps P Q l K) ρ en w')→effW P Q d (.call {callee:= .value c,args:=args,argTypes:=ats}) ty (wps P Q l K) ρ w:=by
        intro o1 ho1 hk
        have hcall:=hr.call _ _ _ _ ho1 σ w0 w (fs'.toList++(args.toList.map (evE ρ)++cs'.toList)) hg hI (hfs.app (hva.app hcs))
        have harr:(fs'.toList++(args.toList.map (evE ρ)++cs'.toList)).toArray=fs'++args.map (evE ρ)++cs':=by
          apply Array.toList_inj.1
          simp
        rw [harr] at hcall
        exact effW_callX hcb hq1 (hcall.mono hk)
      split at h
      · rename_i v s' hc1
        refine key _ hc1 ?_
        rintro en w' ⟨τ,v',hl,hI',hv',rfl⟩
        exact contX_ok hr hg hq (he.mono hl) hI' hv' h (ha.le hl)
      · rename_i c1 s' hc1
        cases h
        refine key _ hc1 ?_
        rintro en w' ⟨τ,hl,hI',rfl⟩
        exact ha τ ρ w' hl hI'
      · cases h
  · cases h
theorem stEff_ok (hpr : PrOk P pr) (hr : Sound P G0 r) (hg : G0 w0) (hq : Qn Q) {k : Option Nat} {l : List St} {d : Option Nat} {ty : TypeId} {op : Op} (he : ER σ e ρ) (hI : Iv σ w0 s w) (h : stEff P pr r s k l d e op = some o) (ha : After σ w0 K Q o) : effW P Q d op ty (wps P Q l K) ρ w := by
  have eff:∀x,contO r l d e x=some o→(∀v s',x=some (v,s')→effX P pr e s k op=some (v,s'))→effW P Q d op ty (wps P Q l K) ρ w:=by
    intro x hx hxe
    unfold contO at hx
    split at hx
    · rename_i v s'
      exact effX_ok hpr hI he (hxe v s' rfl) fun τ v' W hl hI' hv=>contX_ok hr hg hq (he.mono hl) hI' hv hx (ha.le hl)
    · cases hx
  unfold stEff at h
  split at h
  · rename_i x
    unfold stPan at h
    split at h
    · rename_i v hv
      split at h
      · rename_i t u
        obtain ⟨hc,h⟩:=bifP h
        cases h
        have hx:=(opX_ok he hv).uniq (constB_ok hc)
        exact eff_panic hx (ha σ ρ w (Sg.le_refl σ) hI)
      · cases h
    · cases h
  · rename_i c
    obtain ⟨ce,as,ts⟩:=c
    dsimp only at h
    split at h
    · rename_i f
      exact stCall_ok hr hg hq he hI h ha
    · exact eff _ h fun v s' hx=>hx
  · exact eff _ h fun v s' hx=>hx
theorem stsX_ok (hpr : PrOk P pr) (hr : Sound P G0 r) (hg : G0 w0) (hq : Qn Q) {k : Option Nat} {l : List St} (he : ER σ e ρ) (hI : Iv σ w0 s w) (h : stsX P pr r s k e l = some o) (ha : After σ w0 K Q o) : wps P Q l K ρ w := by
  unfold stsX at h
  split at h
  · cases h
    exact ha σ ρ w (Sg.le_refl σ) hI he
  · rename_i g d x l
    show (if gd ρ g=true then onV (x.ev ρ w) (fun v=>wps P Q l K (upd ρ d v) w) else wps P Q l K (upd ρ d undef) w)
    split at h
    · rename_i hgd
      rw [if_pos (gdX_ok he hgd)]
      unfold stAsg at h
      split at h
      · rename_i v hv
        obtain ⟨v',h1,h2⟩:=evX_ok hI.mr he hv
        rw [h1]
        exact contX_ok (d:=some d) hr hg hq he hI h2 h ha
      · cases h
    · rename_i hgd
      rw [if_neg (by rw [gdX_ok he hgd];decide)]
      exact contX_ok (d:=some d) hr hg hq he hI undef_ok h ha
    · cases h
  · rename_i g d op ty l
    show (if gd ρ g=true then effW P Q d op ty (wps P Q l K) ρ w else wps P Q l K (updO ρ d undef) w)
    split at h
    · rename_i hgd
      rw [if_pos (gdX_ok he hgd)]
      exact stEff_ok hpr hr hg hq he hI h ha
    · rename_i hgd
      rw [if_neg (by rw [gdX_ok he hgd];decide)]
      exact contX_ok hr hg hq he hI undef_ok h ha
    · cases h
theorem FaOk.up {τ:Sg} {L:List Fa} (h:FaOk σ L w) (hg:Grd σ L) (hl:σ.le τ):FaOk τ L w:=fun f hf a' ha=>by
  obtain ⟨⟨a0,h0⟩,_⟩:=hg f hf
  have:a'=a0:=ha.uniq (h0.mono hl)
  subst this
  obtain ⟨v',h1,h2⟩:=h f hf a' h0
  exact ⟨v',h1,h2.mono hl⟩
theorem mr_lf:MR σ .lf w:=fun i o h=>by cases h
theorem k1eq_ok {a b:K1} (h:k1eq a b=true):a=b:=by
  unfold k1eq at h
  split at h
  · rfl
  · simpa using h
  · rfl
  · cases h
theorem findX_ok:∀{L:List Fa} {k:K1} {a v:Value},findX L k a=some v→∃f∈L,f.k=k∧f.a=a∧f.v=v
  |[],_,_,_,h=>by cases h
  | f :: l, k, a, v, h => by
    unfold findX at h
    cases hc:(k1eq f.k k&&veq 4 f.a a) with
    |true=>
      rw [hc] at h
      cases h
      simp only [Bool.and_eq_true] at hc
      exact ⟨f,by simp,k1eq_ok hc.1,veq_ok 4 _ _ hc.2,rfl⟩
    |false=>
      rw [hc] at h
      obtain ⟨g,h1,h2⟩:=findX_ok h
      exact ⟨g,List.mem_cons_of_mem _ h1,h2⟩
theorem evF_ok {L : List Fa} (hf : FaOk σ L w) (he : ER σ e ρ) {x : Ex} {v : Value} (h : evF L e x = some v) : ∃ v', x.ev ρ w = some v' ∧ VR σ v v' := by
  unfold evF at h
  split at h
  · rename_i k x
    split at h
    · rename_i a ha
      obtain ⟨a',h1,h2⟩:=evX_ok (mr_lf (w:=w)) he ha
      split at h
      · rename_i u hu
        cases h
        obtain ⟨u',h3,h4⟩:=x1_ok (mr_lf (w:=w)) h2 hu
        exact ⟨u',by simp only [Ex.ev,h1,Option.bind_some,h3],h4⟩
      · obtain ⟨f,hfm,rfl,rfl,rfl⟩:=findX_ok h
        obtain ⟨v',h3,h4⟩:=hf f hfm a' h2
        exact ⟨v',by simp only [Ex.ev,h1,Option.bind_some,h3],h4⟩
    · cases h
  · exact evX_ok mr_lf he h
theorem takes_ok {H : Mem} (hM : MR σ H w) : ∀ {t : OT} {e : Tr Value} {ρ : Env}, ER σ e ρ → ∀ f ∈ takesX H t e, ((∃ a', VR σ f.a a') ∧ ∃ v', VR σ f.v v') ∧ ∀ a', VR σ f.a a' → ∃ v', pv1 w f.k a' = some v' ∧ VR σ f.v v'
  | .take g d ex t, e, ρ, he, f, hf => by
    unfold takesX at hf
    split at hf
    · split at hf
      · rename_i v hv
        obtain ⟨v',h1,h2⟩:=evX_ok hM he hv
        rcases List.mem_append.1 hf with hf|hf
        · split at hf
          · rename_i k x
            split at hf
            · rename_i a ha
              obtain ⟨a',h3,h4⟩:=evX_ok (mr_lf (w:=w)) he ha
              split at hf
              · simp at hf
              · simp only [List.mem_singleton] at hf
                subst hf
                refine ⟨⟨⟨a',h4⟩,⟨v',h2⟩⟩,fun a2 ha2=> ?_⟩
                have:a2=a':=ha2.uniq h4
                subst this
                refine ⟨v', ?_,h2⟩
                simpa only [Ex.ev,h3,Option.bind_some] using h1
            · simp at hf
          · simp at hf
        · split at hf
          · rename_i e' he'
            exact takes_ok hM (setX_ok he h2 he') f hf
          · simp at hf
      · simp at hf
    · split at hf
      · rename_i e' he'
        exact takes_ok hM (setX_ok he undef_ok he') f hf
      · simp at hf
    · simp at hf
  | .done,_,_,_,f,hf=>by simp [takesX] at hf
  | .step ..,_,_,_,f,hf=>by simp [takesX] at hf
  | .both ..,_,_,_,f,hf=>by simp [takesX] at hf
theorem same_ok {τ:Sg} {L:List Fa} {H:Mem} (hg:Grd σ L) (hl:σ.le τ) (hM:MR τ H w) (h:sameX H L=true):FaOk σ L w:=fun f hf a' ha=>by
  have h1:=List.all_eq_true.1 h f hf
  split at h1
  · rename_i u hu
    have:=veq_ok 4 _ _ h1
    subst this
    obtain ⟨u',h2,h3⟩:=x1_ok hM (ha.mono hl) hu
    obtain ⟨_,v0,hv0⟩:=hg f hf
    have:u'=v0:=h3.uniq (hv0.mono hl)
    subst this
    exact ⟨u',h2,hv0⟩
  · cases h1
theorem eq_iv {s1 s2:Sx} (h:∀k,s1.H.get k=s2.H.get k) (h1:s1.nx=s2.nx) (h2:s1.rs=s2.rs) (hI:Iv σ w0 s2 w):Iv σ w0 s1 w:=
  ⟨fun i o hi=>hI.mr i o (by rw [←h];exact hi),by rw [h1,h2];exact hI.dom,by rw [h1,h2];exact hI.res,fun i j oi oj pi pj hi hj=>hI.ap i j oi oj pi pj (by rw [←h];exact hi) (by rw [←h];exact hj),hI.ext,fun i o p hi=>hI.own i o p (by rw [←h];exact hi)⟩
theorem ordX_ok (hpr : PrOk P pr) (hr : Sound P G0 r) (hg : G0 w0) (hq : Qn Q) {L : Option (List Fa)} {bs : Option Nat} {t : OT} {σ0 : Sg} {S : World → Prop} (he : ER σ e ρ) (hI : Iv σ w0 s w) (h : ordX P pr r s L bs e t = some o) (ha : After σ w0 K Q o) (h0 : σ0.le σ)
    (hS:∀l,L=some l→Grd σ0 l∧FaOk σ0 l w∧S=FaOk σ0 l):t.wp P Q S K ρ w:=by
  unfold ordX at h
  split at h
  · cases h
    exact ha σ ρ w (Sg.le_refl σ) hI he
  · rename_i g d x t
    split at h
    · cases h
    · rename_i l
      obtain ⟨hgr,hfa,hSe⟩:=hS l rfl
      have cont:∀v v',VR σ v v'→ordK r s (some l) bs t e d (some v)=some o→t.wp P Q S K (upd ρ d v') w:=by
        intro v v' hv hk
        unfold ordK at hk
        dsimp only at hk
        split at hk
        · rename_i e' he'
          exact hr.ord _ _ _ _ _ _ hk σ0 σ w0 _ w K Q S hg hI (setX_ok he hv he') hq ha h0 hS
        · cases hk
      show (if gd ρ g=true then onV (x.ev ρ w) (fun v=>(∀w',S w'→x.ev ρ w'=some v)∧t.wp P Q S K (upd ρ d v) w) else t.wp P Q S K (upd ρ d undef) w)
      split at h
      · rename_i hgd
        rw [if_pos (gdX_ok he hgd)]
        cases hv:evF l e x with
        |none=>rw [hv] at h;cases h
        |some v=>
          rw [hv] at h
          obtain ⟨v',h1,h2⟩:=evF_ok (hfa.up hgr h0) he hv
          rw [h1]
          refine ⟨fun w' hw'=> ?_,cont v v' h2 h⟩
          rw [hSe] at hw'
          obtain ⟨u',h3,h4⟩:=evF_ok (hw'.up hgr h0) he hv
          rw [h3,h4.uniq h2]
      · rename_i hgd
        rw [if_neg (by rw [gdX_ok he hgd];decide)]
        exact cont undef undef undef_ok h
      · cases h
  · rename_i x b t
    show x.wp P Q (fun ρ' w'=>(b=true→S w')∧t.wp P Q S K ρ' w') ρ w
    have go:∀o1,stsX P pr r s (numX bs x) e [x]=some o1→After σ w0 (fun ρ' w'=>(b=true→S w')∧t.wp P Q S K ρ' w') Q o1→x.wp P Q (fun ρ' w'=>(b=true→S w')∧t.wp P Q S K ρ' w') ρ w:=fun o1 h1 h2=>stsX_ok hpr hr hg hq he hI h1 h2
    unfold ordS at h
    split at h
    · rename_i e' s' h1
      refine go _ h1 fun τ ρ' w' hl hI' he'=> ?_
      cases b with
      |true=>
        cases L with
        |none=>cases h
        |some l=>
          obtain ⟨hgr,hfa,hSe⟩:=hS l rfl
          obtain ⟨hsm,h⟩:=bifP (b:=sameX s'.H l) h
          have hf2:=same_ok hgr (Sg.le_trans h0 hl) hI'.mr hsm
          exact ⟨fun _=>by rw [hSe];exact hf2,hr.ord _ _ _ _ _ _ h σ0 τ w0 _ w' K Q S hg hI' he' hq (ha.le hl) (Sg.le_trans h0 hl) fun l' hl'=>by cases hl';exact ⟨hgr,hf2,hSe⟩⟩
      |false=>
        exact ⟨(fun hb=>by cases hb),hr.ord _ _ _ _ _ _ h σ0 τ w0 _ w' K Q S hg hI' he' hq (ha.le hl) (Sg.le_trans h0 hl) (fun l' hl'=>by cases hl')⟩
    · rename_i c s' h1
      cases h
      exact go _ h1 fun τ ρ' w' hl hI'=>ha τ ρ' w' hl hI'
    · cases h
  · rename_i x y
    unfold bothX at h
    split at h
    · rename_i e1 s1 e2 s2 hx hy
      obtain ⟨hc,h⟩:=bifP h
      cases h
      simp only [Bool.and_eq_true,beq_iff_eq] at hc
      obtain ⟨⟨⟨c1,c2⟩,c3⟩,c4⟩:=hc
      have g1:=Tr.eqB_ok (veq_ok 4) c1
      have g2:=Tr.eqB_ok (fun _ _ h=>obeq_ok h) c2
      refine ⟨hr.ord _ _ _ _ _ _ hx σ0 σ w0 ρ w K Q S hg hI he hq ha h0 hS,hr.ord _ _ _ _ _ _ hy σ0 σ w0 ρ w K Q S hg hI he hq ?_ h0 hS⟩
      exact fun τ ρ' w' hl hI' he'=>ha τ ρ' w' hl (eq_iv g2 (Nat.eq_of_beq_eq_true c3) c4 hI') fun i v hv=>he' i v (by rw [←g1];exact hv)
    · cases h
end
end Go.Eng
