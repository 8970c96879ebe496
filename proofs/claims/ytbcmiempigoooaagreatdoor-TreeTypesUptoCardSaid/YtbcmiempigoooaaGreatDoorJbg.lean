/- Texts of mine for the claims about layer 2 (tree), joined: EngXg. -/
import Derived.Test.YtbcmiempigoooaaGreatDoorJbf
set_option linter.all false
set_option linter.unusedSimpArgs false
set_option linter.unusedVariables false
namespace Go.Eng
open Go.RowKit
def PrimOk (P:Program) (G0:World→Prop) (prim:Prim):Prop:=∀f args s v s',prim f args s=some (v,s')→∀(σ:Sg) (w0 w:World) (args':List Value),G0 w0→Iv σ w0 s w→VRs σ args args'→Calls P f args'.toArray w (CallAfter σ w0 (.ret v s'))
def TrOk (P:Program) (G0:World→Prop) (tr:Option TrP):Prop:=∀q,tr=some q→∀r,Sound P G0 r→∀s args o,tryX P r s q args=some o→∀(σ:Sg) (w0 w:World) (args':List Value),G0 w0→Iv σ w0 s w→VRs σ args args'→Calls P q.f args'.toArray w (CallAfter σ w0 o)
section
variable {P:Program} {G0:World→Prop} {r:Sx→Tk→Option Ou} {σ:Sg} {w0 w:World} {ρ:Env} {e:Tr Value} {s:Sx} {K:Env→World→Prop} {Q:Ks} {o:Ou} {pr:TypeId→Bool} {prim:Prim} {tr:Option TrP} {sk:FuncId→Nat→List Nat}
theorem oneX_ok (hI:Iv σ w0 s w) (he:ER σ e ρ) {rv:RV} {v:Value} (h:oneX s.H e rv=some v):∃v',rv.val ρ w=some v'∧VR σ v v':=by
  unfold oneX at h
  split at h
  · exact ⟨_,rfl,he _ _ h⟩
  · split at h
    · rename_i u hu;exact x1_ok hI.mr (he _ _ hu) h
    · cases h
  · split at h
    · rename_i u hu;exact x1_ok hI.mr (he _ _ hu) h
    · cases h
theorem resX_ok (hI:Iv σ w0 s w) (he:ER σ e ρ):∀{rs:List RV} {vs:List Value},resX s.H e rs=some vs→∃vs',resVals ρ w rs=some vs'∧VRs σ vs vs'
  |[],vs,h=>by cases h;exact ⟨[],rfl,trivial⟩
  | r :: rs, vs, h => by
    unfold resX at h
    split at h
    · rename_i v us hv hus
      cases h
      obtain ⟨v',h1,h2⟩:=oneX_ok hI he hv
      obtain ⟨us',h3,h4⟩:=resX_ok hI he hus
      exact ⟨v'::us',by simp only [resVals,h1,Option.bind_some,h3,Option.map_some],h2,h4⟩
    · cases h
theorem tupled_ok:∀{vs vs':List Value},VRs σ vs vs'→VR σ (tupled vs) (tupled vs')
  |[],[],_=> .tup rfl fun i x y h=>by simp at h
  |[_],[_],h=>h.1
  |a::b::l,c::d::m,h=>by
    obtain ⟨h1,h2⟩:=VRs.arr (cs:=(a::b::l).toArray) (ds:=(c::d::m).toArray) (by simpa using h)
    exact .tup h1 h2
  |[],_::_,h=>h.elim
  |_::_,[],h=>h.elim
  |[_],_::_::_,h=>h.2.elim
  |_::_::_,[_],h=>h.2.elim
theorem argsX_get:∀(l:List Value) (k:Nat) (e:Tr Value),k+l.length≤lim→∀i,(argsX l k e).get i=if k≤i∧i<k+l.length then l[i - k]? else e.get i
  |[],k,e,_,i=>by
    rw [if_neg (by simp only [List.length_nil];omega)];rfl
  | v :: l, k, e, h, i => by
    simp only [List.length_cons] at h
    show (argsX l (k+1) (e.set k v)).get i=_
    rw [argsX_get l (k+1) _ (by omega) i,Tr.get_set _ _ (by omega)]
    by_cases h1:k+1≤i∧i<k+1+l.length
    · rw [if_pos h1,if_pos (by simp;omega),show i - k=(i - (k+1))+1 by omega]
      simp
    · rw [if_neg h1]
      by_cases h2:i=k
      · subst h2;simp
      · rw [if_neg h2,if_neg (by simp;omega)]
theorem bodyR_ok (hr : Sound P G0 r) (hg : G0 w0) {f : FuncId} {args args' : List Value} (hI : Iv σ w0 s w) (hv : VRs σ args args') (h : bodyR r s args (fnX P f) = some o) : Calls P f args'.toArray w (CallAfter σ w0 o) := by
  unfold bodyR at h
  split at h
  · rename_i F hF
    obtain ⟨hc,h⟩:=bifP h
    simp only [Bool.and_eq_true,Nat.ble_eq,Nat.blt_eq] at hc
    unfold fnX at hF
    split at hF
    · cases hF
    · rename_i fn hfn
      split at hF
      · cases hF
      · rename_i c hb
        split at hF
        · rename_i ir rs hcomp hrs
          rw [compQ_range] at hcomp
          obtain ⟨hnt,hF⟩:=bifP hF
          cases hF
          simp only [Nat.ble_eq] at hnt
          dsimp only at hc
          have hV:readB fn (List.range fn.ntmps)=true:=by
            simp only [readB,Bool.and_eq_true,decide_eq_true_eq,List.all_eq_true]
            exact ⟨hnt,fun x hx=>List.mem_range.1 hx⟩
          have hlen:=hv.len
          have hsz:args'.toArray.size≤fn.ntmps:=by simp;omega
          have hER:ER σ (argsX args 0 .lf) (startEnv (List.range fn.ntmps) args'.toArray):=by
            intro i v hi
            rw [argsX_get args 0 _ (by omega)] at hi
            split at hi
            · rename_i hi2
              rw [Nat.sub_zero] at hi
              obtain ⟨v',h1,h2⟩:=hv.get i v hi
              have:startEnv (List.range fn.ntmps) args'.toArray i=v':=by
                unfold startEnv
                rw [if_neg (by unfold gS;omega),if_pos (List.mem_range.2 (by omega))]
                simp [h1]
              rw [this];exact h2
            · cases hi
          have hQ:∀R:Ending→World→Prop,Qn (ksOf rs R):=fun R _ _ _ _ h=>h
          have main:∀(R:Ending→World→Prop),(∀o1,r s (.ir ⟨f,fn.ntmps,List.range fn.ntmps,ir,rs⟩ ir (argsX args 0 .lf))=some o1→After σ w0 (retK rs R) (ksOf rs R) o1)→ir.norm.wp ⟨P,fn.ntmps,List.range fn.ntmps,[]⟩ (retK rs R) (ksOf rs R) (startEnv (List.range fn.ntmps) args'.toArray) w:=by
            intro R hR
            rw [IR.norm_wp]
            cases ho:r s (.ir ⟨f,fn.ntmps,List.range fn.ntmps,ir,rs⟩ ir (argsX args 0 .lf)) with
            |none=>unfold leaveX at h;rw [ho] at h;cases h
            |some o1=>exact hr.ir _ _ _ _ _ ho σ w0 _ w _ _ hg hI hER (hQ R) (hR o1 ho)
          have fin:ir.norm.wp ⟨P,fn.ntmps,List.range fn.ntmps,[]⟩ (retK rs (CallAfter σ w0 o)) (ksOf rs (CallAfter σ w0 o)) (startEnv (List.range fn.ntmps) args'.toArray) w:=by
            refine main _ fun o1 ho=> ?_
            unfold leaveX at h
            rw [ho] at h
            have out:∀e s',endX rs e s'=some o→∀τ ρ w,σ.le τ→Iv τ w0 s' w→ER τ e ρ→retK rs (CallAfter σ w0 o) ρ w:=by
              intro e s' he τ ρ w hl hI' hER'
              unfold endX at he
              split at he
              · rename_i vs hvs
                cases he
                obtain ⟨vs',h1,h2⟩:=resX_ok hI' hER' hvs
                unfold retK
                rw [h1]
                exact ⟨τ,_,hl,hI',tupled_ok h2,rfl⟩
              · cases he
            cases o1 with
            |go e s'=>exact out e s' h
            |rt e s'=>exact out e s' h
            |pn c s'=>
              cases h
              exact fun τ ρ w hl hI'=>⟨τ,hl,hI',rfl⟩
            |ex i e s'=>cases h
            |ret v s'=>cases h
          cases c with
          |scope c'=>exact calls_irS hfn hb hcomp rfl hV hrs hsz fin
          |_=>exact calls_ir hfn hb hcomp rfl hV hrs hsz fin
        · cases hF
  · cases h
theorem callX_ok (hp : PrimOk P G0 prim) (ht : TrOk P G0 tr) (hr : Sound P G0 r) (hg : G0 w0) {f : FuncId} {args args' : List Value} (hI : Iv σ w0 s w) (hv : VRs σ args args') (h : callX P prim tr r s f args = some o) : Calls P f args'.toArray w (CallAfter σ w0 o) := by
  unfold callX at h
  split at h
  · rename_i v s' hps
    cases h
    exact hp f args s v s' hps σ w0 w args' hg hI hv
  · split at h
    · rename_i q
      cases hc:Nat.beq q.f f with
      |true=>
        rw [hc] at h
        have:=ht q rfl r hr s args o h σ w0 w args' hg hI hv
        rwa [Nat.eq_of_beq_eq_true hc] at this
      |false=>
        rw [hc] at h
        exact bodyR_ok hr hg hI hv h
    · exact bodyR_ok hr hg hI hv h
theorem rawX_ok (hpr : PrOk P pr) (hr : Sound P G0 r) (hg : G0 w0) (hq : Qn Q) {F : Fx} {id : Nat} {ops : Array Oper} (he : ER σ e ρ) (hI : Iv σ w0 s w) (h : rawX r s F e (ordOfK P F.nt F.V (sk F.f id) (tailX ops) (.region id ops true)) = some o) (ha : After σ w0 K Q o) :
    (IR.raw (.region id ops true)).wp ⟨P,F.nt,F.V,[]⟩ K Q ρ w:=by
  unfold rawX at h
  split at h
  · rename_i t ht
    have hpn:∀d∈t.takes,∀(ρ:Env) v c w,Q.pn (upd ρ d v) c w→Q.pn ρ c w:=fun _ _ _ _ _ _ h=>hq _ _ _ _ h
    have hq':Qn Q.noRd:=hq
    have ha':After σ w0 K Q.noRd o:=by cases o<;>exact ha
    refine raw_ordK (cx:=⟨P,F.nt,F.V,[]⟩) ht (FaOk σ (takesX s.H t e)) (fun w' hE hh=> ?_) hpn
    have hI':=hI.toExt hE
    have htk:=takes_ok (H:=s.H) hI'.mr (t:=t) he
    have hgr:Grd σ (takesX s.H t e):=fun f hf=>(htk f hf).1
    have hfa:FaOk σ (takesX s.H t e) w':=fun f hf=>(htk f hf).2
    refine ⟨hfa, ?_⟩
    have hSS:∀l,some (takesX s.H t e)=some l→Grd σ l∧FaOk σ l w'∧FaOk σ (takesX s.H t e)=FaOk σ l:=fun l hl=>by cases hl;exact ⟨hgr,hfa,rfl⟩
    cases hb:(bothT t&&(effsT t).all (fun d=>Nat.blt d F.nt)) with
    |true=>
      rw [hb] at h
      simp only [Bool.and_eq_true] at hb
      have hlt:∀d∈effsT t,d<F.nt:=fun d hd=>by simpa [Nat.blt_eq] using List.all_eq_true.1 hb.2 d hd
      refine hr.ord _ _ _ _ _ _ h σ σ w0 ρ w' K Q.noRd _ hg ?_ he hq' ha' (Sg.le_refl σ) hSS
      refine ⟨hI'.mr,fun i p hi=> ?_,fun i hi=> ?_,hI'.ap,hI'.ext,hI'.own⟩
      · have:=hI'.dom i p hi
        refine ⟨by dsimp only;omega,fun hm=> ?_⟩
        rcases List.mem_append.1 hm with hm|hm
        · exact this.2 hm
        · obtain ⟨d,_,hd⟩:=List.mem_map.1 hm
          omega
      · rcases List.mem_append.1 hi with hm|hm
        · have:=hI'.res i hm;dsimp only;omega
        · obtain ⟨d,hd,rfl⟩:=List.mem_map.1 hm
          have:=hlt d hd;dsimp only;omega
    |false=>
      rw [hb] at h
      exact hr.ord _ _ _ _ _ _ h σ σ w0 ρ w' K Q.noRd _ hg hI' he hq' ha' (Sg.le_refl σ) hSS
  · cases h
theorem irX_ok (hpr : PrOk P pr) (hr : Sound P G0 r) (hg : G0 w0) (hq : Qn Q) {F : Fx} {a : IR} (hloop : ∀ b, a = .loop b → (IR.loop b).wp ⟨P, F.nt, F.V, []⟩ K Q ρ w) (he : ER σ e ρ) (hI : Iv σ w0 s w) (h : irX P sk r s F e a = some o) (ha : After σ w0 K Q o) : a.wp ⟨P, F.nt, F.V, []⟩ K Q ρ w := by
  unfold irX at h
  split at h
  · cases h;exact ha σ ρ w (Sg.le_refl σ) hI he
  · exact hr.sts _ _ _ _ h σ w0 ρ w K Q hg hI he hq ha
  · cases h
  · rename_i a b
    have go:∀o1,r s (.ir F a e)=some o1→After σ w0 (fun ρ' w'=>b.wp ⟨P,F.nt,F.V,[]⟩ K Q ρ' w') Q o1→(IR.seq a b).wp ⟨P,F.nt,F.V,[]⟩ K Q ρ w:=fun o1 h1 h2=>hr.ir _ _ _ _ _ h1 σ w0 ρ w _ Q hg hI he hq h2
    cases ho:r s (.ir F a e) with
    |none=>rw [ho] at h;cases h
    |some o1=>
      rw [ho] at h
      refine go o1 ho ?_
      cases o1 with
      |go e' s'=>exact fun τ ρ' w' hl hI' he'=>hr.ir _ _ _ _ _ h τ w0 ρ' w' K Q hg hI' he' hq (ha.le hl)
      |ex i e' s'=>cases h;exact ha
      |rt e' s'=>cases h;exact ha
      |pn c s'=>cases h;exact ha
      |ret v s'=>cases h;exact ha
  · rename_i c a b
    show condW (c.ev ρ w) _ _
    unfold condX at h
    split at h
    · rename_i bb hc
      obtain ⟨v',h1,h2⟩:=evX_ok hI.mr he hc
      rw [h1]
      cases h2
      cases bb with
      |true=>exact hr.ir _ _ _ _ _ h σ w0 ρ w K Q hg hI he hq ha
      |false=>exact hr.ir _ _ _ _ _ h σ w0 ρ w K Q hg hI he hq ha
    · cases h
  · rename_i i a
    cases ho:r s (.ir F a e) with
    |none=>rw [ho] at h;cases h
    |some o1=>
      rw [ho] at h
      refine hr.ir _ _ _ _ _ ho σ w0 ρ w K _ hg hI he (fun ρ ρ' c w=>hq ρ ρ' c w) ?_
      cases o1 with
      |go e' s'=>cases h;exact ha
      |ex j e' s'=>
        intro τ ρ' w' hl hI' he'
        dsimp only
        replace h:(bif Nat.beq j i then some (Ou.go e' s') else some (Ou.ex j e' s'))=some o:=h
        cases hj:Nat.beq j i with
        |true=>
          rw [hj] at h
          cases h
          rw [if_pos (Nat.eq_of_beq_eq_true hj)]
          exact ha τ ρ' w' hl hI' he'
        |false=>
          rw [hj] at h
          cases h
          rw [if_neg (fun e=>by subst e;simp at hj)]
          exact ha τ ρ' w' hl hI' he'
      |rt e' s'=>cases h;exact ha
      |pn c s'=>cases h;exact ha
      |ret v s'=>cases h;exact ha
  · exact hloop _ rfl
  · cases h;exact ha σ ρ w (Sg.le_refl σ) hI he
  · cases h;exact ha σ ρ w (Sg.le_refl σ) hI he
  · split at h
    · cases h
      exact raw_label (ha σ ρ w (Sg.le_refl σ) hI he)
    · exact rawX_ok hpr hr hg hq he hI h ha
    · cases h
theorem run_sound (hpr : PrOk P pr) (hp : PrimOk P G0 prim) (ht : TrOk P G0 tr) : ∀ n, Sound P G0 (runX P prim tr sk pr n) := by
  intro n
  induction n using Nat.strongRecOn with
  | _ n ih =>
    cases n with
    |zero=>exact ⟨fun _ _ _ _ _ h=>by simp [runX] at h,fun _ _ _ _ h=>by simp [runX] at h,fun _ _ _ _ _ _ h=>by simp [runX] at h,fun _ _ _ _ h=>by simp [runX] at h⟩
    |succ n=>
      have hr:=ih n (Nat.lt_succ_self n)
      refine ⟨fun F a e s o h σ w0 ρ w K Q hg hI he hq ha=> ?_,fun l e s o h σ w0 ρ w K Q hg hI he hq ha=>stsX_ok hpr hr hg hq he hI h ha,fun L bs t e s o h σ0 σ w0 ρ w K Q S hg hI he hq ha h0 hS=>ordX_ok hpr hr hg hq he hI h ha h0 hS,fun f args s o h σ w0 w args' hg hI hv=>callX_ok hp ht hr hg hI hv h⟩
      refine irX_ok (sk:=sk) hpr hr hg hq (fun b hb=> ?_) he hI h ha
      subst hb
      refine loopM (fun m ρ' w'=>m≤n+1∧∃τ e' s',runX P prim tr sk pr m s' (.ir F (.loop b) e')=some o∧σ.le τ∧Iv τ w0 s' w'∧ER τ e' ρ') (n+1) ⟨Nat.le_refl _,σ,e,s,h,Sg.le_refl σ,hI,he⟩ fun m ρ' w' hm=> ?_
      obtain ⟨hmn,τ,e',s',hrun,hl,hI',he'⟩:=hm
      cases m with
      |zero=>simp [runX] at hrun
      |succ m=>
        have hrm:=ih m (by omega)
        have hrun':seqX (runX P prim tr sk pr m) F (.loop b) (runX P prim tr sk pr m s' (.ir F b e'))=some o:=hrun
        cases ho:runX P prim tr sk pr m s' (.ir F b e') with
        |none=>rw [ho] at hrun';cases hrun'
        |some o1=>
          rw [ho] at hrun'
          refine hrm.ir _ _ _ _ _ ho τ w0 ρ' w' _ Q hg hI' he' hq ?_
          have ha2:=ha.le hl
          cases o1 with
          |go e2 s2=>exact fun υ ρ2 w2 hl2 hI2 he2=>⟨m,Nat.lt_succ_self m,by omega,υ,e2,s2,hrun',Sg.le_trans hl hl2,hI2,he2⟩
          |ex i e2 s2=>cases hrun';exact ha2
          |rt e2 s2=>cases hrun';exact ha2
          |pn c s2=>cases hrun';exact ha2
          |ret v s2=>cases hrun';exact ha2
end
end Go.Eng
