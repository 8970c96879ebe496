/- Texts of mine for the claims about layer 2 (tree), joined: EngI. -/
import Derived.Test.YtbcmiempigoooaaGreatDoorJah
import Derived.OrdersHeld
import Derived.StillTail
set_option linter.all false
set_option linter.unusedSimpArgs false
set_option linter.unusedVariables false
namespace Go.Eng
open Go.RowKit
inductive OT where
  |done
  |take (g:Option (Nat×Bool)) (d:Nat) (e:Ex) (t:OT)
  |step (s:St) (b:Bool) (t:OT)
  |both (x y:OT)
def OT.wp (P:Program) (Q:Ks) (S:World→Prop) (K:Env→World→Prop):OT→Env→World→Prop
  | .done,ρ,w=>K ρ w
  | .take g d e t,ρ,w=>if gd ρ g then onV (e.ev ρ w) (fun v=>(∀w',S w'→e.ev ρ w'=some v)∧t.wp P Q S K (upd ρ d v) w) else t.wp P Q S K (upd ρ d undef) w
  | .step s b t,ρ,w=>s.wp P Q (fun ρ' w'=>(b=true→S w')∧t.wp P Q S K ρ' w') ρ w
  | .both x y,ρ,w=>x.wp P Q S K ρ w∧y.wp P Q S K ρ w
def OT.takes:OT→List Nat
  | .done=>[]
  | .take _ d _ t=>d::t.takes
  | .step _ _ t=>t.takes
  | .both x y=>x.takes++y.takes
section
variable (P:Program) (ops:Array Oper) (V:List Nat)
def asgOf (i : Nat) : Option (Option (Nat × Bool) × Nat × Ex) :=
  match ops[i]? with
  |none=>none
  |some o=>match px P ops V (i+1) i,o.dst with
    |some (e,j),some d=>if V.contains d&&decide (j=i) then (tg ops V o.guard i).map fun g=>(g,d,e) else none
    |_,_=>none
def stOf (i : Nat) : Option St :=
  match asgOf P ops V i with
  |some (g,d,e)=>some (.asg g d e)
  |none=>match ops[i]? with
    |none=>none
    |some o=>if effOk V o then (tg ops V o.guard i).map fun g=> .eff g o.dst o.op o.type else none
def combT : List (Option OT) → Option OT
  |[]=>none
  |[x]=>x
  |x::y::l=>match x,combT (y::l) with
    |some a,some b=>some (.both a b)
    |_,_=>none
def ordT (n : Nat) : Nat → Bool → Array Bool → Option OT
  |0,_,listed=>if (Region.ready .any ops listed).isEmpty then some .done else none
  | f + 1, hd, listed =>
    if (Region.ready .any ops listed).isEmpty then some .done else
    match (if hd then (Region.ready .any ops listed).find? (fun i=>decide (i<n)&&Region.free .any ops listed i&&(asgOf P ops V i).isSome) else none) with
    |some i=>match asgOf P ops V i with
      |some (g,d,e)=>(ordT n f hd (listed.setIfInBounds i true)).map (.take g d e)
      |none=>none
    |none=>combT ((Region.ready .any ops listed).map fun i=>match stOf P ops V i with
      |some s=>(ordT n f (hd&&decide (i<n)) (listed.setIfInBounds i true)).map (.step s (decide (i<n)))
      |none=>none)
end
def ordOf (P : Program) (nt : Nat) (V : List Nat) (n : Nat) : Code → Option OT
  | .region _ ops true=>
    if regionB ops nt&&Region.noSelect ops&&P.follows .mixedOrders&&(decide (n=ops.size)||(decide (n<ops.size)&&Region.sinkB .any ops n&&Region.chainB .any ops n)) then ordT P ops V n ops.size true (Array.replicate ops.size false) else none
  |_=>none
section
variable {P:Program} {ops:Array Oper} {Q:Exit→Act→World→Prop} {md:Region.Mode} {S:World→Prop} {n:Nat}
def wpAnyT (P : Program) (md : Region.Mode) (ops : Array Oper) (Q : Exit → Act → World → Prop) (S : World → Prop) (n : Nat) : Nat → Array Bool → Act → World → Prop
  |0,listed,a,w=>Region.ready md ops listed=[]∧Q .normal a w
  |f+1,listed,a,w=>(Region.ready md ops listed=[]→Q .normal a w)∧
    ∀i∈Region.ready md ops listed,wpOp P ops Q i (fun a' w'=>(i<n→S w')∧wpAnyT P md ops Q S n f (listed.setIfInBounds i true) a' w') a w
theorem wpAny_of_T:∀(f:Nat) (listed:Array Bool) (a:Act) (w:World),wpAnyT P md ops Q S n f listed a w→wpAny P md ops Q f listed a w
  |0,_,_,_,h=>h
  |f+1,_,_,_,h=>⟨h.1,fun i hi=>wpOp_mono (fun a' w' h'=>wpAny_of_T f _ a' w' h'.2) (h.2 i hi)⟩
theorem wpAnyT_first {i : Nat} {oi : Oper} {v : Value} (hi : ops[i]? = some oi) (hsel : ∀ (j : Nat) (o : Oper) cs b, ops[j]? = some o → o.op ≠ .select cs b)
    (hn:n=ops.size∨(n<ops.size∧Region.sinkB md ops n=true∧Region.chainB md ops n=true)) (hin:i<n)
    (hQ:∀c a w,Q (.panic c) (a.put oi.dst v) w→Q (.panic c) a w):
    ∀(f:Nat) (listed:Array Bool) (a:Act) (w:World),HeadInv md ops n listed→
      (∀j oj,ops[j]? =some oj→j≠i→listed.getD j true=false→(∀e∈oj.after,Region.binds md e=true→e.on≠i)→oi.apart ops oj=true)→
      i∈Region.ready md ops listed→YieldsIf P ops S oi v a→S w→
      wpAnyT P md ops Q S n f (listed.setIfInBounds i true) (a.put oi.dst v) w→wpAnyT P md ops Q S n (f+1) listed a w:=by
  have lt_n:∀{listed:Array Bool},HeadInv md ops n listed→i∈Region.ready md ops listed→∀j,j∈Region.ready md ops listed→j<n:=by
    intro listed inv hr j hj
    rcases hn with rfl|⟨hlt,hs,hc⟩
    · obtain ⟨_,oj,hoj,_⟩:=mem_ready.1 hj
      exact (Array.getElem?_eq_some_iff.1 hoj).1
    · rcases Nat.lt_or_ge j n with h|h
      · exact h
      · exact absurd hj (tail_waits hs hc hlt inv _ i rfl hin (mem_ready.1 hr).1 j h)
  intro f
  induction f with
  |zero=>
    intro listed a w inv _ hr hy hS H
    refine ⟨fun h=>(by rw [h] at hr;cases hr),fun j hj=> ?_⟩
    by_cases hji:j=i
    · subst hji;exact hy.wpOp hi hS ⟨fun _=>hS,H⟩
    · have:=ready_mono hj hji
      rw [H.1] at this
      cases this
  |succ f ih=>
    intro listed a w inv hfree hr hy hS H
    refine ⟨fun h=>(by rw [h] at hr;cases hr),fun j hj=> ?_⟩
    by_cases hji:j=i
    · subst hji;exact hy.wpOp hi hS ⟨fun _=>hS,H⟩
    · have h1:=H.2 j (ready_mono hj hji)
      have hjn:=lt_n inv hr j hj
      obtain ⟨hjun,oj,hoj,hall⟩:=mem_ready.1 hj
      have hun:=(mem_ready.1 hr).1
      have hnot:∀e∈oj.after,Region.binds md e=true→e.on≠i:=fun e he hb heq=>by
        have h1:=hall e he hb
        rw [heq,getD_both hun] at h1
        cases h1
      have h2:=wpOp_putIf hoj (hfree j oj hoj hji hjun hnot) (fun cs b=>hsel i oi cs b hi) (fun cs b=>hsel j oj cs b hoj) hQ hy h1
      have hfree':∀k ok,ops[k]? =some ok→k≠i→(listed.setIfInBounds j true).getD k true=false→
          (∀e∈ok.after,Region.binds md e=true→e.on≠i)→oi.apart ops ok=true:=fun k ok hk hki hun' hno=>by
        refine hfree k ok hk hki ?_ hno
        by_cases hjk:j=k
        · subst hjk;exact hjun
        · rw [getD_set_ne true hjk] at hun';exact hun'
      refine wpOp_mono (fun a' w' h3=>⟨h3.2.1,ih (listed.setIfInBounds j true) a' w' (inv.set hj hjn) hfree' (ready_mono hr (Ne.symm hji)) h3.1 (h3.2.1 hjn) ?_⟩) h2
      rw [Array.setIfInBounds_comm _ _ hji]
      exact h3.2.2
end
section
variable {ops:Array Oper} {cx:Cx}
theorem asg_spec {P : Program} {V : List Nat} {i : Nat} {g : Option (Nat × Bool)} {d : Nat} {e : Ex} (h : asgOf P ops V i = some (g, d, e)) :
    ∃o,ops[i]? =some o∧px P ops V (i+1) i=some (e,i)∧o.dst=some d∧d∈V∧tg ops V o.guard i=some g:=by
  unfold asgOf at h
  split at h
  · cases h
  · rename_i o ho
    split at h
    · rename_i e' j d' hpx hd
      split at h
      · rename_i hc
        simp only [Bool.and_eq_true,decide_eq_true_eq] at hc
        obtain ⟨hV,rfl⟩:=hc
        simp only [Option.map_eq_some_iff] at h
        obtain ⟨g',hg,he⟩:=h
        cases he
        exact ⟨o,ho,hpx,hd,by simpa using hV,hg⟩
      · cases h
    · cases h
theorem asg_yields (hr:Region1 cx.n ops) {i:Nat} {g:Option (Nat×Bool)} {d:Nat} {e:Ex} (h:asgOf cx.P ops cx.V i=some (g,d,e)) {ρ:Env} {a:Act} (ha:Agree cx.n cx.V ρ a) {S:World→Prop} {v:Value}
    (hv:if gd ρ g then (∀w',S w'→e.ev ρ w'=some v) else v=undef):∃o,ops[i]? =some o∧o.dst=some d∧d∈cx.V∧YieldsIf cx.P ops S o v a:=by
  obtain ⟨o,ho,hpx,hd,hV,hg⟩:=asg_spec h
  refine ⟨o,ho,hd,hV, ?_⟩
  obtain ⟨hgk,_⟩:=gd_gok ha hg
  have sx:=px_sem hr _ _ _ _ hpx
  by_cases hgd:gd ρ g=true
  · rw [if_pos hgd] at hv
    refine .inl ⟨by rw [wanted_gok,hgk];exact hgd,fun w' hS=> ?_⟩
    have h1:=sx.yes o ho ρ w' a v ha (by rw [hgk];exact hgd) (hv w' hS) (fun a'=>a'.tmps[d]? =some v) fun a' _ hv'=>hv' d hd
    rw [show i+1 - i=1 by omega] at h1
    simp only [List.range'_one,PS,ho,wanted_gok,hgk,hgd,if_true] at h1
    obtain ⟨v',hp,hk⟩:=h1
    have hlt:=dst_lt hr ho ha.size d hd
    have:=put_get (a:=a) (o:=o) (v:=v') (fun x hx=>dst_lt hr ho ha.size x hx) d hd
    rw [this] at hk
    cases hk
    exact hp w' (ext_refl _)
  · rw [if_neg hgd] at hv
    exact .inr ⟨by rw [wanted_gok,hgk];simpa using hgd,hv⟩
theorem step_sem (hr : Region1 cx.n ops) {K0 : Env → World → Prop} {Q : Ks} {i : Nat} {s : St} (h : stOf cx.P ops cx.V i = some s) {K : Env → World → Prop} {ρ : Env} {a : Act} {w : World} (ha : Agree cx.n cx.V ρ a) (hD : dOk cx a) (hrd : ¬ Q.rd) (hdf : Q.df → cx.D ≠ [])
    (hw:s.wp cx.P Q K ρ w):wpOp cx.P ops (lift cx K0 Q) i (fun a' w'=>dOk cx a'∧∃ρ',Agree cx.n cx.V ρ' a'∧K ρ' w') a w:=by
  unfold stOf at h
  split at h
  · rename_i g d e hasg
    cases h
    simp only [St.wp] at hw
    by_cases hgd:gd ρ g=true
    · simp only [hgd,if_true,onV] at hw
      cases hev:e.ev ρ w with
      |none=>simp only [hev] at hw
      |some v=>
        simp only [hev] at hw
        obtain ⟨o,ho,hd,hV,hy⟩:=asg_yields hr hasg ha (S:=fun w'=>w'=w) (v:=v) (by rw [if_pos hgd];rintro _ rfl;exact hev)
        refine hy.wpOp ho rfl ?_
        rw [hd]
        exact ⟨fun e=>(put_defers _ _ _).trans (hD e),_,ha.put hV v,hw⟩
    · simp only [hgd] at hw
      obtain ⟨o,ho,hd,hV,hy⟩:=asg_yields hr hasg ha (S:=fun w'=>w'=w) (v:=undef) (by rw [if_neg hgd])
      refine hy.wpOp ho rfl ?_
      rw [hd]
      exact ⟨fun e=>(put_defers _ _ _).trans (hD e),_,ha.put hV undef,by simpa using hw⟩
  · split at h
    · cases h
    · rename_i o ho
      split at h
      · rename_i hok
        simp only [Option.map_eq_some_iff] at h
        obtain ⟨g,hg,rfl⟩:=h
        obtain ⟨hgk,_⟩:=gd_gok ha hg
        have hdst:=effOk_dst hok
        have hex:=execOp_env ha hok
        simp only [wpOp,ho,wanted_gok]
        simp only [St.wp] at hw
        by_cases hgd:gd ρ g=true
        · simp only [hgd,if_true] at hw
          have hok1:gok ops o.guard a=true:=by rw [hgk];exact hgd
          simp only [hok1,if_true]
          have hk1:=effW_sound hw
          unfold effE at hk1
          have hput:∀v w2,K (updO ρ o.dst v) w2→dOk cx (a.put o.dst v)∧∃ρ',Agree cx.n cx.V ρ' (a.put o.dst v)∧K ρ' w2:=
            fun v w2 hk=>⟨fun e=>(put_defers _ _ _).trans (hD e),_,ha.putO hdst v,hk⟩
          refine .inl ?_
          simp only [Oper.wp,hex]
          generalize (execOp (evE ρ) (effOp o.dst o.op o.type)).run cx.P w=r at hk1
          cases r with
          |ok x w'=>
            cases x<;>simp only [uponE,Oper.upon] at hk1⊢ <;>first|exact hput _ _ hk1|(cases hk1;done)|(exact absurd hk1.1 hrd)|skip
            · refine hk1.mono fun e w2 hh=> ?_
              cases e with
              |returned v=>exact hput _ _ hh
              |panicked c=>exact ⟨hD,ρ,ha,hh⟩
              |outgrown=>exact lift_og hh
            · exact ⟨fun e=>absurd e (hdf hk1.1),_,(ha.defer _).putO hdst undef,hk1.2⟩
          |halt x w'=>
            cases x<;>simp only [uponE,Oper.upon] at hk1⊢ <;>first|(cases hk1;done)|exact ⟨hD,ρ,ha,hk1⟩
        · simp only [hgd] at hw
          have hok1:gok ops o.guard a=false:=by rw [hgk];simpa using hgd
          simp only [hok1,Bool.false_eq_true,if_false]
          exact ⟨fun e=>(put_defers _ _ _).trans (hD e),_,ha.putO hdst undef,by simpa using hw⟩
      · cases h
theorem combT_wp {P:Program} {Q:Ks} {S:World→Prop} {K:Env→World→Prop} {ρ:Env} {w:World}:∀{l:List (Option OT)} {t:OT},combT l=some t→t.wp P Q S K ρ w→∀x∈l,∃t',x=some t'∧t'.wp P Q S K ρ w
  |[],_,h,_,_,_=>by simp [combT] at h
  |[x],t,h,hw,y,hy=>by
    simp only [combT] at h
    rw [List.mem_singleton] at hy
    subst hy
    exact ⟨t,h,hw⟩
  | x :: z :: l, t, h, hw, y, hy => by
    simp only [combT] at h
    split at h
    · rename_i a b hb
      cases h
      rcases List.mem_cons.1 hy with rfl|hy
      · exact ⟨a,rfl,hw.1⟩
      · exact combT_wp hb hw.2 y hy
    · cases h
theorem combT_takes:∀{l:List (Option OT)} {t:OT},combT l=some t→∀(t':OT),some t'∈l→∀d∈t'.takes,d∈t.takes
  |[],_,h,_,_,_,_=>by simp [combT] at h
  |[x],t,h,t',hm,d,hd=>by
    simp only [combT] at h
    rw [List.mem_singleton] at hm
    subst hm;cases h;exact hd
  | x :: z :: l, t, h, t', hm, d, hd => by
    simp only [combT] at h
    split at h
    · rename_i a b hb
      cases h
      rcases List.mem_cons.1 hm with he|hm
      · cases he;exact List.mem_append_left _ hd
      · exact List.mem_append_right _ (combT_takes hb t' hm d hd)
    · cases h
theorem pn_put {Q:Ks} {K:Env→World→Prop} {o:Oper} {d:Nat} {v:Value} (hd:o.dst=some d) (hV:d∈cx.V) (hpn:∀ρ v c w,Q.pn (upd ρ d v) c w→Q.pn ρ c w) (c:List PanicEntry) (a:Act) (w:World)
    (h:lift cx K Q (.panic c) (a.put o.dst v) w):lift cx K Q (.panic c) a w:=by
  obtain ⟨h1,ρ,h2,h3⟩:=h
  have hsz:a.tmps.size=cx.n:=by have:=h2.size;rw [hd] at this;simpa [Act.put] using this
  have ha:Agree cx.n cx.V (envOf cx.V a) a:=⟨hsz,rfl,h2.lt,h2.big⟩
  have h4:=ha.put hV v
  rw [hd] at h2
  have he:ρ=upd (envOf cx.V a) d v:=h2.env.trans h4.env.symm
  subst he
  exact ⟨fun e=>(put_defers a o.dst v).symm.trans (h1 e),_,ha,hpn _ _ _ _ h3⟩
theorem ordT_sem (hr : Region1 cx.n ops) (hsel : Region.noSelect ops = true) {n : Nat} (hn : n = ops.size ∨ (n < ops.size ∧ Region.sinkB .any ops n = true ∧ Region.chainB .any ops n = true)) {S : World → Prop} {K : Env → World → Prop} {Q : Ks} (hrd : ¬ Q.rd) (hdf : Q.df → cx.D ≠ []) :
    ∀(f:Nat) (hd:Bool) (listed:Array Bool) (t:OT),ordT cx.P ops cx.V n f hd listed=some t→(∀d∈t.takes,∀ρ v c w,Q.pn (upd ρ d v) c w→Q.pn ρ c w)→(hd=true→HeadInv .any ops n listed)→∀(ρ:Env) (a:Act) (w:World),Agree cx.n cx.V ρ a→dOk cx a→(hd=true→S w)→
      t.wp cx.P Q S K ρ w→wpAnyT cx.P .any ops (lift cx K Q) S n f listed a w
  |0,hd,listed,t,h,_,_,ρ,a,w,ha,hD,_,hw=>by
    simp only [ordT] at h
    split at h
    · rename_i he;cases h;exact ⟨by simpa using he,hD,ρ,ha,hw⟩
    · cases h
  | f + 1, hd, listed, t, h, hpn, hinv, ρ, a, w, ha, hD, hS, hw => by
    simp only [ordT] at h
    split at h
    · rename_i he
      cases h
      have he':Region.ready .any ops listed=[]:=by simpa using he
      exact ⟨fun _=>⟨hD,ρ,ha,hw⟩,by rw [he'];simp⟩
    · rename_i he
      have he':Region.ready .any ops listed≠[]:=by simpa using he
      split at h
      · rename_i i hi
        split at hi
        · rename_i hhd
          have hmem:=List.mem_of_find?_eq_some hi
          have hprop:=List.find?_some hi
          simp only [Bool.and_eq_true,decide_eq_true_eq] at hprop
          obtain ⟨⟨hin,hfree⟩,_⟩:=hprop
          split at h
          · rename_i g d e hasg
            simp only [Option.map_eq_some_iff] at h
            obtain ⟨t',ht',rfl⟩:=h
            simp only [OT.wp] at hw
            have key:∀v,(if gd ρ g then (∀w',S w'→e.ev ρ w'=some v) else v=undef)→t'.wp cx.P Q S K (upd ρ d v) w→wpAnyT cx.P .any ops (lift cx K Q) S n (f+1) listed a w:=by
              intro v hv hk
              obtain ⟨o,ho,hd',hV,hy⟩:=asg_yields hr hasg ha hv
              refine wpAnyT_first ho (Region.noSelect_spec hsel) hn hin (fun c a w h1=> ?_) f listed a w (hinv hhd) (Region.free_spec ho hfree) hmem hy (hS hhd) ?_
              · exact pn_put hd' hV (hpn d (by simp [OT.takes])) c a w h1
              · rw [hd']
                exact ordT_sem hr hsel hn hrd hdf f hd _ t' ht' (fun x hx=>hpn x (by simp [OT.takes,hx])) (fun h1=>(hinv h1).set hmem hin) _ _ w (ha.put hV v) (fun e=>(put_defers _ _ _).trans (hD e)) hS hk
            by_cases hgd:gd ρ g=true
            · rw [if_pos hgd] at hw
              unfold onV at hw
              split at hw
              · obtain ⟨h1,h2⟩:=hw
                exact key _ (by rw [if_pos hgd];exact h1) h2
              · cases hw
            · rw [if_neg hgd] at hw
              exact key undef (by rw [if_neg hgd]) hw
          · cases h
        · cases hi
      · refine ⟨fun h0=>absurd h0 he',fun i hi=> ?_⟩
        obtain ⟨t',ht',hw'⟩:=combT_wp h hw _ (List.mem_map.2 ⟨i,hi,rfl⟩)
        split at ht'
        · rename_i s hs
          simp only [Option.map_eq_some_iff] at ht'
          obtain ⟨t2,ht2,rfl⟩:=ht'
          simp only [OT.wp] at hw'
          refine wpOp_mono ?_ (step_sem hr hs ha hD hrd hdf hw')
          rintro a' w' ⟨hD',ρ',ha',hS',hk'⟩
          refine ⟨fun hlt=>hS' (by simpa using hlt),ordT_sem hr hsel hn hrd hdf f _ _ t2 ht2 (fun x hx=>hpn x (combT_takes h (.step s (decide (i<n)) t2) (List.mem_map.2 ⟨i,hi,by simp only [hs,ht2,Option.map_some]⟩) x (by simpa [OT.takes] using hx))) (fun h1=> ?_) ρ' a' w' ha' hD' (fun h1=> ?_) hk'⟩
          · simp only [Bool.and_eq_true,decide_eq_true_eq] at h1
            exact (hinv h1.1).set hi h1.2
          · simp only [Bool.and_eq_true,decide_eq_true_eq] at h1
            exact hS' (by simpa using h1.2)
        · cases ht'
theorem headInv0 {n:Nat}:HeadInv .any ops n (Array.replicate ops.size false):=
  ⟨by simp,fun j oj _ hl=>(by rw [getD_replicate_false] at hl;cases hl),fun t _ ht=>getD_in (by simpa using ht) (getD_replicate_false _ _)⟩
theorem raw_ord {c:Code} {n:Nat} {t:OT} (h:ordOf cx.P cx.n cx.V n c=some t) (S:World→Prop) {K:Env→World→Prop} {Q:Ks} {ρ:Env} {w:World}
    (hw:∀w',Ext w w'→w'.heap=w.heap→S w'∧t.wp cx.P Q.noRd S K ρ w') (hpn:∀d∈t.takes,∀ρ v c w,Q.pn (upd ρ d v) c w→Q.pn ρ c w:=by exact fun _ _ _ _ _ _ h=>h):(IR.raw c).wp cx K Q ρ w:=by
  intro a ha hD hdf
  unfold ordOf at h
  split at h
  · rename_i id ops
    split at h
    · rename_i hc
      simp only [Bool.and_eq_true,Bool.or_eq_true,decide_eq_true_eq] at hc
      obtain ⟨⟨⟨h1,h2⟩,h3⟩,h4⟩:=hc
      obtain ⟨hS,hk⟩:=hw {w with drawn:=w.drawn+1} ⟨rfl,rfl,rfl,Nat.le_refl _,fun _ _=>rfl⟩ rfl
      refine wp_region_any h3 (wpAny_of_T _ _ _ _ (ordT_sem (regionB_spec h1) h2 (by rcases h4 with h4|h4;exact .inl h4;exact .inr ⟨h4.1.1,h4.1.2,h4.2⟩) (Q:=Q.noRd) (fun h=>h) hdf _ _ _ t h hpn (fun _=>headInv0) ρ a _ ha hD (fun _=>hS) hk))
    · cases h
  · cases h
end
section
variable {P:Program} {Q:Ks} {S:World→Prop} {K:Env→World→Prop} {ρ:Env} {w:World}
@[simp] theorem ot_done:OT.wp P Q S K .done ρ w=K ρ w:=rfl
@[simp] theorem ot_take {g:Option (Nat×Bool)} {d:Nat} {e:Ex} {t:OT}:OT.wp P Q S K (.take g d e t) ρ w=if gd ρ g then onV (e.ev ρ w) (fun v=>(∀w',S w'→e.ev ρ w'=some v)∧t.wp P Q S K (upd ρ d v) w) else t.wp P Q S K (upd ρ d undef) w:=rfl
@[simp] theorem ot_eff {b:Bool} {g:Option (Nat×Bool)} {d:Option Nat} {op:Op} {ty:TypeId} {t:OT}:OT.wp P Q S K (.step (.eff g d op ty) b t) ρ w=if gd ρ g then effW P Q d op ty (fun ρ' w'=>(b=true→S w')∧t.wp P Q S K ρ' w') ρ w else (b=true→S w)∧t.wp P Q S K (updO ρ d undef) w:=rfl
@[simp] theorem ot_asg {b:Bool} {g:Option (Nat×Bool)} {d:Nat} {e:Ex} {t:OT}:OT.wp P Q S K (.step (.asg g d e) b t) ρ w=if gd ρ g then onV (e.ev ρ w) (fun v=>(b=true→S w)∧t.wp P Q S K (upd ρ d v) w) else (b=true→S w)∧t.wp P Q S K (upd ρ d undef) w:=rfl
@[simp] theorem ot_both {x y:OT}:OT.wp P Q S K (.both x y) ρ w=(x.wp P Q S K ρ w∧y.wp P Q S K ρ w):=rfl
end
end Go.Eng
