/- Texts of mine for the claims about layer 2 (tree), joined: EngPu, L01S, L02S, L02R, L01P, L02E, L02F, L02G, L02H, L02I, L02K, L02T, L02U, L02Ya, L02N, L02V. -/
import Derived.Test.YtbcmiempigoooaaGreatDoorJbg
set_option linter.all false
set_option linter.unusedSimpArgs false
set_option linter.unusedVariables false
namespace Go.Eng
open Go.RowKit
theorem Ex.ev_ext {w w':World} (h:Ext w w') {ρ:Env}:∀(e:Ex) {v:Value},e.ev ρ w=some v→e.ev ρ w'=some v
  | .var _,_,hv=>hv
  | .const _,_,hv=>hv
  | .op1 k x,v,hv=>by
    simp only [Ex.ev,Option.bind_eq_some_iff] at hv⊢
    obtain ⟨a,ha,h1⟩:=hv
    exact ⟨a,Ex.ev_ext h x ha,pv1_ext h h1⟩
  | .op2 k x y,v,hv=>by
    simp only [Ex.ev,Option.bind_eq_some_iff] at hv⊢
    obtain ⟨a,ha,b,hb,h1⟩:=hv
    exact ⟨a,Ex.ev_ext h x ha,b,Ex.ev_ext h y hb,h1⟩
  | .op3 k x y z,v,hv=>by
    simp only [Ex.ev,Option.bind_eq_some_iff] at hv⊢
    obtain ⟨a,ha,b,hb,c,hc,h1⟩:=hv
    exact ⟨a,Ex.ev_ext h x ha,b,Ex.ev_ext h y hb,c,Ex.ev_ext h z hc,h1⟩
  | .op4 k x y z u,v,hv=>by
    simp only [Ex.ev,Option.bind_eq_some_iff] at hv⊢
    obtain ⟨a,ha,b,hb,c,hc,d,hd,h1⟩:=hv
    exact ⟨a,Ex.ev_ext h x ha,b,Ex.ev_ext h y hb,c,Ex.ev_ext h z hc,d,Ex.ev_ext h u hd,h1⟩
  | .ite c x y,v,hv=>by
    simp only [Ex.ev,Option.bind_eq_some_iff] at hv⊢
    obtain ⟨a,ha,h1⟩:=hv
    refine ⟨a,Ex.ev_ext h c ha, ?_⟩
    unfold pickV at h1⊢
    split at h1
    · exact Ex.ev_ext h x h1
    · exact Ex.ev_ext h y h1
    · cases h1
def Pu (P:Program) (w0:World) (f:FuncId) (args:Array Value) (v:Value):Prop:=callB P f=true∧∀w,Ext w0 w→Calls P f args w fun e w'=>e= .returned v∧Ext w w'
abbrev Orc:=FuncId→List Value→Option Value
def orac (C:Orc) (ρ:Env):Op→Option Value
  | .call {callee:= .value (.func f),args, .. }=>C f (args.toList.map (evE ρ))
  |_=>none
def mst (C:Orc) (w0:World):St→(Env→Prop)→Env→Prop
  | .asg g d e,K,ρ=>if gd ρ g then onV (e.ev ρ w0) (fun v=>K (upd ρ d v)) else K (upd ρ d undef)
  | .eff g dst op _,K,ρ=>if gd ρ g then onV (orac C ρ op) (fun v=>K (updO ρ dst v)) else K (updO ρ dst undef)
def mw (C:Orc) (w0:World):List St→(Env→Prop)→Env→Prop
  |[],K,ρ=>K ρ
  |s::r,K,ρ=>mst C w0 s (mw C w0 r K) ρ
structure Kp where
  ex:Nat→Env→Prop
  rt:Env→Prop
def Kp.blk (Q:Kp) (i:Nat) (K:Env→Prop):Kp:={Q with ex:=fun j=>if j=i then K else Q.ex j}
def IR.mi (C:Orc) (w0:World):IR→(Env→Prop)→Kp→Env→Prop
  | .skip,K,_,ρ=>K ρ
  | .reg l,K,_,ρ=>mw C w0 l K ρ
  | .drw l,K,_,ρ=>mw C w0 l K ρ
  | .seq a b,K,Q,ρ=>a.mi C w0 (fun ρ'=>b.mi C w0 K Q ρ') Q ρ
  | .cond c a b,K,Q,ρ=>condW (c.ev ρ w0) (a.mi C w0 K Q ρ) (b.mi C w0 K Q ρ)
  | .block id a,K,Q,ρ=>a.mi C w0 K (Q.blk id K) ρ
  | .loop a,_,Q,ρ=>∃(I:Env→Prop) (μ:Env→Nat),I ρ∧∀ρ',I ρ'→a.mi C w0 (fun ρ''=>I ρ''∧μ ρ''<μ ρ') Q ρ'
  | .exit id,_,Q,ρ=>Q.ex id ρ
  | .ret,_,Q,ρ=>Q.rt ρ
  | .raw _,_,_,_=>False
section
variable {P:Program} {C:Orc} {w0:World}
def OrcOk (P:Program) (C:Orc) (w0:World):Prop:=∀f l v,C f l=some v→Pu P w0 f l.toArray v
theorem mw_wps (hC : OrcOk P C w0) {Q : Ks} : ∀ (l : List St) {K : Env → Prop} {K' : Env → World → Prop} {ρ : Env} {w : World}, Ext w0 w → (∀ ρ' w', Ext w0 w' → K ρ' → K' ρ' w') → mw C w0 l K ρ → wps P Q l K' ρ w
  |[],_,_,_,_,hE,hK,h=>hK _ _ hE h
  | .asg g d e::r,K,K',ρ,w,hE,hK,h=>by
    simp only [wps,St.wp,mw,mst] at h⊢
    split
    · rename_i hg
      rw [if_pos hg] at h
      cases hv:e.ev ρ w0 with
      |none=>rw [hv] at h;exact h.elim
      |some v=>
        rw [hv] at h
        rw [Ex.ev_ext hE e hv]
        exact mw_wps hC r hE hK h
    · rename_i hg
      rw [if_neg hg] at h
      exact mw_wps hC r hE hK h
  | .eff g dst op ty::r,K,K',ρ,w,hE,hK,h=>by
    simp only [wps,St.wp,mw,mst] at h⊢
    split
    · rename_i hg
      rw [if_pos hg] at h
      cases hv:orac C ρ op with
      |none=>rw [hv] at h;exact h.elim
      |some v=>
        rw [hv] at h
        unfold orac at hv
        split at hv
        · rename_i f args ats
          obtain ⟨hb,hp⟩:=hC _ _ _ hv
          simp only [effW_call]
          refine ⟨hb, ?_⟩
          have e1:(args.toList.map (evE ρ)).toArray=args.map (evE ρ):=Array.ext' (by rw [Array.toList_map])
          rw [←e1]
          refine (hp w hE).mono ?_
          rintro _ w' ⟨rfl,hE'⟩
          exact mw_wps hC r (hE.trans' hE') hK h
        · cases hv
    · rename_i hg
      rw [if_neg hg] at h
      exact mw_wps hC r hE hK h
theorem mw_qwps (hC : OrcOk P C w0) : ∀ (l : List St) {K K' : Env → Prop} {ρ : Env} {w : World}, Ext w0 w → (∀ ρ', K ρ' → K' ρ') → mw C w0 l K ρ → qwps P w l K' ρ
  |[],_,_,_,_,hE,hK,h=>hK _ h
  | .asg g d e::r,K,K',ρ,w,hE,hK,h=>by
    simp only [qwps,mw,mst] at h⊢
    split
    · rename_i hg
      rw [if_pos hg] at h
      cases hv:e.ev ρ w0 with
      |none=>rw [hv] at h;exact h.elim
      |some v=>
        rw [hv] at h
        rw [Ex.ev_ext hE e hv]
        exact mw_qwps hC r hE hK h
    · rename_i hg
      rw [if_neg hg] at h
      exact mw_qwps hC r hE hK h
  | .eff g dst op ty::r,K,K',ρ,w,hE,hK,h=>by
    simp only [qwps,mw,mst] at h⊢
    split
    · rename_i hg
      rw [if_pos hg] at h
      cases hv:orac C ρ op with
      |none=>rw [hv] at h;exact h.elim
      |some v=>
        rw [hv] at h
        refine ⟨v, ?_,mw_qwps hC r hE hK h⟩
        unfold orac at hv
        split at hv
        · rename_i f args ats
          obtain ⟨hb,hp⟩:=hC _ _ _ hv
          refine ⟨hb,fun w2 hE2=> ?_⟩
          have e1:(args.toList.map (evE ρ)).toArray=args.map (evE ρ):=Array.ext' (by rw [Array.toList_map])
          rw [←e1]
          refine (hp w2 (hE.trans' hE2)).mono ?_
          rintro _ w' ⟨rfl,hE'⟩
          exact ⟨rfl,hE2.trans' hE'⟩
        · cases hv
    · rename_i hg
      rw [if_neg hg] at h
      exact mw_qwps hC r hE hK h
theorem mi_wp {cx:Cx} (hC:OrcOk cx.P C w0):∀(a:IR) {K:Env→Prop} {K':Env→World→Prop} {Q:Kp} {Q':Ks} {ρ:Env} {w:World},Ext w0 w→(∀ρ' w',Ext w0 w'→K ρ'→K' ρ' w')→
    (∀i ρ' w',Ext w0 w'→Q.ex i ρ'→Q'.ex i ρ' w')→(∀ρ' w',Ext w0 w'→Q.rt ρ'→Q'.rt ρ' w')→a.mi C w0 K Q ρ→a.wp cx K' Q' ρ w
  | .skip,_,_,_,_,_,_,hE,hK,_,_,h=>hK _ _ hE h
  | .reg l,_,_,_,_,_,_,hE,hK,_,_,h=>mw_wps hC l hE hK h
  | .drw l,_,_,_,_,_,_,hE,hK,_,_,h=>mw_qwps hC l hE (fun ρ' hk w' hE'=>hK _ _ (hE.trans' hE') hk) h
  | .seq a b,_,_,_,_,_,_,hE,hK,hx,hr,h=>mi_wp hC a hE (fun _ _ hE' hk=>mi_wp hC b hE' hK hx hr hk) hx hr h
  | .cond c a b,K,K',Q,Q',ρ,w,hE,hK,hx,hr,h=>by
    simp only [IR.mi] at h
    simp only [IR.wp]
    cases hc:c.ev ρ w0 with
    |none=>rw [hc] at h;exact h.elim
    |some v=>
      rw [hc] at h
      rw [Ex.ev_ext hE c hc]
      exact condW_mono (fun h=>mi_wp hC a hE hK hx hr h) (fun h=>mi_wp hC b hE hK hx hr h) h
  | .block id a,K,K',Q,Q',ρ,w,hE,hK,hx,hr,h=>by
    simp only [IR.mi] at h
    simp only [IR.wp]
    refine mi_wp hC a (Q:=Q.blk id K) hE hK (fun i ρ' w' hE' hh=> ?_) hr h
    simp only [Kp.blk] at hh
    show (if i=id then K' else Q'.ex i) ρ' w'
    split
    · rename_i e;rw [if_pos e] at hh;exact hK _ _ hE' hh
    · rename_i e;rw [if_neg e] at hh;exact hx _ _ _ hE' hh
  | .loop a,K,K',Q,Q',ρ,w,hE,hK,hx,hr,h=>by
    obtain ⟨I,μ,h0,hs⟩:=h
    exact ⟨fun ρ' w'=>I ρ'∧Ext w0 w',fun ρ' _=>μ ρ',⟨h0,hE⟩,fun ρ' w' ⟨hI,hE'⟩=>mi_wp hC a hE' (fun ρ'' w'' hE'' ⟨h1,h2⟩=>⟨⟨h1,hE''⟩,h2⟩) hx hr (hs ρ' hI)⟩
  | .exit id,_,_,_,_,_,_,hE,_,hx,_,h=>hx _ _ _ hE h
  | .ret,_,_,_,_,_,_,hE,_,_,hr,h=>hr _ _ hE h
end
section
variable {C:Orc} {w0:World} {K:Env→Prop} {Q:Kp} {ρ:Env}
@[simp] theorem mi_seq {a b:IR}:(IR.seq a b).mi C w0 K Q ρ=a.mi C w0 (b.mi C w0 K Q) Q ρ:=rfl
@[simp] theorem mi_reg {l:List St}:(IR.reg l).mi C w0 K Q ρ=mw C w0 l K ρ:=rfl
@[simp] theorem mi_drw {l:List St}:(IR.drw l).mi C w0 K Q ρ=mw C w0 l K ρ:=rfl
@[simp] theorem mi_skip:IR.skip.mi C w0 K Q ρ=K ρ:=rfl
@[simp] theorem mi_exit {i:Nat}:(IR.exit i).mi C w0 K Q ρ=Q.ex i ρ:=rfl
@[simp] theorem mi_ret:IR.ret.mi C w0 K Q ρ=Q.rt ρ:=rfl
@[simp] theorem mi_block {i:Nat} {a:IR}:(IR.block i a).mi C w0 K Q ρ=a.mi C w0 K (Q.blk i K) ρ:=rfl
def mA (g:Bool) (o:Option Value) (d:Option Nat) (C:Orc) (w0:World) (r:List St) (K:Env→Prop) (ρ:Env):Prop:=if g then onV o (fun v=>mw C w0 r K (updO ρ d v)) else mw C w0 r K (updO ρ d undef)
def mC (o:Option Value) (a b:IR) (C:Orc) (w0:World) (K:Env→Prop) (Q:Kp) (ρ:Env):Prop:=condW o (a.mi C w0 K Q ρ) (b.mi C w0 K Q ρ)
@[simp] theorem mA_t {d:Option Nat} {v:Value} {r:List St}:mA true (some v) d C w0 r K ρ=mw C w0 r K (updO ρ d v):=rfl
@[simp] theorem mA_f {d:Option Nat} {o:Option Value} {r:List St}:mA false o d C w0 r K ρ=mw C w0 r K (updO ρ d undef):=rfl
theorem mA_split {b:Bool} {d:Option Nat} {o:Option Value} {r:List St} (h1:b=true→mA true o d C w0 r K ρ) (h2:b=false→mw C w0 r K (updO ρ d undef)):mA b o d C w0 r K ρ:=by
  cases b
  · exact h2 rfl
  · exact h1 rfl
theorem mA_splitS {b:Bool} {d:Option Nat} {v:Value} {r:List St} (h1:b=true→mw C w0 r K (updO ρ d v)) (h2:b=false→mw C w0 r K (updO ρ d undef)):mA b (some v) d C w0 r K ρ:=mA_split h1 h2
theorem mC_split {c:Bool} {a b:IR} (h1:c=true→a.mi C w0 K Q ρ) (h2:c=false→b.mi C w0 K Q ρ):mC (some (.bool c)) a b C w0 K Q ρ:=by
  cases c
  · exact h2 rfl
  · exact h1 rfl
@[simp] theorem mC_t {a b:IR}:mC (some (.bool true)) a b C w0 K Q ρ=a.mi C w0 K Q ρ:=rfl
@[simp] theorem mC_f {a b:IR}:mC (some (.bool false)) a b C w0 K Q ρ=b.mi C w0 K Q ρ:=rfl
theorem mC_b {a b:IR} {c:Bool}:mC (some (.bool c)) a b C w0 K Q ρ=if c then a.mi C w0 K Q ρ else b.mi C w0 K Q ρ:=by cases c<;>rfl
@[simp] theorem mi_cond {c:Ex} {a b:IR}:(IR.cond c a b).mi C w0 K Q ρ=mC (c.ev ρ w0) a b C w0 K Q ρ:=rfl
@[simp] theorem mw_nil:mw C w0 [] K ρ=K ρ:=rfl
@[simp] theorem mw_asg {g:Option (Nat×Bool)} {d:Nat} {e:Ex} {r:List St}:mw C w0 (.asg g d e::r) K ρ=mA (gd ρ g) (e.ev ρ w0) (some d) C w0 r K ρ:=rfl
@[simp] theorem mw_call {g:Option (Nat×Bool)} {d:Option Nat} {f:FuncId} {args:Array Operand} {ats:Array TypeId} {ty:TypeId} {r:List St}:
    mw C w0 (.eff g d (.call {callee:= .value (.func f),args:=args,argTypes:=ats}) ty::r) K ρ=mA (gd ρ g) (C f (args.toList.map (evE ρ))) d C w0 r K ρ:=rfl
@[simp] theorem kblk_rt (Q:Kp) (i:Nat) (K:Env→Prop):(Q.blk i K).rt=Q.rt:=rfl
@[simp] theorem kblk_ex (Q:Kp) (i j:Nat) (K:Env→Prop) (ρ:Env):(Q.blk i K).ex j ρ=if j=i then K ρ else Q.ex j ρ:=by simp only [Kp.blk];split<;>rfl
theorem IR.mi_mono : ∀ {a : IR} {K K' : Env → Prop} {Q : Kp} {ρ : Env}, (∀ ρ, K ρ → K' ρ) → a.mi C w0 K Q ρ → a.mi C w0 K' Q ρ := by
  intro a
  have mwm:∀(l:List St) {K K':Env→Prop} {ρ:Env},(∀ρ,K ρ→K' ρ)→mw C w0 l K ρ→mw C w0 l K' ρ:=by
    intro l
    induction l with
    |nil=>intro K K' ρ hK h;exact hK _ h
    |cons s r ih=>
      intro K K' ρ hK h
      cases s with
      |asg g d e=>
        simp only [mw,mst] at h⊢
        split
        · rename_i hg;rw [if_pos hg] at h;exact onV_mono (fun _ h=>ih hK h) h
        · rename_i hg;rw [if_neg hg] at h;exact ih hK h
      |eff g d op ty=>
        simp only [mw,mst] at h⊢
        split
        · rename_i hg;rw [if_pos hg] at h;exact onV_mono (fun _ h=>ih hK h) h
        · rename_i hg;rw [if_neg hg] at h;exact ih hK h
  have key:∀(a:IR) {K K':Env→Prop} {Q Q':Kp} {ρ:Env},(∀ρ,K ρ→K' ρ)→(∀i ρ,Q.ex i ρ→Q'.ex i ρ)→(∀ρ,Q.rt ρ→Q'.rt ρ)→a.mi C w0 K Q ρ→a.mi C w0 K' Q' ρ:=by
    intro a
    induction a with
    |skip=>intro K K' Q Q' ρ hK _ _ h;exact hK _ h
    |reg l=>intro K K' Q Q' ρ hK _ _ h;exact mwm l hK h
    |drw l=>intro K K' Q Q' ρ hK _ _ h;exact mwm l hK h
    |seq a b iha ihb=>intro K K' Q Q' ρ hK hx hr h;exact iha (fun _ h=>ihb hK hx hr h) hx hr h
    |cond c a b iha ihb=>intro K K' Q Q' ρ hK hx hr h;exact condW_mono (fun h=>iha hK hx hr h) (fun h=>ihb hK hx hr h) h
    |block id a iha=>
      intro K K' Q Q' ρ hK hx hr h
      refine iha (Q:=Q.blk id K) (Q':=Q'.blk id K') hK (fun i ρ h=> ?_) hr h
      simp only [Kp.blk] at h⊢
      split
      · rename_i e;rw [if_pos e] at h;exact hK _ h
      · rename_i e;rw [if_neg e] at h;exact hx _ _ h
    |loop a iha=>intro K K' Q Q' ρ hK hx hr ⟨I,μ,h0,h⟩;exact ⟨I,μ,h0,fun ρ' hI=>iha (fun _ h=>h) hx hr (h ρ' hI)⟩
    |exit id=>intro K K' Q Q' ρ hK hx hr h;exact hx _ _ h
    |ret=>intro K K' Q Q' ρ hK hx hr h;exact hr _ h
    |raw c=>intro K K' Q Q' ρ hK hx hr h;exact h.elim
  intro K K' Q ρ hK h
  exact key a hK (fun _ _ h=>h) (fun _ h=>h) h
theorem mi_loopC (s n:Nat) (I:Nat→Env→Prop) {a:IR} (h00:ρ s= .int .i64 0) (h0:I 0 ρ)
    (h:∀(k:Nat) (ρ':Env),k≤n→ρ' s= .int .i64 k→I k ρ'→a.mi C w0 (fun ρ''=>k<n∧ρ'' s= .int .i64 ((k:Int)+1)∧I (k+1) ρ'') Q ρ'):(IR.loop a).mi C w0 K Q ρ:=by
  refine ⟨fun ρ'=>∃k:Nat,k≤n∧ρ' s= .int .i64 k∧I k ρ',fun ρ'=>n - (RowKit.intOf (ρ' s)).toNat,⟨0,Nat.zero_le _,h00,h0⟩, ?_⟩
  rintro ρ' ⟨k,hk,hs,hI⟩
  refine IR.mi_mono ?_ (h k ρ' hk hs hI)
  rintro ρ'' ⟨hlt,hs'',hI''⟩
  refine ⟨⟨k+1,by omega,by rw [hs''];simp,hI''⟩, ?_⟩
  show n - (intOf (ρ'' s)).toNat<n - (intOf (ρ' s)).toNat
  rw [hs'',hs];simp;omega
end
section
variable {C:Orc} {w0:World} {K:Env→Prop} {Q:Kp} {ρ:Env}
theorem mi_loopF (s b n:Nat) (I:Nat→Env→Prop) {a:IR} (h00:ρ s= .int .i64 b) (hb:b≤n) (h0:I b ρ)
    (h:∀(k:Nat) (ρ':Env),b≤k→k≤n→ρ' s= .int .i64 k→I k ρ'→a.mi C w0 (fun ρ''=>k<n∧ρ'' s= .int .i64 ((k:Int)+1)∧I (k+1) ρ'') Q ρ'):(IR.loop a).mi C w0 K Q ρ:=by
  refine ⟨fun ρ'=>∃k:Nat,b≤k∧k≤n∧ρ' s= .int .i64 k∧I k ρ',fun ρ'=>n - (RowKit.intOf (ρ' s)).toNat,⟨b,Nat.le_refl _,hb,h00,h0⟩, ?_⟩
  rintro ρ' ⟨k,hbk,hk,hs,hI⟩
  refine IR.mi_mono ?_ (h k ρ' hbk hk hs hI)
  rintro ρ'' ⟨hlt,hs'',hI''⟩
  refine ⟨⟨k+1,by omega,by omega,by rw [hs''];simp,hI''⟩, ?_⟩
  show n - (intOf (ρ'' s)).toNat<n - (intOf (ρ' s)).toNat
  rw [hs'',hs];simp;omega
end
section
variable {cx:Cx} {K:Env→World→Prop} {Q:Ks} {ρ:Env} {w:World}
end
def orc0:Orc:=fun _ _=>none
theorem orc0_ok (P:Program) (w0:World):OrcOk P orc0 w0:=fun _ _ _ h=>by cases h
theorem pure_wp {cx:Cx} {C:Orc} {w0 w:World} (hC:OrcOk cx.P C w0) (hE:Ext w0 w) {ir:IR} {rs:List RV} {R:Ending→World→Prop} {ρ:Env} (T:Env→Prop) (hT:∀ρ' w',Ext w0 w'→T ρ'→retK rs R ρ' w')
    (h:ir.mi C w0 T ⟨fun _ _=>False,T⟩ ρ):ir.wp cx (retK rs R) (ksOf rs R) ρ w:=
  mi_wp hC ir hE hT (fun _ _ _ _ (h:False)=>h.elim) hT h
theorem pure_tail {cx:Cx} {C:Orc} {w0 w:World} {l:List St} {a:IR} (hC:OrcOk cx.P C w0) (hE:Ext w0 w) {rs:List RV} {R:Ending→World→Prop} {ρ:Env} (T:Env→Prop) (hT:∀ρ' w',Ext w0 w'→T ρ'→retK rs R ρ' w')
    (h:(IR.seq (.reg l) a).mi C w0 T ⟨fun _ _=>False,T⟩ ρ):wps cx.P (ksOf rs R) l (a.wp cx (retK rs R) (ksOf rs R)) ρ w:=pure_wp (ir:= .seq (.reg l) a) hC hE T hT h
end Go.Eng
namespace Go.L01
open Go.Eng
abbrev Bs:=List UInt8
structure Tok where
 kind:Nat
 text:Bs
 line:Int
 deriving DecidableEq
def letter (c:UInt8):Bool:=decide (97≤c.toNat)&&decide (c.toNat≤122)
def digit (c:UInt8):Bool:=decide (48≤c.toNat)&&decide (c.toNat≤57)
def part (c:UInt8):Bool:=letter c||digit c
def blank (c:UInt8):Bool:=decide (c=32)||decide (c=9)||decide (c=10)
def wordsL:List Bs:=
 [[97,110,100],[97,114,114,97,121],[98,101,103,105,110],[98,111,111,108],[98,114,101,97,107],[99,108,117,115,116,101,114],[100,111],[100,111,119,110],[101,108,115,101],[101,108,115,101,105,102],[101,110,100],[101,120,99,101,112,116],[102,97,108,115,101],[102,111,114],[104,97,115],[105,102],[105,110],[105,110,116],[105,115],[105,116,101,114],[109,111,100],[110,105,108],[110,111,116],[110,117,108,108],[111,110,101,111,102],[111,114],[111,116,104,101,114,115],[112,114,111,99],[112,117,116],[114,101,99,111,114,100],[114,101,112],[114,101,116,117,114,110],[114,101,116,117,114,110,115],[115,105,103,110,97,108],[115,105,103,110,97,108,115],[116,97,103],[116,97,103,99,97,115,101],[116,104,101,110],[116,114,117,101],[117,112],[118,97,114],[119,104,101,110],[119,104,101,114,101],[119,104,105,108,101],[121,105,101,108,100],[121,105,101,108,100,115]]
def signsL:List Bs:=
 [[36],[40],[41],[42],[43],[44],[45],[46],[47],[58],[58,61],[59],[60],[60,61],[61],[63],[91],[93],[95],[123],[125]]
def runL (s:Bs):Nat:=(s.takeWhile part).length
def digitsL (s:Bs):Nat:=(s.takeWhile digit).length
def isWord (s:Bs):Bool:=wordsL.contains s
def isName (s:Bs):Bool:=decide (0<s.length)&&decide (s.length≤12)&&letter (s.getD 0 0)&&decide (runL s=s.length)&& !isWord s
def most:Bs:=[49,48,48,48,48,48,48,48,48,48]
def isNumber (s:Bs):Bool:=
 !(decide (s.length=0)||decide (10<s.length)||decide (digitsL s≠s.length)||(decide (1<s.length)&&decide (s.getD 0 0=48)))&&(decide (s.length<10)||decide (s=most))
def isSign (s:Bs):Bool:=signsL.contains s
def right (k:Nat) (s:Bs):Bool:=
 if k=1 then isName s else if k=2 then isWord s else if k=3 then isNumber s else if k=4 then isSign s else false
def first (s:Bs):Nat×Nat×Int:=
 if letter (s.getD 0 0) then (if isWord (s.take (runL s)) then (2,runL s,0) else if 12<runL s then (0,0,12) else (1,runL s,0))
 else if digit (s.getD 0 0) then (if isNumber (s.take (digitsL s)) then (3,digitsL s,0) else (0,0,11))
 else if 1<s.length∧isSign (s.take 2)=true then (4,2,0) else if isSign (s.take 1) then (4,1,0) else (0,0,10)
def comLen (s:Bs):Nat:=(s.takeWhile fun c=>decide (c≠10)).length
inductive Res where
 |bad (e line:Int)
 |ok (ts:List Tok) (cs:List Bs)
 deriving DecidableEq
def Res.add (out:List Tok) (com:List Bs):Res→Res
 | .bad e l=> .bad e l
 | .ok ts cs=> .ok (out++ts) (com++cs)
def scanF:Nat→Bs→Int→Res
 |0,_,_=> .ok [] []
 |_+1,[],_=> .ok [] []
 |f+1,c::r,l=>
  if c=10 then scanF f r (l+1)
  else if c=32∨c=9 then scanF f r l
  else if c=37 then (scanF f ((c::r).drop (comLen (c::r))) l).add [] [(c::r).take (comLen (c::r))]
  else if (first (c::r)).2.2≠0 then .bad (first (c::r)).2.2 l
  else (scanF f ((c::r).drop (first (c::r)).2.1) l).add [⟨(first (c::r)).1,(c::r).take (first (c::r)).2.1,l⟩] []
def scanAt (s:Bs) (l:Int):Res:=scanF s.length s l
def scan (s:Bs):Res:=if 20000<s.length then .bad 2 0 else scanAt s 1
def Res.toks:Res→List Tok| .ok ts _=>ts|_=>[]
def Res.coms:Res→List Bs| .ok _ cs=>cs|_=>[]
def Res.err:Res→Int| .bad e _=>e|_=>0
def Res.at:Res→Int| .bad _ l=>l|_=>0
theorem runL_pos {s:Bs} (h:letter (s.getD 0 0)=true):0<runL s:=by
 cases s with
 |nil=>simp [letter] at h
 |cons c r=>
  have hp:part c=true:=by simp [part];exact .inl (by simpa using h)
  simp [runL,List.takeWhile_cons,hp]
theorem digitsL_pos {s:Bs} (h:digit (s.getD 0 0)=true):0<digitsL s:=by
 cases s with
 |nil=>simp [digit] at h
 |cons c r=>
  have hp:digit c=true:=by simpa using h
  simp [digitsL,List.takeWhile_cons,hp]
theorem takeWhile_le {α:Type} (p:α→Bool) (s:List α):(s.takeWhile p).length≤s.length:=(List.takeWhile_sublist p).length_le
theorem first_len {s:Bs} (h:(first s).2.2=0) (h0:s≠[]):0<(first s).2.1∧(first s).2.1≤s.length:=by
 have hl:0<s.length:=List.length_pos_iff.2 h0
 unfold first at h⊢
 split
 ·rename_i hc
  rw [if_pos hc] at h
  have h1:=runL_pos hc
  have h2:runL s≤s.length:=takeWhile_le _ _
  split
  ·exact ⟨h1,h2⟩
  ·rename_i hw
   rw [if_neg hw] at h
   split
   ·rename_i h12;rw [if_pos h12] at h;cases h
   ·exact ⟨h1,h2⟩
 ·rename_i hc
  rw [if_neg hc] at h
  split
  ·rename_i hd
   rw [if_pos hd] at h
   have h1:=digitsL_pos hd
   have h2:digitsL s≤s.length:=takeWhile_le _ _
   split
   ·exact ⟨h1,h2⟩
   ·rename_i hn;rw [if_neg hn] at h;cases h
  ·rename_i hd
   rw [if_neg hd] at h
   split
   ·rename_i h2;exact ⟨by simp,by simp;omega⟩
   ·rename_i h2
    rw [if_neg h2] at h
    split
    ·exact ⟨by simp,by simp;omega⟩
    ·rename_i h1;rw [if_neg h1] at h;cases h
theorem comLen_pos (r:Bs):0<comLen (37::r):=by simp [comLen,List.takeWhile_cons]
theorem comLen_le (s:Bs):comLen s≤s.length:=takeWhile_le _ _
theorem scanF_fuel:∀(f g:Nat) (s:Bs) (l:Int),s.length≤f→s.length≤g→scanF f s l=scanF g s l
 |0,g,s,l,hf,_=>by
  have:s=[]:=List.length_eq_zero_iff.1 (by omega)
  subst this
  cases g<;>rfl
 |f+1,0,s,l,_,hg=>by
  have:s=[]:=List.length_eq_zero_iff.1 (by omega)
  subst this;rfl
 |f+1,g+1,[],l,_,_=>rfl
 |f+1,g+1,c::r,l,hf,hg=>by
  simp only [List.length_cons] at hf hg
  unfold scanF
  split
  ·exact scanF_fuel f g r _ (by omega) (by omega)
  ·split
   ·exact scanF_fuel f g r _ (by omega) (by omega)
   ·split
    ·rename_i hc
     subst hc
     have h1:=comLen_pos r
     rw [scanF_fuel f g _ _ (by simp only [List.length_drop,List.length_cons];omega) (by simp only [List.length_drop,List.length_cons];omega)]
    ·split
     ·rfl
     ·rename_i he
      have h1:=first_len (s:=c::r) (by simpa using he) (by simp)
      rw [scanF_fuel f g _ _ (by simp only [List.length_drop,List.length_cons];omega) (by simp only [List.length_drop,List.length_cons];omega)]
theorem scanAt_nil (l:Int):scanAt [] l= .ok [] []:=rfl
theorem scanAt_cons (c:UInt8) (r:Bs) (l:Int):scanAt (c::r) l=
  if c=10 then scanAt r (l+1)
  else if c=32∨c=9 then scanAt r l
  else if c=37 then (scanAt ((c::r).drop (comLen (c::r))) l).add [] [(c::r).take (comLen (c::r))]
  else if (first (c::r)).2.2≠0 then .bad (first (c::r)).2.2 l
  else (scanAt ((c::r).drop (first (c::r)).2.1) l).add [⟨(first (c::r)).1,(c::r).take (first (c::r)).2.1,l⟩] []:=by
 show scanF (r.length+1) (c::r) l=_
 rw [scanF]
 split
 ·rfl
 ·split
  ·rfl
  ·split
   ·rename_i hc
    subst hc
    have h1:=comLen_pos r
    rw [scanAt,scanF_fuel r.length _ _ _ (by simp only [List.length_drop,List.length_cons];omega) (Nat.le_refl _)]
   ·split
    ·rfl
    ·rename_i he
     have h1:=first_len (s:=c::r) (by simpa using he) (by simp)
     rw [scanAt,scanF_fuel r.length _ _ _ (by simp only [List.length_drop,List.length_cons];omega) (Nat.le_refl _)]
theorem Res.add_add (a b:List Tok) (c d:List Bs) (r:Res):(r.add b d).add a c=r.add (a++b) (c++d):=by
 cases r<;>simp [Res.add]
@[simp] theorem Res.add_nil (r:Res):r.add [] []=r:=by cases r<;>rfl
end Go.L01
namespace Go.L02
open Go.Eng
open Go.L01 (Bs Tok)
structure D where
 kind:Nat
 name:Bs:=[]
 vr:Bs:=[]
 typ:Bs:=[]
 n:Int:=0
 deriving DecidableEq
inductive T where
 |mk (d:D) (kids:List T)
def T.d:T→D| .mk d _=>d
def T.kids:T→List T| .mk _ ks=>ks
structure Nd where
 d:D
 kids:List Int
 deriving DecidableEq
mutual
def T.size:T→Nat| .mk _ ks=>sizes ks+1
def sizes:List T→Nat|[]=>0|t::ts=>t.size+sizes ts
end
def roots:Nat→List T→List Int
 |_,[]=>[]
 |b,t::ts=>((b:Int)+t.size - 1)::roots (b+t.size) ts
mutual
def T.flat:Nat→T→List Nd|b, .mk d ks=>flats b ks++[⟨d,roots b ks⟩]
def flats:Nat→List T→List Nd|_,[]=>[] |b,t::ts=>t.flat b++flats (b+t.size) ts
end
structure Sig where
 iter:Bool:=false
 args:List Bs:=[]
 result:Bs:=[]
 signals:List Bs:=[]
 deriving DecidableEq
structure Rout where
 name:Bs
 sig:Sig
 params:List Bs
 nodes:List Nd
 deriving DecidableEq
structure Need where
 op:Bs
 sig:Sig
 deriving DecidableEq
structure Opn where
 name:Bs
 sig:Sig:={}
 deriving DecidableEq
structure Face where
 name:Bs
 kind:Nat
 param:Bool
 needs:List Need
 ops:List Opn
 deriving DecidableEq
structure Mod where
 face:Face
 rep:Bs
 routs:List Rout
 deriving DecidableEq
inductive Rs (α:Type) where
 |ok (a:α) (i f:Nat)
 |no (f:Nat)
 |oof
def Rs.andThen {α β:Type} (r:Rs α) (k:α→Nat→Nat→Rs β):Rs β:=match r with| .ok a i f=>k a i f| .no f=> .no f| .oof=> .oof
abbrev M (α:Type):=Nat→Nat→Rs α
def ret {α:Type} (a:α):M α:=fun i f=> .ok a i f
def oof {α:Type}:M α:=fun _ _=> .oof
def fail {α:Type}:M α:=fun i f=> .no (max f i)
def bnd {α β:Type} (m:M α) (k:α→M β):M β:=fun i f=>(m i f).andThen k
def sq {α β:Type} (m:M α) (k:M β):M β:=bnd m fun _=>k
section
variable (L:List Tok)
def tk (i:Nat):Tok:=L.getD i ⟨0,[],0⟩
def isT (i:Nat) (ss:List Bs):Bool:=(decide ((tk L i).kind=2)||decide ((tk L i).kind=4))&&ss.contains (tk L i).text
def tif {α:Type} (s:Bs) (x y:M α):M α:=fun i f=>if isT L i [s] then x (i+1) f else y i f
def needs:List Bs→M Unit
 |[]=>ret ()
 |s::ss=>tif L s (needs ss) fail
def name:M Bs:=fun i f=>if (tk L i).kind=1 then .ok (tk L i).text (i+1) f else .no (max f i)
def param:M Unit:=fun i f=>if (tk L i).kind=1∧(tk L i).text=[116] then .ok () (i+1) f else .no (max f i)
def fin:M Unit:=fun i f=>if i<L.length then .no (max f i) else .ok () i f
def more {α:Type} (one:M α):Nat→M (List α)
 |0=>oof
 |n+1=>tif L [44] (bnd one fun x=>bnd (more one n) fun xs=>ret (x::xs)) (ret [])
def listed {α:Type} (n:Nat) (one:M α):M (List α):=bnd one fun x=>bnd (more L one n) fun xs=>ret (x::xs)
def bracketed {α:Type} (n:Nat) (one:M α):M (List α):=
 sq (needs L [[40]]) (tif L [41] (ret []) (bnd (listed L n one) fun xs=>sq (needs L [[41]]) (ret xs)))
def partM (k:M Unit):M Bs:=sq (name L) (sq (needs L [[58]]) (sq k (ret [])))
def kind:Nat→M Unit
 |0=>oof
 |n+1=>
  tif L [105,110,116] (ret ()) (tif L [98,111,111,108] (ret ()) (tif L [110,117,108,108] (ret ()) (tif L [97,114,114,97,121] (sq (needs L [[91]]) (sq (kind n) (needs L [[93]])))
  (tif L [114,101,99,111,114,100] (sq (needs L [[91]]) (sq (listed L n (partM L (kind n))) (needs L [[93]])))
  (tif L [111,110,101,111,102] (sq (needs L [[91]]) (sq (listed L n (partM L (kind n))) (needs L [[93]])))
  (tif L [63] (param L) (sq (name L) (tif L [91] (sq (kind n) (needs L [[93]])) (ret ())))))))))
def joinT (l:List Tok):Bs:=(l.map (·.text)).flatten
def cutT (i j:Nat):List Tok:=(L.take j).drop i
def typed (n:Nat):M Bs:=fun i f=>(kind L n i f).andThen fun _ j g=> .ok (joinT (cutT L i j)) j g
def wordOps:List Bs:=[[109,111,100],[97,110,100],[111,114],[110,111,116]]
def op:M Bs:=fun i f=>if (tk L i).kind=2∧wordOps.contains (tk L i).text then .ok (tk L i).text (i+1) f
 else (bnd (name L) fun s=>tif L [95] (bnd (name L) fun u=>ret (s++([95]++u))) (ret s)) i f
def owner (n:Nat):M Bs:=bnd (typed L n) fun s=>sq (needs L [[36]]) (ret s)
def opers:List Bs:=[[43],[45],[42],[47],[109,111,100],[60],[60,61],[61],[97,110,100],[111,114]]
def numOf (s:Bs):Int:=s.foldl (fun n c=>10*n+((c.toNat:Int) - 48)) 0
def updown (e:M T):M T:=fun i f=>
 (sq (needs L [[40]]) (bnd e fun t=>sq (needs L [[41]]) (ret (T.mk {kind:=if isT L i [[100,111,119,110]] then 10 else 9} [t])))) (i+1) f
def parens (e:M T):M T:=bnd e fun t=>sq (needs L [[41]]) (ret t)
def moduleM (n:Nat) (e:M T):M T:=bnd (name L) fun nm=>
 tif L [123] (bnd (typed L n) fun t=>sq (needs L [[125]]) (bnd (bracketed L n e) fun ks=>ret (T.mk {kind:=5,name:=nm,typ:=t} ks)))
  (bnd (bracketed L n e) fun ks=>ret (T.mk {kind:=5,name:=nm} ks))
def operationM (n:Nat) (e:M T) (o:Bs):M T:=bnd (op L) fun nm=>bnd (bracketed L n e) fun ks=>ret (T.mk {kind:=5,vr:=o,name:=nm} ks)
def callM (n:Nat) (e:M T):M T:=fun i f=>
 if (tk L i).kind=1∧((tk L (i+1)).text=[40]∨(tk L (i+1)).text=[123]) then moduleM L n e i f else (bnd (owner L n) (operationM L n e)) i f
def withB {α:Type} (b:Bool) (m:M α):M (α×Bool):=bnd m fun x=>ret (x,b)
def namedM (n:Nat) (e:M T):M (T×Bool):=fun i f=>
 if (tk L i).kind=1∧((tk L (i+1)).text=[40]∨(tk L (i+1)).text=[123]) then withB true (moduleM L n e) i f
 else if (tk L i).kind=1∧(tk L (i+1)).text=[91] then
  match owner L n i f with
  | .ok s j g=>withB true (operationM L n e s) j g
  | .no g=> .ok (T.mk {kind:=4,name:=(tk L i).text} [],false) (i+1) g
  | .oof=> .oof
 else if (tk L i).kind=1∧(tk L (i+1)).text≠[36] then .ok (T.mk {kind:=4,name:=(tk L i).text} [],false) (i+1) f
 else withB true (bnd (owner L n) (operationM L n e)) i f
def simpleM (n:Nat) (e:M T):M (T×Bool):=fun i f=>
 if (tk L i).kind=3 then .ok (T.mk {kind:=1,n:=numOf (tk L i).text} [],false) (i+1) f
 else (tif L [116,114,117,101] (ret (T.mk {kind:=2,n:=1} [],false)) (tif L [102,97,108,115,101] (ret (T.mk {kind:=2} [],false)) (tif L [110,105,108] (ret (T.mk {kind:=3} [],false))
  fun i f=>if isT L i [[117,112],[100,111,119,110]] then withB false (updown L e) i f else tif L [40] (withB false (parens L e)) (namedM L n e) i f))) i f
def tailM (e:M T):Nat→T→Nat→M (T×Nat)
 |0,_,_=>oof
 |n+1,t,fm=>tif L [91] (bnd e fun k=>sq (needs L [[93]]) (tailM e n (T.mk {kind:=7} [t,k]) 2))
   (tif L [46] (bnd (name L) fun s=>tailM e n (T.mk {kind:=8,name:=s} [t]) 3) (ret (t,fm)))
def primaryM (n:Nat) (e:M T):M (T×Nat):=bnd (simpleM L n e) fun p=>tailM L e n p.1 (if p.2 then 1 else 0)
def exprM (p:M (T×Nat)):M T:=
 tif L [110,111,116] (bnd p fun x=>ret (T.mk {kind:=6,name:=[110,111,116]} [x.1]))
  (bnd p fun x=>fun i f=>if isT L i opers then (bnd p fun y=>ret (T.mk {kind:=6,name:=(tk L i).text} [x.1,y.1])) (i+1) f else .ok x.1 i f)
def expr:Nat→M T
 |0=>oof
 |n+1=>exprM L (primaryM L n (expr n))
def begins (i:Nat):Bool:=decide ((tk L i).kind=1)||decide ((tk L i).kind=3)||
 isT L i [[116,114,117,101],[102,97,108,115,101],[110,105,108],[117,112],[100,111,119,110],[40],[110,111,116],[105,110,116],[98,111,111,108],[110,117,108,108],[97,114,114,97,121],[114,101,99,111,114,100],[111,110,101,111,102],[63]]
def starts (i:Nat):Bool:=isT L i [[118,97,114],[112,117,116],[105,102],[119,104,105,108,101],[102,111,114],[114,101,116,117,114,110],[121,105,101,108,100],[115,105,103,110,97,108],[98,114,101,97,107],[98,101,103,105,110],[116,97,103,99,97,115,101]] ||(begins L i&& !isT L i [[110,111,116]])
def stmtsM (s:M T):Nat→M (List T)
 |0=>oof
 |n+1=>tif L [59] (bnd s fun x=>bnd (stmtsM s n) fun xs=>ret (x::xs)) (ret [])
def blockM (n:Nat) (s:M T):M T:=fun i f=>
 if starts L i then (bnd s fun x=>bnd (stmtsM L s n) fun xs=>ret (T.mk {kind:=20} (x::xs))) i f else .ok (T.mk {kind:=20} []) i f
def declared (n:Nat):M (Bs×Bs):=bnd (name L) fun nm=>sq (needs L [[58]]) (bnd (typed L n) fun t=>ret (nm,t))
def conditionM (e b:M T):Nat→M T
 |0=>oof
 |n+1=>bnd e fun x=>sq (needs L [[116,104,101,110]]) (bnd b fun q=>
   tif L [101,108,115,101,105,102] (bnd (conditionM e b n) fun c=>ret (T.mk {kind:=26} [x,q,T.mk {kind:=20} [c]]))
    (tif L [101,108,115,101] (bnd b fun r=>sq (needs L [[101,110,100]]) (ret (T.mk {kind:=26} [x,q,r]))) (sq (needs L [[101,110,100]]) (ret (T.mk {kind:=26} [x,q])))))
def handsM (b:M T):Nat→Bool→M (List T)
 |0,_=>oof
 |n+1,first=>fun i f=>if isT L i [[119,104,101,110]] ||first then
   (sq (needs L [[119,104,101,110]]) (tif L [111,116,104,101,114,115] (sq (needs L [[58]]) (bnd b fun q=>ret [T.mk {kind:=33} [q]]))
    (bnd (name L) fun s=>sq (needs L [[58]]) (bnd b fun q=>bnd (handsM b n false) fun ws=>ret (T.mk {kind:=33,name:=s} [q]::ws))))) i f
  else .ok [] i f
def handlersM (n:Nat) (b:M T):M T:=bnd b fun q=>sq (needs L [[101,120,99,101,112,116]]) (bnd (handsM L b n true) fun ws=>sq (needs L [[101,110,100]]) (ret (T.mk {kind:=32} (q::ws))))
def armM (k:Nat) (b:M T):Nat→Bool→M (List T)
 |0,_=>oof
 |n+1,first=>fun i f=>if isT L i [[116,97,103]] ||first then
   (sq (needs L [[116,97,103]]) (bnd (name L) fun s=>sq (needs L [[40]]) (bnd (name L) fun v=>sq (needs L [[58]]) (bnd (typed L k) fun t=>sq (needs L [[41],[58]])
    (bnd b fun q=>bnd (armM k b n false) fun ws=>ret (T.mk {kind:=36,name:=s,vr:=v,typ:=t} [q]::ws)))))) i f
  else .ok [] i f
def armsM (n:Nat) (e b:M T):M T:=bnd e fun x=>bnd (armM L n b n true) fun ws=>sq (needs L [[101,110,100]]) (ret (T.mk {kind:=35} (x::ws)))
def writtenM (n:Nat) (e:M T) (p:M (T×Nat)):M T:=fun i f=>
 if (tk L i).kind=1∧(tk L (i+1)).text=[58,61] then (bnd e fun x=>ret (T.mk {kind:=22,name:=(tk L i).text} [x])) (i+2) f
 else (bnd p fun x=>fun i f=>
  if x.2=1∧isT L i [[58,61]]=false then .ok (T.mk {kind:=25} [x.1]) i f
  else if x.2=2∧isT L i [[58,61]]=true then (bnd e fun y=>ret (T.mk {kind:=23} (x.1.kids++[y]))) (i+1) f
  else if x.2=3∧isT L i [[58,61]]=true then (bnd e fun y=>ret (T.mk {kind:=24,name:=x.1.d.name} (x.1.kids++[y]))) (i+1) f
  else .no (max f i)) i f
def statementM (n:Nat) (e:M T) (p:M (T×Nat)) (b:M T):M T:=
 tif L [118,97,114] (bnd (declared L n) fun x=>sq (needs L [[58,61]]) (bnd e fun y=>ret (T.mk {kind:=21,name:=x.1,typ:=x.2} [y])))
 (tif L [112,117,116] (bnd e fun y=>ret (T.mk {kind:=37} [y]))
 (tif L [105,102] (conditionM L e b n)
 (tif L [119,104,105,108,101] (bnd e fun x=>sq (needs L [[100,111]]) (bnd b fun q=>sq (needs L [[101,110,100]]) (ret (T.mk {kind:=27} [x,q]))))
 (tif L [102,111,114] (bnd (declared L n) fun x=>sq (needs L [[105,110]]) (bnd (callM L n e) fun c=>sq (needs L [[100,111]]) (bnd b fun q=>sq (needs L [[101,110,100]]) (ret (T.mk {kind:=28,name:=x.1,typ:=x.2} [c,q])))))
 (tif L [114,101,116,117,114,110] (fun i f=>if begins L i then (bnd e fun x=>ret (T.mk {kind:=29} [x])) i f else .ok (T.mk {kind:=29} []) i f)
 (tif L [121,105,101,108,100] (bnd e fun y=>ret (T.mk {kind:=30} [y]))
 (tif L [115,105,103,110,97,108] (bnd (name L) fun s=>ret (T.mk {kind:=31,name:=s} []))
 (tif L [98,114,101,97,107] (ret (T.mk {kind:=34} []))
 (tif L [98,101,103,105,110] (handlersM L n b)
 (tif L [116,97,103,99,97,115,101] (armsM L n e b) (writtenM L n e p)))))))))))
def statement:Nat→M T
 |0=>oof
 |n+1=>statementM L n (expr L n) (primaryM L n (expr L n)) (blockM L n (statement n))
def block (n:Nat):M T:=blockM L n (statement L n)
def signals (n:Nat):M (List Bs):=tif L [115,105,103,110,97,108,115] (sq (needs L [[40]]) (bnd (listed L n (name L)) fun l=>sq (needs L [[41]]) (ret l))) (ret [])
def behind (n:Nat) (iter:Bool):M (Bs×List Bs):=
 if iter then sq (needs L [[121,105,101,108,100,115]]) (bnd (typed L n) fun t=>bnd (signals L n) fun l=>ret (t,l))
 else tif L [114,101,116,117,114,110,115] (bnd (typed L n) fun t=>bnd (signals L n) fun l=>ret (t,l)) (bnd (signals L n) fun l=>ret ([],l))
def sort:M Bool:=tif L [105,116,101,114] (ret true) (sq (needs L [[112,114,111,99]]) (ret false))
def head (n:Nat) (iter:Bool):M (Sig×List Bs):=bnd (bracketed L n (declared L n)) fun l=>bnd (behind L n iter) fun b=>
 ret (⟨iter,l.map (·.2),b.1,b.2⟩,l.map (·.1))
def bodyM (n:Nat):M (List Nd):=sq (needs L [[105,115]]) (bnd (block L n) fun t=>sq (needs L [[101,110,100]]) (ret (t.flat 0)))
def need1 (n:Nat):M Need:=bnd (name L) fun o=>sq (needs L [[58]]) (bnd (sort L) fun it=>bnd (bracketed L n (typed L n)) fun ws=>bnd (behind L n it) fun b=>
 ret ⟨o,⟨it,ws,b.1,b.2⟩⟩)
def whereM (n:Nat):M (List Need):=tif L [119,104,101,114,101] (sq (param L) (sq (needs L [[104,97,115]]) (listed L n (need1 L n)))) (ret [])
def params:M Bool:=tif L [91] (sq (param L) (sq (needs L [[93]]) (ret true))) (ret false)
def rout1 (n:Nat):M Rout:=bnd (sort L) fun it=>bnd (name L) fun nm=>bnd (head L n it) fun h=>bnd (bodyM L n) fun l=>ret ⟨nm,h.1,h.2,l⟩
def routs (n:Nat):Nat→M (List Rout)
 |0=>oof
 |k+1=>bnd (rout1 L n) fun r=>fun i f=>if isT L i [[112,114,111,99],[105,116,101,114]] then (bnd (routs n k) fun rs=>ret (r::rs)) i f else .ok [r] i f
def opsOf (names:List Bs) (rs:List Rout):List Opn:=names.mapIdx fun i s=>⟨s,match rs[i]? with|some r=>r.sig|none=>{}⟩
def cluster (n:Nat):M Mod:=bnd (name L) fun nm=>bnd (params L) fun pr=>sq (needs L [[105,115]]) (bnd (listed L n (name L)) fun names=>bnd (whereM L n) fun ws=>
 sq (needs L [[114,101,112],[61]]) (bnd (typed L n) fun rep=>bnd (routs L n n) fun rs=>sq (needs L [[101,110,100]]) (ret ⟨⟨nm,3,pr,ws,opsOf names rs⟩,rep,rs⟩)))
def oneM (n:Nat):M Mod:=tif L [99,108,117,115,116,101,114] (cluster L n) (bnd (sort L) fun it=>bnd (name L) fun nm=>bnd (params L) fun pr=>bnd (head L n it) fun h=>
 bnd (whereM L n) fun ws=>bnd (bodyM L n) fun l=>ret ⟨⟨nm,if it then 2 else 1,pr,ws,[⟨nm,h.1⟩]⟩,[],[⟨nm,h.1,h.2,l⟩]⟩)
end
end Go.L02
namespace Go.L02
open Go.Eng
open Go.L01 (Bs Tok)
inductive Ro (α:Type) where
 |val (o:Option α) (i f:Nat)
 |oof
def Ro.andThen {α β:Type} (r:Ro α) (k:α→Nat→Nat→Ro β):Ro β:=match r with| .val (some a) i f=>k a i f| .val none i f=> .val none i f| .oof=> .oof
abbrev N (α:Type):=Nat→Nat→Ro α
def retN {α:Type} (a:α):N α:=fun i f=> .val (some a) i f
def oofN {α:Type}:N α:=fun _ _=> .oof
def failN {α:Type}:N α:=fun i f=> .val none i f
def bndN {α β:Type} (m:N α) (k:α→N β):N β:=fun i f=>(m i f).andThen k
section
variable (L:List Tok)
def isK (i k:Nat) (s:Bs):Bool:=decide (i<L.length)&&decide ((tk L i).kind=k)&&(decide (s=[])||decide ((tk L i).text=s))
def rif {α:Type} (k:Nat) (s:Bs) (x y:N α):N α:=fun i f=>if isK L i k s then x (i+1) f else y i (max f i)
def sgn {α:Type} (s:Bs) (x:N α):N α:=rif L 4 s x failN
def nameN {α:Type} (x:Bs→N α):N α:=fun i f=>if isK L i 1 [] then x (tk L i).text (i+1) f else .val none i (max f i)
def seen {α:Type} (k:Nat) (x:Bs→N α) (y:N α):List Bs→N α
 |[]=>y
 |s::ss=>rif L k s (x s) (seen k x y ss)
def fieldsN (t:N Bs):Nat→N Bs
 |0=>oofN
 |n+1=>nameN L fun nm=>sgn L [58] (bndN t fun u=>rif L 4 [44] (bndN (fieldsN t n) fun r=>retN (nm++[58]++u++[44]++r)) (retN (nm++[58]++u)))
def typN:Nat→N Bs
 |0=>oofN
 |n+1=>seen L 2 retN
  (rif L 2 [97,114,114,97,121] (sgn L [91] (bndN (typN n) fun t=>sgn L [93] (retN ([97,114,114,97,121,91]++t++[93]))))
  (seen L 2 (fun many=>sgn L [91] (bndN (fieldsN L (typN n) n) fun l=>sgn L [93] (retN (many++[91]++l++[93]))))
  (rif L 4 [63] (rif L 1 [116] (retN [63,116]) failN)
  (nameN L fun nm=>rif L 4 [91] (bndN (typN n) fun t=>sgn L [93] (retN (nm++[91]++t++[93]))) (retN nm)))
  [[114,101,99,111,114,100],[111,110,101,111,102]])) [[105,110,116],[98,111,111,108],[110,117,108,108]]
def signsN:List Bs:=[[43],[45],[42],[47],[60],[60,61],[61]]
def wordsN:List Bs:=[[109,111,100],[97,110,100],[111,114]]
end
end Go.L02
namespace Go.L01
open Go.Eng
theorem digit_part {c:UInt8} (h:digit c=true):part c=true:=by simp [part,h]
theorem run_tail {p:UInt8→Bool} {s r r':Bs} (h:((s++r).takeWhile p).length=s.length) (hr:r'=[]∨∃c x,r'=c::x∧(p c=false∨∃y,r=c::y)):((s++r').takeWhile p).length=s.length:=by
 have hall:∀x∈s,p x=true:=by
  have h1:(s++r).takeWhile p=s:=by
   have h2:=List.takeWhile_prefix p (l:=s++r)
   have h3:s<+:s++r:=List.prefix_append _ _
   exact List.prefix_of_prefix_length_le h2 h3 (by omega)|>.eq_of_length h
  intro x hx
  have h4:x∈(s++r).takeWhile p:=by rw [h1];exact hx
  exact List.all_eq_true.1 (List.all_takeWhile (p:=p) (l:=s++r)) x h4
 rw [List.takeWhile_append_of_pos hall,List.length_append]
 rw [List.takeWhile_append_of_pos hall,List.length_append] at h
 have h0:(r.takeWhile p)=[]:=List.length_eq_zero_iff.1 (by omega)
 rcases hr with rfl|⟨c,x,rfl,hc|⟨y,rfl⟩⟩
 ·simp
 ·simp [List.takeWhile_cons,hc]
 ·have hcp:p c=false:=by
   cases hp:p c with
   |false=>rfl
   |true=>rw [List.takeWhile_cons,hp] at h0;simp at h0
  simp [List.takeWhile_cons,hcp]
theorem signs2:∀s∈signsL,(s.length=1∨s.length=2)∧letter (s.getD 0 0)=false∧digit (s.getD 0 0)=false∧(s.length=2→blank (s.getD 1 0)=false)∧(∀c∈s,c≠10∧c≠37∧c≠32∧c≠9):=by decide
theorem words2:∀s∈wordsL,letter (s.getD 0 0)=true∧runL s=s.length∧s≠[]:=by decide
theorem first_alone {k:Nat} {s:Bs} (h:right k s=true):s≠[]∧first s=(k,s.length,0):=by
 unfold right at h
 split at h
 ·rename_i hk;subst hk
  simp only [isName,Bool.and_eq_true,decide_eq_true_eq,Bool.not_eq_true'] at h
  obtain ⟨⟨⟨⟨h1,h2⟩,h3⟩,h4⟩,h5⟩:=h
  refine ⟨by rintro rfl;simp at h1, ?_⟩
  unfold first
  rw [if_pos h3,h4,List.take_length,h5,if_neg (by simp),if_neg (by omega)]
 ·split at h
  ·rename_i hk;subst hk
   obtain ⟨h1,h2,h3⟩:=words2 s (by simpa [isWord] using h)
   refine ⟨h3, ?_⟩
   unfold first
   rw [if_pos h1,h2,List.take_length,if_pos h]
  ·split at h
   ·rename_i hk;subst hk
    have hn:=h
    simp only [isNumber,Bool.and_eq_true,Bool.not_eq_true',Bool.or_eq_false_iff,decide_eq_false_iff_not,Decidable.not_not] at h
    obtain ⟨⟨⟨⟨h1,h2⟩,h3⟩,h4⟩,h5⟩:=h
    have h0:s≠[]:=by rintro rfl;simp at h1
    obtain ⟨a,s',rfl⟩:∃a s',s=a::s':=by cases s with|nil=>exact absurd rfl h0|cons a s'=>exact ⟨a,s',rfl⟩
    have hd:digit a=true:=by
     cases hd:digit a with
     |true=>rfl
     |false=>simp [digitsL,List.takeWhile_cons,hd] at h3
    have hl:letter a=false:=by
     simp only [digit,Bool.and_eq_true,decide_eq_true_eq] at hd
     simp only [letter,Bool.and_eq_false_iff,decide_eq_false_iff_not]
     omega
    refine ⟨h0, ?_⟩
    unfold first
    have g:(a::s').getD 0 0=a:=rfl
    rw [g,if_neg (by rw [hl];simp),if_pos hd,h3,List.take_length,if_pos hn]
   ·split at h
    ·rename_i hk;subst hk
     obtain ⟨hlen,hl,hd,_,_⟩:=signs2 s (by simpa [isSign] using h)
     refine ⟨by rintro rfl;simp at hlen, ?_⟩
     unfold first
     rw [if_neg (by rw [hl];simp),if_neg (by rw [hd];simp)]
     rcases hlen with h1|h2
     ·rw [if_neg (by omega),←h1,List.take_length,if_pos h]
     ·rw [←h2,List.take_length,if_pos ⟨by omega,h⟩]
    ·cases h
theorem takeWhile_all {p:UInt8→Bool} (s:Bs):(s.take (s.takeWhile p).length)=s.takeWhile p:=by
 have h:=List.takeWhile_prefix p (l:=s)
 exact (List.prefix_iff_eq_take.1 h).symm
theorem takeWhile_self {p:UInt8→Bool} (s:Bs):((s.takeWhile p).takeWhile p)=s.takeWhile p:=by
 induction s with
 |nil=>rfl
 |cons a s ih=>
  by_cases h:p a=true
  ·simp [List.takeWhile_cons,h,ih]
  ·simp [List.takeWhile_cons,h]
theorem first_is {s:Bs} (h0:s≠[]) (h:(first s).2.2=0):right (first s).1 (s.take (first s).2.1)=true∧((first s).1=1∨(first s).1=2∨(first s).1=3∨(first s).1=4):=by
 obtain ⟨a,t,rfl⟩:∃a t,s=a::t:=by cases s with|nil=>exact absurd rfl h0|cons a t=>exact ⟨a,t,rfl⟩
 have g:(a::t).getD 0 0=a:=rfl
 unfold first at h⊢
 rw [g] at h⊢
 by_cases hl:letter a=true
 ·rw [if_pos hl] at h⊢
  have hpos:0<runL (a::t):=runL_pos (by rw [g];exact hl)
  have htk:(a::t).take (runL (a::t))=(a::t).takeWhile part:=takeWhile_all _
  by_cases hw:isWord ((a::t).take (runL (a::t)))=true
  ·rw [if_pos hw]
   exact ⟨by simpa [right] using hw,by simp⟩
  ·rw [if_neg hw] at h⊢
   by_cases h12:12<runL (a::t)
   ·rw [if_pos h12] at h;cases h
   ·rw [if_neg h12]
    refine ⟨?_,by simp⟩
    simp only [right,if_true,isName,Bool.and_eq_true,decide_eq_true_eq,Bool.not_eq_true']
    have hle:runL (a::t)≤(a::t).length:=takeWhile_le _ _
    have hlen:((a::t).take (runL (a::t))).length=runL (a::t):=by rw [List.length_take];omega
    refine ⟨⟨⟨⟨by omega,by omega⟩, ?_⟩, ?_⟩,by simpa using hw⟩
    ·obtain ⟨m,hm⟩:∃m,runL (a::t)=m+1:=⟨runL (a::t) - 1,by omega⟩
     rw [hm];simpa using hl
    ·rw [hlen,htk]
     show ((List.takeWhile part (a::t)).takeWhile part).length=_
     rw [takeWhile_self];rfl
 ·rw [if_neg hl] at h⊢
  by_cases hd:digit a=true
  ·rw [if_pos hd] at h⊢
   by_cases hn:isNumber ((a::t).take (digitsL (a::t)))=true
   ·rw [if_pos hn]
    exact ⟨by simpa [right] using hn,by simp⟩
   ·rw [if_neg hn] at h;cases h
  ·rw [if_neg hd] at h⊢
   by_cases h2:1<(a::t).length∧isSign ((a::t).take 2)=true
   ·rw [if_pos h2]
    exact ⟨by simpa [right] using h2.2,by simp⟩
   ·rw [if_neg h2] at h⊢
    by_cases h1:isSign ((a::t).take 1)=true
    ·rw [if_pos h1]
     exact ⟨by simpa [right] using h1,by simp⟩
    ·rw [if_neg h1] at h;cases h
theorem right_bytes {k:Nat} {s:Bs} (h:right k s=true):∀c∈s,c≠10∧c≠37∧c≠32∧c≠9:=by
 have pt:∀c:UInt8,part c=true→c≠10∧c≠37∧c≠32∧c≠9:=by
  intro c hc
  refine ⟨?_, ?_, ?_, ?_⟩<;>rintro rfl<;>revert hc<;>decide
 have allp:runL s=s.length→∀c∈s,part c=true:=by
  intro he c hc
  have h2:=List.takeWhile_prefix part (l:=s)
  have h3:=h2.eq_of_length he
  exact List.all_eq_true.1 (List.all_takeWhile (p:=part) (l:=s)) c (by rw [h3];exact hc)
 unfold right at h
 split at h
 ·simp only [isName,Bool.and_eq_true,decide_eq_true_eq] at h
  exact fun c hc=>pt c (allp h.1.2 c hc)
 ·split at h
  ·obtain ⟨_,h2,_⟩:=words2 s (by simpa [isWord] using h)
   exact fun c hc=>pt c (allp h2 c hc)
  ·split at h
   ·simp only [isNumber,Bool.and_eq_true,Bool.not_eq_true',Bool.or_eq_false_iff,decide_eq_false_iff_not,Decidable.not_not] at h
    obtain ⟨⟨⟨⟨h1,h2⟩,h3⟩,h4⟩,h5⟩:=h
    have h6:=(List.takeWhile_prefix digit (l:=s)).eq_of_length h3
    exact fun c hc=>pt c (digit_part (List.all_eq_true.1 (List.all_takeWhile (p:=digit) (l:=s)) c (by rw [h6];exact hc)))
   ·split at h
    ·exact (signs2 s (by simpa [isSign] using h)).2.2.2.2
    ·cases h
theorem scanAt_tok {k:Nat} {s r:Bs} {l:Int} (h0:s≠[]) (h:first (s++r)=(k,s.length,0)) (hb:∀c∈s,c≠10∧c≠37∧c≠32∧c≠9):scanAt (s++r) l=(scanAt r l).add [⟨k,s,l⟩] []:=by
 obtain ⟨a,t,rfl⟩:∃a t,s=a::t:=by cases s with|nil=>exact absurd rfl h0|cons a t=>exact ⟨a,t,rfl⟩
 obtain ⟨b1,b2,b3,b4⟩:=hb a (by simp)
 rw [List.cons_append] at h⊢
 rw [scanAt_cons,if_neg b1,if_neg (by rintro (h|h)<;>contradiction),if_neg b2,h]
 rw [if_neg (by simp)]
 have e:a::(t++r)=(a::t)++r:=rfl
 simp only [e]
 rw [List.drop_left,List.take_left]
theorem scan_cases {P:Bs→Int→Prop} (h0:∀l,P [] l) (h1:∀r l,P r (l+1)→P (10::r) l) (h2:∀c r l,(c=32∨c=9)→P r l→P (c::r) l)
  (h3:∀a r l,(∀c∈a,c≠10)→(r=[]∨∃x,r=10::x)→P r l→P (37::a++r) l)
  (h4:∀c r l,c≠10→c≠32→c≠9→c≠37→(first (c::r)).2.2≠0→P (c::r) l)
  (h5:∀k s r l,right k s=true→first (s++r)=(k,s.length,0)→P r l→P (s++r) l):∀s l,P s l:=by
 have key:∀n,∀s:Bs,s.length≤n→∀l,P s l:=by
  intro n
  induction n with
  |zero=>
   intro s hs l
   have:s=[]:=List.length_eq_zero_iff.1 (by omega)
   subst this;exact h0 l
  |succ n ih=>
   intro s hs l
   cases s with
   |nil=>exact h0 l
   |cons c r=>
    simp only [List.length_cons] at hs
    by_cases e1:c=10
    ·subst e1;exact h1 r l (ih r (by omega) _)
    ·by_cases e2:c=32∨c=9
     ·exact h2 c r l e2 (ih r (by omega) _)
     ·by_cases e3:c=37
      ·subst e3
       have hw:r=r.takeWhile (fun c=>decide (c≠10))++r.dropWhile (fun c=>decide (c≠10)):=List.takeWhile_append_dropWhile.symm
       have hle:(r.dropWhile (fun c=>decide (c≠10))).length≤r.length:=(List.dropWhile_sublist _).length_le
       have h:=h3 (r.takeWhile (fun c=>decide (c≠10))) (r.dropWhile (fun c=>decide (c≠10))) l (fun c hc=>by
        have:=List.all_eq_true.1 (List.all_takeWhile (p:=fun c=>decide (c≠10)) (l:=r)) c hc
        simpa using this) ?_ (ih _ (by omega) _)
       ·rw [List.cons_append,←hw] at h;exact h
       ·cases hd:r.dropWhile (fun c=>decide (c≠10)) with
        |nil=>exact .inl rfl
        |cons x y=>
         refine .inr ⟨y, ?_⟩
         have:=List.head_dropWhile_not (p:=fun c=>decide (c≠10)) (l:=r) (by rw [hd];simp)
         simp only [hd,List.head_cons] at this
         rw [show x=10 by simpa using this]
      ·by_cases e4:(first (c::r)).2.2=0
       ·obtain ⟨hr,_⟩:=first_is (s:=c::r) (by simp) e4
        obtain ⟨hp,hle⟩:=first_len (s:=c::r) e4 (by simp)
        have hsp:(c::r)=(c::r).take (first (c::r)).2.1++(c::r).drop (first (c::r)).2.1:=(List.take_append_drop _ _).symm
        have hlen:((c::r).take (first (c::r)).2.1).length=(first (c::r)).2.1:=by rw [List.length_take];omega
        have h:=h5 (first (c::r)).1 ((c::r).take (first (c::r)).2.1) ((c::r).drop (first (c::r)).2.1) l hr (by rw [←hsp,hlen,←e4]) (ih _ (by simp only [List.length_drop,List.length_cons];omega) _)
        rw [←hsp] at h
        exact h
       ·exact h4 c r l e1 (fun h=>e2 (.inl h)) (fun h=>e2 (.inr h)) e3 e4
 exact fun s l=>key s.length s (Nat.le_refl _) l
theorem scanAt_nl (r:Bs) (l:Int):scanAt (10::r) l=scanAt r (l+1):=by rw [scanAt_cons,if_pos rfl]
theorem scanAt_sp {c:UInt8} (r:Bs) (l:Int) (h:c=32∨c=9):scanAt (c::r) l=scanAt r l:=by
 rw [scanAt_cons,if_neg (by rcases h with rfl|rfl<;>decide),if_pos h]
theorem comLen_of {a r:Bs} (ha:∀c∈a,c≠10) (hr:r=[]∨∃x,r=10::x):comLen (37::a++r)=(37::a).length:=by
 unfold comLen
 rw [List.takeWhile_append_of_pos (fun c hc=>by
  rcases List.mem_cons.1 hc with rfl|hc
  ·decide
  ·simpa using ha c hc)]
 rcases hr with rfl|⟨x,rfl⟩<;>simp
theorem scanAt_com {a r:Bs} (l:Int) (ha:∀c∈a,c≠10) (hr:r=[]∨∃x,r=10::x):scanAt (37::a++r) l=(scanAt r l).add [] [37::a]:=by
 have h:=comLen_of ha hr
 rw [List.cons_append] at h⊢
 rw [scanAt_cons,if_neg (by decide),if_neg (by decide),if_pos rfl,h]
 have e:(37:UInt8)::(a++r)=(37::a)++r:=rfl
 simp only [e]
 rw [List.drop_left,List.take_left]
theorem scanAt_err {c:UInt8} {r:Bs} (l:Int) (h1:c≠10) (h2:c≠32) (h3:c≠9) (h4:c≠37) (h:(first (c::r)).2.2≠0):scanAt (c::r) l= .bad (first (c::r)).2.2 l:=by
 rw [scanAt_cons,if_neg h1,if_neg (by rintro (h|h)<;>contradiction),if_neg h4,if_pos h]
end Go.L01
namespace Go.L02
open Go.Eng
open Go.L01 (Bs Tok right isWord isSign isName isNumber)
def Good (L:List Tok):Prop:=∀t∈L,right t.kind t.text=true
def Dead {β:Type} (f:Nat) (D:Nat→Nat→Prop):Ro β→Prop
 | .oof=>True
 | .val none _ g=>f=g
 | .val (some _) j g=>f=max g j∧D f j
def Sim {α β:Type} (i:Nat) (D:Nat→Nat→Prop) (V:Nat→α→β→Prop) (r:Rs α):Ro β→Prop
 | .oof=>True
 | .val o j' g=>match r with
  | .oof=>True
  | .no f=>i≤f∧Dead f D (.val o j' g)
  | .ok a j f=>∃b,o=some b∧j'=j∧i≤j∧max f j=max g j∧V j a b
section
variable {α β γ δ:Type} {i:Nat} {D D':Nat→Nat→Prop} {V:Nat→α→β→Prop} {U:Nat→γ→δ→Prop}
theorem Sim.lower {r:Rs α} {s:Ro β} {k:Nat} (h:Sim i D V r s) (hk:k≤i):Sim k D V r s:=by
 cases s with
 |oof=>trivial
 |val o j' g=>cases r with
  |oof=>trivial
  |no f=>exact ⟨Nat.le_trans hk h.1,h.2⟩
  |ok a j f=>obtain ⟨b,h1,h2,h3,h4⟩:=h;exact ⟨b,h1,h2,Nat.le_trans hk h3,h4⟩
theorem Sim.no {f:Nat} {s:Ro β} (hi:i≤f) (h:Dead f D s):Sim i D V (.no f:Rs α) s:=by
 cases s with
 |oof=>trivial
 |val o j g=>exact ⟨hi,h⟩
theorem Sim.soof {s:Ro β}:Sim i D V (.oof:Rs α) s:=by cases s<;>trivial
theorem sim_ret {a:α} {b:β} {f g:Nat} (hm:max f i=max g i) (hV:V i a b):Sim i D V (ret a i f) (retN b i g):=⟨b,rfl,rfl,Nat.le_refl _,hm,hV⟩
theorem sim_fail {f g:Nat} (hm:max f i=max g i) (hg:i≤g):Sim i D V (fail i f) (failN i g:Ro β):=⟨Nat.le_max_right _ _,by show max f i=g;omega⟩
theorem sim_bnd {m:M α} {m':N β} {k:α→M γ} {k':β→N δ} {f g:Nat} (h:Sim i D V (m i f) (m' i g))
  (h1:∀j a b f g,i≤j→max f j=max g j→V j a b→Sim j D' U (k a j f) (k' b j g))
  (h2:∀j b f g,f=max g j→D f j→Dead f D' (k' b j g)):Sim i D' U (bnd m k i f) (bndN m' k' i g):=by
 unfold bnd bndN
 cases hs:m' i g with
 |oof=>trivial
 |val o j' g'=>
  rw [hs] at h
  cases hr:m i f with
  |oof=>exact .soof
  |no f'=>
   rw [hr] at h
   refine .no h.1 ?_
   cases o with
   |none=>exact h.2
   |some b=>exact h2 j' b f' g' h.2.1 h.2.2
  |ok a j f'=>
   rw [hr] at h
   obtain ⟨b,rfl,rfl,h3,h4,h5⟩:=h
   exact (h1 _ a b f' g' h3 h4 h5).lower h3
end
section
variable {L:List Tok}
theorem tk_in {i:Nat} (h:i<L.length):tk L i=L[i]:=by simp [tk,h]
theorem tk_out {i:Nat} (h:L.length≤i):tk L i=⟨0,[],0⟩:=by simp [tk,h]
theorem Good.tk (hG:Good L) {i:Nat} (h:(tk L i).kind≠0):i<L.length∧right (tk L i).kind (tk L i).text=true:=by
 by_cases hi:i<L.length
 ·exact ⟨hi,by rw [tk_in hi];exact hG _ (List.getElem_mem hi)⟩
 ·rw [tk_out (by omega)] at h;exact absurd rfl h
theorem kind_one {k m:Nat} {s:Bs} (h:right k s=true) (g:right m s=true):k=m:=by
 have:=(L01.first_alone h).2
 rw [(L01.first_alone g).2] at this
 cases this;rfl
theorem isK_text (hG:Good L) {i k:Nat} {s:Bs} (hs:right k s=true):isK L i k s=decide ((tk L i).text=s):=by
 have hne:=(L01.first_alone hs).1
 unfold isK
 simp only [hne,decide_false,Bool.false_or]
 by_cases h:(tk L i).text=s
 ·have h0:(tk L i).kind≠0:=by
   intro h0
   by_cases hi:i<L.length
   ·have:=hG _ (List.getElem_mem hi)
    rw [←tk_in hi,h0] at this
    simp [right] at this
   ·rw [tk_out (by omega)] at h;exact hne h.symm
  obtain ⟨h1,h2⟩:=hG.tk h0
  rw [h] at h2
  simp [h1,h,kind_one h2 hs]
 ·simp [h]
theorem isT_text (hG:Good L) {i k:Nat} {s:Bs} (hs:right k s=true) (hk:k=2∨k=4):isT L i [s]=decide ((tk L i).text=s):=by
 rw [←isK_text hG hs]
 have hne:=(L01.first_alone hs).1
 unfold isT isK
 by_cases h:(tk L i).text=s
 ·have h0:(tk L i).kind≠0:=by
   intro h0
   by_cases hi:i<L.length
   ·have:=hG _ (List.getElem_mem hi)
    rw [←tk_in hi,h0] at this
    simp [right] at this
   ·rw [tk_out (by omega)] at h;exact hne h.symm
  obtain ⟨h1,h2⟩:=hG.tk h0
  rw [h] at h2
  have hkk:=kind_one h2 hs
  rcases hk with rfl|rfl<;>simp [h,h1,hkk,hne]
 ·have:¬s=(tk L i).text:=fun e=>h e.symm
  simp [h,hne]
theorem isT_eq (hG:Good L) {i k:Nat} {s:Bs} (hs:right k s=true) (hk:k=2∨k=4):isT L i [s]=isK L i k s:=by rw [isT_text hG hs hk,isK_text hG hs]
end
section
variable {L:List Tok} {α β:Type} {i f g:Nat} {D:Nat→Nat→Prop} {V:Nat→α→β→Prop}
theorem sim_tif (hG:Good L) (k:Nat) {s:Bs} {x y:M α} {x' y':N β} (hs:right k s=true) (hk:k=2∨k=4) (hm:max f i=max g i)
  (hx:∀f g,isK L i k s=true→max f (i+1)=max g (i+1)→Sim (i+1) D V (x (i+1) f) (x' (i+1) g)) (hy:∀g,isK L i k s=false→i≤g→max f i=max g i→Sim i D V (y i f) (y' i g)):
  Sim i D V (tif L s x y i f) (rif L k s x' y' i g):=by
 unfold tif rif
 rw [isT_eq hG hs hk]
 split
 ·rename_i h;exact (hx f g h (by omega)).lower (by omega)
 ·rename_i h;exact hy _ (by simpa using h) (Nat.le_max_right _ _) (by omega)
theorem sim_need (hG:Good L) (k:Nat) {s:Bs} {m:Unit→M α} {x':N β} (hs:right k s=true) (hk:k=2∨k=4) (hm:max f i=max g i)
  (hx:∀f g,isK L i k s=true→max f (i+1)=max g (i+1)→Sim (i+1) D V (m () (i+1) f) (x' (i+1) g)):Sim i D V (bnd (needs L [s]) m i f) (rif L k s x' failN i g):=by
 unfold bnd needs tif rif
 rw [isT_eq hG hs hk]
 split
 ·rename_i h;exact (hx f g h (by omega)).lower (by omega)
 ·exact sim_fail (by omega) (Nat.le_max_right _ _)
theorem sim_name (hG:Good L) {k:Bs→M α} {k':Bs→N β} (hm:max f i=max g i)
  (hx:∀f g,(tk L i).kind=1→max f (i+1)=max g (i+1)→Sim (i+1) D V (k (tk L i).text (i+1) f) (k' (tk L i).text (i+1) g)):Sim i D V (bnd (name L) k i f) (nameN L k' i g):=by
 unfold bnd name nameN isK
 by_cases h:(tk L i).kind=1
 ·have:=(hG.tk (i:=i) (by omega)).1
  simp only [h,if_true,Rs.andThen,this,decide_true,Bool.true_and,Bool.true_or]
  exact (hx f g h (by omega)).lower (by omega)
 ·simp only [h,if_false,Rs.andThen,decide_false,Bool.false_and,Bool.and_false]
  exact ⟨Nat.le_max_right _ _,by show max f i=max g i;omega⟩
theorem isK_nameT (hG:Good L):isK L i 1 [116]=(decide ((tk L i).kind=1)&&decide ((tk L i).text=[116])):=by
 unfold isK
 by_cases h:(tk L i).kind=1
 ·simp [h,(hG.tk (i:=i) (by omega)).1]
 ·simp [h]
theorem isK_tk {k:Nat} {s:Bs} (h:isK L i k s=true) (hne:s≠[]):i<L.length∧(tk L i).kind=k∧(tk L i).text=s:=by
 simpa [isK,hne,and_assoc] using h
end
theorem bnd_assoc {α β γ:Type} (m:M α) (k:α→M β) (l:β→M γ):bnd (bnd m k) l=bnd m fun x=>bnd (k x) l:=by
 funext i f;unfold bnd
 cases m i f<;>rfl
theorem bnd_ret {α β:Type} (a:α) (k:α→M β):bnd (ret a) k=k a:=rfl
theorem ret_bnd {α:Type} (m:M α):(bnd m fun x=>ret x)=m:=by
 funext i f;unfold bnd ret
 cases m i f<;>rfl
theorem tif_bnd {α β:Type} {L:List Tok} (s:Bs) (x y:M α) (k:α→M β):bnd (tif L s x y) k=tif L s (bnd x k) (bnd y k):=by
 funext i f;unfold bnd tif
 split<;>rfl
section
variable {L:List Tok}
theorem joinT_cut {i j k:Nat} (h1:i≤j) (h2:j≤k):joinT (cutT L i k)=joinT (cutT L i j)++joinT (cutT L j k):=by
 unfold joinT cutT
 rw [←List.flatten_append,←List.map_append]
 congr 2
 have e:L.take k=L.take j++(L.take k).drop j:=by
  have:=List.take_append_drop j (L.take k)
  rw [List.take_take,Nat.min_eq_left h2] at this
  exact this.symm
 conv=>lhs;rw [e]
 rw [List.drop_append]
 congr 1
 by_cases hj:j≤L.length
 ·rw [List.length_take,Nat.min_eq_left hj,Nat.sub_eq_zero_of_le h1];rfl
 ·have:(L.take k).drop j=[]:=List.drop_eq_nil_of_le (by simp;omega)
  rw [this];simp
theorem joinT_one (i:Nat):joinT (cutT L i (i+1))=(tk L i).text:=by
 unfold joinT cutT
 by_cases h:i<L.length
 ·rw [List.take_succ_eq_append_getElem h,List.drop_append,List.drop_eq_nil_of_le (by simp;omega)]
  have:i - (L.take i).length=0:=by simp;omega
  rw [this,tk_in h]
  simp
 ·rw [tk_out (by omega),List.drop_eq_nil_of_le (by simp;omega)];rfl
abbrev NoD:Nat→Nat→Prop:=fun _ _=>False
abbrev TxV (L:List Tok) (i:Nat) {α:Type}:Nat→α→Bs→Prop:=fun j _ s=>s=joinT (cutT L i j)
theorem tx_step {i:Nat} {k:Nat} {s:Bs} (h:isK L i k s=true) (hne:s≠[]):s=joinT (cutT L i (i+1)):=by rw [joinT_one];exact (isK_tk h hne).2.2.symm
theorem sim_fields {k:M Unit} {t:N Bs} (hG:Good L) (hk:∀i f g,max f i=max g i→Sim i NoD (TxV L i) (k i f) (t i g)):∀n m i f g,max f i=max g i→Sim i NoD (TxV L i) (listed L n (partM L k) i f) (fieldsN L t m i g)
 |n,0,i,f,g,hm=>trivial
 |n,m+1,i,f,g,hm=>by
  have e:listed L n (partM L k)=bnd (name L) fun _=>bnd (needs L [[58]]) fun _=>bnd k fun _=>bnd (more L (partM L k) n) fun xs=>ret ([]::xs):=by
   simp only [listed,partM,sq,bnd_assoc,bnd_ret]
  rw [e]
  show Sim i NoD _ _ (nameN L (fun nm=>sgn L [58] (bndN t fun u=>rif L 4 [44] (bndN (fieldsN L t m) fun r=>retN (nm++[58]++u++[44]++r)) (retN (nm++[58]++u)))) i g)
  refine sim_name hG hm fun f g h1 hm=> ?_
  refine sim_need hG 4 (by decide) (.inr rfl) hm fun f g h2 hm=> ?_
  refine sim_bnd (hk _ _ _ hm) (fun j a u f g hj hm hV=> ?_) (fun _ _ _ _ _ h=>h.elim)
  have hV':(tk L i).text++[58]++u=joinT (cutT L i j):=by
   rw [joinT_cut (j:=i+1) (by omega) (by omega),joinT_one,joinT_cut (i:=i+1) (j:=i+1+1) (by omega) (by omega),←tx_step h2 (by decide),hV]
   simp
  cases n with
  |zero=>exact .soof
  |succ n=>
   show Sim j NoD _ (bnd (tif L [44] (listed L n (partM L k)) (ret [])) (fun xs=>ret ([]::xs)) j f) _
   rw [tif_bnd]
   refine sim_tif hG 4 (by decide) (.inr rfl) hm (fun f g h3 hm=> ?_) (fun g h3 _ hm=> ?_)
   ·refine sim_bnd (sim_fields hG hk n m _ _ _ hm) (fun j2 a2 r f g hj2 hm hV2=> ?_) (fun _ _ _ _ _ h=>h.elim)
    refine sim_ret hm ?_
    show _++_++_++_++r=joinT (cutT L i j2)
    rw [joinT_cut (j:=j) (by omega) (by omega),joinT_cut (i:=j) (j:=j+1) (by omega) (by omega),←tx_step h3 (by decide),hV',hV2]
    simp
   ·exact sim_ret hm hV'
theorem sim_kind (hG:Good L):∀n m i f g,max f i=max g i→Sim i NoD (TxV L i) (kind L n i f) (typN L m i g)
 |0,m,i,f,g,hm=> .soof
 |n+1,0,i,f,g,hm=>trivial
 |n+1,m+1,i,f,g,hm=>by
  have many:∀(w:Bs) (f g:Nat),isK L i 2 w=true→w≠[]→max f (i+1)=max g (i+1)→Sim (i+1) NoD (TxV L i) (sq (needs L [[91]]) (sq (listed L n (partM L (kind L n))) (needs L [[93]])) (i+1) f)
    (sgn L [91] (bndN (fieldsN L (typN L m) m) fun l=>sgn L [93] (retN (w++[91]++l++[93]))) (i+1) g):=by
   intro w f g hw hne hm
   refine sim_need hG 4 (by decide) (.inr rfl) hm fun f g h2 hm=> ?_
   refine sim_bnd (sim_fields hG (sim_kind hG n m) _ _ _ _ _ hm) (fun j a l f g hj hm hV=> ?_) (fun _ _ _ _ _ h=>h.elim)
   show Sim _ _ _ (needs L [[93]] j f) _
   rw [←ret_bnd (needs L [[93]])]
   refine sim_need hG 4 (by decide) (.inr rfl) hm fun f g h3 hm=> ?_
   refine sim_ret hm ?_
   show _=joinT (cutT L i (j+1))
   rw [joinT_cut (j:=i+1) (by omega) (by omega),←tx_step hw hne,joinT_cut (i:=i+1) (j:=i+1+1) (by omega) (by omega),←tx_step h2 (by decide),joinT_cut (i:=i+1+1) (j:=j) (by omega) (by omega),←tx_step h3 (by decide),hV]
   simp
  show Sim i NoD _ (tif L [105,110,116] _ _ i f) (rif L 2 [105,110,116] (retN [105,110,116]) (rif L 2 [98,111,111,108] (retN [98,111,111,108]) (rif L 2 [110,117,108,108] (retN [110,117,108,108]) _)) i g)
  refine sim_tif hG 2 (by decide) (.inl rfl) hm (fun f g h hm=>sim_ret hm (tx_step h (by decide))) (fun g _ _ hm=> ?_)
  refine sim_tif hG 2 (by decide) (.inl rfl) hm (fun f g h hm=>sim_ret hm (tx_step h (by decide))) (fun g _ _ hm=> ?_)
  refine sim_tif hG 2 (by decide) (.inl rfl) hm (fun f g h hm=>sim_ret hm (tx_step h (by decide))) (fun g _ _ hm=> ?_)
  refine sim_tif hG 2 (by decide) (.inl rfl) hm (fun f g h1 hm=> ?_) (fun g _ _ hm=> ?_)
  ·refine sim_need hG 4 (by decide) (.inr rfl) hm fun f g h2 hm=> ?_
   refine sim_bnd (sim_kind hG n m _ _ _ hm) (fun j a l f g hj hm hV=> ?_) (fun _ _ _ _ _ h=>h.elim)
   show Sim _ _ _ (needs L [[93]] j f) _
   rw [←ret_bnd (needs L [[93]])]
   refine sim_need hG 4 (by decide) (.inr rfl) hm fun f g h3 hm=> ?_
   refine sim_ret hm ?_
   show _=joinT (cutT L i (j+1))
   rw [joinT_cut (j:=i+1) (by omega) (by omega),←tx_step h1 (by decide),joinT_cut (i:=i+1) (j:=i+1+1) (by omega) (by omega),←tx_step h2 (by decide),joinT_cut (i:=i+1+1) (j:=j) (by omega) (by omega),←tx_step h3 (by decide),hV]
   simp
  show Sim i NoD _ _ (rif L 2 [114,101,99,111,114,100] _ (rif L 2 [111,110,101,111,102] _ _) i g)
  refine sim_tif hG 2 (by decide) (.inl rfl) hm (fun f g h hm=>many _ f g h (by decide) hm) (fun g _ _ hm=> ?_)
  refine sim_tif hG 2 (by decide) (.inl rfl) hm (fun f g h hm=>many _ f g h (by decide) hm) (fun g _ _ hm=> ?_)
  refine sim_tif hG 4 (by decide) (.inr rfl) hm (fun f g h1 hm=> ?_) (fun g _ _ hm=> ?_)
  ·rw [←ret_bnd (param L)]
   unfold bnd param rif
   rw [isK_nameT hG]
   by_cases h:(tk L (i+1)).kind=1∧(tk L (i+1)).text=[116]
   ·simp only [h,and_self,if_true,Rs.andThen,decide_true,Bool.and_self]
    refine ⟨_,rfl,rfl,by omega,by omega, ?_⟩
    show _=joinT (cutT L i (i+1+1))
    rw [joinT_cut (j:=i+1) (by omega) (by omega),←tx_step h1 (by decide),joinT_one,h.2];rfl
   ·rw [if_neg h,if_neg (by simpa using h)]
    exact sim_fail (i:=i+1) (f:=f) (by omega) (Nat.le_max_right _ _)
  ·refine sim_name hG hm fun f g h1 hm=> ?_
   refine sim_tif hG 4 (by decide) (.inr rfl) hm (fun f g h2 hm=> ?_) (fun g _ _ hm=> ?_)
   ·refine sim_bnd (sim_kind hG n m _ _ _ hm) (fun j a l f g hj hm hV=> ?_) (fun _ _ _ _ _ h=>h.elim)
    show Sim _ _ _ (needs L [[93]] j f) _
    rw [←ret_bnd (needs L [[93]])]
    refine sim_need hG 4 (by decide) (.inr rfl) hm fun f g h3 hm=> ?_
    refine sim_ret hm ?_
    show _=joinT (cutT L i (j+1))
    rw [joinT_cut (j:=i+1) (by omega) (by omega),joinT_one,joinT_cut (i:=i+1) (j:=i+1+1) (by omega) (by omega),←tx_step h2 (by decide),joinT_cut (i:=i+1+1) (j:=j) (by omega) (by omega),←tx_step h3 (by decide),hV]
    simp
   ·exact sim_ret hm (joinT_one i).symm
end
end Go.L02
namespace Go.L02
open Go.Eng
open Go.L01 (Bs Tok right isWord isSign isName isNumber)
section
variable {L:List Tok}
theorem rif_yes {α:Type} {k:Nat} {s:Bs} {x y:N α} {i g:Nat} (h:isK L i k s=true):rif L k s x y i g=x (i+1) g:=by unfold rif;rw [h];rfl
theorem rif_no {α:Type} {k:Nat} {s:Bs} {x y:N α} {i g:Nat} (h:isK L i k s=false):rif L k s x y i g=y i (max g i):=by unfold rif;rw [h];rfl
theorem isK_ne {i k m:Nat} {s t:Bs} (h:isK L i k s=true) (hs:s≠[]) (ht:t≠[]) (hne:¬(k=m∧s=t)):isK L i m t=false:=by
 obtain ⟨_,h1,h2⟩:=isK_tk h hs
 cases hh:isK L i m t with
 |false=>rfl
 |true=>
  obtain ⟨_,h3,h4⟩:=isK_tk hh ht
  exact absurd ⟨h1.symm.trans h3,h2.symm.trans h4⟩ hne
def Clean {α:Type} (m:M α):Prop:=∀i,(∃a k,∀f,m i f= .ok a k f)∨(∃p,∀f,m i f= .no (max f p))∨∀f,m i f= .oof
theorem Clean.all {α:Type} {m:M α} (h:Clean m) {i k f f':Nat} {a:α} (ho:m i f= .ok a k f'):f'=f∧∀g,m i g= .ok a k g:=by
 rcases h i with ⟨b,l,h1⟩|⟨p,h1⟩|h1
 ·rw [h1] at ho;cases ho;exact ⟨rfl,h1⟩
 ·rw [h1] at ho;cases ho
 ·rw [h1] at ho;cases ho
def Up {α:Type} (m:M α):Prop:=∀i f,match m i f with| .ok _ j f'=>i≤j∧f≤f'| .no f'=>i≤f'∧f≤f'| .oof=>True
theorem Up.ok {α:Type} {m:M α} (h:Up m) {i f j f':Nat} {a:α} (e:m i f= .ok a j f'):i≤j∧f≤f':=by have:=h i f;rw [e] at this;exact this
theorem Up.no {α:Type} {m:M α} (h:Up m) {i f f':Nat} (e:m i f= .no f'):i≤f'∧f≤f':=by have:=h i f;rw [e] at this;exact this
theorem up_ret {α:Type} (a:α):Up (ret a):=fun i f=>⟨Nat.le_refl _,Nat.le_refl _⟩
theorem up_oof {α:Type}:Up (oof:M α):=fun i f=>trivial
theorem up_fail {α:Type}:Up (fail:M α):=fun i f=>⟨Nat.le_max_right _ _,Nat.le_max_left _ _⟩
theorem up_bnd {α β:Type} {m:M α} {k:α→M β} (hm:Up m) (hk:∀a,Up (k a)):Up (bnd m k):=by
 intro i f
 unfold bnd
 cases h:m i f with
 |oof=>trivial
 |no f'=>exact hm.no h
 |ok a j f'=>
  obtain ⟨h1,h2⟩:=hm.ok h
  simp only [Rs.andThen]
  cases h3:k a j f' with
  |oof=>trivial
  |no f2=>obtain ⟨h4,h5⟩:=(hk a).no h3;exact ⟨by omega,by omega⟩
  |ok b l f2=>obtain ⟨h4,h5⟩:=(hk a).ok h3;exact ⟨by omega,by omega⟩
theorem up_adv {α:Type} {x:M α} (hx:Up x) (i f n:Nat):match x (i+n) f with| .ok _ j f'=>i≤j∧f≤f'| .no f'=>i≤f'∧f≤f'| .oof=>True:=by
 have:=hx (i+n) f
 split<;>rename_i h<;>rw [h] at this
 ·exact ⟨by omega,this.2⟩
 ·exact ⟨by omega,this.2⟩
 ·trivial
theorem up_tif {α:Type} {s:Bs} {x y:M α} (hx:Up x) (hy:Up y):Up (tif L s x y):=by
 intro i f
 unfold tif
 cases h:isT L i [s] with
 |true=>exact up_adv hx i f 1
 |false=>exact hy i f
theorem up_needs:∀ss:List Bs,Up (needs L ss)
 |[]=>up_ret _
 |s::ss=>up_tif (up_needs ss) up_fail
theorem up_name:Up (name L):=by
 intro i f
 unfold name
 by_cases h:(tk L i).kind=1
 ·simp only [h,if_true];exact ⟨by omega,Nat.le_refl _⟩
 ·simp only [h,if_false];exact ⟨by omega,by omega⟩
theorem up_param:Up (param L):=by
 intro i f
 unfold param
 by_cases h:(tk L i).kind=1∧(tk L i).text=[116]
 ·rw [if_pos h];exact ⟨by omega,Nat.le_refl _⟩
 ·rw [if_neg h];exact ⟨by omega,by omega⟩
theorem up_more {α:Type} {m:M α} (h:Up m):∀n,Up (more L m n)
 |0=>up_oof
 |n+1=>up_tif (up_bnd h fun _=>up_bnd (up_more h n) fun _=>up_ret _) (up_ret _)
theorem up_listed {α:Type} {m:M α} (h:Up m) (n:Nat):Up (listed L n m):=up_bnd h fun _=>up_bnd (up_more h n) fun _=>up_ret _
theorem up_kind:∀n,Up (kind L n)
 |0=>up_oof
 |n+1=>by
  have h1:=up_kind n
  have hl:Up (sq (needs L [[91]]) (sq (listed L n (partM L (kind L n))) (needs L [[93]]))):=up_bnd (up_needs _) fun _=>up_bnd
   (up_listed (up_bnd up_name fun _=>up_bnd (up_needs _) fun _=>up_bnd h1 fun _=>up_ret _) n) fun _=>up_needs _
  exact up_tif (up_ret _) (up_tif (up_ret _) (up_tif (up_ret _) (up_tif (up_bnd (up_needs _) fun _=>up_bnd h1 fun _=>up_needs _)
   (up_tif hl (up_tif hl (up_tif up_param (up_bnd up_name fun _=>up_tif (up_bnd h1 fun _=>up_needs _) (up_ret _))))))))
def OnType {α:Type} (k g:Nat):Ro α→Prop
 | .oof=>True
 | .val none _ g'=>g'=g
 | .val (some _) k' g'=>k'=k∧g'=g
theorem OnType.bnd {α β:Type} {k g l i g0:Nat} {m:N α} {x:α→N β} (h:OnType k g (m i g0)) (h2:∀a,OnType l g (x a k g)):OnType l g (bndN m x i g0):=by
 unfold bndN
 cases hs:m i g0 with
 |oof=>trivial
 |val o j g'=>
  rw [hs] at h
  cases o with
  |none=>exact h
  |some a=>obtain ⟨rfl,rfl⟩:=h;exact h2 a
end
end Go.L02
namespace Go.L02
open Go.Eng
open Go.L01 (Bs Tok right isWord isSign isName isNumber)
section
variable {L:List Tok}
abbrev D1 (L:List Tok):Nat→Nat→Prop:=fun _ j=>isK L j 4 [36]=true∨isK L j 4 [40]=true∨isK L j 4 [123]=true
theorem D1.no {f j:Nat} (h:D1 L f j) {k:Nat} {s:Bs} (hs:s≠[]) (hn:[[36],[40],[123]].contains s=false):isK L j k s=false:=by
 rcases h with h|h|h<;>exact isK_ne h (by decide) hs (by rintro ⟨_,rfl⟩;revert hn;decide)
theorem D1.kind {f j:Nat} (h:D1 L f j):(tk L j).kind=4:=by
 rcases h with h|h|h<;>exact (isK_tk h (by decide)).2.1
theorem bnd_ok {α β:Type} {m:M α} {k:α→M β} {i f j f':Nat} {a:α} (h:m i f= .ok a j f'):bnd m k i f=k a j f':=by unfold bnd;rw [h];rfl
theorem name_ok {i f:Nat} (h:(tk L i).kind=1):name L i f= .ok (tk L i).text (i+1) f:=by unfold name;rw [if_pos h]
end
end Go.L02
namespace Go.L02
open Go.Eng
open Go.L01 (Bs Tok right isWord isSign isName isNumber)
section
variable {L:List Tok}
theorem bndN_none {α β:Type} {m:N α} {k:α→N β} {i g j g':Nat} (h:m i g= .val none j g'):bndN m k i g= .val none j g':=by unfold bndN;rw [h];rfl
theorem bndN_some {α β:Type} {m:N α} {k:α→N β} {i g j g':Nat} {x:α} (h:m i g= .val (some x) j g'):bndN m k i g=k x j g':=by unfold bndN;rw [h];rfl
theorem bndN_oof {α β:Type} {m:N α} {k:α→N β} {i g:Nat} (h:m i g= .oof):bndN m k i g= .oof:=by unfold bndN;rw [h];rfl
theorem bnd_no {α β:Type} {m:M α} {k:α→M β} {i f f':Nat} (h:m i f= .no f'):bnd m k i f= .no f':=by unfold bnd;rw [h];rfl
theorem bnd_oof {α β:Type} {m:M α} {k:α→M β} {i f:Nat} (h:m i f= .oof):bnd m k i f= .oof:=by unfold bnd;rw [h];rfl
end
end Go.L02
namespace Go.L02
open Go.Eng
open Go.L01 (Bs Tok right isWord isSign isName isNumber)
section
variable {L:List Tok}
def D2 (L:List Tok):Nat→Nat→Prop:=fun _ j=>isK L j 4 [59]=false∧∀s∈[[101,110,100],[101,108,115,101,105,102],[101,108,115,101],[101,120,99,101,112,116],[119,104,101,110],[116,97,103]],isK L j 2 s=false
theorem D2.far {f f' j:Nat} (h:D2 L f j):D2 L f' j:=h
def RU {α:Type} (m:N α):Prop:=∀i g,match m i g with| .val _ j g'=>i≤j∧g≤g'| .oof=>True
theorem RU.val {α:Type} {m:N α} (h:RU m) {i g j g':Nat} {o:Option α} (e:m i g= .val o j g'):i≤j∧g≤g':=by have:=h i g;rw [e] at this;exact this
theorem ru_ret {α:Type} (a:α):RU (retN a):=fun i g=>⟨Nat.le_refl _,Nat.le_refl _⟩
theorem ru_fail {α:Type}:RU (failN:N α):=fun i g=>⟨Nat.le_refl _,Nat.le_refl _⟩
theorem ru_oof {α:Type}:RU (oofN:N α):=fun i g=>trivial
theorem ru_bnd {α β:Type} {m:N α} {k:α→N β} (hm:RU m) (hk:∀a,RU (k a)):RU (bndN m k):=by
 intro i g
 cases h:m i g with
 |oof=>rw [bndN_oof h];trivial
 |val o j g'=>
  have h1:=hm.val h
  cases o with
  |none=>rw [bndN_none h];exact h1
  |some a=>
   rw [bndN_some h]
   cases h2:k a j g' with
   |oof=>trivial
   |val o l g2=>have:=(hk a).val h2;exact ⟨by omega,by omega⟩
theorem ru_rif {α:Type} {k:Nat} {s:Bs} {x y:N α} (hx:RU x) (hy:RU y):RU (rif L k s x y):=by
 intro i g
 cases hc:isK L i k s with
 |true=>
  rw [rif_yes hc]
  cases h:x (i+1) g with
  |oof=>trivial
  |val o j g'=>have:=hx.val h;exact ⟨by omega,this.2⟩
 |false=>
  rw [rif_no hc]
  cases h:y i (max g i) with
  |oof=>trivial
  |val o j g'=>have:=hy.val h;exact ⟨this.1,by omega⟩
theorem ru_name {α:Type} {x:Bs→N α} (hx:∀s,RU (x s)):RU (nameN L x):=by
 intro i g
 unfold nameN
 cases hc:isK L i 1 [] with
 |true=>
  simp only [if_true]
  cases h:x (tk L i).text (i+1) g with
  |oof=>trivial
  |val o j g'=>have:=(hx _).val h;exact ⟨by omega,this.2⟩
 |false=>exact ⟨Nat.le_refl _,by omega⟩
theorem ru_seen {α:Type} {k:Nat} {x:Bs→N α} {y:N α} (hx:∀s,RU (x s)) (hy:RU y):∀ss,RU (seen L k x y ss)
 |[]=>hy
 |s::ss=>ru_rif (hx s) (ru_seen hx hy ss)
theorem ru_fields {t:N Bs} (ht:RU t):∀n,RU (fieldsN L t n)
 |0=>ru_oof
 |n+1=>ru_name fun _=>ru_rif (ru_bnd ht fun _=>ru_rif (ru_bnd (ru_fields ht n) fun _=>ru_ret _) (ru_ret _)) ru_fail
theorem ru_typ:∀n,RU (typN L n)
 |0=>ru_oof
 |n+1=>ru_seen (fun _=>ru_ret _) (ru_rif (ru_rif (ru_bnd (ru_typ n) fun _=>ru_rif (ru_ret _) ru_fail) ru_fail)
  (ru_seen (fun _=>ru_rif (ru_bnd (ru_fields (ru_typ n) n) fun _=>ru_rif (ru_ret _) ru_fail) ru_fail)
   (ru_rif (ru_rif (ru_ret _) ru_fail) (ru_name fun _=>ru_rif (ru_bnd (ru_typ n) fun _=>ru_rif (ru_ret _) ru_fail) (ru_ret _))) _)) _
end
end Go.L02
namespace Go.L02
open Go.Eng
open Go.L01 (Bs Tok right isWord isSign isName isNumber)
section
variable {L:List Tok}
theorem D2.w {F j:Nat} (h:D2 L F j) {s:Bs} (hs:[[101,110,100],[101,108,115,101,105,102],[101,108,115,101],[101,120,99,101,112,116],[119,104,101,110],[116,97,103]].contains s=true):isK L j 2 s=false:=h.2 s (by simpa using hs)
end
end Go.L02
namespace Go.L02
open Go.Eng
open Go.L01 (Bs Tok right isWord isSign isName isNumber)
section
variable {L:List Tok}
def Tot {α:Type} (L:List Tok) (N:Nat) (m:M α):Prop:=∀i f,L.length - i<N→m i f≠ .oof
def Con {α:Type} (L:List Tok) (m:M α):Prop:=∀i f a j f',m i f= .ok a j f'→i<j∧i<L.length
theorem Tot.mono {α:Type} {N K:Nat} {m:M α} (h:Tot L N m) (hk:K≤N):Tot L K m:=fun i f hi=>h i f (by omega)
theorem tot_ret {α:Type} (a:α) (N:Nat):Tot L N (ret a):=fun i f _ h=>by cases h
theorem tot_fail {α:Type} (N:Nat):Tot L N (fail:M α):=fun i f _ h=>by cases h
theorem tot_zero {α:Type} (m:M α):Tot L 0 m:=fun i f h=>by omega
theorem tot_bnd {α β:Type} {N:Nat} {m:M α} {k:α→M β} (hm:Tot L N m) (hu:Up m) (hk:∀a,Tot L N (k a)):Tot L N (bnd m k):=by
 intro i f hi
 cases h:m i f with
 |oof=>exact absurd h (hm i f hi)
 |no f'=>rw [bnd_no h];simp
 |ok a j f'=>rw [bnd_ok h];exact hk a j f' (by have:=(hu.ok h).1;omega)
theorem tot_con {α β:Type} {N:Nat} {m:M α} {k:α→M β} (hm:Tot L N m) (hc:Con L m) (hk:∀a,Tot L (N - 1) (k a)):Tot L N (bnd m k):=by
 intro i f hi
 cases h:m i f with
 |oof=>exact absurd h (hm i f hi)
 |no f'=>rw [bnd_no h];simp
 |ok a j f'=>rw [bnd_ok h];exact hk a j f' (by have:=hc _ _ _ _ _ h;omega)
theorem isT_lt {i:Nat} {ss:List Bs} (h:isT L i ss=true):i<L.length:=by
 by_cases hi:i<L.length
 ·exact hi
 ·unfold isT at h;rw [tk_out (by omega)] at h;simp at h
theorem kind1_lt {i:Nat} {k:Nat} (h:(tk L i).kind=k) (hk:k≠0):i<L.length:=by
 by_cases hi:i<L.length
 ·exact hi
 ·rw [tk_out (by omega)] at h;exact absurd h.symm hk
theorem tot_tif {α:Type} {N:Nat} {s:Bs} {x y:M α} (hx:Tot L (N - 1) x) (hy:Tot L N y):Tot L N (tif L s x y):=by
 intro i f hi
 unfold tif
 split
 ·rename_i h;have:=isT_lt h;exact hx _ _ (by omega)
 ·exact hy _ _ hi
theorem tot_needs (N:Nat):∀ss:List Bs,Tot L N (needs L ss)
 |[]=>tot_ret _ _
 |s::ss=>tot_tif (tot_needs (N - 1) ss) (tot_fail _)
theorem tot_name (N:Nat):Tot L N (name L):=by
 intro i f _ h
 unfold name at h
 split at h<;>cases h
theorem con_name:Con L (name L):=by
 intro i f a j f' h
 unfold name at h
 split at h
 ·rename_i hk;simp only [Rs.ok.injEq] at h;have:=kind1_lt hk (by decide);omega
 ·cases h
theorem tot_param (N:Nat):Tot L N (param L):=by
 intro i f _ h
 unfold param at h
 split at h<;>cases h
theorem tot_more {α:Type} {e:M α} (hu:Up e):∀n N,N≤n→Tot L (N - 1) e→Tot L N (more L e n)
 |0,N,h,_=>by
  obtain rfl:N=0:=by omega
  exact tot_zero _
 |n+1,N,h,he=>tot_tif (tot_bnd he hu fun _=>tot_bnd (tot_more hu n (N - 1) (by omega) (he.mono (by omega))) (up_more hu n) fun _=>tot_ret _ _) (tot_ret _ _)
theorem tot_listed {α:Type} {e:M α} (hu:Up e) {n N:Nat} (h:N≤n) (he:Tot L N e):Tot L N (listed L n e):=tot_bnd he hu fun _=>tot_bnd (tot_more hu n N h (he.mono (by omega))) (up_more hu n) fun _=>tot_ret _ _
theorem up_part {k:M Unit} (h:Up k):Up (partM L k):=up_bnd up_name fun _=>up_bnd (up_needs _) fun _=>up_bnd h fun _=>up_ret _
theorem tot_kind:∀n,Tot L n (kind L n)
 |0=>tot_zero _
 |n+1=>by
  have h1:=tot_kind n
  have hu:=up_kind (L:=L) n
  have hp:Tot L n (partM L (kind L n)):=tot_bnd (tot_name _) up_name fun _=>tot_bnd (tot_needs _ _) (up_needs _) fun _=>tot_bnd h1 hu fun _=>tot_ret _ _
  have hl:Tot L n (sq (needs L [[91]]) (sq (listed L n (partM L (kind L n))) (needs L [[93]]))):=tot_bnd (tot_needs _ _) (up_needs _) fun _=>tot_bnd (tot_listed (up_part hu) (Nat.le_refl _) hp) (up_listed (up_part hu) n) fun _=>tot_needs _ _
  exact tot_tif (tot_ret _ _) (tot_tif (tot_ret _ _) (tot_tif (tot_ret _ _) (tot_tif (tot_bnd (tot_needs _ _) (up_needs _) fun _=>tot_bnd h1 hu fun _=>tot_needs _ _)
   (tot_tif hl (tot_tif hl (tot_tif (tot_param _) (tot_con (tot_name _) con_name fun _=>tot_tif (tot_bnd (h1.mono (by omega)) hu fun _=>tot_needs _ _) (tot_ret _ _))))))))
end
end Go.L02
namespace Go.L02
open Go.Eng
open Go.L01 (Bs Tok right isWord isSign isName isNumber)
section
variable {L:List Tok}
theorem kind_end {n:Nat} (h:L.length+3≤n) (f:Nat):kind L n 0 f≠ .oof:=tot_kind n 0 f (by omega)
def TotN {α:Type} (L:List Tok) (N:Nat) (m:Go.L02.N α):Prop:=∀i g,L.length - i<N→m i g≠ .oof
theorem TotN.mono {α:Type} {N K:Nat} {m:Go.L02.N α} (h:TotN L N m) (hk:K≤N):TotN L K m:=fun i g hi=>h i g (by omega)
theorem ton_ret {α:Type} (a:α) (N:Nat):TotN L N (retN a):=fun i g _ h=>by cases h
theorem ton_fail {α:Type} (N:Nat):TotN L N (failN:Go.L02.N α):=fun i g _ h=>by cases h
theorem ton_zero {α:Type} (m:N α):TotN L 0 m:=fun i g h=>by omega
theorem ton_bnd {α β:Type} {N:Nat} {m:Go.L02.N α} {k:α→Go.L02.N β} (hm:TotN L N m) (hu:RU m) (hk:∀a,TotN L N (k a)):TotN L N (bndN m k):=by
 intro i g hi
 cases h:m i g with
 |oof=>exact absurd h (hm i g hi)
 |val o j g'=>
  cases o with
  |none=>rw [bndN_none h];simp
  |some a=>rw [bndN_some h];exact hk a j g' (by have:=(hu.val h).1;omega)
theorem isK_lt {i k:Nat} {s:Bs} (h:isK L i k s=true):i<L.length:=by
 unfold isK at h
 simp only [Bool.and_eq_true,decide_eq_true_eq] at h
 exact h.1.1
theorem ton_rif {α:Type} {N k:Nat} {s:Bs} {x y:Go.L02.N α} (hx:TotN L (N - 1) x) (hy:TotN L N y):TotN L N (rif L k s x y):=by
 intro i g hi
 cases h:isK L i k s with
 |true=>rw [rif_yes h];have:=isK_lt h;exact hx _ _ (by omega)
 |false=>rw [rif_no h];exact hy _ _ hi
theorem ton_name {α:Type} {N:Nat} {x:Bs→Go.L02.N α} (hx:∀s,TotN L (N - 1) (x s)):TotN L N (nameN L x):=by
 intro i g hi
 unfold nameN
 split
 ·rename_i h;have:=isK_lt h;exact hx _ _ _ (by omega)
 ·simp
theorem ton_seen {α:Type} {N k:Nat} {x:Bs→Go.L02.N α} {y:Go.L02.N α} (hx:∀s,TotN L (N - 1) (x s)) (hy:TotN L N y):∀ss,TotN L N (seen L k x y ss)
 |[]=>hy
 |s::ss=>ton_rif (hx s) (ton_seen hx hy ss)
theorem ton_fields {t:N Bs} (hu:RU t):∀n N,N≤n→TotN L (N - 1) t→TotN L N (fieldsN L t n)
 |0,N,h,_=>by
  obtain rfl:N=0:=by omega
  exact ton_zero _
 |n+1,N,h,ht=>ton_name fun _=>ton_rif (ton_bnd (ht.mono (by omega)) hu fun _=>ton_rif (ton_bnd (ton_fields hu n _ (by omega) (ht.mono (by omega))) (ru_fields hu n) fun _=>ton_ret _ _) (ton_ret _ _)) (ton_fail _)
theorem ton_typ:∀n,TotN L n (typN L n)
 |0=>ton_zero _
 |n+1=>ton_seen (fun _=>ton_ret _ _) (ton_rif (ton_rif (ton_bnd ((ton_typ n).mono (by omega)) (ru_typ n) fun _=>ton_rif (ton_ret _ _) (ton_fail _)) (ton_fail _))
  (ton_seen (fun _=>ton_rif (ton_bnd (ton_fields (ru_typ n) n _ (by omega) ((ton_typ n).mono (by omega))) (ru_fields (ru_typ n) n) fun _=>ton_rif (ton_ret _ _) (ton_fail _)) (ton_fail _))
   (ton_rif (ton_rif (ton_ret _ _) (ton_fail _)) (ton_name fun _=>ton_rif (ton_bnd ((ton_typ n).mono (by omega)) (ru_typ n) fun _=>ton_rif (ton_ret _ _) (ton_fail _)) (ton_ret _ _))) _)) _
theorem typN_end {n:Nat} (h:L.length+3≤n) (g:Nat):typN L n 0 g≠ .oof:=ton_typ n 0 g (by omega)
end
end Go.L02
namespace Go.L01
open Go.Eng
set_option maxRecDepth 100000
def Srt:Int→List Tok→Prop
 |_,[]=>True
 |last,t::ts=>last≤t.line∧right t.kind t.text=true∧Srt t.line ts
theorem Srt.mono {a b:Int} {ts:List Tok} (h:Srt b ts) (hab:a≤b):Srt a ts:=by
 cases ts with
 |nil=>trivial
 |cons t ts=>exact ⟨Int.le_trans hab h.1,h.2.1,h.2.2⟩
theorem Srt.right {a:Int}:∀{ts:List Tok},Srt a ts→∀t∈ts,L01.right t.kind t.text=true∧a≤t.line
 |[],_,t,ht=>by simp at ht
 |x::xs,h,t,ht=>by
  rcases List.mem_cons.1 ht with rfl|ht
  ·exact ⟨h.2.1,h.1⟩
  ·have:=Srt.right (h.2.2.mono h.1) t ht;exact this
theorem Srt.at {a:Int}:∀{ts:List Tok},Srt a ts→∀i (hi:i+1<ts.length),ts[i].line≤ts[i+1].line
 |[],_,i,hi=>by simp at hi
 |[x],_,i,hi=>by simp at hi
 |x::y::xs,h,0,hi=>h.2.2.1
 |x::y::xs,h,i+1,hi=>by
  have:=Srt.at h.2.2 i (by simpa using hi)
  simpa using this
theorem srt_scan (s:Bs) (l:Int):Srt l (scanAt s l).toks∧∀t∈(scanAt s l).toks,t.line≤l+s.length:=by
 refine scan_cases (P:=fun s l=>Srt l (scanAt s l).toks∧∀t∈(scanAt s l).toks,t.line≤l+s.length) ?_ ?_ ?_ ?_ ?_ ?_ s l
 ·intro l;exact ⟨trivial,by simp [scanAt_nil,Res.toks]⟩
 ·intro r l h
  rw [scanAt_nl]
  exact ⟨h.1.mono (by omega),fun t ht=>by have:=h.2 t ht;simp only [List.length_cons];omega⟩
 ·intro c r l hc h
  rw [scanAt_sp r l hc]
  exact ⟨h.1,fun t ht=>by have:=h.2 t ht;simp only [List.length_cons];omega⟩
 ·intro a r l ha hr h
  rw [scanAt_com l ha hr]
  cases hx:scanAt r l with
  |bad e x=>exact ⟨trivial,by simp [Res.add,Res.toks]⟩
  |ok ts cs=>
   rw [hx] at h
   refine ⟨by simpa [Res.add,Res.toks] using h.1,fun t ht=> ?_⟩
   have:=h.2 t (by simpa [Res.add,Res.toks] using ht)
   simp only [List.length_append,List.length_cons];omega
 ·intro c r l h1 h2 h3 h4 h
  rw [scanAt_err l h1 h2 h3 h4 h]
  exact ⟨trivial,by simp [Res.toks]⟩
 ·intro k s r l hr hf h
  rw [scanAt_tok (first_alone hr).1 hf (right_bytes hr)]
  cases hx:scanAt r l with
  |bad e x=>exact ⟨trivial,by simp [Res.add,Res.toks]⟩
  |ok ts cs=>
   rw [hx] at h
   refine ⟨⟨Int.le_refl _,hr,by simpa [Res.toks] using h.1⟩,fun t ht=> ?_⟩
   simp only [Res.add,Res.toks,List.cons_append,List.nil_append,List.mem_cons] at ht
   rcases ht with rfl|ht
   ·show l≤_;omega
   ·have:=h.2 t ht
    simp only [List.length_append];omega
end Go.L01
namespace Go.L02
open Go.Eng
open Go.L01 (Bs Tok right isWord isSign isName isNumber scan)
def isType (s:Bs):Bool:=
 match scan s with
 | .ok ts _=>decide (s.length≤100)&&(match kind ts (ts.length+3) 0 0 with| .ok _ j _=>decide (ts.length≤j)|_=>false)&&decide (joinT ts=s)
 | .bad _ _=>false
def cutAt (s:Bs):Option Nat:=s.findIdx? (fun c=>decide (c=95))
def isOp (s:Bs):Bool:=wordOps.contains s||(match cutAt s with|none=>isName s|some k=>isName (s.take k)&&isName (s.drop (k+1)))
theorem good_scan {s:Bs} {ts:List Tok} {cs:List Bs} (h:scan s= .ok ts cs):Good ts:=by
 intro t ht
 have h1:=(L01.srt_scan s 1).1.right
 unfold scan at h
 split at h
 ·cases h
 ·rw [show L01.scanAt s 1=_ from h] at h1
  exact (h1 t ht).1
def isExprK (k:Nat):Bool:=decide (1≤k)&&decide (k≤10)
def isStmtK (k:Nat):Bool:=(decide (21≤k)&&decide (k≤31))||decide (k=32)||decide (k=34)||decide (k=35)||decide (k=37)
structure Row where
 name:Option (Bs→Bool):=none
 vr:Option (Bs→Bool):=none
 typ:Option (Bs→Bool):=none
 n:Option (Int→Bool):=none
 first:List (Nat→Bool):=[]
 more:Option (Nat→Bool):=none
 least:Nat:=0
 most:Nat:=0
def upTo (m:Int) (n:Int):Bool:=decide (0≤n)&&decide (n≤m)
def isK1 (k:Nat) (j:Nat):Bool:=decide (j=k)
def anyB (_:Bs):Bool:=true
def operators:List Bs:=[[110,111,116],[43],[45],[42],[47],[109,111,100],[60],[60,61],[61],[97,110,100],[111,114]]
def fixed (r:Row) (l:List (Nat→Bool)):Row:={r with first:=l,least:=l.length,most:=l.length}
def rowsT:List (Option Row):=
 let nm:Row:={name:=some isName}
 let ty:Row:={name:=some isName,typ:=some isType}
 [none,some (fixed {n:=some (upTo 1000000000)} []),some (fixed {n:=some (upTo 1)} []),some (fixed {} []),some (fixed nm []),
  some {name:=some anyB,vr:=some anyB,typ:=some anyB,more:=some isExprK,most:=6},
  some {name:=some operators.contains,first:=[isExprK,isExprK],least:=1,most:=2},
  some (fixed {} [isExprK,isExprK]),some (fixed nm [isExprK]),some (fixed {} [isExprK]),some (fixed {} [isExprK]),
  none,none,none,none,none,none,none,none,none,
  some {more:=some isStmtK,most:=400},some (fixed ty [isExprK]),some (fixed nm [isExprK]),some (fixed {} [isExprK,isExprK,isExprK]),some (fixed nm [isExprK,isExprK]),some (fixed {} [isK1 5]),
  some {first:=[isExprK,isK1 20,isK1 20],least:=2,most:=3},some (fixed {} [isExprK,isK1 20]),some (fixed ty [isK1 5,isK1 20]),some {first:=[isExprK],most:=1},some (fixed {} [isExprK]),some (fixed nm []),
  some {first:=[isK1 20],more:=some (isK1 33),least:=2,most:=400},some (fixed {name:=some anyB} [isK1 20]),some (fixed {} []),
  some {first:=[isExprK],more:=some (isK1 36),least:=2,most:=400},some (fixed {name:=some isName,vr:=some isName,typ:=some isType} [isK1 20]),some (fixed {} [isExprK])]
def rowOf (k:Nat):Option Row:=(rowsT[k]?).join
def txt (s:Bs) (p:Option (Bs→Bool)):Bool:=match p with|none=>decide (s=[])|some f=>f s
def kidK (l:List Nd) (k:Int):Nat:=match l[k.toNat]? with|some x=>x.d.kind|none=>0
def kidN (l:List Nd) (k:Int):Bs:=match l[k.toNat]? with|some x=>x.d.name|none=>[]
def kidsOk (l:List Nd) (r:Row):Nat→List Int→Bool
 |_,[]=>true
 |i,k::ks=>(match r.first[i]? with|some f=>f (kidK l k)|none=>(match r.more with|some f=>f (kidK l k)|none=>false))&&kidsOk l r (i+1) ks
def called (d:D):Bool:=if d.vr=[] then isName d.name&&(decide (d.typ=[])||isType d.typ) else isType d.vr&&isOp d.name&&decide (d.typ=[])
def whenOk (l:List Nd) (n:Nat):Nat→List Int→Bool
 |_,[]=>true
 |i,k::ks=>(isName (kidN l k)|| !(!decide (kidN l k=[])||decide (i+2<n)))&&whenOk l n (i+1) ks
def special (l:List Nd) (x:Nd):Bool:=
 if x.d.kind=5 then called x.d
 else if x.d.kind=6 then decide (x.d.name=[110,111,116])==decide (x.kids.length=1)
 else if x.d.kind=32 then whenOk l x.kids.length 0 (x.kids.drop 1) else true
def rightP (l:List Nd) (x:Nd):Bool:=
 match rowOf x.d.kind with
 |none=>false
 |some r=>txt x.d.name r.name&&txt x.d.vr r.vr&&txt x.d.typ r.typ&&(match r.n with|none=>decide (x.d.n=0)|some f=>f x.d.n)&&
   (decide (r.least≤x.kids.length)&&decide (x.kids.length≤r.most))&&kidsOk l r 0 x.kids&&special l x
def letterK (k:Nat):UInt8:=if k=20 then 113 else if k=5 then 99 else if isExprK k then 101 else if k=33 then 119 else if k=36 then 97 else if decide (21≤k)&&decide (k≤37)&&decide (k≠33)&&decide (k≠36) then 115 else 63
def kindsR (l:List Nd) (x:Nd):Bs:=x.kids.map fun k=>letterK (kidK l k)
def fitC (a p:UInt8):Bool:=decide (a=p)||(decide (a=99)&&decide (p=101))
def fit:Bs→Bs→Bool
 |[],[]=>true
 |a::s,p::ps=>fitC a p&&fit s ps
 |_,_=>false
def allR (s some:Bs):Bool:=s.all some.contains
def restR (d:D) (n v t m:Bool):Bool:=(n||decide (d.name=[]))&&(v||decide (d.vr=[]))&&(t||decide (d.typ=[]))&&(m||decide (d.n=0))
def exceptR (l:List Nd) (x:Nd):Bool:=((x.kids.drop 1).take (x.kids.length - 2)).all fun k=> !decide (kidN l k=[])
def rightR (l:List Nd) (x:Nd):Bool:=
 let k:=kindsR l x
 let d:=x.d
 if d.kind=1 then restR d false false false true&&decide (0≤d.n)&&decide (d.n≤1000000000)&&decide (k=[])
 else if d.kind=2 then restR d false false false true&&(decide (d.n=0)||decide (d.n=1))&&decide (k=[])
 else if d.kind=3∨d.kind=34 then restR d false false false false&&decide (k=[])
 else if d.kind=4∨d.kind=31 then restR d true false false false&&isName d.name&&decide (k=[])
 else if d.kind=5 then decide (k.length≤6)&&allR k [101,99] &&(if d.vr=[] then restR d true false true false&&isName d.name&&(decide (d.typ=[])||isType d.typ) else restR d true true false false&&isOp d.name&&isType d.vr)
 else if d.kind=6 then restR d true false false false&&((decide (d.name=[110,111,116])&&fit k [101])||(opers.contains d.name&&fit k [101,101]))
 else if d.kind=7 then restR d false false false false&&fit k [101,101]
 else if d.kind=8 then restR d true false false false&&isName d.name&&fit k [101]
 else if d.kind=9∨d.kind=10∨d.kind=30∨d.kind=37 then restR d false false false false&&fit k [101]
 else if d.kind=20 then restR d false false false false&&allR k [115]
 else if d.kind=21 then restR d true false true false&&isName d.name&&isType d.typ&&fit k [101]
 else if d.kind=22 then restR d true false false false&&isName d.name&&fit k [101]
 else if d.kind=23 then restR d false false false false&&fit k [101,101,101]
 else if d.kind=24 then restR d true false false false&&isName d.name&&fit k [101,101]
 else if d.kind=25 then restR d false false false false&&decide (k=[99])
 else if d.kind=26 then restR d false false false false&&(fit k [101,113] ||fit k [101,113,113])
 else if d.kind=27 then restR d false false false false&&fit k [101,113]
 else if d.kind=28 then restR d true false true false&&isName d.name&&isType d.typ&&decide (k=[99,113])
 else if d.kind=29 then restR d false false false false&&(decide (k=[])||fit k [101])
 else if d.kind=32 then decide (2≤k.length)&&decide (k.getD 0 0=113)&&allR (k.drop 1) [119] &&exceptR l x&&restR d false false false false
 else if d.kind=33 then restR d true false false false&&(decide (d.name=[])||isName d.name)&&decide (k=[113])
 else if d.kind=35 then restR d false false false false&&decide (1<k.length)&&fit (k.take 1) [101] &&allR (k.drop 1) [97]
 else if d.kind=36 then restR d true true true false&&isName d.name&&isName d.vr&&isType d.typ&&decide (k=[113])
 else false
def stackF:List Nd→Nat→List Int→Option (List Int)
 |[],_,open'=>some open'
 |x::xs,i,open'=>if x.kids.length≤open'.length∧open'.drop (open'.length - x.kids.length)=x.kids then stackF xs (i+1) (open'.take (open'.length - x.kids.length)++[(i:Int)]) else none
def postorder (l:List Nd):Bool:=match stackF l 0 [] with|some o=>decide (o.length=1)|none=>false
def rootK (l:List Nd):Nat:=match l.getLast? with|some x=>x.d.kind|none=>0
def whole (l:List Nd) (root:Nat→Bool):Bool:=decide (1≤l.length)&&decide (l.length≤400)&&postorder l&&root (rootK l)&&l.all (rightP l)
def orderedR (l:List Nd):Bool:=decide (1≤l.length)&&decide (l.length≤400)&&postorder l&&l.all (rightR l)
def checkNodes (l:List Nd):Bool:=whole l (isK1 20)
theorem sizes_append:∀(a b:List T),sizes (a++b)=sizes a+sizes b
 |[],b=>by simp [sizes]
 |t::a,b=>by simp [sizes,sizes_append a b];omega
theorem roots_append:∀(a b:List T) (k:Nat),roots k (a++b)=roots k a++roots (k+sizes a) b
 |[],b,k=>by simp [roots,sizes]
 |t::a,b,k=>by simp [roots,sizes,roots_append a b,Nat.add_assoc]
theorem flats_append:∀(a b:List T) (k:Nat),flats k (a++b)=flats k a++flats (k+sizes a) b
 |[],b,k=>by simp [flats,sizes]
 |t::a,b,k=>by simp [flats,sizes,flats_append a b,Nat.add_assoc]
theorem roots_len:∀(a:List T) (k:Nat),(roots k a).length=a.length
 |[],_=>rfl
 |t::a,k=>by simp [roots,roots_len a]
mutual
theorem T.flat_len:∀(t:T) (k:Nat),(t.flat k).length=t.size
 | .mk d ks,k=>by simp [T.flat,T.size,flats_len ks]
theorem flats_len:∀(a:List T) (k:Nat),(flats k a).length=sizes a
 |[],_=>rfl
 |t::a,k=>by simp [flats,sizes,T.flat_len t,flats_len a]
end
theorem T.size_pos (t:T):0<t.size:=by cases t;simp [T.size]
theorem stackF_trees:∀(l:List Nd) (ts:List T) (o:List Int),stackF l (sizes ts) (roots 0 ts)=some o→∃us,flats 0 ts++l=flats 0 us∧o=roots 0 us
 |[],ts,o,h=>by simp only [stackF,Option.some.injEq] at h;exact ⟨ts,by simp,h.symm⟩
 |x::xs,ts,o,h=>by
  unfold stackF at h
  split at h
  ·rename_i hc
   rw [roots_len] at hc h
   obtain ⟨h1,h2⟩:=hc
   have hsplit:ts=ts.take (ts.length - x.kids.length)++ts.drop (ts.length - x.kids.length):=(List.take_append_drop _ _).symm
   generalize ha:ts.take (ts.length - x.kids.length)=a at hsplit
   generalize hb:ts.drop (ts.length - x.kids.length)=b at hsplit
   have hal:a.length=ts.length - x.kids.length:=by rw [←ha,List.length_take];omega
   have hr:roots 0 ts=roots 0 a++roots (sizes a) b:=by rw [hsplit,roots_append];simp
   have hk:x.kids=roots (sizes a) b:=by
    rw [←h2,hr,List.drop_append,List.drop_eq_nil_of_le (by rw [roots_len];omega),roots_len,hal];simp
   have ho:(roots 0 ts).take (ts.length - x.kids.length)++[((sizes ts:Nat):Int)]=roots 0 (a++[T.mk x.d b]):=by
    rw [hr,List.take_append,List.take_of_length_le (by rw [roots_len];omega),roots_len,hal,roots_append]
    simp only [Nat.sub_self,List.take_zero,List.append_nil,Nat.zero_add,roots,T.size]
    congr 2
    rw [hsplit,sizes_append]
    push_cast;omega
   have hs:sizes ts+1=sizes (a++[T.mk x.d b]):=by
    rw [sizes_append];simp only [sizes,T.size]
    conv=>lhs;rw [hsplit,sizes_append]
    omega
   rw [ho,hs] at h
   obtain ⟨us,h3,h4⟩:=stackF_trees xs _ _ h
   refine ⟨us, ?_,h4⟩
   rw [←h3,flats_append]
   simp only [flats,T.flat,List.append_nil,Nat.zero_add]
   rw [hsplit,flats_append]
   simp only [Nat.zero_add]
   rw [←hk]
   simp
  ·cases h
theorem postorder_tree {l:List Nd} (h:postorder l=true):∃t:T,l=t.flat 0:=by
 unfold postorder at h
 cases hs:stackF l 0 [] with
 |none=>rw [hs] at h;cases h
 |some o=>
  rw [hs] at h
  obtain ⟨us,h1,h2⟩:=stackF_trees l [] o hs
  subst h2
  simp only [roots_len,decide_eq_true_eq] at h
  match us,h with
  |[t],_=>exact ⟨t,by simpa [flats] using h1⟩
theorem stackF_cons (x:Nd) (xs:List Nd) (i:Nat) (o:List Int):stackF (x::xs) i o=if x.kids.length≤o.length∧o.drop (o.length - x.kids.length)=x.kids then stackF xs (i+1) (o.take (o.length - x.kids.length)++[(i:Int)]) else none:=rfl
theorem flat_last (t:T) (b:Nat):(t.flat b).getLast? =some ⟨t.d,roots b t.kids⟩:=by
 cases t;simp [T.flat,T.d,T.kids]
theorem rootK_flat (t:T):rootK (t.flat 0)=t.d.kind:=by unfold rootK;rw [flat_last]
end Go.L02
namespace Go.L02
open Go.Eng
open Go.L01 (Bs Tok)
section
variable {L:List Tok}
def Sz {α:Type} (μ:α→Nat) (c:Nat) (m:M α):Prop:=∀i f a j f',m i f= .ok a j f'→i≤j∧μ a+2*i≤2*j+c
theorem Sz.mono {α:Type} {μ:α→Nat} {c d:Nat} {m:M α} (h:Sz μ c m) (hd:c≤d):Sz μ d m:=fun i f a j f' e=>by have:=h i f a j f' e;omega
theorem sz_up {α:Type} {m:M α} (h:Up m):Sz (fun _=>0) 0 m:=fun i f a j f' e=>by have:=(h.ok e).1;simp;omega
def sz' (t:T):Nat:=t.size+1
end
end Go.L02
