/- Texts of mine for the claims about layer 2 (tree), joined: EngF. -/
import Derived.Test.YtbcmiempigoooaaGreatDoorJae
import Derived.Laws.AppendOwn
import Derived.Laws.OwnMore
set_option linter.all false
set_option linter.unusedSimpArgs false
set_option linter.unusedVariables false
namespace Go.Eng
open Go.RowKit
def rawReg:Code→Nat→Code
  | .region i o d,id=>if i=id then .region i o d else .skip
  | .seq a b,id| .cond _ a b,id=>match rawReg a id with| .skip=>rawReg b id|c=>c
  | .block _ c,id| .loop c,id| .scope c,id=>rawReg c id
  | .rangeFunc _ _ a b,id=>match rawReg a id with| .skip=>rawReg b id|c=>c
  |_,_=> .skip
@[simp] theorem upd_app (ρ:Env) (i j:Nat) (v:Value):upd ρ i v j=if j=i then v else ρ j:=rfl
@[simp] theorem updO_some (ρ:Env) (i:Nat) (v:Value):updO ρ (some i) v=upd ρ i v:=rfl
@[simp] theorem updO_none (ρ:Env) (v:Value):updO ρ none v=ρ:=rfl
def Ks.blk (Q:Ks) (i:Nat) (K:Env→World→Prop):Ks:={Q with ex:=fun j=>if j=i then K else Q.ex j}
@[simp] theorem blk_rt (Q:Ks) (i:Nat) (K:Env→World→Prop):(Q.blk i K).rt=Q.rt:=rfl
@[simp] theorem blk_pn (Q:Ks) (i:Nat) (K:Env→World→Prop):(Q.blk i K).pn=Q.pn:=rfl
@[simp] theorem blk_df (Q:Ks) (i:Nat) (K:Env→World→Prop):(Q.blk i K).df=Q.df:=rfl
@[simp] theorem blk_rd (Q:Ks) (i:Nat) (K:Env→World→Prop):(Q.blk i K).rd=Q.rd:=rfl
@[simp] theorem noRd_ex (Q:Ks):Q.noRd.ex=Q.ex:=rfl
@[simp] theorem noRd_rt (Q:Ks):Q.noRd.rt=Q.rt:=rfl
@[simp] theorem noRd_pn (Q:Ks):Q.noRd.pn=Q.pn:=rfl
@[simp] theorem noRd_og (Q:Ks):Q.noRd.og=Q.og:=rfl
@[simp] theorem noRd_df (Q:Ks):Q.noRd.df=Q.df:=rfl
@[simp] theorem blk_og (Q:Ks) (i:Nat) (K:Env→World→Prop):(Q.blk i K).og=Q.og:=rfl
@[simp] theorem blk_ex (Q:Ks) (i j:Nat) (K:Env→World→Prop) (ρ:Env) (w:World):(Q.blk i K).ex j ρ w=if j=i then K ρ w else Q.ex j ρ w:=by simp only [Ks.blk];split<;>rfl
theorem uponE_mono {P:Program} {Q Q':Ks} {dst:Option Nat} {K K':Env→World→Prop} {ρ:Env} (hK:∀ρ w,K ρ w→K' ρ w) (hpn:∀ρ c w,Q.pn ρ c w→Q'.pn ρ c w) (hog:Q.og→Q'.og) (hdf:(Q.df→Q'.df)∧(Q.rd→Q'.rd)) {r:Result Next} (h:uponE P Q dst K ρ r):uponE P Q' dst K' ρ r:=by
  cases r with
  |ok x w=>
    cases x<;>simp only [uponE] at h⊢ <;>first|exact hK _ _ h|exact h|exact ⟨hdf.1 h.1,hK _ _ h.2⟩|skip
    · refine h.mono fun e w' hh=> ?_
      cases e with
      |returned v=>exact hK _ _ hh
      |panicked c=>exact hpn _ _ _ hh
      |outgrown=>exact hog hh
    · refine ⟨hdf.2 h.1,h.2.mono fun e w' hh=> ?_⟩
      cases e with
      |returned v=>exact hK _ _ hh
      |panicked c=>exact hpn _ _ _ hh
      |outgrown=>exact hog hh
  |halt x w=>cases x<;>simp only [uponE] at h⊢ <;>first|exact hpn _ _ _ h|exact h
theorem effE_mono {P:Program} {Q Q':Ks} {dst:Option Nat} {op:Op} {ty:TypeId} {K K':Env→World→Prop} {ρ:Env} {w:World} (hK:∀ρ w,K ρ w→K' ρ w) (hpn:∀ρ c w,Q.pn ρ c w→Q'.pn ρ c w) (hog:Q.og→Q'.og) (hdf:(Q.df→Q'.df)∧(Q.rd→Q'.rd)) (h:effE P Q dst op ty K ρ w):effE P Q' dst op ty K' ρ w:=
  uponE_mono hK hpn hog hdf h
theorem storesW_mono {K K':World→Prop} (hK:∀w,K w→K' w) (a:Addr):∀(vs:List Value) (i:Nat) (w:World),storesW a vs i K w→storesW a vs i K' w
  |[],_,_,h=>hK _ h
  |_::vs,i,_,⟨h1,h2,h3,h4⟩=>⟨h1,h2,h3,storesW_mono hK a vs (i+1) _ h4⟩
theorem onO_mono {α:Type} {c:Option α} {f g:α→Prop} (h:∀a,f a→g a) (hf:onO c f):onO c g:=by cases c<;>first|exact hf|exact h _ hf
theorem onV_mono {c:Option Value} {f g:Value→Prop} (h:∀a,f a→g a) (hf:onV c f):onV c g:=by cases c<;>first|exact hf|exact h _ hf
theorem ptrK_mono {x:Value} {f g:Addr→Prop} (h:∀a,f a→g a) (hf:ptrK x f):ptrK x g:=by
  cases x with
  |pointer a=>cases a<;>first|exact h _ hf|exact hf
  |_=>exact hf
theorem effW_mono {P:Program} {Q Q':Ks} {dst:Option Nat} {op:Op} {ty:TypeId} {K K':Env→World→Prop} {ρ:Env} {w:World} (hK:∀ρ w,K ρ w→K' ρ w) (hpn:∀ρ c w,Q.pn ρ c w→Q'.pn ρ c w) (hog:Q.og→Q'.og) (hdf:(Q.df→Q'.df)∧(Q.rd→Q'.rd)) (h:effW P Q dst op ty K ρ w):effW P Q' dst op ty K' ρ w:=by
  unfold effW at h⊢
  split at h
  · exact hK _ _ h
  · exact onO_mono (fun _ h=>hK _ _ h) h
  · exact ⟨h.1,ptrK_mono (fun a h=>storesW_mono (fun _ h=>hK _ _ h) a _ _ _ h) h.2⟩
  · exact hK _ _ h
  · exact onO_mono (fun _ h=>hK _ _ h) h
  · exact onO_mono (fun _ h=>⟨h.1,h.2.1,h.2.2.1,hK _ _ h.2.2.2⟩) h
  · unfold callW at h⊢
    split at h
    · refine ⟨h.1,h.2.mono fun e w' hh=> ?_⟩
      cases e with
      |returned v=>exact hK _ _ hh
      |panicked c=>exact hpn _ _ _ hh
      |outgrown=>exact hog hh
    · exact effE_mono hK hpn hog hdf h
  · exact effE_mono hK hpn hog hdf h
theorem wps_mono {P:Program} {Q Q':Ks} (hpn:∀ρ c w,Q.pn ρ c w→Q'.pn ρ c w) (hog:Q.og→Q'.og) (hdf:(Q.df→Q'.df)∧(Q.rd→Q'.rd)):∀(l:List St) {K K':Env→World→Prop} {ρ:Env} {w:World},(∀ρ w,K ρ w→K' ρ w)→wps P Q l K ρ w→wps P Q' l K' ρ w
  |[],_,_,_,_,hK,h=>hK _ _ h
  | .asg g d e::r,K,K',ρ,w,hK,h=>by
    simp only [wps,St.wp] at h⊢
    split
    · rename_i hg;rw [if_pos hg] at h;exact onV_mono (fun _ h=>wps_mono hpn hog hdf r hK h) h
    · rename_i hg;rw [if_neg hg] at h;exact wps_mono hpn hog hdf r hK h
  | .eff g d op ty::r,K,K',ρ,w,hK,h=>by
    simp only [wps,St.wp] at h⊢
    split
    · rename_i hg;rw [if_pos hg] at h;exact effW_mono (fun _ _ h=>wps_mono hpn hog hdf r hK h) hpn hog hdf h
    · rename_i hg;rw [if_neg hg] at h;exact wps_mono hpn hog hdf r hK h
theorem qwps_mono {P:Program} {w0:World}:∀(l:List St) {K K':Env→Prop} {ρ:Env},(∀ρ,K ρ→K' ρ)→qwps P w0 l K ρ→qwps P w0 l K' ρ
  |[],_,_,_,hK,h=>hK _ h
  | .asg g d e::r,K,K',ρ,hK,h=>by
    simp only [qwps] at h⊢
    split
    · rename_i hg;rw [if_pos hg] at h;exact onV_mono (fun _ h=>qwps_mono r hK h) h
    · rename_i hg;rw [if_neg hg] at h;exact qwps_mono r hK h
  | .eff g d op ty::r,K,K',ρ,hK,h=>by
    simp only [qwps] at h⊢
    split
    · rename_i hg;rw [if_pos hg] at h;obtain ⟨v,h1,h2⟩:=h;exact ⟨v,h1,qwps_mono r hK h2⟩
    · rename_i hg;rw [if_neg hg] at h;exact qwps_mono r hK h
theorem condW_mono {c:Option Value} {x y x' y':Prop} (hx:x→x') (hy:y→y') (h:condW c x y):condW c x' y':=by
  cases c with
  |none=>exact h
  |some v=>cases v with
    |bool b=>cases b<;>first|exact hx h|exact hy h
    |_=>exact h
theorem IR.wp_mono {cx:Cx}:∀{a:IR} {K K':Env→World→Prop} {Q Q':Ks} {ρ:Env} {w:World},a.wp cx K Q ρ w→(∀ρ w,K ρ w→K' ρ w)→(∀i ρ w,Q.ex i ρ w→Q'.ex i ρ w)→(∀ρ w,Q.rt ρ w→Q'.rt ρ w)→
    (∀ρ c w,Q.pn ρ c w→Q'.pn ρ c w)→(Q.og→Q'.og)→((Q.df→Q'.df)∧(Q.rd→Q'.rd))→a.wp cx K' Q' ρ w
  | .skip,_,_,_,_,_,_,h,hK,_,_,_,_,_=>hK _ _ h
  | .reg l,_,_,_,_,_,_,h,hK,_,_,hpn,hog,hdf=>wps_mono hpn hog hdf l hK h
  | .drw l,_,_,_,_,_,_,h,hK,_,_,_,_,_=>qwps_mono l (fun _ h w' hw=>hK _ _ (h w' hw)) h
  | .seq a b,_,_,_,_,_,_,h,hK,hex,hrt,hpn,hog,hdf=>IR.wp_mono (a:=a) h (fun _ _ h=>IR.wp_mono (a:=b) h hK hex hrt hpn hog hdf) hex hrt hpn hog hdf
  | .cond c a b,_,_,_,_,_,_,h,hK,hex,hrt,hpn,hog,hdf=>condW_mono (fun h=>IR.wp_mono (a:=a) h hK hex hrt hpn hog hdf) (fun h=>IR.wp_mono (a:=b) h hK hex hrt hpn hog hdf) h
  | .block id a,K,K',Q,Q',_,_,h,hK,hex,hrt,hpn,hog,hdf=>IR.wp_mono (a:=a) h hK (fun i ρ w h=>by
      simp only at h⊢
      split
      · rename_i e;rw [if_pos e] at h;exact hK _ _ h
      · rename_i e;rw [if_neg e] at h;exact hex _ _ _ h) hrt hpn hog hdf
  | .loop a,_,_,_,_,_,_,⟨I,μ,h0,h⟩,_,hex,hrt,hpn,hog,hdf=>⟨I,μ,h0,fun ρ' w' hI=>IR.wp_mono (a:=a) (h ρ' w' hI) (fun _ _ h=>h) hex hrt hpn hog hdf⟩
  | .exit id,_,_,_,_,_,_,h,_,hex,_,_,_,_=>hex _ _ _ h
  | .ret,_,_,_,_,_,_,h,_,_,hrt,_,_,_=>hrt _ _ h
  | .raw c,_,_,_,_,_,_,h,hK,hex,hrt,hpn,hog,hdf=>fun a ha hD hd=>Go.wp_mono (h a ha hD fun hq=>hd (hdf.1 hq)) fun e a w he=>by
      cases e with
      |normal=>obtain ⟨h1,ρ,h2,h3⟩:=he;exact ⟨h1,ρ,h2,hK _ _ h3⟩
      |exit i=>obtain ⟨h1,ρ,h2,h3⟩:=he;exact ⟨h1,ρ,h2,hex _ _ _ h3⟩
      |ret=>obtain ⟨h1,ρ,h2,h3⟩:=he;exact ⟨h1,ρ,h2,hrt _ _ h3⟩
      |panic c=>obtain ⟨h1,ρ,h2,h3⟩:=he;exact ⟨h1,ρ,h2,hpn _ _ _ h3⟩
      |outgrown=>exact hog he
      |goto l=>exact he
section
variable {cx:Cx} {K:Env→World→Prop} {Q:Ks} {ρ:Env} {w:World}
theorem loopI (I:Env→World→Prop) (μ:Env→World→Nat) {a:IR} (h0:I ρ w) (h:∀ρ' w',I ρ' w'→a.wp cx (fun ρ'' w''=>I ρ'' w''∧μ ρ'' w''<μ ρ' w') Q ρ' w'):(IR.loop a).wp cx K Q ρ w:=⟨I,μ,h0,h⟩
@[simp] theorem wpi_seq {a b:IR}:(IR.seq a b).wp cx K Q ρ w=a.wp cx (b.wp cx K Q) Q ρ w:=rfl
@[simp] theorem wpi_reg {l:List St}:(IR.reg l).wp cx K Q ρ w=wps cx.P Q l K ρ w:=rfl
@[simp] theorem wpi_drw {l:List St}:(IR.drw l).wp cx K Q ρ w=qwps cx.P w l (fun ρ'=>∀w',Ext w w'→K ρ' w') ρ:=rfl
@[simp] theorem wpi_skip:IR.skip.wp cx K Q ρ w=K ρ w:=rfl
@[simp] theorem wpi_exit {i:Nat}:(IR.exit i).wp cx K Q ρ w=Q.ex i ρ w:=rfl
@[simp] theorem wpi_ret:IR.ret.wp cx K Q ρ w=Q.rt ρ w:=rfl
@[simp] theorem wpi_block {i:Nat} {a:IR}:(IR.block i a).wp cx K Q ρ w=a.wp cx K (Q.blk i K) ρ w:=rfl
@[simp] theorem wpi_cond {c:Ex} {a b:IR}:(IR.cond c a b).wp cx K Q ρ w=condW (c.ev ρ w) (a.wp cx K Q ρ w) (b.wp cx K Q ρ w):=rfl
end
def ksOf (rs:List RV) (R:Ending→World→Prop):Ks:=⟨fun _ _ _=>False,retK rs R,fun _ c w=>R (.panicked c) w,∀w,R .outgrown w,False,True⟩
@[simp] theorem ksOf_rt (rs:List RV) (R:Ending→World→Prop):(ksOf rs R).rt=retK rs R:=rfl
@[simp] theorem ksOf_pn (rs:List RV) (R:Ending→World→Prop) (ρ:Env) (c:List PanicEntry) (w:World):(ksOf rs R).pn ρ c w=R (.panicked c) w:=rfl
@[simp] theorem ksOf_og (rs:List RV) (R:Ending→World→Prop):(ksOf rs R).og=∀w,R .outgrown w:=rfl
@[simp] theorem ksOf_ex (rs:List RV) (R:Ending→World→Prop) (i:Nat) (ρ:Env) (w:World):(ksOf rs R).ex i ρ w=False:=rfl
@[simp] theorem ksD_rt (P:Program) (rs:List RV) (R:Ending→World→Prop):(ksD P rs R).rt=endK P rs R .returning:=rfl
@[simp] theorem ksD_pn (P:Program) (rs:List RV) (R:Ending→World→Prop) (ρ:Env) (c:List PanicEntry) (w:World):(ksD P rs R).pn ρ c w=endK P rs R (.panicking c) ρ w:=rfl
@[simp] theorem ksD_og (P:Program) (rs:List RV) (R:Ending→World→Prop):(ksD P rs R).og=∀w,R .outgrown w:=rfl
@[simp] theorem ksD_df (P:Program) (rs:List RV) (R:Ending→World→Prop):(ksD P rs R).df=True:=rfl
@[simp] theorem ksD_rd (P:Program) (rs:List RV) (R:Ending→World→Prop):(ksD P rs R).rd=True:=rfl
@[simp] theorem ksOf_rd (rs:List RV) (R:Ending→World→Prop):(ksOf rs R).rd=True:=rfl
@[simp] theorem ksD_ex (P:Program) (rs:List RV) (R:Ending→World→Prop) (i:Nat) (ρ:Env) (w:World):(ksD P rs R).ex i ρ w=False:=rfl
@[simp] theorem retK1 (t:Nat) (R:Ending→World→Prop) (ρ:Env) (w:World):retK [.tmp t] R ρ w=R (.returned (ρ t)) w:=rfl
@[simp] theorem retK2 (t u:Nat) (R:Ending→World→Prop) (ρ:Env) (w:World):retK [.tmp t, .tmp u] R ρ w=R (.returned (.tuple #[ρ t,ρ u])) w:=rfl
@[simp] theorem retK3 (t u s:Nat) (R:Ending→World→Prop) (ρ:Env) (w:World):retK [.tmp t, .tmp u, .tmp s] R ρ w=R (.returned (.tuple #[ρ t,ρ u,ρ s])) w:=rfl
@[simp] theorem retK0 (R:Ending→World→Prop) (ρ:Env) (w:World):retK [] R ρ w=R (.returned (.tuple #[])) w:=rfl
@[simp] theorem pickV_bool (b:Bool) (x y:Option Value):pickV (.bool b) x y=if b then x else y:=by cases b<;>rfl
@[simp] theorem if_or (b c:Bool):(if b then some (Value.bool true) else some (Value.bool c))=some (.bool (b||c)):=by cases b<;>rfl
@[simp] theorem if_and (b c:Bool):(if b then some (Value.bool c) else some (Value.bool false))=some (.bool (b&&c)):=by cases b<;>rfl
@[simp] theorem ifp_or (p:Prop) [Decidable p] (c:Bool):(if p then some (Value.bool true) else some (Value.bool c))=some (.bool (decide p||c)):=by split<;>simp_all
@[simp] theorem ifp_and (p:Prop) [Decidable p] (c:Bool):(if p then some (Value.bool c) else some (Value.bool false))=some (.bool (decide p&&c)):=by split<;>simp_all
@[simp] theorem condW_bool (b:Bool) (x y:Prop):condW (some (.bool b)) x y=if b then x else y:=by cases b<;>rfl
@[simp] theorem onV_some (v:Value) (f:Value→Prop):onV (some v) f=f v:=rfl
@[simp] theorem onO_some {α:Type} (v:α) (f:α→Prop):onO (some v) f=f v:=rfl
@[simp] theorem ptrK_ptr (a:Addr) (f:Addr→Prop):ptrK (.pointer (some a)) f=f a:=rfl
@[simp] theorem callK_ret (Q:Ks) (dst:Option Nat) (K:Env→World→Prop) (ρ:Env) (v:Value) (w:World):callK Q dst K ρ (.returned v) w=K (updO ρ dst v) w:=rfl
@[simp] theorem callK_pan (Q:Ks) (dst:Option Nat) (K:Env→World→Prop) (ρ:Env) (c:List PanicEntry) (w:World):callK Q dst K ρ (.panicked c) w=Q.pn ρ c w:=rfl
@[simp] theorem callK_og (Q:Ks) (dst:Option Nat) (K:Env→World→Prop) (ρ:Env) (w:World):callK Q dst K ρ .outgrown w=Q.og:=rfl
section
variable {P:Program} {K:Env→World→Prop} {Q:Ks} {ρ:Env} {w w0:World}
@[simp] theorem wps_nil':wps P Q [] K ρ w=K ρ w:=rfl
@[simp] theorem wps_asg {g:Option (Nat×Bool)} {d:Nat} {e:Ex} {r:List St}:wps P Q (.asg g d e::r) K ρ w=if gd ρ g then onV (e.ev ρ w) (fun v=>wps P Q r K (upd ρ d v) w) else wps P Q r K (upd ρ d undef) w:=rfl
@[simp] theorem wps_eff {g:Option (Nat×Bool)} {d:Option Nat} {op:Op} {ty:TypeId} {r:List St}:wps P Q (.eff g d op ty::r) K ρ w=if gd ρ g then effW P Q d op ty (wps P Q r K) ρ w else wps P Q r K (updO ρ d undef) w:=rfl
end
attribute [simp] qwps gd Ex.ev intBin strBin shfBin callW qeff
@[simp] theorem evE_tmp (ρ:Env) (t:Nat):evE ρ (.tmp t)=ρ t:=rfl
@[simp] theorem evE_const (ρ:Env) (v:Value):evE ρ (.const v)=v:=rfl
@[simp] theorem evE_global (ρ:Env) (g:Nat):evE ρ (.global g)= .pointer (some ⟨g,0,none⟩):=rfl
@[simp] theorem evE_func (ρ:Env) (f:FuncId):evE ρ (.func f)= .func (.func f) #[] #[]:=rfl
section
variable {P:Program} {Q:Ks} {d:Option Nat} {ty:TypeId} {K:Env→World→Prop} {ρ:Env} {w:World}
@[simp] theorem effW_makeFunc (fn:Fn) (fs cs:Array Operand):effW P Q d (.makeFunc fn fs cs) ty K ρ w=K (updO ρ d (.func fn (fs.map (evE ρ)) (cs.map (evE ρ)))) w:=rfl
@[simp] theorem effW_build (t:TypeId) (ps:Array (Nat×Operand)):effW P Q d (.build t ps) ty K ρ w=onO (P.built t (ps.map fun p=>(p.1,evE ρ p.2)).toList) fun cells=>K (updO ρ d (.agg cells)) w:=rfl
@[simp] theorem effW_call (f:FuncId) (args:Array Operand) (ats:Array TypeId):effW P Q d (.call {callee:= .value (.func f),args:=args,argTypes:=ats}) ty K ρ w=(callB P f=true∧Calls P f (args.map (evE ρ)) w (callK Q d K ρ)):=rfl
end
@[simp] theorem pv2_ibin (w:World) (op:BinOp) (k k' k'':IntKind) (a b:Int):pv2 w (.ibin op k) (.int k' a) (.int k'' b)=if k'=k'' then intBin op k' a b else none:=rfl
@[simp] theorem pv2_sbin (w:World) (op:BinOp) (x y:ByteArray):pv2 w (.sbin op) (.string x) (.string y)=strBin op x y:=rfl
@[simp] theorem pv2_beql (w:World) (a b:Bool):pv2 w (.bbin .eql) (.bool a) (.bool b)=some (.bool (a==b)):=rfl
@[simp] theorem pv2_bneq (w:World) (a b:Bool):pv2 w (.bbin .neq) (.bool a) (.bool b)=some (.bool (!(a==b))):=rfl
@[simp] theorem pv2_shf (w:World) (op:BinOp) (k k':IntKind) (a b:Int):pv2 w (.shf op) (.int k a) (.int k' b)=shfBin op k a b:=rfl
@[simp] theorem pv2_ixa (w:World) (sz:Nat) (v:Value) (k:IntKind) (i:Int):pv2 w (.ixa sz) v (.int k i)=if isSl v∧0≤i∧i<slLen v then some (.pointer (some (slAddr v (i.toNat*sz)))) else none:=by cases v<;>rfl
@[simp] theorem pv2_ixs (w:World) (s:ByteArray) (k:IntKind) (i:Int):pv2 w .ixs (.string s) (.int k i)=if 0≤i then (s[i.toNat]?).map fun b=> .int .u8 b.toNat else none:=rfl
@[simp] theorem pv2_slLo (w:World) (sz:Nat) (v:Value) (k:IntKind) (l:Int):pv2 w (.slLo sz) v (.int k l)=if isSl v∧0≤l∧l≤slLen v then some (slSub v sz l.toNat (slLen v) (slCap v)) else none:=by cases v<;>rfl
@[simp] theorem pv2_stLo (w:World) (s:ByteArray) (k:IntKind) (l:Int):pv2 w .stLo (.string s) (.int k l)=if 0≤l∧l≤s.size then some (.string (s.extract l.toNat s.size)) else none:=rfl
@[simp] theorem pv3_slLoHi (w:World) (sz:Nat) (v:Value) (k k':IntKind) (l h:Int):pv3 w (.slLoHi sz) v (.int k l) (.int k' h)=if isSl v∧0≤l∧l≤h∧h≤slCap v then some (slSub v sz l.toNat h.toNat (slCap v)) else none:=by cases v<;>rfl
@[simp] theorem pv3_stLoHi (w:World) (s:ByteArray) (k k':IntKind) (l h:Int):pv3 w .stLoHi (.string s) (.int k l) (.int k' h)=if 0≤l∧l≤h∧h≤s.size then some (.string (s.extract l.toNat h.toNat)) else none:=rfl
@[simp] theorem pv4_slMax (w:World) (sz:Nat) (v:Value) (k k' k'':IntKind) (l h m:Int):pv4 w (.slMax sz) v (.int k l) (.int k' h) (.int k'' m)=if isSl v∧0≤l∧l≤h∧h≤m∧m≤slCap v then some (slSub v sz l.toNat h.toNat m.toNat) else none:=by cases v<;>rfl
@[simp] theorem pv1_same (w:World) (v:Value):pv1 w .same v=some v:=rfl
@[simp] theorem pv1_load1 (w:World) (a:Addr):pv1 w .load1 (.pointer (some a))=w.cell? a:=rfl
@[simp] theorem pv1_loadN (w:World) (n:Nat) (a:Addr):pv1 w (.loadN n) (.pointer (some a))=(rowAt w a 0 n).map fun l=> .agg l.toArray:=rfl
@[simp] theorem pv1_fadr (w:World) (n:Nat) (a:Addr):pv1 w (.fadr n) (.pointer (some a))=some (.pointer (some (a.add n))):=rfl
@[simp] theorem pv1_fld (w:World) (n:Nat) (cs:Array Value):pv1 w (.fld n) (.agg cs)=cs[n]? :=rfl
@[simp] theorem pv1_fldN (w:World) (o n:Nat) (cs:Array Value):pv1 w (.fldN o n) (.agg cs)=some (.agg (cs.extract o (o+n))):=rfl
@[simp] theorem pv1_lenS (w:World) (v:Value):pv1 w .lenS v=if isSl v then some (.int .i64 (slLen v)) else none:=rfl
@[simp] theorem pv1_capS (w:World) (v:Value):pv1 w .capS v=if isSl v then some (.int .i64 (slCap v)) else none:=rfl
@[simp] theorem pv1_lenT (w:World) (s:ByteArray):pv1 w .lenT (.string s)=some (.int .i64 s.size):=rfl
@[simp] theorem pv1_not (w:World) (b:Bool):pv1 w .not (.bool b)=some (.bool !b):=rfl
@[simp] theorem pv1_neg (w:World) (k:IntKind) (n:Int):pv1 w .neg (.int k n)=some (.int k (k.wrap (0 - n))):=rfl
@[simp] theorem pv1_conv (w:World) (k k':IntKind) (n:Int):pv1 w (.conv k) (.int k' n)=some (.int k (k.wrap n)):=rfl
@[simp] theorem pv1_extr (w:World) (i:Nat) (vs:Array Value):pv1 w (.ext i) (.tuple vs)=vs[i]? :=rfl
@[simp] theorem pv1_mkif (w:World) (t:TypeId) (v:Value):pv1 w (.mkif t) v=some (.iface t v):=rfl
@[simp] theorem pv1_nilcI (w:World) (t:TypeId) (v:Value):pv1 w .nilc (.iface t v)=some (.iface t v):=rfl
@[simp] theorem pv1_nilc (w:World) (a:Addr):pv1 w .nilc (.pointer (some a))=some (.pointer (some a)):=rfl
@[simp] theorem pv1_strid (w:World) (s:ByteArray):pv1 w .strid (.string s)=some (.string s):=rfl
theorem i64w {n:Int} (h: -9223372036854775808≤n∧n≤9223372036854775807):IntKind.i64.wrap n=n:=by
  unfold IntKind.wrap
  simp only [IntKind.bits,IntKind.signed,Bool.true_and]
  by_cases hc:n%2^64≥(2^(64 - 1):Int)
  · rw [if_pos (by simpa using hc)];omega
  · rw [if_neg (by simpa using hc)];omega
theorem u8w {n:Int} (h:0≤n∧n<256):IntKind.u8.wrap n=n:=by
  unfold IntKind.wrap
  simp only [IntKind.bits,IntKind.signed,Bool.false_and,Bool.false_eq_true,if_false]
  omega
@[simp] theorem intOf_int (k:IntKind) (n:Int):RowKit.intOf (.int k n)=n:=rfl
end Go.Eng
