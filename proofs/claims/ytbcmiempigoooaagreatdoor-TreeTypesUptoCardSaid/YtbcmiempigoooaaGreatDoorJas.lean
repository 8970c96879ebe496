/- Texts of mine for the claims about layer 2 (tree), joined: EngR. -/
import Derived.Test.YtbcmiempigoooaaGreatDoorJar
import Derived.Scope
import Derived.Laws.RangeAny
import Derived.Laws.StructEq
import Derived.Lib.OthersKept
set_option linter.all false
set_option linter.unusedSimpArgs false
set_option linter.unusedVariables false
namespace Go.Eng
open Go.RowKit
def scopeBody:Code→Code| .scope c=>c|c=>c
theorem calls_irS {P:Program} {f:FuncId} {fn:Func} {V raws:List Nat} {ir ir0:IR} {rs:List RV} {c:Code} (hf:P.funcs[f]? =some fn) (hb:fn.body=some (.scope c)) (hc:comp P fn.ntmps V raws c=some ir0)
    (hn:ir0.norm=ir) (hV:readB fn V=true) (hrs:rvsOf P V fn.results.toList=some rs) {args:Array Value} (hsz:args.size≤fn.ntmps) {w:World} {R:Ending→World→Prop}
    (h:ir.wp ⟨P,fn.ntmps,V,[]⟩ (retK rs R) ⟨fun _ _ _=>False,retK rs R,fun _ c w=>R (.panicked c) w,∀w,R .outgrown w,False,True⟩ (startEnv V args) w):Calls P f args w R:=by
  refine calls_of_wp hf hb ?_
  subst hn
  rw [IR.norm_wp] at h
  refine wp_scope_straight (wp_mono (comp_sem ⟨P,fn.ntmps,V,[]⟩ raws c ir0 hc _ _ _ _ w (fun h:False=>h.elim) (agree_start hV hsz) (fun _=>rfl) h) ?_)
  have hret:∀(a:Act) (w:World),(dOk ⟨P,fn.ntmps,V,[]⟩ a∧∃ρ,Agree fn.ntmps V ρ a∧retK rs R ρ w)→a.defers=[]∧∃v,(results fn a.tmps).run P w= .ok v w∧R (.returned v) w:=by
    rintro a w ⟨hD,ρ,ha,hk⟩
    simp only [retK] at hk
    split at hk
    · rename_i vs hvs
      exact ⟨hD rfl,_,results_run ha hrs hvs,hk⟩
    · cases hk
  intro e a w he
  cases e with
  |normal=>exact hret a w he
  |ret=>exact hret a w he
  |exit i=>obtain ⟨_,_,_,hf⟩:=he;exact hf
  |goto i=>exact he
  |panic c=>exact ⟨he.1 rfl,let ⟨_,_,h⟩:=he.2;h⟩
  |outgrown=>exact (show∀w,R .outgrown w from he) w
theorem raw_label {cx:Cx} {l:Nat} {K:Env→World→Prop} {Q:Ks} {ρ:Env} {w:World} (h:K ρ w):(IR.raw (.label l)).wp cx K Q ρ w:=
  fun _ ha hD _=>wp_label ⟨hD,ρ,ha,h⟩
section
variable {P:Program} {Q:Ks} {d:Option Nat} {ty:TypeId} {K:Env→World→Prop} {ρ:Env} {w:World}
theorem eff_rangeS {t:TypeId} {x:Operand} {s:ByteArray} (ht:P.underlying t=some .string) (hx:evE ρ x= .string s)
    (h:∀B W,w.heap.size≤B→Ext w W→W.heap[B]? =some (.stringIter s 0)→K (updO ρ d (.pointer (some ⟨B,0,none⟩))) W):effW P Q d (.range t x) ty K ρ w:=by
  refine effE_ok (v:= .pointer (some ⟨w.heap.size,0,none⟩)) (w':=w.iter s 0) ?_ (h _ _ (Nat.le_refl _) (ext_alloc w _) (heap_alloc_new w _))
  simp only [execOp,effOp,hx,Sem.run_bind,run_range_string w t s ht,Result.andThen_ok,Sem.run_pure]
theorem only_iterAt (w:World) (k:Nat) (s:ByteArray) (pos:Nat):Only k w (w.iterAt k s pos):=
  ⟨rfl,rfl,rfl,by simp [World.iterAt],fun i hi=>by simp [World.iterAt,Array.getElem?_setIfInBounds,Ne.symm hi]⟩
theorem eff_nextS {x:Operand} {B pos:Nat} {s:ByteArray} (hx:evE ρ x= .pointer (some ⟨B,0,none⟩)) (hk:w.heap[B]? =some (.stringIter s pos))
    (h1:pos<s.size→∀W,Only B w W→W.heap[B]? =some (.stringIter s (pos+(Utf8.decode s pos).2))→K (updO ρ d (.tuple #[.bool true, .int .i64 pos, .int .i32 (Utf8.decode s pos).1])) W)
    (h2:¬pos<s.size→K (updO ρ d (.tuple #[.bool false])) w):effW P Q d (.next x true) ty K ρ w:=by
  by_cases hp:pos<s.size
  · refine effE_ok (v:= .tuple #[.bool true, .int .i64 pos, .int .i32 (Utf8.decode s pos).1]) (w':=w.iterAt B s (pos+(Utf8.decode s pos).2)) ?_ (h1 hp _ (only_iterAt _ _ _ _) (Lib.iterAt_heap _ _ _ _ _ hk))
    simp only [execOp,effOp,hx,Sem.run_bind,Lib.run_next_any_at w B s pos _ hk hp,Result.andThen_ok,Sem.run_pure]
  · refine effE_ok (v:= .tuple #[.bool false]) (w':=w) ?_ (h2 hp)
    simp only [execOp,effOp,hx,Sem.run_bind,Lib.run_next_end_at w B s pos _ hk hp,Result.andThen_ok,Sem.run_pure]
theorem eff_eqlT {t t2:TypeId} {x y:Operand} {xs ys:Array Value} {b:Bool} (hx:evE ρ x= .agg xs) (hy:evE ρ y= .agg ys) (hg:P.eqGuardType P.depth t=false) (hr:(Op.equalIn 10000 t (.agg xs) (.agg ys)).run P w= .ok b w)
    (h:K (updO ρ d (.bool b)) w):effW P Q d (.binOp .eql t x y t2) ty K ρ w:=by
  refine effE_ok (v:= .bool b) (w':=w) ?_ h
  simp [execOp,effOp,hx,hy,run_eqGuard_agg w .eql t x y xs ys hg,run_eql_struct,hr]
theorem eff_neqT {t t2:TypeId} {x y:Operand} {xs ys:Array Value} {b:Bool} (hx:evE ρ x= .agg xs) (hy:evE ρ y= .agg ys) (hg:P.eqGuardType P.depth t=false) (hr:(Op.equalIn 10000 t (.agg xs) (.agg ys)).run P w= .ok b w)
    (h:K (updO ρ d (.bool (!b))) w):effW P Q d (.binOp .neq t x y t2) ty K ρ w:=by
  refine effE_ok (v:= .bool (!b)) (w':=w) ?_ h
  simp [execOp,effOp,hx,hy,run_eqGuard_agg w .neq t x y xs ys hg,run_neq_struct,hr]
theorem eff_ixaA {t e:TypeId} {x i:Operand} {n k B o:Nat} {ik:IntKind} {inf:TypeInfo} (ht:P.underlying t=some (.array n e)) (hi:P.info? e=some inf) (h1:inf.size=1) (hx:evE ρ x= .pointer (some ⟨B,o,none⟩)) (hk:evE ρ i= .int ik (k:Int)) (hkn:k<n)
    (h:K (updO ρ d (.pointer (some ⟨B,o+k,none⟩))) w):effW P Q d (.indexAddr t x i) ty K ρ w:=by
  refine effE_ok (v:= .pointer (some ⟨B,o+k,none⟩)) (w':=w) ?_ h
  simp [execOp,effOp,Instr.indexAt,asIntOf,run_underlying ht,hx,hk,hkn,sizeOf,typeInfo,hi,h1,Instr.sureAddr]
end
def recBR (raws:List Nat):Code→Bool
  | .seq a _=>recBR raws a
  | .region id ops d=>recHead ops&& !d&& !raws.contains id
  |_=>false
theorem comp_semSR (cx : Cx) (raws : List Nat) (c0 : Frame) (cs : List Frame) : ∀ (c : Code) (ir : IR), recBR raws c = true → comp cx.P cx.n cx.V raws (swapRec (recV c0.mode) c) = some ir → ∀ (K : Env → World → Prop) (Q : Ks) (ρ : Env) (a : Act) (w : World),
    (Q.df→cx.D≠[])→Agree cx.n cx.V ρ a→dOk cx a→ir.wp cx K Q ρ w→c.wpSIn Fence.wide 0 cx.P (fun e a' cs' w'=>cs'={c0 with mode:=recU c0.mode}::cs∧lift cx K Q e a' w') a (c0::cs) w:=by
  intro c
  induction c with
  | seq x y ihx ihy =>
    intro ir hrb h K Q ρ a w hdf ha hD hw
    simp only [swapRec,comp] at h
    split at h
    · rename_i ix iy hx hy
      cases h
      refine wpSIn_seq ?_
      have h1:=ihx ix hrb hx (fun ρ' w'=>iy.wp cx K Q ρ' w') Q ρ a w hdf ha hD hw
      intro b k hb hro hF hroom
      obtain ⟨e,a',cs',w',hl,⟨hcs,hq⟩,harr⟩:=h1 b k hb hro hF hroom
      refine ⟨e,a',cs',w',hl, ?_,harr⟩
      cases e with
      |normal=>
        obtain ⟨hD',ρ',ha',hk⟩:=hq
        subst hcs
        have h2:=comp_sem cx raws y iy hy K Q ρ' a' w' hdf ha' hD' hk
        refine wpSIn_of_wpIn rfl ((wpIn_wide (n:=0)).2 (wp_mono h2 fun e a w he=>⟨rfl,he⟩))
      |exit i=>exact ⟨hcs,hq⟩
      |goto i=>exact ⟨hcs,hq⟩
      |ret=>exact ⟨hcs,hq⟩
      |panic c=>exact ⟨hcs,hq⟩
      |outgrown=>exact ⟨hcs,hq⟩
    · cases h
  |region id ops draw=>
    intro ir hrb h K Q ρ a w hdf ha hD hw
    simp only [recBR,Bool.and_eq_true,Bool.not_eq_true'] at hrb
    obtain ⟨⟨hrh,hdr⟩,hni⟩:=hrb
    subst hdr
    simp only [swapRec,comp,hni,Bool.false_eq_true,if_false] at h
    split at h
    · rename_i hreg
      have hr:=regionB_spec hreg
      split at h
      · cases h
      · rename_i l hl
        cases h
        refine wpSIn_rec c0 cs hrh ?_
        have h1:=st_sem (P:=cx.P) cx rfl rfl rfl hr (ro:=none) (.inl rfl) Q (lift cx K Q) (fun ρ c a w h1 h2 h3=>⟨h1,ρ,h2,h3⟩) lift_og hdf _ _ l hl K ρ a w ha hD hw
        rw [List.range_eq_range']
        refine wpOps_mono ?_ _ _ _ h1
        intro e a' w' he
        cases e<;>exact he
    · cases h
  |skip=>intro ir hrb;cases hrb
  |cond c x y _ _=>intro ir hrb;cases hrb
  |block id x _=>intro ir hrb;cases hrb
  |loop x _=>intro ir hrb;cases hrb
  |exit id=>intro ir hrb;cases hrb
  |ret=>intro ir hrb;cases hrb
  |rangeFunc f ps asg body _ _=>intro ir hrb;cases hrb
  |scope b _=>intro ir hrb;cases hrb
  |label l=>intro ir hrb;cases hrb
  |goto l=>intro ir hrb;cases hrb
  |refuse s=>intro ir hrb;cases hrb
theorem callsD_recR {P:Program} {f:FuncId} {fn:Func} {V raws:List Nat} {ir ir0:IR} {rs:List RV} {c:Code} {u:FrameMode} (hf:P.funcs[f]? =some fn) (hb:fn.body=some c) (hrec:recBR raws c=true) (hc:comp P fn.ntmps V raws (swapRec (recV u) c)=some ir0)
    (hn:ir0.norm=ir) (hV:readB fn V=true) (hrs:rvsOf P V fn.results.toList=some rs) {args:Array Value} (hsz:args.size≤fn.ntmps) {w:World} {R:Ending→FrameMode→World→Prop}
    (h:ir.wp ⟨P,fn.ntmps,V,[]⟩ (recK rs (recU u) R) (recKs rs (recU u) R) (startEnv V args) w):CallsDIn Fence.wide 0 P f args u w R:=by
  refine callsDIn_of_wpSIn hf hb trivial fun c0 cs hu=> ?_
  subst hn
  rw [IR.norm_wp] at h
  subst hu
  have h1:=comp_semSR ⟨P,fn.ntmps,V,[]⟩ raws c0 cs c ir0 hrec hc _ _ _ _ w (fun h:False=>h.elim) (agree_start hV hsz) (fun _=>rfl) h
  intro b k hb2 hro hF hroom
  obtain ⟨e,a',cs',w',hl,⟨hcs,hq⟩,harr⟩:=h1 b k hb2 hro hF hroom
  refine ⟨e,a',cs',w',hl, ?_,harr⟩
  have hret:∀(a:Act) (w:World),(dOk ⟨P,fn.ntmps,V,[]⟩ a∧∃ρ,Agree fn.ntmps V ρ a∧recK rs (recU c0.mode) R ρ w)→a.defers=[]∧∃u',cs'={c0 with mode:=u'}::cs∧∃v,(results fn a.tmps).run P w= .ok v w∧R (.returned v) u' w:=by
    rintro a w ⟨hD,ρ,ha,hk⟩
    simp only [recK,retK] at hk
    split at hk
    · rename_i vs hvs
      exact ⟨hD rfl,_,hcs,_,results_run ha hrs hvs,hk⟩
    · cases hk
  cases e with
  |normal=>exact hret a' w' hq
  |ret=>exact hret a' w' hq
  |exit i=>obtain ⟨_,_,_,hf⟩:=hq;exact hf.elim
  |goto i=>exact False.elim hq
  |panic ch=>exact ⟨hq.1 rfl,_,hcs,let ⟨_,_,h⟩:=hq.2;h⟩
  |outgrown=>exact ⟨_,(show∀w,R .outgrown (recU c0.mode) w from hq) w'⟩
end Go.Eng
