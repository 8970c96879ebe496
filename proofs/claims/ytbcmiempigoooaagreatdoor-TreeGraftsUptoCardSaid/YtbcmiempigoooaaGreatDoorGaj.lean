/- Lemmas for a claim about layer 2 (tree). No conditions but those they state. -/
import Derived.Test.YtbcmiempigoooaaGreatDoorGai
import Derived.Scope
import Derived.Laws.RangeAny
import Derived.Laws.StructEq
import Derived.Lib.OthersKept
set_option linter.all false
namespace Go.Eng
open Go.RowKit
def qff:Code→Code| .scope c=>c|c=>c
theorem qsp {P:Program} {f:FuncId} {fn:Func} {V g:List Nat} {ir k:IR} {rs:List RV} {c:Code} (m:P.funcs[f]? =some fn) (y:fn.body=some (.scope c)) (s:qY P fn.ntmps V g c=some k)
    (x:k.norm=ir) (u:xu fn V=true) (o:vv P V fn.results.toList=some rs) {args:Array Value} (n:args.size≤fn.ntmps) {w:World} {R:Ending→World→Prop}
    (h:ir.wp ⟨P,fn.ntmps,V,[]⟩ (qC rs R) ⟨fun _ _ _=>False,qC rs R,fun _ c w=>R (.panicked c) w,∀w,R .outgrown w,False,True⟩ (xX V args) w):Calls P f args w R:=by
  refine calls_of_wp m y ?_;subst x;rw [IR.norm_wp] at h;refine wp_scope_straight (wp_mono (qej ⟨P,fn.ntmps,V,[]⟩ g c k s _ _ _ _ w (fun h:False=>h.elim) (qeC u n) (fun _=>rfl) h) ?_);have b:∀(a:Act) (w:World),(jT ⟨P,fn.ntmps,V,[]⟩ a∧∃ρ,Agree fn.ntmps V ρ a∧qC rs R ρ w)→a.defers=[]∧∃v,(results fn a.tmps).run P w= .ok v w∧R (.returned v) w:=by
    rintro a w ⟨t,ρ,z,l⟩;simp only [qC] at l;split at l
    · rename_i vs p;exact ⟨t rfl,_,qcH z o p,l⟩
    · cases l
  intro e a w j;cases e with
  |normal=>exact b a w j
  |ret=>exact b a w j
  |exit i=>obtain ⟨_,_,_,m⟩:=j;exact m
  |goto i=>exact j
  |panic c=>exact ⟨j.1 rfl,let ⟨_,_,h⟩:=j.2;h⟩
  |outgrown=>exact (show∀w,R .outgrown w from j) w
theorem qkz {cx:Cx} {l:Nat} {K:qa→World→Prop} {Q:Ks} {ρ:qa} {w:World} (h:K ρ w):(IR.raw (.label l)).wp cx K Q ρ w:=
  fun _ b a _=>wp_label ⟨a,ρ,b,h⟩
section
variable {P:Program} {Q:Ks} {d:Option Nat} {ty:TypeId} {K:qa→World→Prop} {ρ:qa} {w:World}
theorem qC1 {t:TypeId} {x:Operand} {s:ByteArray} (a:P.underlying t=some .string) (b:qd ρ x= .string s)
    (h:∀B W,w.heap.size≤B→qb w W→W.heap[B]? =some (.stringIter s 0)→K (qm ρ d (.pointer (some ⟨B,0,none⟩))) W):qw P Q d (.range t x) ty K ρ w:=by
  refine ju (v:= .pointer (some ⟨w.heap.size,0,none⟩)) (w':=w.iter s 0) ?_ (h _ _ (Nat.le_refl _) (wE w _) (heap_alloc_new w _));simp only [execOp,qD,b,Sem.run_bind,run_range_string w t s a,Result.andThen_ok,Sem.run_pure]
theorem qxA (w:World) (k:Nat) (s:ByteArray) (pos:Nat):Only k w (w.iterAt k s pos):=
  ⟨rfl,rfl,rfl,by simp [World.iterAt],fun i a=>by simp [World.iterAt,Array.getElem?_setIfInBounds,Ne.symm a]⟩
theorem qC2 {x:Operand} {B pos:Nat} {s:ByteArray} (c:qd ρ x= .pointer (some ⟨B,0,none⟩)) (b:w.heap[B]? =some (.stringIter s pos))
    (e:pos<s.size→∀W,Only B w W→W.heap[B]? =some (.stringIter s (pos+(Utf8.decode s pos).2))→K (qm ρ d (.tuple #[.bool true, .int .i64 pos, .int .i32 (Utf8.decode s pos).1])) W)
    (g:¬pos<s.size→K (qm ρ d (.tuple #[.bool false])) w):qw P Q d (.next x true) ty K ρ w:=by
  by_cases a:pos<s.size
  · refine ju (v:= .tuple #[.bool true, .int .i64 pos, .int .i32 (Utf8.decode s pos).1]) (w':=w.iterAt B s (pos+(Utf8.decode s pos).2)) ?_ (e a _ (qxA _ _ _ _) (Lib.iterAt_heap _ _ _ _ _ b));simp only [execOp,qD,c,Sem.run_bind,Lib.run_next_any_at w B s pos _ b a,Result.andThen_ok,Sem.run_pure]
  · refine ju (v:= .tuple #[.bool false]) (w':=w) ?_ (g a);simp only [execOp,qD,c,Sem.run_bind,Lib.run_next_end_at w B s pos _ b a,Result.andThen_ok,Sem.run_pure]
theorem qC9 {t g:TypeId} {x y:Operand} {xs ys:Array Value} {b:Bool} (i:qd ρ x= .agg xs) (a:qd ρ y= .agg ys) (e:P.eqGuardType P.depth t=false) (c:(Op.equalIn 10000 t (.agg xs) (.agg ys)).run P w= .ok b w)
    (h:K (qm ρ d (.bool b)) w):qw P Q d (.binOp .eql t x y g) ty K ρ w:=by
  refine ju (v:= .bool b) (w':=w) ?_ h;simp [execOp,qD,i,a,run_eqGuard_agg w .eql t x y xs ys e,run_eql_struct,c]
theorem qC3 {t g:TypeId} {x y:Operand} {xs ys:Array Value} {b:Bool} (i:qd ρ x= .agg xs) (a:qd ρ y= .agg ys) (e:P.eqGuardType P.depth t=false) (c:(Op.equalIn 10000 t (.agg xs) (.agg ys)).run P w= .ok b w)
    (h:K (qm ρ d (.bool (!b))) w):qw P Q d (.binOp .neq t x y g) ty K ρ w:=by
  refine ju (v:= .bool (!b)) (w':=w) ?_ h;simp [execOp,qD,i,a,run_eqGuard_agg w .neq t x y xs ys e,run_neq_struct,c]
theorem qec {t e:TypeId} {x i:Operand} {n k B o:Nat} {l:IntKind} {inf:TypeInfo} (g:P.underlying t=some (.array n e)) (j:P.info? e=some inf) (b:inf.size=1) (c:qd ρ x= .pointer (some ⟨B,o,none⟩)) (m:qd ρ i= .int l (k:Int)) (a:k<n)
    (h:K (qm ρ d (.pointer (some ⟨B,o+k,none⟩))) w):qw P Q d (.indexAddr t x i) ty K ρ w:=by
  refine ju (v:= .pointer (some ⟨B,o+k,none⟩)) (w':=w) ?_ h;simp [execOp,qD,Instr.indexAt,asIntOf,run_underlying g,c,m,a,sizeOf,typeInfo,j,b,Instr.sureAddr]
end
def qcL (raws:List Nat):Code→Bool
  | .seq a _=>qcL raws a
  | .region id ops d=>qfC ops&& !d&& !raws.contains id
  |_=>false
theorem qDx (cx : Cx) (m : List Nat) (c0 : Frame) (cs : List Frame) : ∀ (c : Code) (ir : IR), qcL m c = true → qY cx.P cx.n cx.V m (Qp (vO c0.mode) c) = some ir → ∀ (K : qa → World → Prop) (Q : Ks) (ρ : qa) (a : Act) (w : World),
    (Q.df→cx.D≠[])→Agree cx.n cx.V ρ a→jT cx a→ir.wp cx K Q ρ w→c.wpSIn Fence.wide 0 cx.P (fun e A cs' w'=>cs'={c0 with mode:=vZ c0.mode}::cs∧xx cx K Q e A w') a (c0::cs) w:=by
  intro c
  induction c with
  | seq x y C ihy =>
    intro ir g h K Q ρ a w o X I W;simp only [Qp,qY] at h;split at h
    · rename_i ix Y hx hy;cases h;refine wpSIn_seq ?_;have B:=C ix g hx (fun p w'=>Y.wp cx K Q p w') Q ρ a w o X I W;intro b k hb O Z t;obtain ⟨e,A,cs',w',S,⟨j,u⟩,z⟩:=B b k hb O Z t;refine ⟨e,A,cs',w',S, ?_,z⟩;cases e with
      |normal=>
        obtain ⟨L,p,H,hk⟩:=u;subst j;have U:=qej cx m y Y hy K Q p A w' o H L hk;refine wpSIn_of_wpIn rfl ((wpIn_wide (n:=0)).2 (wp_mono U fun e a w R=>⟨rfl,R⟩))
      |exit i=>exact ⟨j,u⟩
      |goto i=>exact ⟨j,u⟩
      |ret=>exact ⟨j,u⟩
      |panic c=>exact ⟨j,u⟩
      |outgrown=>exact ⟨j,u⟩
    · cases h
  |region id ops draw=>
    intro ir g h K Q ρ a w o X I W;simp only [qcL,Bool.and_eq_true,Bool.not_eq_true'] at g;obtain ⟨⟨F,E⟩,J⟩:=g;subst E;simp only [Qp,qY,J,Bool.false_eq_true,if_false] at h;split at h
    · rename_i v;have hr:=qbc v;split at h
      · cases h
      · rename_i l S;cases h;refine qtf c0 cs F ?_;have B:=qcp (P:=cx.P) cx rfl rfl rfl hr (ro:=none) (.inl rfl) Q (xx cx K Q) (fun ρ c a w B U h3=>⟨B,ρ,U,h3⟩) qdf o _ _ l S K ρ a w X I W;rw [List.range_eq_range'];refine qb7 ?_ _ _ _ B;intro e A w' R;cases e<;>exact R
    · cases h
  |skip=>intro ir g;cases g
  |cond c x y _ _=>intro ir g;cases g
  |block id x _=>intro ir g;cases g
  |loop x _=>intro ir g;cases g
  |exit id=>intro ir g;cases g
  |ret=>intro ir g;cases g
  |rangeFunc f ps asg body _ _=>intro ir g;cases g
  |scope b _=>intro ir g;cases g
  |label l=>intro ir g;cases g
  |goto l=>intro ir g;cases g
  |refuse s=>intro ir g;cases g
theorem qss {P:Program} {f:FuncId} {fn:Func} {V g:List Nat} {ir n:IR} {rs:List RV} {c:Code} {u:FrameMode} (y:P.funcs[f]? =some fn) (U:fn.body=some c) (s:qcL g c=true) (H:qY P fn.ntmps V g (Qp (vO u) c)=some n)
    (O:n.norm=ir) (L:xu fn V=true) (C:vv P V fn.results.toList=some rs) {args:Array Value} (z:args.size≤fn.ntmps) {w:World} {R:Ending→FrameMode→World→Prop}
    (h:ir.wp ⟨P,fn.ntmps,V,[]⟩ (yH rs (vZ u) R) (Jk rs (vZ u) R) (xX V args) w):CallsDIn Fence.wide 0 P f args u w R:=by
  refine callsDIn_of_wpSIn y U trivial fun c0 cs I=> ?_;subst O;rw [IR.norm_wp] at h;subst I;have S:=qDx ⟨P,fn.ntmps,V,[]⟩ g c0 cs c n s H _ _ _ _ w (fun h:False=>h.elim) (qeC L z) (fun _=>rfl) h;intro b k x A X l;obtain ⟨e,B,cs',w',W,⟨o,m⟩,p⟩:=S b k x A X l;refine ⟨e,B,cs',w',W, ?_,p⟩;have j:∀(a:Act) (w:World),(jT ⟨P,fn.ntmps,V,[]⟩ a∧∃ρ,Agree fn.ntmps V ρ a∧yH rs (vZ c0.mode) R ρ w)→a.defers=[]∧∃F,cs'={c0 with mode:=F}::cs∧∃v,(results fn a.tmps).run P w= .ok v w∧R (.returned v) F w:=by
    rintro a w ⟨J,ρ,Y,t⟩;simp only [yH,qC] at t;split at t
    · rename_i vs E;exact ⟨J rfl,_,o,_,qcH Y C E,t⟩
    · cases t
  cases e with
  |normal=>exact j B w' m
  |ret=>exact j B w' m
  |exit i=>obtain ⟨_,_,_,y⟩:=m;exact y.elim
  |goto i=>exact False.elim m
  |panic Z=>exact ⟨m.1 rfl,_,o,let ⟨_,_,h⟩:=m.2;h⟩
  |outgrown=>exact ⟨_,(show∀w,R .outgrown (vZ c0.mode) w from m) w'⟩
end Go.Eng
