/- Lemmas for a claim about layer 2 (tree). No conditions but those they state. -/
import Derived.Test.YtbcmiempigoooaaGreatDoorEai
import Derived.Scope
import Derived.Laws.RangeAny
import Derived.Laws.StructEq
import Derived.Lib.OthersKept
set_option linter.all false
namespace Go.Eng
open Go.RowKit
def qig:Code->Code| .scope c=>c|c=>c
theorem qwY {P:Program} {f:FuncId} {fn:Func} {V b:List Nat} {ir k:IR} {rs:List RV} {c:Code} (o:P.funcs[f]? =some fn) (x:fn.body=some (.scope c)) (y:jo P fn.ntmps V b c=some k)
    (t:k.norm=ir) (z:kU fn V=true) (n:zX P V fn.results.toList=some rs) {args:Array Value} (p:args.size<=fn.ntmps) {w:World} {R:Ending->World->Prop}
    (h:ir.wp ⟨P,fn.ntmps,V,[]⟩ (qB rs R) ⟨fun _ _ _=>False,qB rs R,fun _ c w=>R (.panicked c) w,∀w,R .outgrown w,False,True⟩ (wH V args) w):Calls P f args w R:=by
  refine calls_of_wp o x ?_;subst t;rw [IR.norm_wp] at h;refine wp_scope_straight (wp_mono (qgT ⟨P,fn.ntmps,V,[]⟩ b c k y _ _ _ _ w (fun h:False=>h.elim) (qhc z p) (fun _=>rfl) h) ?_);have g:∀(a:Act) (w:World),(vG ⟨P,fn.ntmps,V,[]⟩ a/\∃ρ,Agree fn.ntmps V ρ a/\qB rs R ρ w)->a.defers=[]/\∃v,(results fn a.tmps).run P w=.ok v w/\R (.returned v) w:=by
    rintro a w ⟨u,ρ,s,l⟩;simp only [qB] at l;split at l
    · rename_i vs m;exact ⟨u rfl,_,qfa s n m,l⟩
    · cases l
  intro e a w j;cases e with
  |normal=>exact g a w j
  |ret=>exact g a w j
  |exit i=>obtain ⟨_,_,_,o⟩:=j;exact o
  |goto i=>exact j
  |panic c=>exact ⟨j.1 rfl,let ⟨_,_,h⟩:=j.2;h⟩
  |outgrown=>exact (show∀w,R .outgrown w from j) w
def qox {cx:Cx} {l:Nat} {K:qa->World->Prop} {Q:Ks} {ρ:qa} {w:World} (h:K ρ w):(IR.raw (.label l)).wp cx K Q ρ w:=
  fun _ b a _=>wp_label ⟨a,ρ,b,h⟩
section
variable {P:Program} {Q:Ks} {d:Option Nat} {ty:TypeId} {K:qa->World->Prop} {ρ:qa} {w:World}
theorem qI4 {t:TypeId} {x:Operand} {s:ByteArray} (a:P.underlying t=some .string) (b:qe ρ x=.string s)
    (h:∀B W,w.heap.size<=B->qc w W->W.heap[B]? =some (.stringIter s 0)->K (qn ρ d (.pointer (some ⟨B,0,none⟩))) W):qx P Q d (.range t x) ty K ρ w:=by
  refine jQ (v:=.pointer (some ⟨w.heap.size,0,none⟩)) (w':=w.iter s 0) ?_ (h _ _ (j1 _) (QD w _) (heap_alloc_new w _));simp only [execOp,qN,b,Sem.run_bind,run_range_string w t s a,Result.andThen_ok,Sem.run_pure]
theorem qC7 (w:World) (k:Nat) (s:ByteArray) (pos:Nat):Only k w (w.iterAt k s pos):=
  ⟨rfl,rfl,rfl,by simp [World.iterAt],fun i a=>by simp [World.iterAt,Array.getElem?_setIfInBounds,Ne.symm a]⟩
theorem qI5 {x:Operand} {B pos:Nat} {s:ByteArray} (c:qe ρ x=.pointer (some ⟨B,0,none⟩)) (b:w.heap[B]? =some (.stringIter s pos))
    (e:pos<s.size->∀W,Only B w W->W.heap[B]? =some (.stringIter s (pos+(Utf8.decode s pos).2))->K (qn ρ d (.tuple #[.bool true,.int .i64 pos,.int .i32 (Utf8.decode s pos).1])) W)
    (g:¬pos<s.size->K (qn ρ d (.tuple #[.bool false])) w):qx P Q d (.next x true) ty K ρ w:=by
  by_cases a:pos<s.size
  · refine jQ (v:=.tuple #[.bool true,.int .i64 pos,.int .i32 (Utf8.decode s pos).1]) (w':=w.iterAt B s (pos+(Utf8.decode s pos).2)) ?_ (e a _ (qC7 _ _ _ _) (Lib.iterAt_heap _ _ _ _ _ b));simp only [execOp,qN,c,Sem.run_bind,Lib.run_next_any_at w B s pos _ b a,Result.andThen_ok,Sem.run_pure]
  · refine jQ (v:=.tuple #[.bool false]) (w':=w) ?_ (g a);simp only [execOp,qN,c,Sem.run_bind,Lib.run_next_end_at w B s pos _ b a,Result.andThen_ok,Sem.run_pure]
theorem qwr {t c:TypeId} {x y:Operand} {xs ys:Array Value} {b:Bool} (g:qe ρ x=.agg xs) (i:qe ρ y=.agg ys) (a:P.eqGuardType P.depth t=false) (e:(Op.equalIn 10000 t (.agg xs) (.agg ys)).run P w=.ok b w)
    (h:K (qn ρ d (.bool b)) w):qx P Q d (.binOp .eql t x y c) ty K ρ w:=by
  refine jQ (v:=.bool b) (w':=w) ?_ h;simp [execOp,qN,g,i,run_eqGuard_agg w .eql t x y xs ys a,run_eql_struct,e]
theorem qI6 {t c:TypeId} {x y:Operand} {xs ys:Array Value} {b:Bool} (g:qe ρ x=.agg xs) (i:qe ρ y=.agg ys) (a:P.eqGuardType P.depth t=false) (e:(Op.equalIn 10000 t (.agg xs) (.agg ys)).run P w=.ok b w)
    (h:K (qn ρ d (.bool (!b))) w):qx P Q d (.binOp .neq t x y c) ty K ρ w:=by
  refine jQ (v:=.bool (!b)) (w':=w) ?_ h;simp [execOp,qN,g,i,run_eqGuard_agg w .neq t x y xs ys a,run_neq_struct,e]
theorem qgK {t e:TypeId} {x i:Operand} {n k B o:Nat} {b:IntKind} {inf:TypeInfo} (l:P.underlying t=some (.array n e)) (c:P.info? e=some inf) (g:inf.size=1) (m:qe ρ x=.pointer (some ⟨B,o,none⟩)) (j:qe ρ i=.int b (k:Int)) (a:k<n)
    (h:K (qn ρ d (.pointer (some ⟨B,o+k,none⟩))) w):qx P Q d (.indexAddr t x i) ty K ρ w:=by
  refine jQ (v:=.pointer (some ⟨B,o+k,none⟩)) (w':=w) ?_ h;simp [execOp,qN,Instr.indexAt,asIntOf,run_underlying l,m,j,a,sizeOf,typeInfo,c,g,Instr.sureAddr]
end
def qfd (raws:List Nat):Code->Bool
  | .seq a _=>qfd raws a
  | .region id ops d=>qiI ops&& !d&& !raws.contains id
  |_=>false
def qJD (cx : Cx) (m : List Nat) (c0 : Frame) (cs : List Frame) : ∀ (c : Code) (ir : IR), qfd m c = true -> jo cx.P cx.n cx.V m (qa3 (xC c0.mode) c) = some ir -> ∀ (K : qa -> World -> Prop) (Q : Ks) (ρ : qa) (a : Act) (w : World),
    (Q.df->cx.D≠[])->Agree cx.n cx.V ρ a->vG cx a->ir.wp cx K Q ρ w->c.wpSIn Fence.wide 0 cx.P (fun e B cs' w'=>cs'={c0 with mode:=xN c0.mode}::cs/\kV cx K Q e B w') a (c0::cs) w:=by
  intro c
  induction c with
  | seq x y R ihy =>
    intro ir g h K Q ρ a w o F J C;simp only [qa3,jo] at h;split at h
    · rename_i ix Y hx hy;cases h;refine wpSIn_seq ?_;have A:=R ix g hx (fun p w'=>Y.wp cx K Q p w') Q ρ a w o F J C;intro b k hb S Z t;obtain ⟨e,B,cs',w',E,⟨j,u⟩,z⟩:=A b k hb S Z t;refine ⟨e,B,cs',w',E, ?_,z⟩;cases e with
      |normal=>
        obtain ⟨L,p,X,hk⟩:=u;subst j;have I:=qgT cx m y Y hy K Q p B w' o X L hk;refine wpSIn_of_wpIn rfl ((wpIn_wide (n:=0)).2 (wp_mono I fun e a w O=>⟨rfl,O⟩))
      |exit i=>exact ⟨j,u⟩
      |goto i=>exact ⟨j,u⟩
      |ret=>exact ⟨j,u⟩
      |panic c=>exact ⟨j,u⟩
      |outgrown=>exact ⟨j,u⟩
    · cases h
  |region id ops draw=>
    intro ir g h K Q ρ a w o F J C;simp only [qfd,j0,uE] at g;obtain ⟨⟨U,H⟩,W⟩:=g;subst H;simp only [qa3,jo,W,uf,km] at h;split at h
    · rename_i v;have hr:=qdn v;split at h
      · cases h
      · rename_i l E;cases h;refine qyc c0 cs U ?_;have A:=qeQ (P:=cx.P) cx rfl rfl rfl hr (ro:=none) (.inl rfl) Q (kV cx K Q) (fun ρ c a w A I h3=>⟨A,ρ,I,h3⟩) qfF o _ _ l E K ρ a w F J C;rw [Vk];refine qeq ?_ _ _ _ A;intro e B w' O;cases e<;>exact O
    · cases h
  |skip=>intro ir g;cases g
  |cond c x y _ _=>intro ir g;cases g
  |block id x _=>intro ir g;cases g
  |loop x _=>intro ir g;cases g
  |exit id=>intro ir g;cases g
  |ret=>intro ir g;cases g
  |rangeFunc f ps asg body _ _=>intro ir g;cases g
  |scope b _=>intro ir g;cases g
  |label l=>intro ir g;cases g
  |goto l=>intro ir g;cases g
  |refuse s=>intro ir g;cases g
theorem qw1 {P:Program} {f:FuncId} {fn:Func} {V g:List Nat} {ir m:IR} {rs:List RV} {c:Code} {u:FrameMode} (z:P.funcs[f]? =some fn) (S:fn.body=some c) (p:qfd g c=true) (W:jo P fn.ntmps V g (qa3 (xC u) c)=some m)
    (L:m.norm=ir) (Y:kU fn V=true) (y:zX P V fn.results.toList=some rs) {args:Array Value} (A:args.size<=fn.ntmps) {w:World} {R:Ending->FrameMode->World->Prop}
    (h:ir.wp ⟨P,fn.ntmps,V,[]⟩ (qan rs (xN u) R) (qb7 rs (xN u) R) (wH V args) w):CallsDIn Fence.wide 0 P f args u w R:=by
  refine callsDIn_of_wpSIn z S trivial fun c0 cs U=>?_;subst L;rw [IR.norm_wp] at h;subst U;have X:=qJD ⟨P,fn.ntmps,V,[]⟩ g c0 cs c m p W _ _ _ _ w (fun h:False=>h.elim) (qhc Y A) (fun _=>rfl) h;intro b k C B I l;obtain ⟨e,E,cs',w',H,⟨o,n⟩,s⟩:=X b k C B I l;refine ⟨e,E,cs',w',H, ?_,s⟩;have j:∀(a:Act) (w:World),(vG ⟨P,fn.ntmps,V,[]⟩ a/\∃ρ,Agree fn.ntmps V ρ a/\qan rs (xN c0.mode) R ρ w)->a.defers=[]/\∃F,cs'={c0 with mode:=F}::cs/\∃v,(results fn a.tmps).run P w=.ok v w/\R (.returned v) F w:=by
    rintro a w ⟨O,ρ,J,t⟩;simp only [qan,qB] at t;split at t
    · rename_i vs x;exact ⟨O rfl,_,o,_,qfa J y x,t⟩
    · cases t
  cases e with
  |normal=>exact j E w' n
  |ret=>exact j E w' n
  |exit i=>obtain ⟨_,_,_,z⟩:=n;exact z.elim
  |goto i=>exact False.elim n
  |panic Z=>exact ⟨n.1 rfl,_,o,let ⟨_,_,h⟩:=n.2;h⟩
  |outgrown=>exact ⟨_,(show∀w,R .outgrown (xN c0.mode) w from n) w'⟩
end Go.Eng
