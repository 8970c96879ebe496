/- Lemmas for a claim about layer 2 (tree). No conditions but those they state. -/
import Derived.Test.YtbcmiempigoooaaGreatDoorVai
import Derived.Scope
import Derived.Laws.RangeAny
import Derived.Laws.StructEq
import Derived.Lib.OthersKept
set_option linter.all false
namespace Go.Eng
open Go.RowKit
def qhx:Code->Code| .scope c=>c|c=>c
theorem qv6 {P:Program} {f:FuncId} {fn:Func} {V b:List Nat} {ir j:IR} {rs:List RV} {c:Code} (n:P.funcs[f]? =some fn) (q:fn.body=some (.scope c)) (t:jk P fn.ntmps V b c=some j)
    (y:j.norm=ir) (s:kn fn V=true) (m:zi P V fn.results.toList=some rs) {args:Array AB} (o:args.size<=fn.ntmps) {w:AA} {R:Ending->AA->Prop}
    (h:ir.wp ⟨P,fn.ntmps,V,[]⟩ (qz rs R) ⟨fun _ _ _=>False,qz rs R,fun _ c w=>R (.panicked c) w,∀w,R .outgrown w,False,True⟩ (wk V args) w):Calls P f args w R:=by
  refine calls_of_wp n q ?_;subst y;rw [IR.norm_wp] at h;refine wp_scope_straight (wp_mono (qgi ⟨P,fn.ntmps,V,[]⟩ b c j t _ _ _ _ w (fun h:False=>h.elim) (qgC s o) (fun _=>rfl) h) ?_);have g:∀(a:Act) (w:AA),(vy ⟨P,fn.ntmps,V,[]⟩ a/\∃ρ,Agree fn.ntmps V ρ a/\qz rs R ρ w)->a.defers=[]/\∃v,(results fn a.tmps).run P w=.ok v w/\R (.returned v) w:=by
    rintro a w ⟨x,ρ,u,l⟩;simp only [qz] at l;split at l
    · rename_i vs p;exact ⟨x rfl,_,qeM u m p,l⟩
    · cases l
  intro e a w k;cases e with
  |normal=>exact g a w k
  |ret=>exact g a w k
  |exit i=>obtain ⟨_,_,_,n⟩:=k;exact n
  |goto i=>exact k
  |panic c=>exact ⟨k.1 rfl,let ⟨_,_,h⟩:=k.2;h⟩
  |outgrown=>exact (show∀w,R .outgrown w from k) w
def qnA {cx:Cx} {l:Nat} {K:qa->AA->Prop} {Q:Ks} {ρ:qa} {w:AA} (h:K ρ w):(IR.raw (.label l)).wp cx K Q ρ w:=
  fun _ a b _=>wp_label ⟨b,ρ,a,h⟩
section
variable {P:Program} {Q:Ks} {d:Option Nat} {ty:TypeId} {K:qa->AA->Prop} {ρ:qa} {w:AA}
theorem qIc {t:TypeId} {x:Operand} {s:ByteArray} (a:P.underlying t=some .string) (b:qd ρ x=.string s)
    (h:∀B W,w.heap.size<=B->qc w W->W.heap[B]? =some (.stringIter s 0)->K (qp ρ d (.pointer (some ⟨B,0,none⟩))) W):qB P Q d (.range t x) ty K ρ w:=by
  refine jN (v:=.pointer (some ⟨w.heap.size,0,none⟩)) (w':=w.iter s 0) ?_ (h _ _ (kh _) (yK w _) (heap_alloc_new w _));simp only [execOp,qR,b,Sem.run_bind,run_range_string w t s a,Result.andThen_ok,Sem.run_pure]
theorem qCp (w:AA) (k:Nat) (s:ByteArray) (pos:Nat):Only k w (w.iterAt k s pos):=
  ⟨rfl,rfl,rfl,by simp [World.iterAt],fun i a=>by simp [World.iterAt,Array.getElem?_setIfInBounds,ub a]⟩
theorem qId {x:Operand} {B pos:Nat} {s:ByteArray} (c:qd ρ x=.pointer (some ⟨B,0,none⟩)) (b:w.heap[B]? =some (.stringIter s pos))
    (g:pos<s.size->∀W,Only B w W->W.heap[B]? =some (.stringIter s (pos+(Utf8.decode s pos).2))->K (qp ρ d (.tuple #[.bool true,.int .i64 pos,.int .i32 (Utf8.decode s pos).1])) W)
    (e:¬pos<s.size->K (qp ρ d (.tuple #[.bool false])) w):qB P Q d (.next x true) ty K ρ w:=by
  by_cases a:pos<s.size
  · refine jN (v:=.tuple #[.bool true,.int .i64 pos,.int .i32 (Utf8.decode s pos).1]) (w':=w.iterAt B s (pos+(Utf8.decode s pos).2)) ?_ (g a _ (qCp _ _ _ _) (Lib.iterAt_heap _ _ _ _ _ b));simp only [execOp,qR,c,Sem.run_bind,Lib.run_next_any_at w B s pos _ b a,Result.andThen_ok,Sem.run_pure]
  · refine jN (v:=.tuple #[.bool false]) (w':=w) ?_ (e a);simp only [execOp,qR,c,Sem.run_bind,Lib.run_next_end_at w B s pos _ b a,Result.andThen_ok,Sem.run_pure]
theorem qIj {t a:TypeId} {x y:Operand} {xs ys:Array AB} {b:Bool} (i:qd ρ x=.agg xs) (e:qd ρ y=.agg ys) (g:P.eqGuardType P.depth t=false) (c:(Op.equalIn 10000 t (.agg xs) (.agg ys)).run P w=.ok b w)
    (h:K (qp ρ d (.bool b)) w):qB P Q d (.binOp .eql t x y a) ty K ρ w:=by
  refine jN (v:=.bool b) (w':=w) ?_ h;simp [execOp,qR,i,e,run_eqGuard_agg w .eql t x y xs ys g,run_eql_struct,c]
theorem qvC {t a:TypeId} {x y:Operand} {xs ys:Array AB} {b:Bool} (i:qd ρ x=.agg xs) (e:qd ρ y=.agg ys) (g:P.eqGuardType P.depth t=false) (c:(Op.equalIn 10000 t (.agg xs) (.agg ys)).run P w=.ok b w)
    (h:K (qp ρ d (.bool (!b))) w):qB P Q d (.binOp .neq t x y a) ty K ρ w:=by
  refine jN (v:=.bool (!b)) (w':=w) ?_ h;simp [execOp,qR,i,e,run_eqGuard_agg w .neq t x y xs ys g,run_neq_struct,c]
theorem qgb {t e:TypeId} {x i:Operand} {n k B o:Nat} {b:IntKind} {inf:TypeInfo} (c:P.underlying t=some (.array n e)) (g:P.info? e=some inf) (j:inf.size=1) (l:qd ρ x=.pointer (some ⟨B,o,none⟩)) (m:qd ρ i=.int b (k:Int)) (a:k<n)
    (h:K (qp ρ d (.pointer (some ⟨B,o+k,none⟩))) w):qB P Q d (.indexAddr t x i) ty K ρ w:=by
  refine jN (v:=.pointer (some ⟨B,o+k,none⟩)) (w':=w) ?_ h;simp [execOp,qR,Instr.indexAt,asIntOf,run_underlying c,l,m,a,sizeOf,typeInfo,g,j,Instr.sureAddr]
end
def qeP (raws:List Nat):Code->Bool
  | .seq a _=>qeP raws a
  | .region id ops d=>qhV ops&& !d&& !raws.contains id
  |_=>false
def qIF (cx : Cx) (m : List Nat) (c0 : Frame) (cs : List Frame) : ∀ (c : Code) (ir : IR), qeP m c = true -> jk cx.P cx.n cx.V m (qa8 (xd c0.mode) c) = some ir -> ∀ (K : qa -> AA -> Prop) (Q : Ks) (ρ : qa) (a : Act) (w : AA),
    (Q.df->cx.D≠[])->Agree cx.n cx.V ρ a->vy cx a->ir.wp cx K Q ρ w->c.wpSIn Fence.wide 0 cx.P (fun e z cs' w'=>cs'={c0 with mode:=xp c0.mode}::cs/\ku cx K Q e z w') a (c0::cs) w:=by
  intro c
  induction c with
  | seq x y B ihy =>
    intro ir g h K Q ρ a w o I R U;simp only [qa8,jk] at h;split at h
    · rename_i ix X Z hy;cases h;refine wpSIn_seq ?_;have A:=B ix g Z (fun q w'=>X.wp cx K Q q w') Q ρ a w o I R U;intro b k hb C Y p;obtain ⟨e,z,cs',w',F,⟨j,t⟩,u⟩:=A b k hb C Y p;refine ⟨e,z,cs',w',F, ?_,u⟩;cases e with
      |normal=>
        obtain ⟨W,q,E,hk⟩:=t;subst j;have J:=qgi cx m y X hy K Q q z w' o E W hk;refine wpSIn_of_wpIn rfl ((wpIn_wide (n:=0)).2 (wp_mono J fun e a w S=>⟨rfl,S⟩))
      |exit i=>exact ⟨j,t⟩
      |goto i=>exact ⟨j,t⟩
      |ret=>exact ⟨j,t⟩
      |panic c=>exact ⟨j,t⟩
      |outgrown=>exact ⟨j,t⟩
    · cases h
  |region id ops draw=>
    intro ir g h K Q ρ a w o I R U;simp only [qeP,km,ux] at g;obtain ⟨⟨H,L⟩,O⟩:=g;subst L;simp only [qa8,jk,O,uk,ud] at h;split at h
    · rename_i v;have hr:=qdk v;split at h
      · cases h
      · rename_i l F;cases h;refine qxj c0 cs H ?_;have A:=qez (P:=cx.P) cx rfl rfl rfl hr (ro:=none) (.inl rfl) Q (ku cx K Q) (fun ρ c a w A J h3=>⟨A,ρ,J,h3⟩) qfg o _ _ l F K ρ a w I R U;rw [JP];refine qeh ?_ _ _ _ A;intro e z w' S;cases e<;>exact S
    · cases h
  |skip=>intro ir g;cases g
  |cond c x y _ _=>intro ir g;cases g
  |block id x _=>intro ir g;cases g
  |loop x _=>intro ir g;cases g
  |exit id=>intro ir g;cases g
  |ret=>intro ir g;cases g
  |rangeFunc f ps asg body _ _=>intro ir g;cases g
  |scope b _=>intro ir g;cases g
  |label l=>intro ir g;cases g
  |goto l=>intro ir g;cases g
  |refuse s=>intro ir g;cases g
theorem qv9 {P:Program} {f:FuncId} {fn:Func} {V g:List Nat} {ir m:IR} {rs:List RV} {c:Code} {u:FrameMode} (y:P.funcs[f]? =some fn) (I:fn.body=some c) (o:qeP g c=true) (L:jk P fn.ntmps V g (qa8 (xd u) c)=some m)
    (W:m.norm=ir) (J:kn fn V=true) (t:zi P V fn.results.toList=some rs) {args:Array AB} (z:args.size<=fn.ntmps) {w:AA} {R:Ending->FrameMode->AA->Prop}
    (h:ir.wp ⟨P,fn.ntmps,V,[]⟩ (qaz rs (xp u) R) (qb4 rs (xp u) R) (wk V args) w):CallsDIn Fence.wide 0 P f args u w R:=by
  refine callsDIn_of_wpSIn y I trivial fun c0 cs S=>?_;subst W;rw [IR.norm_wp] at h;subst S;have X:=qIF ⟨P,fn.ntmps,V,[]⟩ g c0 cs c m o L _ _ _ _ w (fun h:False=>h.elim) (qgC J z) (fun _=>rfl) h;intro b k C x F l;obtain ⟨e,A,cs',w',H,⟨q,n⟩,p⟩:=X b k C x F l;refine ⟨e,A,cs',w',H, ?_,p⟩;have j:∀(a:Act) (w:AA),(vy ⟨P,fn.ntmps,V,[]⟩ a/\∃ρ,Agree fn.ntmps V ρ a/\qaz rs (xp c0.mode) R ρ w)->a.defers=[]/\∃E,cs'={c0 with mode:=E}::cs/\∃v,(results fn a.tmps).run P w=.ok v w/\R (.returned v) E w:=by
    rintro a w ⟨U,ρ,O,s⟩;simp only [qaz,qz] at s;split at s
    · rename_i vs B;exact ⟨U rfl,_,q,_,qeM O t B,s⟩
    · cases s
  cases e with
  |normal=>exact j A w' n
  |ret=>exact j A w' n
  |exit i=>obtain ⟨_,_,_,y⟩:=n;exact y.elim
  |goto i=>exact False.elim n
  |panic Y=>exact ⟨n.1 rfl,_,q,let ⟨_,_,h⟩:=n.2;h⟩
  |outgrown=>exact ⟨_,(show∀w,R .outgrown (xp c0.mode) w from n) w'⟩
end Go.Eng
