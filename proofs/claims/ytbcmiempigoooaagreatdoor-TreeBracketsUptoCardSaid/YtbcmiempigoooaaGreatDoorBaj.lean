/- Lemmas for a claim about layer 2 (tree). No conditions but those they state. -/
import Derived.Test.YtbcmiempigoooaaGreatDoorBai
import Derived.Scope
import Derived.Laws.RangeAny
import Derived.Laws.StructEq
import Derived.Lib.OthersKept
set_option linter.all false
namespace Go.Eng
open Go.RowKit
def qfr:Code→Code| .scope c=>c|c=>c
theorem qqm {P:Program} {f:FuncId} {fn:Func} {V g:List Nat} {ir j:IR} {rs:List RV} {c:Code} (q:P.funcs[f]? =some fn) (u:fn.body=some (.scope c)) (s:qN P fn.ntmps V g c=some j)
    (x:j.norm=ir) (t:xG fn V=true) (o:vu P V fn.results.toList=some rs) {args:Array Value} (m:args.size≤fn.ntmps) {w:World} {R:Ending→World→Prop}
    (h:ir.wp ⟨P,fn.ntmps,V,[]⟩ (qz rs R) ⟨fun _ _ _=>False,qz rs R,fun _ c w=>R (.panicked c) w,∀w,R .outgrown w,False,True⟩ (kn V args) w):Calls P f args w R:=by
  refine calls_of_wp q u ?_;subst x;rw [IR.norm_wp] at h;refine wp_scope_straight (wp_mono (qeg ⟨P,fn.ntmps,V,[]⟩ g c j s _ _ _ _ w (fun h:False=>h.elim) (qex t m) (fun _=>rfl) h) ?_);have b:∀(a:Act) (w:World),(jQ ⟨P,fn.ntmps,V,[]⟩ a∧∃ρ,Agree fn.ntmps V ρ a∧qz rs R ρ w)→a.defers=[]∧∃v,(results fn a.tmps).run P w= .ok v w∧R (.returned v) w:=by
    rintro a w ⟨z,ρ,y,l⟩;simp only [qz] at l;split at l
    · rename_i vs n;exact ⟨z rfl,_,qc1 y o n,l⟩
    · cases l
  intro e a w k;cases e with
  |normal=>exact b a w k
  |ret=>exact b a w k
  |exit i=>obtain ⟨_,_,_,q⟩:=k;exact q
  |goto i=>exact k
  |panic c=>exact ⟨k.1 rfl,let ⟨_,_,h⟩:=k.2;h⟩
  |outgrown=>exact (show∀w,R .outgrown w from k) w
theorem qkz {cx:Cx} {l:Nat} {K:qa→World→Prop} {Q:Ks} {ρ:qa} {w:World} (h:K ρ w):(IR.raw (.label l)).wp cx K Q ρ w:=
  fun _ a b _=>wp_label ⟨b,ρ,a,h⟩
section
variable {P:Program} {Q:Ks} {d:Option Nat} {ty:TypeId} {K:qa→World→Prop} {ρ:qa} {w:World}
theorem qzN {t:TypeId} {x:Operand} {s:ByteArray} (a:P.underlying t=some .string) (b:qd ρ x= .string s)
    (h:∀B W,w.heap.size≤B→qc w W→W.heap[B]? =some (.stringIter s 0)→K (qk ρ d (.pointer (some ⟨B,0,none⟩))) W):qm P Q d (.range t x) ty K ρ w:=by
  refine jk (v:= .pointer (some ⟨w.heap.size,0,none⟩)) (w':=w.iter s 0) ?_ (h _ _ (Nat.le_refl _) (wU w _) (heap_alloc_new w _));simp only [execOp,qA,b,Sem.run_bind,run_range_string w t s a,Result.andThen_ok,Sem.run_pure]
theorem qvl (w:World) (k:Nat) (s:ByteArray) (pos:Nat):Only k w (w.iterAt k s pos):=
  ⟨rfl,rfl,rfl,by simp [World.iterAt],fun i a=>by simp [World.iterAt,Array.getElem?_setIfInBounds,Ne.symm a]⟩
theorem qzO {x:Operand} {B pos:Nat} {s:ByteArray} (c:qd ρ x= .pointer (some ⟨B,0,none⟩)) (b:w.heap[B]? =some (.stringIter s pos))
    (g:pos<s.size→∀W,Only B w W→W.heap[B]? =some (.stringIter s (pos+(Utf8.decode s pos).2))→K (qk ρ d (.tuple #[.bool true, .int .i64 pos, .int .i32 (Utf8.decode s pos).1])) W)
    (e:¬pos<s.size→K (qk ρ d (.tuple #[.bool false])) w):qm P Q d (.next x true) ty K ρ w:=by
  by_cases a:pos<s.size
  · refine jk (v:= .tuple #[.bool true, .int .i64 pos, .int .i32 (Utf8.decode s pos).1]) (w':=w.iterAt B s (pos+(Utf8.decode s pos).2)) ?_ (g a _ (qvl _ _ _ _) (Lib.iterAt_heap _ _ _ _ _ b));simp only [execOp,qA,c,Sem.run_bind,Lib.run_next_any_at w B s pos _ b a,Result.andThen_ok,Sem.run_pure]
  · refine jk (v:= .tuple #[.bool false]) (w':=w) ?_ (e a);simp only [execOp,qA,c,Sem.run_bind,Lib.run_next_end_at w B s pos _ b a,Result.andThen_ok,Sem.run_pure]
theorem qzU {t i:TypeId} {x y:Operand} {xs ys:Array Value} {b:Bool} (g:qd ρ x= .agg xs) (e:qd ρ y= .agg ys) (c:P.eqGuardType P.depth t=false) (a:(Op.equalIn 10000 t (.agg xs) (.agg ys)).run P w= .ok b w)
    (h:K (qk ρ d (.bool b)) w):qm P Q d (.binOp .eql t x y i) ty K ρ w:=by
  refine jk (v:= .bool b) (w':=w) ?_ h;simp [execOp,qA,g,e,run_eqGuard_agg w .eql t x y xs ys c,run_eql_struct,a]
theorem qhx {t i:TypeId} {x y:Operand} {xs ys:Array Value} {b:Bool} (g:qd ρ x= .agg xs) (e:qd ρ y= .agg ys) (c:P.eqGuardType P.depth t=false) (a:(Op.equalIn 10000 t (.agg xs) (.agg ys)).run P w= .ok b w)
    (h:K (qk ρ d (.bool (!b))) w):qm P Q d (.binOp .neq t x y i) ty K ρ w:=by
  refine jk (v:= .bool (!b)) (w':=w) ?_ h;simp [execOp,qA,g,e,run_eqGuard_agg w .neq t x y xs ys c,run_neq_struct,a]
theorem y0 {t e:TypeId} {x i:Operand} {n k B o:Nat} {b:IntKind} {inf:TypeInfo} (c:P.underlying t=some (.array n e)) (g:P.info? e=some inf) (m:inf.size=1) (j:qd ρ x= .pointer (some ⟨B,o,none⟩)) (l:qd ρ i= .int b (k:Int)) (a:k<n)
    (h:K (qk ρ d (.pointer (some ⟨B,o+k,none⟩))) w):qm P Q d (.indexAddr t x i) ty K ρ w:=by
  refine jk (v:= .pointer (some ⟨B,o+k,none⟩)) (w':=w) ?_ h;simp [execOp,qA,Instr.indexAt,asIntOf,run_underlying c,j,l,a,sizeOf,typeInfo,g,m,Instr.sureAddr]
end
def qc4 (raws:List Nat):Code→Bool
  | .seq a _=>qc4 raws a
  | .region id ops d=>qfO ops&& !d&& !raws.contains id
  |_=>false
theorem qAz (cx : Cx) (m : List Nat) (c0 : Frame) (cs : List Frame) : ∀ (c : Code) (ir : IR), qc4 m c = true → qN cx.P cx.n cx.V m (Qh (vR c0.mode) c) = some ir → ∀ (K : qa → World → Prop) (Q : Ks) (ρ : qa) (a : Act) (w : World),
    (Q.df→cx.D≠[])→Agree cx.n cx.V ρ a→jQ cx a→ir.wp cx K Q ρ w→c.wpSIn Fence.wide 0 cx.P (fun e A cs' w'=>cs'={c0 with mode:=zD c0.mode}::cs∧xJ cx K Q e A w') a (c0::cs) w:=by
  intro c
  induction c with
  | seq x y C ihy =>
    intro ir g h K Q ρ a w o J O R;simp only [Qh,qN] at h;split at h
    · rename_i ix Y hx hy;cases h;refine wpSIn_seq ?_;have B:=C ix g hx (fun q w'=>Y.wp cx K Q q w') Q ρ a w o J O R;intro b k hb W hF t;obtain ⟨e,A,cs',w',X,⟨j,u⟩,v⟩:=B b k hb W hF t;refine ⟨e,A,cs',w',X, ?_,v⟩;cases e with
      |normal=>
        obtain ⟨H,q,I,hk⟩:=u;subst j;have F:=qeg cx m y Y hy K Q q A w' o I H hk;refine wpSIn_of_wpIn rfl ((wpIn_wide (n:=0)).2 (wp_mono F fun e a w L=>⟨rfl,L⟩))
      |exit i=>exact ⟨j,u⟩
      |goto i=>exact ⟨j,u⟩
      |ret=>exact ⟨j,u⟩
      |panic c=>exact ⟨j,u⟩
      |outgrown=>exact ⟨j,u⟩
    · cases h
  |region id ops draw=>
    intro ir g h K Q ρ a w o J O R;simp only [qc4,Bool.and_eq_true,Bool.not_eq_true'] at g;obtain ⟨⟨S,U⟩,E⟩:=g;subst U;simp only [Qh,qN,E,Bool.false_eq_true,if_false] at h;split at h
    · rename_i z;have Z:=qbx z;split at h
      · cases h
      · rename_i l X;cases h;refine qrq c0 cs S ?_;have B:=qcM (P:=cx.P) cx rfl rfl rfl Z (ro:=none) (.inl rfl) Q (xJ cx K Q) (fun ρ c a w B F h3=>⟨B,ρ,F,h3⟩) qdt o _ _ l X K ρ a w J O R;rw [List.range_eq_range'];refine qcp ?_ _ _ _ B;intro e A w' L;cases e<;>exact L
    · cases h
  |skip=>intro ir g;cases g
  |cond c x y _ _=>intro ir g;cases g
  |block id x _=>intro ir g;cases g
  |loop x _=>intro ir g;cases g
  |exit id=>intro ir g;cases g
  |ret=>intro ir g;cases g
  |rangeFunc f ps asg body _ _=>intro ir g;cases g
  |scope b _=>intro ir g;cases g
  |label l=>intro ir g;cases g
  |goto l=>intro ir g;cases g
  |refuse s=>intro ir g;cases g
theorem qqp {P:Program} {f:FuncId} {fn:Func} {V g:List Nat} {ir l:IR} {rs:List RV} {c:Code} {u:FrameMode} (B:P.funcs[f]? =some fn) (O:fn.body=some c) (s:qc4 g c=true) (I:qN P fn.ntmps V g (Qh (vR u) c)=some l)
    (S:l.norm=ir) (J:xG fn V=true) (z:vu P V fn.results.toList=some rs) {args:Array Value} (x:args.size≤fn.ntmps) {w:World} {R:Ending→FrameMode→World→Prop}
    (h:ir.wp ⟨P,fn.ntmps,V,[]⟩ (yH rs (zD u) R) (qam rs (zD u) R) (kn V args) w):CallsDIn Fence.wide 0 P f args u w R:=by
  refine callsDIn_of_wpSIn B O trivial fun c0 cs L=> ?_;subst S;rw [IR.norm_wp] at h;subst L;have Y:=qAz ⟨P,fn.ntmps,V,[]⟩ g c0 cs c l s I _ _ _ _ w (fun h:False=>h.elim) (qex J x) (fun _=>rfl) h;intro b k A C H n;obtain ⟨e,E,cs',w',X,⟨o,m⟩,q⟩:=Y b k A C H n;refine ⟨e,E,cs',w',X, ?_,q⟩;have j:∀(a:Act) (w:World),(jQ ⟨P,fn.ntmps,V,[]⟩ a∧∃ρ,Agree fn.ntmps V ρ a∧yH rs (zD c0.mode) R ρ w)→a.defers=[]∧∃F,cs'={c0 with mode:=F}::cs∧∃v,(results fn a.tmps).run P w= .ok v w∧R (.returned v) F w:=by
    rintro a w ⟨W,ρ,U,t⟩;simp only [yH,qz] at t;split at t
    · rename_i vs y;exact ⟨W rfl,_,o,_,qc1 U z y,t⟩
    · cases t
  cases e with
  |normal=>exact j E w' m
  |ret=>exact j E w' m
  |exit i=>obtain ⟨_,_,_,B⟩:=m;exact B.elim
  |goto i=>exact False.elim m
  |panic Z=>exact ⟨m.1 rfl,_,o,let ⟨_,_,h⟩:=m.2;h⟩
  |outgrown=>exact ⟨_,(show∀w,R .outgrown (zD c0.mode) w from m) w'⟩
end Go.Eng
