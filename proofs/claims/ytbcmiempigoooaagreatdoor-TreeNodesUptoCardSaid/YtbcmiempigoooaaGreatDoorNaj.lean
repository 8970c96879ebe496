/- Lemmas for a claim about layer 2 (tree). No conditions but those they state. -/
import Derived.Test.YtbcmiempigoooaaGreatDoorNai
import Derived.Scope
import Derived.Laws.RangeAny
import Derived.Laws.StructEq
import Derived.Lib.OthersKept
set_option linter.all false
namespace Go.Eng
open Go.RowKit
def qbl:Code→Code| .scope c=>c|c=>c
theorem qjp {P:Program} {f:FuncId} {fn:Func} {V g:List Nat} {ir j:IR} {rs:List RV} {c:Code} (p:P.funcs[f]? =some fn) (u:fn.body=some (.scope c)) (x:qT P fn.ntmps V g c=some j)
    (y:j.norm=ir) (t:xu fn V=true) (o:vc P V fn.results.toList=some rs) {args:Array Value} (m:args.size≤fn.ntmps) {w:World} {R:Ending→World→Prop}
    (h:ir.wp ⟨P,fn.ntmps,V,[]⟩ (qw rs R) ⟨fun _ _ _=>False,qw rs R,fun _ c w=>R (.panicked c) w,∀w,R .outgrown w,False,True⟩ (x8 V args) w):Calls P f args w R:=by
  refine calls_of_wp p u ?_;subst y;rw [IR.norm_wp] at h;refine wp_scope_straight (wp_mono (qeS ⟨P,fn.ntmps,V,[]⟩ g c j x _ _ _ _ w (fun h:False=>h.elim) (qfe t m) (fun _=>rfl) h) ?_);have b:∀(a:Act) (w:World),(jT ⟨P,fn.ntmps,V,[]⟩ a∧∃ρ,Agree fn.ntmps V ρ a∧qw rs R ρ w)→a.defers=[]∧∃v,(results fn a.tmps).run P w= .ok v w∧R (.returned v) w:=by
    rintro a w ⟨s,ρ,z,l⟩;simp only [qw] at l;split at l
    · rename_i vs n;exact ⟨s rfl,_,qc9 z o n,l⟩
    · cases l
  intro e a w k;cases e with
  |normal=>exact b a w k
  |ret=>exact b a w k
  |exit i=>obtain ⟨_,_,_,p⟩:=k;exact p
  |goto i=>exact k
  |panic c=>exact ⟨k.1 rfl,let ⟨_,_,h⟩:=k.2;h⟩
  |outgrown=>exact (show∀w,R .outgrown w from k) w
theorem qgh {cx:Cx} {l:Nat} {K:qa→World→Prop} {Q:Ks} {ρ:qa} {w:World} (h:K ρ w):(IR.raw (.label l)).wp cx K Q ρ w:=
  fun _ b a _=>wp_label ⟨a,ρ,b,h⟩
section
variable {P:Program} {Q:Ks} {d:Option Nat} {ty:TypeId} {K:qa→World→Prop} {ρ:qa} {w:World}
theorem qE7 {t:TypeId} {x:Operand} {s:ByteArray} (a:P.underlying t=some .string) (b:qd ρ x= .string s)
    (h:∀B W,w.heap.size≤B→qb w W→W.heap[B]? =some (.stringIter s 0)→K (qm ρ d (.pointer (some ⟨B,0,none⟩))) W):qr P Q d (.range t x) ty K ρ w:=by
  refine jf (v:= .pointer (some ⟨w.heap.size,0,none⟩)) (w':=w.iter s 0) ?_ (h _ _ (Nat.le_refl _) (kj w _) (heap_alloc_new w _));simp only [execOp,qA,b,Sem.run_bind,run_range_string w t s a,Result.andThen_ok,Sem.run_pure]
theorem qzk (w:World) (k:Nat) (s:ByteArray) (pos:Nat):Only k w (w.iterAt k s pos):=
  ⟨rfl,rfl,rfl,by simp [World.iterAt],fun i a=>by simp [World.iterAt,Array.getElem?_setIfInBounds,Ne.symm a]⟩
theorem qE8 {x:Operand} {B pos:Nat} {s:ByteArray} (c:qd ρ x= .pointer (some ⟨B,0,none⟩)) (b:w.heap[B]? =some (.stringIter s pos))
    (e:pos<s.size→∀W,Only B w W→W.heap[B]? =some (.stringIter s (pos+(Utf8.decode s pos).2))→K (qm ρ d (.tuple #[.bool true, .int .i64 pos, .int .i32 (Utf8.decode s pos).1])) W)
    (g:¬pos<s.size→K (qm ρ d (.tuple #[.bool false])) w):qr P Q d (.next x true) ty K ρ w:=by
  by_cases a:pos<s.size
  · refine jf (v:= .tuple #[.bool true, .int .i64 pos, .int .i32 (Utf8.decode s pos).1]) (w':=w.iterAt B s (pos+(Utf8.decode s pos).2)) ?_ (e a _ (qzk _ _ _ _) (Lib.iterAt_heap _ _ _ _ _ b));simp only [execOp,qA,c,Sem.run_bind,Lib.run_next_any_at w B s pos _ b a,Result.andThen_ok,Sem.run_pure]
  · refine jf (v:= .tuple #[.bool false]) (w':=w) ?_ (g a);simp only [execOp,qA,c,Sem.run_bind,Lib.run_next_end_at w B s pos _ b a,Result.andThen_ok,Sem.run_pure]
theorem qFe {t g:TypeId} {x y:Operand} {xs ys:Array Value} {b:Bool} (i:qd ρ x= .agg xs) (e:qd ρ y= .agg ys) (a:P.eqGuardType P.depth t=false) (c:(Op.equalIn 10000 t (.agg xs) (.agg ys)).run P w= .ok b w)
    (h:K (qm ρ d (.bool b)) w):qr P Q d (.binOp .eql t x y g) ty K ρ w:=by
  refine jf (v:= .bool b) (w':=w) ?_ h;simp [execOp,qA,i,e,run_eqGuard_agg w .eql t x y xs ys a,run_eql_struct,c]
theorem qE9 {t g:TypeId} {x y:Operand} {xs ys:Array Value} {b:Bool} (i:qd ρ x= .agg xs) (e:qd ρ y= .agg ys) (a:P.eqGuardType P.depth t=false) (c:(Op.equalIn 10000 t (.agg xs) (.agg ys)).run P w= .ok b w)
    (h:K (qm ρ d (.bool (!b))) w):qr P Q d (.binOp .neq t x y g) ty K ρ w:=by
  refine jf (v:= .bool (!b)) (w':=w) ?_ h;simp [execOp,qA,i,e,run_eqGuard_agg w .neq t x y xs ys a,run_neq_struct,c]
theorem qeM {t e:TypeId} {x i:Operand} {n k B o:Nat} {c:IntKind} {inf:TypeInfo} (g:P.underlying t=some (.array n e)) (b:P.info? e=some inf) (j:inf.size=1) (m:qd ρ x= .pointer (some ⟨B,o,none⟩)) (l:qd ρ i= .int c (k:Int)) (a:k<n)
    (h:K (qm ρ d (.pointer (some ⟨B,o+k,none⟩))) w):qr P Q d (.indexAddr t x i) ty K ρ w:=by
  refine jf (v:= .pointer (some ⟨B,o+k,none⟩)) (w':=w) ?_ h;simp [execOp,qA,Instr.indexAt,asIntOf,run_underlying g,m,l,a,sizeOf,typeInfo,b,j,Instr.sureAddr]
end
def qdc (raws:List Nat):Code→Bool
  | .seq a _=>qdc raws a
  | .region id ops d=>qgf ops&& !d&& !raws.contains id
  |_=>false
theorem qFC (cx : Cx) (m : List Nat) (c0 : Frame) (cs : List Frame) : ∀ (c : Code) (ir : IR), qdc m c = true → qT cx.P cx.n cx.V m (Qz (vQ c0.mode) c) = some ir → ∀ (K : qa → World → Prop) (Q : Ks) (ρ : qa) (a : Act) (w : World),
    (Q.df→cx.D≠[])→Agree cx.n cx.V ρ a→jT cx a→ir.wp cx K Q ρ w→c.wpSIn Fence.wide 0 cx.P (fun e v cs' w'=>cs'={c0 with mode:=zD c0.mode}::cs∧xw cx K Q e v w') a (c0::cs) w:=by
  intro c
  induction c with
  | seq x y R ihy =>
    intro ir g h K Q ρ a w o S L I;simp only [Qz,qT] at h;split at h
    · rename_i ix Y hx hy;cases h;refine wpSIn_seq ?_;have z:=R ix g hx (fun p w'=>Y.wp cx K Q p w') Q ρ a w o S L I;intro b k hb F hF t;obtain ⟨e,v,cs',w',J,⟨j,u⟩,A⟩:=z b k hb F hF t;refine ⟨e,v,cs',w',J, ?_,A⟩;cases e with
      |normal=>
        obtain ⟨U,p,W,hk⟩:=u;subst j;have X:=qeS cx m y Y hy K Q p v w' o W U hk;refine wpSIn_of_wpIn rfl ((wpIn_wide (n:=0)).2 (wp_mono X fun e a w H=>⟨rfl,H⟩))
      |exit i=>exact ⟨j,u⟩
      |goto i=>exact ⟨j,u⟩
      |ret=>exact ⟨j,u⟩
      |panic c=>exact ⟨j,u⟩
      |outgrown=>exact ⟨j,u⟩
    · cases h
  |region id ops draw=>
    intro ir g h K Q ρ a w o S L I;simp only [qdc,Bool.and_eq_true,Bool.not_eq_true'] at g;obtain ⟨⟨O,C⟩,E⟩:=g;subst C;simp only [Qz,qT,E,Bool.false_eq_true,if_false] at h;split at h
    · rename_i B;have hr:=qbx B;split at h
      · cases h
      · rename_i l J;cases h;refine quF c0 cs O ?_;have z:=qcU (P:=cx.P) cx rfl rfl rfl hr (ro:=none) (.inl rfl) Q (xw cx K Q) (fun ρ c a w z X Z=>⟨z,ρ,X,Z⟩) qbX o _ _ l J K ρ a w S L I;rw [List.range_eq_range'];refine qcF ?_ _ _ _ z;intro e v w' H;cases e<;>exact H
    · cases h
  |skip=>intro ir g;cases g
  |cond c x y _ _=>intro ir g;cases g
  |block id x _=>intro ir g;cases g
  |loop x _=>intro ir g;cases g
  |exit id=>intro ir g;cases g
  |ret=>intro ir g;cases g
  |rangeFunc f ps asg body _ _=>intro ir g;cases g
  |scope b _=>intro ir g;cases g
  |label l=>intro ir g;cases g
  |goto l=>intro ir g;cases g
  |refuse s=>intro ir g;cases g
theorem qtN {P:Program} {f:FuncId} {fn:Func} {V g:List Nat} {ir l:IR} {rs:List RV} {c:Code} {u:FrameMode} (C:P.funcs[f]? =some fn) (U:fn.body=some c) (s:qdc g c=true) (W:qT P fn.ntmps V g (Qz (vQ u) c)=some l)
    (X:l.norm=ir) (S:xu fn V=true) (B:vc P V fn.results.toList=some rs) {args:Array Value} (x:args.size≤fn.ntmps) {w:World} {R:Ending→FrameMode→World→Prop}
    (h:ir.wp ⟨P,fn.ntmps,V,[]⟩ (yN rs (zD u) R) (qap rs (zD u) R) (x8 V args) w):CallsDIn Fence.wide 0 P f args u w R:=by
  refine callsDIn_of_wpSIn C U trivial fun c0 cs J=> ?_;subst X;rw [IR.norm_wp] at h;subst J;have H:=qFC ⟨P,fn.ntmps,V,[]⟩ g c0 cs c l s W _ _ _ _ w (fun h:False=>h.elim) (qfe S x) (fun _=>rfl) h;intro b k E A I m;obtain ⟨e,y,cs',w',L,⟨p,n⟩,o⟩:=H b k E A I m;refine ⟨e,y,cs',w',L, ?_,o⟩;have j:∀(a:Act) (w:World),(jT ⟨P,fn.ntmps,V,[]⟩ a∧∃ρ,Agree fn.ntmps V ρ a∧yN rs (zD c0.mode) R ρ w)→a.defers=[]∧∃F,cs'={c0 with mode:=F}::cs∧∃v,(results fn a.tmps).run P w= .ok v w∧R (.returned v) F w:=by
    rintro a w ⟨O,ρ,Y,t⟩;simp only [yN,qw] at t;split at t
    · rename_i vs z;exact ⟨O rfl,_,p,_,qc9 Y B z,t⟩
    · cases t
  cases e with
  |normal=>exact j y w' n
  |ret=>exact j y w' n
  |exit i=>obtain ⟨_,_,_,C⟩:=n;exact C.elim
  |goto i=>exact False.elim n
  |panic Z=>exact ⟨n.1 rfl,_,p,let ⟨_,_,h⟩:=n.2;h⟩
  |outgrown=>exact ⟨_,(show∀w,R .outgrown (zD c0.mode) w from n) w'⟩
end Go.Eng
