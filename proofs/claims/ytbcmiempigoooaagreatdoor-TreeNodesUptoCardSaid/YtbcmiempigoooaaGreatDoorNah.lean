/- Lemmas for a claim about layer 2 (tree). No conditions but those they state. -/
import Derived.Test.YtbcmiempigoooaaGreatDoorNag
import Derived.Maps.RangeRun
set_option linter.all false
namespace Go.Eng
open Go.MapKept Go.RowKit
def jx (ps:List (ByteArray×Value)) (k:ByteArray):Option Value:=(ps.find? fun p=>decide (p.1=k)).map (·.2)
def jB:List (ByteArray×Value)→ByteArray→Value→List (ByteArray×Value)
  |[],k,v=>[(k,v)]
  |p::l,k,v=>if p.1=k then (k,v)::l else p::jB l k v
@[simp] theorem qzS (k:ByteArray):jx [] k=none:=rfl
theorem zH (p:ByteArray×Value) (l:List (ByteArray×Value)) (k:ByteArray):jx (p::l) k=if p.1=k then some p.2 else jx l k:=by
  unfold jx;rw [List.find?_cons];by_cases h:p.1=k<;>simp [h]
theorem qax (k a : ByteArray) (v : Value) : ∀ l : List (ByteArray × Value), jx (jB l k v) a = if k = a then some v else jx l a
  |[]=>by simp [jB,zH]
  | p :: l => by
    unfold jB;split
    · rename_i h;rw [zH,zH];by_cases c:k=a
      · simp [c]
      · simp [c,h]
    · rename_i h;rw [zH,zH,qax k a v l];by_cases b:p.1=a
      · have:¬k=a:=fun e=>h (b.trans e.symm);simp [b,this]
      · simp [b]
theorem qdC {k:ByteArray}:∀{l:List (ByteArray×Value)},k∈l.map (·.1)↔(jx l k).isSome=true
  |[]=>by simp
  | p :: l => by
    rw [zH,List.map_cons,List.mem_cons,qdC (l:=l)];by_cases h:p.1=k
    · simp [h]
    · have:¬k=p.1:=fun e=>h e.symm;simp [h,this]
structure MapB (w:World) (B:Nat) (ps:List (ByteArray×Value)):Prop where
  ex:∃es clock,w.heap[B]? =some (.map es clock)∧Stamped es clock∧es.toList.map (fun e=>(e.key,e.val))=ps.map fun p=>(Value.string p.1,p.2)
theorem MapB.lt {w:World} {B:Nat} {ps:List (ByteArray×Value)} (h:MapB w B ps):B<w.heap.size:=by
  obtain ⟨es,a,b,_⟩:=h.ex;exact (Array.getElem?_eq_some_iff.1 b).1
theorem MapB.ext {w w':World} {B:Nat} {ps:List (ByteArray×Value)} (h:MapB w B ps) (c:qb w w'):MapB w' B ps:=by
  obtain ⟨es,a,b,r⟩:=h.ex;exact ⟨es,a,(c.block B h.lt).trans b,r⟩
theorem MapB.block {w w':World} {B:Nat} {ps:List (ByteArray×Value)} (h:MapB w B ps) (c:w'.heap[B]? =w.heap[B]?):MapB w' B ps:=by
  obtain ⟨es,a,b,r⟩:=h.ex;exact ⟨es,a,c.trans b,r⟩
theorem Jd {es:List MapEntry} {ps:List (ByteArray×Value)} (h:es.map (fun e=>(e.key,e.val))=ps.map fun p=>(Value.string p.1,p.2)):∀e∈es,IsKey .string e.key:=by
  intro e a;have:(e.key,e.val)∈ps.map fun p=>(Value.string p.1,p.2):=by rw [←h];exact List.mem_map.2 ⟨e,a,rfl⟩
  obtain ⟨p,_,c⟩:=List.mem_map.1 this;cases b:e.key<;>simp_all [IsKey]
theorem Jc {k:ByteArray}:∀{es:List MapEntry} {ps:List (ByteArray×Value)},es.map (fun e=>(e.key,e.val))=ps.map (fun p=>(Value.string p.1,p.2))→(∀e∈es,e.key≠ .string k)→
    jx ps k=none∧∀v,jB ps k v=ps++[(k,v)]
  |[],[],_,_=>⟨rfl,fun _=>rfl⟩
  |e::es,p::ps,h,b=>by
    simp only [List.map_cons,List.cons.injEq,Prod.mk.injEq] at h;obtain ⟨⟨i,o⟩,c⟩:=h;obtain ⟨m,j⟩:=Jc c fun x n=>b x (by simp [n]);have a:¬p.1=k:=fun g=>b e (by simp) (by rw [i,g]);exact ⟨by rw [zH,if_neg a,m],fun v=>by rw [jB,if_neg a,j];rfl⟩
  |[],_::_,h,_=>by simp at h
  |_::_,[],h,_=>by simp at h
theorem Jb {k:ByteArray} {v:Value}:∀{es:List MapEntry} {ps:List (ByteArray×Value)} {j:Nat} {e:MapEntry},es.map (fun e=>(e.key,e.val))=ps.map (fun p=>(Value.string p.1,p.2))→
    es.Pairwise (fun x y=>x.key≠y.key)→es[j]? =some e→e.key= .string k→jx ps k=some e.val∧(es.modify j fun x=>{x with key:= .string k,val:=v}).map (fun e=>(e.key,e.val))=(jB ps k v).map fun p=>(Value.string p.1,p.2)
  |[],_,_,_,_,_,a,_=>by simp at a
  |e::es,[],_,_,h,_,_,_=>by simp at h
  |e::es,p::ps,0,n,h,_,a,g=>by
    simp only [List.getElem?_cons_zero,Option.some.injEq] at a;subst a;simp only [List.map_cons,List.cons.injEq,Prod.mk.injEq] at h;obtain ⟨⟨b,m⟩,i⟩:=h;have c:p.1=k:=by rw [g] at b;cases b;rfl
    refine ⟨by rw [zH,if_pos c,m], ?_⟩;simp [jB,c,i]
  |e::es,p::ps,j+1,n,h,A,a,g=>by
    simp only [List.getElem?_cons_succ] at a;simp only [List.map_cons,List.cons.injEq,Prod.mk.injEq] at h;obtain ⟨⟨b,m⟩,i⟩:=h;obtain ⟨u,o⟩:=List.pairwise_cons.1 A;have c:¬p.1=k:=fun s=>u n (List.mem_of_getElem? a) (by rw [b,s,g]);obtain ⟨z,t⟩:=Jb (v:=v) i o a g;refine ⟨by rw [zH,if_neg c,z], ?_⟩;simp [jB,c,t,b,m]
section
variable {P:Program} {Q:Ks} {d:Option Nat} {ty:TypeId} {K:qa→World→Prop} {ρ:qa} {w:World}
theorem qeL {t:TypeId} (h:∀B W,w.heap.size≤B→qb w W→MapB W B []→W.heap.size=B+1→K (qm ρ d (.map (some B))) W):qr P Q d (.makeMap t none) ty K ρ w:=by
  refine jf (v:= .map (some w.heap.size)) (w':=w.alloc (.map #[] 0)) ?_ (h _ _ (Nat.le_refl _) (kj _ _) ⟨#[],0,heap_alloc_new _ _,stamped_empty 0,rfl⟩ (by simp));have a:(Instr.makeMap t none).run P w= .ok (.map (some w.heap.size)) (w.alloc (.map #[] 0)):=rfl;simp only [execOp,qA,Option.map_none,Sem.run_bind,a,Result.andThen_ok,Sem.run_pure]
theorem qiV {t kt et:TypeId} {m k:Operand} {B:Nat} {ps:List (ByteArray×Value)} {s:ByteArray} {z:Value} (F:P.underlying t=some (.map kt et)) (a:P.underlying kt=some .string) (y:((P.info? et).bind fun i=>i.zero)=some z)
    (E:qd ρ m= .map (some B)) (C:qd ρ k= .string s) (n:MapB w B ps) (ok:Bool) (h:K (qm ρ d (if ok then .tuple #[(jx ps s).getD z, .bool (jx ps s).isSome] else (jx ps s).getD z)) w):qr P Q d (.lookup t m k ok) ty K ρ w:=by
  obtain ⟨inf,J,I⟩:=Option.bind_eq_some_iff.1 y;obtain ⟨es,g,n,x,b⟩:=n.ex;have p:=Jd b;have c:IsKey .string (.string s):=by simp [IsKey]
  refine jf (v:=_) (w':=w) ?_ h;rcases findNow_spec c es.toList 0 p with ⟨o,A⟩|⟨j,e,o,A,H⟩
  · have u:=(Jc b A).1;simp [execOp,qA,Instr.lookup,E,C,run_underlying F,MapKept.run_getObj_map n,run_checkKey a c,run_findKey a o,zeroValue,typeInfo,J,I,Result.andThen,u]
  · have u:=(Jb (v:=z) b ((stamped_iff es g).1 x).2.2 A H).1;simp [execOp,qA,Instr.lookup,E,C,run_underlying F,MapKept.run_getObj_map n,run_checkKey a c,run_findKey a o,Result.andThen,u]
theorem qaP {t kt et:TypeId} {m k x:Operand} {B:Nat} {ps:List (ByteArray×Value)} {s:ByteArray} (J:P.underlying t=some (.map kt et)) (p:P.underlying kt=some .string)
    (R:qd ρ m= .map (some B)) (O:qd ρ k= .string s) (g:MapB w B ps) (h:∀W,Only B w W→MapB W B (jB ps s (qd ρ x))→K (qm ρ d undef) W):qr P Q d (.mapUpdate t m k x) ty K ρ w:=by
  obtain ⟨es,a,g,u,c⟩:=g.ex;have F:=Jd c;have n:IsKey .string (.string s):=by simp [IsKey]
  have only:∀o,Only B w {w with heap:=w.heap.setIfInBounds B o}:=fun o=>⟨rfl,rfl,rfl,by simp,fun i U=>(heap_set g).2 i U⟩;have fin:∀W,(Instr.mapUpdate t (.map (some B)) (.string s) (qd ρ x)).run P w= .ok () W→K (qm ρ d undef) W→j9 P Q d (.mapUpdate t m k x) ty K ρ w:=by
    intro W S H;unfold j9;simp only [execOp,qA,R,O,Sem.run_bind,S,Result.andThen_ok,Sem.run_pure];exact H
  rcases findNow_spec n es.toList 0 F with ⟨E,A⟩|⟨j,e,E,A,C⟩
  · have I:=(Jc c A).2 (qd ρ x);refine fin {w with heap:=w.heap.setIfInBounds B (.map (es.push {key:= .string s,val:=qd ρ x,born:=a}) (a+1))} ?_ (h _ (only _) ⟨_,_,(heap_set g).1,stamped_push u A, ?_⟩)
    · simp [Instr.mapUpdate,run_underlying J,MapKept.run_getObj_map g,run_checkKey p n,run_findKey p E,run_setObj_map _ g,Result.andThen]
    · rw [I];simp [c]
  · have L:es[j]? =some e:=by simpa using A
    have I:=(Jb (v:=qd ρ x) c ((stamped_iff es a).1 u).2.2 A C).2;have z:∀y,es[j]? =some y→({y with key:= .string s,val:=qd ρ x}:MapEntry).key=y.key:=fun y b=>by rw [L] at b;cases b;exact C.symm
    refine fin {w with heap:=w.heap.setIfInBounds B (.map (es.modify j fun e=>{e with key:= .string s,val:=qd ρ x}) a)} ?_ (h _ (only _) ⟨_,_,(heap_set g).1,stamped_modify u _ _ (fun _ _=>rfl) (fun y _ b=>z y b), ?_⟩)
    · simp [Instr.mapUpdate,run_underlying J,MapKept.run_getObj_map g,run_checkKey p n,run_findKey p E,L,C,run_keyThatStays n,run_setObj_map _ g,Result.andThen]
    · rw [Array.toList_modify];exact I
end
end Go.Eng
namespace Go.Eng
open Go.MapKept Go.RowKit
structure RangeB (w:World) (R B:Nat) (ps:List (ByteArray×Value)) (vis:List ByteArray) (cur:Option (ByteArray×Value)):Prop where
  ex:∃(es:Array MapEntry) (clock since:Nat) (seen:Array Nat) (c0:Nat),w.heap[B]? =some (.map es clock)∧Stamped es clock∧es.toList.map (fun e=>(e.key,e.val))=ps.map (fun p=>(Value.string p.1,p.2))∧
    w.heap[R]? =some (.mapIter (some B) since seen c0)∧(∀x∈es.toList,x.born<since)∧since≤c0∧since≤clock∧(∀e∈es.toList,∀k,e.key= .string k→(seen.contains e.born=true↔k∈vis))∧
    (∀k v,cur=some (k,v)→c0=clock∧∃e∈es.toList,e.key= .string k∧e.val=v∧∃s:Array Nat,seen=s.push e.born)
theorem RangeB.block {w w':World} {R B:Nat} {ps:List (ByteArray×Value)} {c:List ByteArray} {cur:Option (ByteArray×Value)} (h:RangeB w R B ps c cur) (i:w'.heap[B]? =w.heap[B]?) (k:w'.heap[R]? =w.heap[R]?):RangeB w' R B ps c cur:=by
  obtain ⟨es,b,a,seen,c0,j,m,e,g,r⟩:=h.ex;exact ⟨es,b,a,seen,c0,i.trans j,m,e,k.trans g,r⟩
theorem RangeB.lt {w:World} {R B:Nat} {ps:List (ByteArray×Value)} {a:List ByteArray} {cur:Option (ByteArray×Value)} (h:RangeB w R B ps a cur):B<w.heap.size∧R<w.heap.size:=by
  obtain ⟨es,c,b,seen,c0,g,j,i,e,r⟩:=h.ex;exact ⟨(Array.getElem?_eq_some_iff.1 g).1,(Array.getElem?_eq_some_iff.1 e).1⟩
theorem Q7 {h k:Type} {f:h→k}:∀{l:List h},(l.map f).Nodup→∀{a b:h},a∈l→b∈l→f a=f b→a=b
  | x :: l, m, a, b, o, i, g => by
    obtain ⟨j,n⟩:=List.nodup_cons.1 (by simpa using m:(f x::l.map f).Nodup);rcases List.mem_cons.1 o with e|e
    · rcases List.mem_cons.1 i with c|c
      · rw [e,c]
      · subst e;exact absurd (List.mem_map.2 ⟨b,c,g.symm⟩) j
    · rcases List.mem_cons.1 i with c|c
      · subst c;exact absurd (List.mem_map.2 ⟨a,e,g⟩) j
      · exact Q7 n e c g
section
variable {P:Program} {Q:Ks} {d:Option Nat} {ty:TypeId} {K:qa→World→Prop} {ρ:qa} {w:World}
theorem qtg {t kt et:TypeId} {x:Operand} {B:Nat} {ps:List (ByteArray×Value)} (j:P.underlying t=some (.map kt et)) (i:qd ρ x= .map (some B)) (b:MapB w B ps)
    (h:∀R W,R=w.heap.size→qb w W→RangeB W R B ps [] none→K (qm ρ d (.pointer (some ⟨R,0,none⟩))) W):qr P Q d (.range t x) ty K ρ w:=by
  obtain ⟨es,a,b,c,e⟩:=b.ex;have g:=(Array.getElem?_eq_some_iff.1 b).1;refine jf (v:= .pointer (some ⟨w.heap.size,0,none⟩)) (w':=w.alloc (.mapIter (some B) a #[] a)) ?_ (h _ _ rfl (kj _ _) ⟨es,a,a, #[],a, ?_,c,e,heap_alloc_new _ _,((stamped_iff es a).1 c).1,Nat.le_refl _,Nat.le_refl _,by simp,by simp⟩)
  · simp only [execOp,qA,i,Sem.run_bind,run_range_map w t kt et B es a j b,Result.andThen_ok,Sem.run_pure]
  · rw [heap_alloc_old _ _ g,b]
theorem qth {it : Operand} {R B : Nat} {ps : List (ByteArray × Value)} {x : List ByteArray} {cur : Option (ByteArray × Value)} (hit : qd ρ it = .pointer (some ⟨R, 0, none⟩)) (hr : RangeB w R B ps x cur)
    (h0:(∀k,k∈ps.map (·.1)→k∈x)→K (qm ρ d (.tuple #[.bool false])) w)
    (h1:∀k v W,(k,v)∈ps→k∉x→Only R w W→RangeB W R B ps (k::x) (some (k,v))→K (qm ρ d (.tuple #[.bool true, .string k,v])) W):qr P Q d (.next it false) ty K ρ w:=by
  obtain ⟨es,a,c,seen,c0,S,F,t,H,z,Z,y,j,_⟩:=hr.ex;have Y:B≠R:=by rintro rfl;rw [S] at H;cases H
  have hks:=Jd t;have E:∀e∈es.toList,∃k,e.key= .string k∧(k,e.val)∈ps:=by
    intro e s;have:(e.key,e.val)∈ps.map fun p=>(Value.string p.1,p.2):=by rw [←t];exact List.mem_map.2 ⟨e,s,rfl⟩
    obtain ⟨p,O,g⟩:=List.mem_map.1 this;simp only [Prod.mk.injEq] at g;exact ⟨p.1,g.1.symm,by rw [←g.2];exact O⟩
  rcases run_next_at (P:=P) w ty R B c c0 seen es a H S z Z with ⟨hl,o⟩|⟨e,s,U,m,o⟩
  · refine jf (v:=_) (w':=w) ?_ (h0 ?_)
    · simp only [execOp,qA,hit,Sem.run_bind,o,Result.andThen_ok,Sem.run_pure]
    · intro k A;obtain ⟨p,O,rfl⟩:=List.mem_map.1 A;have:(Value.string p.1,p.2)∈es.toList.map fun e=>(e.key,e.val):=by rw [t];exact List.mem_map.2 ⟨p,O,rfl⟩
      obtain ⟨e,s,g⟩:=List.mem_map.1 this;simp only [Prod.mk.injEq] at g;refine (j e s p.1 g.1).1 ?_;cases hc:seen.contains e.born with
      |true=>rfl
      |false=>
        have:e∈leftOf es seen:=by unfold leftOf;rw [Array.mem_filter];exact ⟨Array.mem_toList_iff.1 s,by rw [hc];rfl⟩
        have h0:0<(leftOf es seen).size:=Array.size_pos_of_mem this;omega
  · have b:e∈es.toList∧seen.contains e.born=false:=by
      rw [Array.mem_toList_iff] at s;unfold leftOf at s;rw [Array.mem_filter] at s;exact ⟨Array.mem_toList_iff.2 s.1,by have:=s.2;simp only [Bool.not_eq_true'] at this;exact this⟩
    obtain ⟨k,A,aa⟩:=E e b.1;have J:R<U.heap.size:=by rcases m with rfl|rfl<;>exact (Array.getElem?_eq_some_iff.1 H).1
    have n:U.heap=w.heap:=by rcases m with rfl|rfl<;>rfl
    refine jf (v:= .tuple #[.bool true,e.key,e.val]) (w':=ChangeMaps.setBlock U R (.mapIter (some B) c (seen.push e.born) a)) ?_ ?_
    · simp only [execOp,qA,hit,Sem.run_bind,o,Result.andThen_ok,Sem.run_pure]
    · rw [A];refine h1 k e.val _ aa (fun hv=> ?_) ?_ ⟨es,a,c,seen.push e.born,a, ?_,F,t, ?_,z,y,y, ?_, ?_⟩
      · rw [(j e b.1 k A).2 hv] at b;cases b.2
      · refine ⟨?_, ?_, ?_, ?_,fun i hi=> ?_⟩
        · rcases m with rfl|rfl<;>rfl
        · rcases m with rfl|rfl<;>rfl
        · rcases m with rfl|rfl<;>rfl
        · simp [ChangeMaps.setBlock,n]
        · simp only [ChangeMaps.setBlock,n];rw [Array.getElem?_setIfInBounds_ne (Ne.symm hi)]
      · simp only [ChangeMaps.setBlock,n];rw [Array.getElem?_setIfInBounds_ne (Ne.symm Y)];exact S
      · simp only [ChangeMaps.setBlock];rw [Array.getElem?_setIfInBounds_self_of_lt J]
      · intro e' C I u;obtain ⟨st1,V,X⟩:=(stamped_iff es a).1 F;have h2:=j e' C I u;have h3:e'.born=e.born↔I=k:=by
          constructor
          · intro L;have:=Q7 (f:=MapEntry.born) V C b.1 L;subst this;rw [A] at u;cases u;rfl
          · rintro rfl;have:=Q7 (f:=MapEntry.key) (by rw [List.Nodup,List.pairwise_map];exact X) C b.1 (u.trans A.symm);rw [this]
        rw [Array.contains_push,Bool.or_eq_true,h2,beq_iff_eq,List.mem_cons,h3];exact Or.comm
      · rintro I v' h;cases h;exact ⟨rfl,e,b.1,A,rfl,seen,rfl⟩
theorem qto {n:Operand} {R B:Nat} {ps:List (ByteArray×Value)} {i:List ByteArray} {k:ByteArray} {v:Value} (hit:qd ρ n= .pointer (some ⟨R,0,none⟩)) (t:RangeB w R B ps i (some (k,v)))
    (h:K (qm ρ d (.tuple #[.string k,v])) w):qr P Q d (.entry n) ty K ρ w:=by
  obtain ⟨es,j,b,seen,c0,y,g,x,z,o,A,_,m,c⟩:=t.ex;obtain ⟨rfl,e,u,p,C,s,rfl⟩:=c k v rfl;have a:=run_entry_at (P:=P) w R B b s es c0 e z y u ((stamped_iff es c0).1 g).2.1;rw [p,C] at a;refine jf (v:= .tuple #[.string k,v]) (w':=w) ?_ h;simp only [execOp,qA,hit,Sem.run_bind,a,Result.andThen_ok,Sem.run_pure]
end
end Go.Eng
namespace Go.Eng
open Go.RowKit
def QI:Code→List Code
  | .seq a b| .cond _ a b=>QI a++QI b
  | .block _ c| .loop c| .scope c=>QI c
  | .rangeFunc f p a b=>[.rangeFunc f p a b]
  |_=>[]
def rfA:Code→Code| .rangeFunc _ _ a _=>a|_=> .skip
def rfB:Code→Code| .rangeFunc _ _ _ b=>b|_=> .skip
structure LoopB (W:World) (l Db:Nat) (r:Loop):Prop where
  rcd:W.heap[l]? =some (.loop r)
  col:W.heap[Db]? =some (.deferred (some []))
section
variable {W W':World} {l Db:Nat} {r:Loop}
theorem LoopB.lt (h:LoopB W l Db r):l<W.heap.size∧Db<W.heap.size:=⟨(Array.getElem?_eq_some_iff.1 h.rcd).1,(Array.getElem?_eq_some_iff.1 h.col).1⟩
theorem LoopB.ne (h:LoopB W l Db r):l≠Db:=by rintro rfl;have:=h.rcd.symm.trans h.col;cases this
theorem LoopB.ext (h:LoopB W l Db r) (a:qb W W'):LoopB W' l Db r:=⟨(a.block l h.lt.1).trans h.rcd,(a.block Db h.lt.2).trans h.col⟩
theorem LoopB.keep (h:LoopB W l Db r) (b:W'.heap[l]? =W.heap[l]?) (a:W'.heap[Db]? =W.heap[Db]?):LoopB W' l Db r:=⟨b.trans h.rcd,a.trans h.col⟩
theorem LoopB.put (h:LoopB W l Db r) (a:Loop):LoopB (W.putObj l (.loop a)) l Db a:=⟨World.putObj_heap_same h.lt.1,(World.putObj_heap_other h.ne.symm).trans h.col⟩
theorem QT (W:World) (l:Nat) (o:Obj):Only l W (W.putObj l o):=⟨rfl,rfl,rfl,by simp,fun _ a=>World.putObj_heap_other a⟩
end
def Ql (P:Program) (l:Nat) (args:Array Value) (W:World) (R:Ending→World→Prop):Prop:=
  ∃fn tmps assign body,(Instr.yield l args).run P W= .ok (.round l fn tmps assign body) W∧RoundIn Fence.wide 0 P l fn tmps assign body W R
theorem Ql.mono {P:Program} {l:Nat} {args:Array Value} {W:World} {R R':Ending→World→Prop} (h:Ql P l args W R) (c:∀e w,R e w→R' e w):Ql P l args W R':=by
  obtain ⟨fn,tmps,as,bd,b,a⟩:=h;exact ⟨fn,tmps,as,bd,b,a.mono c⟩
section
variable {P:Program} {Q:Ks} {d:Option Nat} {ty:TypeId} {K:qa→World→Prop} {ρ:qa} {w:World}
theorem qiS {args:Array Operand} {a:Array TypeId} {t l:Nat} (g:ρ t= .func (.yield l) #[] #[]) (b:Q.rd) (i:Ql P l (args.map (qd ρ)) w (xT Q d K ρ)):
    qr P Q d (.call {callee:= .value (.tmp t),args:=args,argTypes:=a}) ty K ρ w:=by
  obtain ⟨fn,tmps,as,bd,j,h⟩:=i;show j9 P Q d _ ty K ρ w;unfold j9;have:(execOp (qd ρ) (qA d (.call {callee:= .value (.tmp t),args:=args,argTypes:=a}) ty)).run P w= .ok (.round l fn tmps as bd) w:=by
    simp [execOp,qA,resolve,g,Deferred.ofValue,invoke,j]
  rw [this];exact ⟨b,h.mono fun e w' c=>by cases e<;>exact c⟩
end
@[simp] theorem qIu (n:Nat) (h:n<1000000000):(gS=n)=False:=by unfold gS;simp;omega
@[simp] theorem qIz (n:Nat) (h:n<1000000000):(n=gS)=False:=by unfold gS;simp;omega
theorem LoopB.ready {W:World} {l Db:Nat} {r:Loop} (h:LoopB W l Db {r with state:= .ready,pending:=none}) (a:r.state= .ready) (b:r.pending=none):LoopB W l Db r:=by
  cases r;simp only at a b;subst a;subst b;exact h
theorem LoopB.ready' {W:World} {l Db:Nat} {r:Loop} (h:LoopB W l Db r) (a:r.state= .ready) (b:r.pending=none):LoopB W l Db {r with state:= .ready,pending:=none}:=by
  cases r;simp only at a b;subst a;subst b;exact h
def QQ (ρ:qa):List Nat→List Value→qa
  |p::ps,v::vs=>QQ (qu ρ p v) ps vs
  |_,_=>ρ
def qga (l Db:Nat) (r:Loop) (R:Ending→World→Prop):Ks:=
  ⟨fun i _ W3=>LoopB W3 l Db {r with state:= .busy}∧∀W4,Only l W3 W4→LoopB W4 l Db {r with state:= .done,pending:=some (.exit i)}→R (.returned (.bool false)) W4,
   fun _ W3=>LoopB W3 l Db {r with state:= .busy}∧∀W4,Only l W3 W4→LoopB W4 l Db {r with state:= .done,pending:=some .ret}→R (.returned (.bool false)) W4,
   fun _ _ _=>False,False,False,True⟩
def qbt (l Db:Nat) (r:Loop) (R:Ending→World→Prop):qa→World→Prop:=
  fun _ W3=>LoopB W3 l Db {r with state:= .busy}∧∀W4,Only l W3 W4→LoopB W4 l Db {r with state:= .ready,pending:=none}→R (.returned (.bool true)) W4
def qmk:Ks:=⟨fun _ _ _=>False,fun _ _=>False,fun _ _ _=>False,False,False,True⟩
@[simp] theorem qGW (l Db:Nat) (r:Loop) (R:Ending→World→Prop):(qga l Db r R).df=False:=rfl
@[simp] theorem qGV (l Db:Nat) (r:Loop) (R:Ending→World→Prop):(qga l Db r R).rd=True:=rfl
@[simp] theorem qHQ:qmk.rd=True:=rfl
theorem quk {n:Nat} {V:List Nat}:∀(ps:List Nat) (vs:List Value) (ρ:qa) (a:Act),Agree n V ρ a→(∀p∈ps,p∈V)→
    Agree n V (QQ ρ ps vs) {a with tmps:=(ps.zip vs).foldl (fun t (x:Nat×Value)=>t.setIfInBounds x.1 x.2) a.tmps}
  |[],vs,ρ,a,h,_=>by cases vs<;>exact h
  |p::ps,[],ρ,a,h,_=>h
  |p::ps,v::vs,ρ,a,h,b=>by
    have e:=h.put (b p (by simp)) v;exact quk ps vs _ (a.put (some p) v) e fun x c=>b x (by simp [c])
theorem qGB {n:Nat} {V:List Nat} {ρ:qa} {a:Act} (h:Agree n V ρ a):Agree n V (qu ρ gS (.tuple #[])) {a with defers:=[]}:=by
  refine ⟨h.size, ?_,h.lt,h.big⟩;rw [h.env];funext i;simp only [qu,ko];split<;>rfl
structure Part (P:Program) (n:Nat) (V:List Nat) (c:Code) (ir:IR):Prop where
  ok:(qT P n V [] c).map IR.norm=some ir
  plain:xj c=true
theorem qlT {P:Program} {n:Nat} {V:List Nat} {c:Code} {ir:IR} (h:Part P n V c ir) (ro:Option Nat) {K:qa→World→Prop} {Q:Ks} {ρ:qa} {a:Act} {w:World} (e:¬Q.df)
    (k:Agree n V ρ a) (j:a.defers=[]) (g:ir.wp ⟨P,n,V,[]⟩ K Q ρ w):c.wpIn (fc ro) 0 P (xw ⟨P,n,V,[]⟩ K Q) a w:=by
  obtain ⟨b,i,m⟩:=Option.map_eq_some_iff.1 h.ok;subst m;rw [IR.norm_wp] at g;exact qtH ⟨P,n,V,[]⟩ ro [] c b i (.inr ⟨h.plain,rfl⟩) K Q ρ a w (fun h=>absurd h e) k (fun _=>j) g
theorem qw2 {P:Program} {m l f:Nat} {tmps:Array Value} {as bd:Code} {w:World} {R:Ending→World→Prop} (h:RoundIn (fc none) m P l f tmps as bd w R):RoundIn Fence.wide 0 P l f tmps as bd w R:=
  ⟨trivial,fun c cs _=>h.2 c cs (room_wide _)⟩
theorem qcE {P:Program} {n:Nat} {V:List Nat} {l Db:Nat} {r:Loop} {ρ:qa} {a:Act} {o u:IR} {args:Array Value} {W:World} {R:Ending→World→Prop} {ps:Array Tmp} (O:LoopB W l Db r) (C:r.state= .ready)
    (S:Agree n V ρ a) (z:r.tmps=a.tmps) (A:r.params=ps) (v:args.size=ps.size) (E:∀p∈ps.toList,p∈V) (J:Part P n V r.assign o) (H:Part P n V r.body u)
    (h:o.wp ⟨P,n,V,[]⟩ (fun s W1=>LoopB W1 l Db r∧∀W2,Only l W1 W2→LoopB W2 l Db {r with state:= .busy}→u.wp ⟨P,n,V,[]⟩ (qbt l Db r R) (qga l Db r R) s W2) qmk (QQ (qu ρ gS (.tuple #[])) ps.toList args.toList) W):
    Ql P l args W R:=by
  subst A;refine ⟨_,_,_,_,run_yield O.rcd v,qw2 (m:=0) (roundIn_of_wpIn (F:=fc none) trivial ?_)⟩;have y:=quk r.params.toList args.toList _ _ (qGB S) E;have U:((r.params.zip args).foldl (fun tmps (t,a)=>tmps.setIfInBounds t a) r.tmps)=((r.params.toList.zip args.toList).foldl (fun t (x:Nat×Value)=>t.setIfInBounds x.1 x.2) a.tmps):=by
    rw [←Array.foldl_toList,←z];simp
  simp only [U];refine wpIn_mono (qlT J (some l) (fun h=>h) y rfl h) ?_;intro e X W1 g;cases e with
  |normal=>
    obtain ⟨L,s,B,k,I⟩:=g;refine ⟨_,run_beginRound k.rcd C, ?_⟩;refine wpIn_mono (qlT H (some l) (fun h=>h) B (L rfl) (I _ (QT _ _ _) (k.put _))) ?_;intro e a3 W3 g;cases e with
    |normal=>
      obtain ⟨_,_,_,b,j⟩:=g;exact ⟨_,_,run_endRound none b.rcd,by simpa using j _ (QT _ _ _) (b.put _)⟩
    |ret=>
      obtain ⟨_,_,_,b,j⟩:=g;exact ⟨_,_,run_endRound (some .ret) b.rcd,by simpa using j _ (QT _ _ _) (b.put _)⟩
    |exit i=>
      obtain ⟨_,_,_,b,j⟩:=g;exact ⟨_,_,run_endRound (some (.exit i)) b.rcd,by simpa using j _ (QT _ _ _) (b.put _)⟩
    |goto i=>exact False.elim g
    |panic c=>exact g.2.elim fun _ h=>h.2
    |outgrown=>exact g
  |exit i=>exact g.2.elim fun _ h=>h.2
  |ret=>exact g.2.elim fun _ h=>h.2
  |goto i=>exact g
  |panic c=>exact g.2.elim fun _ h=>h.2
  |outgrown=>exact g
def xM (Db:Nat):Deferred:=⟨.collected Db, #[]⟩
def qmz (cx:Cx) (l Db:Nat) (r:Loop) (K:qa→World→Prop) (Q:Ks) (ρ:qa):Ending→World→Prop
  | .returned _,W3=>∃st pend,st≠LoopState.busy∧LoopB W3 l Db {r with state:=st,pending:=pend}∧∀W4,Only l W3 W4→LoopB W4 l Db {r with state:= .exhausted,pending:=pend}→
      match pend with
      |none=>K ρ W4
      |some .ret=>Q.rt ρ W4
      |some (.exit i)=>Q.ex i ρ W4
      |_=>False
  | .panicked c,W3=>Q.pn ρ c W3
  | .outgrown,_=>Q.og
theorem qgg {cx : Cx} {g : Operand} {ps : Array Tmp} {assign body : Code} {gf : FuncId} {lb : Array Value} {K : qa → World → Prop} {Q : Ks} {ρ : qa} {w : World} (I : cx.D ≠ []) (J : qd ρ g = .func (.func gf) #[] lb) (x : vu cx.V g = false)
    (i:qf cx.P gf=true)
    (h:∀(a:Act) (r:Loop) (W1:World),Agree cx.n cx.V ρ a→r.tmps=a.tmps→r.params=ps→r.assign=assign→r.body=body→r.state= .ready→r.pending=none→qb w W1→W1.heap.size=w.heap.size+2→LoopB W1 (w.heap.size+1) w.heap.size r→
      Calls cx.P gf (#[.func (.yield (w.heap.size+1)) #[] #[]]++lb) W1 (qmz cx (w.heap.size+1) w.heap.size r K Q (qu ρ gS (xS (xM w.heap.size) (ρ gS))))):
    (IR.raw (.rangeFunc g ps assign body)).wp cx K Q ρ w:=by
  intro a C U R;refine (wpIn_wide (n:=0)).1 (wpIn_rangeFunc fun fn _=> ?_);obtain ⟨rec,b⟩:∃rec:Loop,rec={state:= .ready,pending:=none,fn,tmps:=a.tmps,params:=ps,assign,body,defers:=w.heap.size}:=⟨_,rfl⟩;obtain ⟨W1,j⟩:∃W1,(w.alloc (.deferred (some []))).alloc (.loop rec)=W1:=⟨_,rfl⟩;have S:qb w W1:=by rw [←j];exact (kj _ _).trans' (kj _ _)
  have u:W1.heap.size=w.heap.size+2:=by rw [←j];simp
  have L:LoopB W1 (w.heap.size+1) w.heap.size rec:=by
    rw [←j];refine ⟨?_, ?_⟩
    · have:=World.alloc_heap_new (w.alloc (.deferred (some []))) (.loop rec);rwa [World.size_alloc] at this
    · exact (Below.heap_alloc _ _ _ (by simp)).trans (World.alloc_heap_new w _)
  have A:a.eval g= .func (.func gf) #[] lb:=by
    rw [←J];cases g with
    |tmp t=>
      have H:t∈cx.V:=by simpa [vu] using x
      simp [Act.eval,qd,C.at H]
    |const v=>rfl
    |global v=>rfl
    |func v=>rfl
  refine ⟨w.heap.size+1,[xM w.heap.size],W1,{target:= .fn (.func gf) lb,args:= #[.func (.yield (w.heap.size+1)) #[] #[]]},W1,gf, #[.func (.yield (w.heap.size+1)) #[] #[]]++lb,W1, ?_, ?_,fun _ _=>trivial, ?_,fun O=>(by cases O), ?_⟩
  · rw [←j,b];exact run_enterLoop_outer _ _ _ _ _
  · simp only [resolve,A];simp [Deferred.ofValue,Act.eval]
  · unfold qf at i;split at i
    · rename_i F z;simp only [Bool.and_eq_true,Bool.not_eq_true',beq_eq_false_iff_ne,ne_eq] at i;cases E:F.body with
      |none=>simp [E] at i
      |some c=>simp [invoke,callFunc,z,i.1,E]
    · cases i
  · refine (callsIn_wide (n:=0 - 1)).2 ((h a rec W1 C (by rw [b]) (by rw [b]) (by rw [b]) (by rw [b]) (by rw [b]) (by rw [b]) S u L).mono ?_);have m:=C.defer (xM w.heap.size);have k:jT cx {a with defers:=[xM w.heap.size]++a.defers}:=fun e=>absurd e I;intro e W3 y;cases e with
    |returned v=>
      obtain ⟨st,o,B,s,p⟩:=y;have p:=p _ (QT _ _ _) (s.put _);refine ⟨o,_,run_endLoop s.rcd B, ?_⟩;cases o with
      |none=>exact ⟨k,_,m,p⟩
      |some c=>
        cases c<;>first|exact p.elim|skip
        · exact wpIn_exit ⟨k,_,m,p⟩
        · exact wpIn_ret ⟨k,_,m,p⟩
    |panicked c=>exact ⟨k,_,m,y⟩
    |outgrown=>exact qbX y
@[simp] theorem qIB (Db:Nat) (vs:Array Value):xS (xM Db) (.tuple vs)= .tuple (.int .i64 Db::vs.toList).toArray:=rfl
theorem qdG {P:Program} {rs:List RV} {R:Ending→World→Prop} {ρ:qa} {ds:List Value} {u:FrameMode} {w:World} {k:IntKind} {Db:Nat} (b:u≠ .run) (a:w.heap[Db]? =some (.deferred (some [])))
    (h:∀w',Only Db w w'→jP P rs R ρ ds u w'):jP P rs R ρ (.int k Db::ds) u w:=by
  refine ⟨b,_, ?_,h _ (QT w Db (.deferred none))⟩;simpa using run_takeDeferred (P:=P) a
theorem qE5 {P:Program} {rs:List RV} {R:Ending→World→Prop} {ρ:qa} {w:World} {Db:Nat} (a:ρ gS= .tuple #[.int .i64 Db]) (c:w.heap[Db]? =some (.deferred (some []))) (h:∀w',Only Db w w'→qw rs R ρ w'):jD P rs R .returning ρ w:=by
  simp only [jD,a];exact qdG (by simp) c fun w' b=>h w' b
theorem qtd {P:Program} {rs:List RV} {R:Ending→World→Prop} {ρ:qa} {w:World} (a:ρ gS= .tuple #[]) (h:qw rs R ρ w):jD P rs R .returning ρ w:=by
  simp only [jD,a];exact h
end Go.Eng
