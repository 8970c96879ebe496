/- Texts of mine for the claims about layer 2 (tree), joined: EngM. -/
import Derived.Test.YtbcmiempigoooaaGreatDoorJal
import Derived.Maps.RangeRun
set_option linter.all false
set_option linter.unusedSimpArgs false
set_option linter.unusedVariables false
namespace Go.Eng
open Go.RowKit Go.MapKept
def lookP (ps:List (ByteArray×Value)) (k:ByteArray):Option Value:=(ps.find? fun p=>decide (p.1=k)).map (·.2)
def setP:List (ByteArray×Value)→ByteArray→Value→List (ByteArray×Value)
  |[],k,v=>[(k,v)]
  |p::l,k,v=>if p.1=k then (k,v)::l else p::setP l k v
@[simp] theorem look_nil (k:ByteArray):lookP [] k=none:=rfl
theorem look_cons (p:ByteArray×Value) (l:List (ByteArray×Value)) (k:ByteArray):lookP (p::l) k=if p.1=k then some p.2 else lookP l k:=by
  unfold lookP
  rw [List.find?_cons]
  by_cases h:p.1=k<;>simp [h]
theorem look_setP (k k' : ByteArray) (v : Value) : ∀ l : List (ByteArray × Value), lookP (setP l k v) k' = if k = k' then some v else lookP l k'
  |[]=>by simp [setP,look_cons]
  | p :: l => by
    unfold setP
    split
    · rename_i h
      rw [look_cons,look_cons]
      by_cases hk:k=k'
      · simp [hk]
      · simp [hk,h]
    · rename_i h
      rw [look_cons,look_cons,look_setP k k' v l]
      by_cases hp:p.1=k'
      · have:¬k=k':=fun e=>h (hp.trans e.symm)
        simp [hp,this]
      · simp [hp]
structure MapB (w:World) (B:Nat) (ps:List (ByteArray×Value)):Prop where
  ex:∃es clock,w.heap[B]? =some (.map es clock)∧Stamped es clock∧es.toList.map (fun e=>(e.key,e.val))=ps.map fun p=>(Value.string p.1,p.2)
theorem MapB.lt {w:World} {B:Nat} {ps:List (ByteArray×Value)} (h:MapB w B ps):B<w.heap.size:=by
  obtain ⟨es,clock,hb,_⟩:=h.ex
  exact (Array.getElem?_eq_some_iff.1 hb).1
theorem MapB.ext {w w':World} {B:Nat} {ps:List (ByteArray×Value)} (h:MapB w B ps) (hE:Ext w w'):MapB w' B ps:=by
  obtain ⟨es,clock,hb,r⟩:=h.ex
  exact ⟨es,clock,(hE.block B h.lt).trans hb,r⟩
theorem MapB.block {w w':World} {B:Nat} {ps:List (ByteArray×Value)} (h:MapB w B ps) (hE:w'.heap[B]? =w.heap[B]?):MapB w' B ps:=by
  obtain ⟨es,clock,hb,r⟩:=h.ex
  exact ⟨es,clock,hE.trans hb,r⟩
theorem es_keys {es:List MapEntry} {ps:List (ByteArray×Value)} (h:es.map (fun e=>(e.key,e.val))=ps.map fun p=>(Value.string p.1,p.2)):∀e∈es,IsKey .string e.key:=by
  intro e he
  have:(e.key,e.val)∈ps.map fun p=>(Value.string p.1,p.2):=by rw [←h];exact List.mem_map.2 ⟨e,he,rfl⟩
  obtain ⟨p,_,hp⟩:=List.mem_map.1 this
  cases hp':e.key<;>simp_all [IsKey]
theorem es_none {k:ByteArray}:∀{es:List MapEntry} {ps:List (ByteArray×Value)},es.map (fun e=>(e.key,e.val))=ps.map (fun p=>(Value.string p.1,p.2))→(∀e∈es,e.key≠ .string k)→
    lookP ps k=none∧∀v,setP ps k v=ps++[(k,v)]
  |[],[],_,_=>⟨rfl,fun _=>rfl⟩
  |e::es,p::ps,h,hn=>by
    simp only [List.map_cons,List.cons.injEq,Prod.mk.injEq] at h
    obtain ⟨⟨h1,h2⟩,h3⟩:=h
    obtain ⟨i1,i2⟩:=es_none h3 fun x hx=>hn x (by simp [hx])
    have hp:¬p.1=k:=fun e'=>hn e (by simp) (by rw [h1,e'])
    exact ⟨by rw [look_cons,if_neg hp,i1],fun v=>by rw [setP,if_neg hp,i2];rfl⟩
  |[],_::_,h,_=>by simp at h
  |_::_,[],h,_=>by simp at h
theorem es_some {k:ByteArray} {v:Value}:∀{es:List MapEntry} {ps:List (ByteArray×Value)} {j:Nat} {e:MapEntry},es.map (fun e=>(e.key,e.val))=ps.map (fun p=>(Value.string p.1,p.2))→
    es.Pairwise (fun x y=>x.key≠y.key)→es[j]? =some e→e.key= .string k→lookP ps k=some e.val∧(es.modify j fun x=>{x with key:= .string k,val:=v}).map (fun e=>(e.key,e.val))=(setP ps k v).map fun p=>(Value.string p.1,p.2)
  |[],_,_,_,_,_,hj,_=>by simp at hj
  |e::es,[],_,_,h,_,_,_=>by simp at h
  |e::es,p::ps,0,e',h,_,hj,hk=>by
    simp only [List.getElem?_cons_zero,Option.some.injEq] at hj
    subst hj
    simp only [List.map_cons,List.cons.injEq,Prod.mk.injEq] at h
    obtain ⟨⟨h1,h2⟩,h3⟩:=h
    have hp:p.1=k:=by rw [hk] at h1;cases h1;rfl
    refine ⟨by rw [look_cons,if_pos hp,h2], ?_⟩
    simp [setP,hp,h3]
  |e::es,p::ps,j+1,e',h,hd,hj,hk=>by
    simp only [List.getElem?_cons_succ] at hj
    simp only [List.map_cons,List.cons.injEq,Prod.mk.injEq] at h
    obtain ⟨⟨h1,h2⟩,h3⟩:=h
    obtain ⟨d1,d2⟩:=List.pairwise_cons.1 hd
    have hp:¬p.1=k:=fun e0=>d1 e' (List.mem_of_getElem? hj) (by rw [h1,e0,hk])
    obtain ⟨i1,i2⟩:=es_some (v:=v) h3 d2 hj hk
    refine ⟨by rw [look_cons,if_neg hp,i1], ?_⟩
    simp [setP,hp,i2,h1,h2]
section
variable {P:Program} {Q:Ks} {d:Option Nat} {ty:TypeId} {K:Env→World→Prop} {ρ:Env} {w:World}
theorem eff_makeMap {t:TypeId} (h:∀B W,w.heap.size≤B→Ext w W→MapB W B []→W.heap.size=B+1→K (updO ρ d (.map (some B))) W):effW P Q d (.makeMap t none) ty K ρ w:=by
  refine effE_ok (v:= .map (some w.heap.size)) (w':=w.alloc (.map #[] 0)) ?_ (h _ _ (Nat.le_refl _) (ext_alloc _ _) ⟨#[],0,heap_alloc_new _ _,stamped_empty 0,rfl⟩ (by simp))
  have hr:(Instr.makeMap t none).run P w= .ok (.map (some w.heap.size)) (w.alloc (.map #[] 0)):=rfl
  simp only [execOp,effOp,Option.map_none,Sem.run_bind,hr,Result.andThen_ok,Sem.run_pure]
theorem eff_lookup {t kt et:TypeId} {m k:Operand} {B:Nat} {ps:List (ByteArray×Value)} {s:ByteArray} {z:Value} (ht:P.underlying t=some (.map kt et)) (hkt:P.underlying kt=some .string) (hiz:((P.info? et).bind fun i=>i.zero)=some z)
    (hm:evE ρ m= .map (some B)) (hk:evE ρ k= .string s) (hb:MapB w B ps) (ok:Bool) (h:K (updO ρ d (if ok then .tuple #[(lookP ps s).getD z, .bool (lookP ps s).isSome] else (lookP ps s).getD z)) w):effW P Q d (.lookup t m k ok) ty K ρ w:=by
  obtain ⟨inf,hi,hz⟩:=Option.bind_eq_some_iff.1 hiz
  obtain ⟨es,clock,hb,hst,hes⟩:=hb.ex
  have hks:=es_keys hes
  have hk':IsKey .string (.string s):=by simp [IsKey]
  refine effE_ok (v:=_) (w':=w) ?_ h
  rcases findNow_spec hk' es.toList 0 hks with ⟨h1,h2⟩|⟨j,e,h1,h2,h3⟩
  · have hl:=(es_none hes h2).1
    simp [execOp,effOp,Instr.lookup,hm,hk,run_underlying ht,MapKept.run_getObj_map hb,run_checkKey hkt hk',run_findKey hkt h1,zeroValue,typeInfo,hi,hz,Result.andThen,hl]
  · have hl:=(es_some (v:=z) hes ((stamped_iff es clock).1 hst).2.2 h2 h3).1
    simp [execOp,effOp,Instr.lookup,hm,hk,run_underlying ht,MapKept.run_getObj_map hb,run_checkKey hkt hk',run_findKey hkt h1,Result.andThen,hl]
theorem eff_mapUpdate {t kt et:TypeId} {m k x:Operand} {B:Nat} {ps:List (ByteArray×Value)} {s:ByteArray} (ht:P.underlying t=some (.map kt et)) (hkt:P.underlying kt=some .string)
    (hm:evE ρ m= .map (some B)) (hk:evE ρ k= .string s) (hb:MapB w B ps) (h:∀W,Only B w W→MapB W B (setP ps s (evE ρ x))→K (updO ρ d undef) W):effW P Q d (.mapUpdate t m k x) ty K ρ w:=by
  obtain ⟨es,clock,hb,hst,hes⟩:=hb.ex
  have hks:=es_keys hes
  have hk':IsKey .string (.string s):=by simp [IsKey]
  have only:∀o,Only B w {w with heap:=w.heap.setIfInBounds B o}:=fun o=>⟨rfl,rfl,rfl,by simp,fun i hi=>(heap_set hb).2 i hi⟩
  have fin:∀W,(Instr.mapUpdate t (.map (some B)) (.string s) (evE ρ x)).run P w= .ok () W→K (updO ρ d undef) W→effE P Q d (.mapUpdate t m k x) ty K ρ w:=by
    intro W hr hk2
    unfold effE
    simp only [execOp,effOp,hm,hk,Sem.run_bind,hr,Result.andThen_ok,Sem.run_pure]
    exact hk2
  rcases findNow_spec hk' es.toList 0 hks with ⟨h1,h2⟩|⟨j,e,h1,h2,h3⟩
  · have hl:=(es_none hes h2).2 (evE ρ x)
    refine fin {w with heap:=w.heap.setIfInBounds B (.map (es.push {key:= .string s,val:=evE ρ x,born:=clock}) (clock+1))} ?_ (h _ (only _) ⟨_,_,(heap_set hb).1,stamped_push hst h2, ?_⟩)
    · simp [Instr.mapUpdate,run_underlying ht,MapKept.run_getObj_map hb,run_checkKey hkt hk',run_findKey hkt h1,run_setObj_map _ hb,Result.andThen]
    · rw [hl];simp [hes]
  · have hj:es[j]? =some e:=by simpa using h2
    have hl:=(es_some (v:=evE ρ x) hes ((stamped_iff es clock).1 hst).2.2 h2 h3).2
    have hkey:∀e',es[j]? =some e'→({e' with key:= .string s,val:=evE ρ x}:MapEntry).key=e'.key:=fun e' he'=>by rw [hj] at he';cases he';exact h3.symm
    refine fin {w with heap:=w.heap.setIfInBounds B (.map (es.modify j fun e=>{e with key:= .string s,val:=evE ρ x}) clock)} ?_ (h _ (only _) ⟨_,_,(heap_set hb).1,stamped_modify hst _ _ (fun _ _=>rfl) (fun e' _ he'=>hkey e' he'), ?_⟩)
    · simp [Instr.mapUpdate,run_underlying ht,MapKept.run_getObj_map hb,run_checkKey hkt hk',run_findKey hkt h1,hj,h3,run_keyThatStays hk',run_setObj_map _ hb,Result.andThen]
    · rw [Array.toList_modify];exact hl
end
end Go.Eng
