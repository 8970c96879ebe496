/- Lemmas for a claim about layer 2 (tree). No conditions but those they state. -/
import Derived.Test.YtbcmiempigoooaaGreatDoorBap
import Derived.Test.YtbcmiempigoooaaGreatDoorProg
import Derived.KernelRfl
set_option linter.all false
namespace Go.L02
open Go Go.Eng Go.RowKit
open Go.Proofs hiding encI
open Go.L01 (Bd Bs Own.same SlK Tok fV jE jM jO jT jn jx qB qP qR qcj qi qr vE vx)
set_option maxRecDepth 100000
set_option maxHeartbeats 2000000
def qv (p:Nat→TypeId→Prop) (w w':World):Prop:=∀k cs T z,w.heap[k]? =some (.cells cs T z)→p k T→w'.heap[k]? =w.heap[k]?
theorem qv.mono {p q:Nat→TypeId→Prop} {w w':World} (h:qv p w w') (b:∀k T,q k T→p k T):qv q w w':=fun k cs T z a c=>h k cs T z a (b k T c)
theorem qv.trans {p:Nat→TypeId→Prop} {w w' a:World} (h:qv p w w') (o:qv p w' a):qv p w a:=fun k cs T z b c=>by
 have e:=h k cs T z b c;exact (o k cs T z (e.trans b) c).trans e
theorem qv.ext {p:Nat→TypeId→Prop} {w w':World} (h:qc w w'):qv p w w':=fun k _ _ _ a _=>h.block k (Array.getElem?_eq_some_iff.1 a).1
theorem qv.only {X:Nat} {w w':World} {cs:Array Value} {TX:TypeId} (h:Only X w w') (c:Blk w X cs TX):qv (fun k T=>k≠X∨T≠TX) w w':=fun k cs' T z b a=>by
 refine h.block k ?_;rintro rfl;have:=c.heap;rw [b] at this;cases this;rcases a with a|a<;>exact a rfl
theorem qv.grown {w w':World} {b e sz:Nat} {v:Value} {xs:List Value} (s:Own b e sz w v xs) (t:w.grownBy w' v.ownBlock):qv (fun k T=>v.ownBlock≠some k∨T≠e) w w':=fun k cs T z c a=>by
 refine t.block k (Array.getElem?_eq_some_iff.1 c).1 fun h=> ?_;obtain ⟨cur,o⟩:=Own.row s h.symm;rw [o] at c;cases c;rcases a with a|a
 ·exact a h.symm
 ·exact a rfl
theorem PSt.sameT {base B:Nat} {w w':World} {tv nv b:Value} {L:List Tok} {i f:Nat} {xs:List NV} (h:PSt base B w tv nv L i f xs) (s:Tn base B nv b w w'):qv (fun k T=>T≠85∧(T≠44∨nv.ownBlock≠some k)) w w':=fun k cs T z c o=>by
 refine s.block k (Array.getElem?_eq_some_iff.1 c).1 (h.blkNe c o.1) fun e=> ?_;rcases o.2 with a|a
 ·exact h.rowNe c a e
 ·exact a e
theorem _root_.Go.Eng.Own.at' {p:Nat→TypeId→Prop} {w w':World} {b e sz:Nat} {v:Value} {xs:List Value} (h:Own b e sz w v xs) (o:qv p w w') (s:∀k,v.ownBlock=some k→p k e):Own b e sz w' v xs:=Own.same h fun k a=>by
 obtain ⟨cur,c⟩:=Own.row h a;exact o k _ _ _ c (s k a)
theorem _root_.Go.Eng.Blk.at' {p:Nat→TypeId→Prop} {w w':World} {X:Nat} {cs:Array Value} {T:TypeId} (h:Blk w X cs T) (a:qv p w w') (b:p X T):Blk w' X cs T:=⟨(a X _ _ _ h.heap b).trans h.heap⟩
def vq {α β:Type} (C:α→β→Prop):List α→List β→Prop
 |[],[]=>True
 |a::us,b::vs=>C a b∧vq C us vs
 |_,_=>False
section
variable {α β:Type} {C C':α→β→Prop}
theorem vq.imp (c:∀a b,C a b→C' a b):∀{e:List α} {vs:List β},vq C e vs→vq C' e vs
 |[],[],_=>trivial
 |_::_,_::_,h=>⟨c _ _ h.1,vq.imp c h.2⟩
 |[],_::_,h=>h.elim
 |_::_,[],h=>h.elim
theorem vq.len:∀{a:List α} {vs:List β},vq C a vs→a.length=vs.length
 |[],[],_=>rfl
 |_::_,_::_,h=>by simp [vq.len h.2]
 |[],_::_,h=>h.elim
 |_::_,[],h=>h.elim
theorem vq.get:∀{a:List α} {vs:List β},vq C a vs→∀(i:Nat) (c:i<a.length) (b:i<vs.length),C a[i] vs[i]
 |_::_,_::_,h,0,_,_=>h.1
 |_::_,_::_,h,i+1,c,b=>vq.get h.2 i (by simpa using c) (by simpa using b)
theorem vq.left {P:α→Prop} (e:∀a b,C a b→P a):∀{o:List α} {vs:List β},vq C o vs→∀a∈o,P a
 |[],[],_,a,c=>by cases c
 |_::_,_::_,h,a,c=>by
  rcases List.mem_cons.1 c with rfl|c
  ·exact e _ _ h.1
  ·exact vq.left e h.2 a c
 |[],_::_,h,_,_=>h.elim
 |_::_,[],h,_,_=>h.elim
end
def wZ {α:Type} (b T sz:Nat) (C:List Value→α→Prop) (w:World) (v:Value) (l:List α):Prop:=∃css:List (List Value),Own b T sz w v css.flatten∧vq C css l
def Qa (w:World) (cs:List Value) (s:Sig):Prop:=∃av sv,cs=[.bool s.iter,av, .string (qb s.result),sv]∧Own 0 9 1 w av (s.args.map qi)∧Own 0 9 1 w sv (s.signals.map qi)
def Qc (w:World) (cs:List Value) (n:Need):Prop:=∃c,cs= .string (qb n.op)::c∧Qa w c n.sig
def qcl (w:World) (cs:List Value) (o:Opn):Prop:=∃c,cs= .string (qb o.name)::c∧Qa w c o.sig
def kP (q:Nat→Prop) (w:World) (v:Value) (l:List Nd):Prop:=∃xs:List NV,xs.map (·.nd)=l∧Own 0 44 6 w v (ji xs)∧∀x∈xs,Own 0 3 1 w x.kv (x.nd.kids.map encI)∧∀k,x.kv.ownBlock=some k→q k
def qa1 (N:Value→List Nd→Prop) (w:World) (cs:List Value) (r:Rout):Prop:=∃c pv ndv,cs= .string (qb r.name)::(c++[pv,ndv])∧Qa w c r.sig∧Own 0 9 1 w pv (r.params.map qi)∧N ndv r.nodes
def yx (N:Value→List Nd→Prop) (w:World) (cs:List Value) (m:Mod):Prop:=∃needv opv rv,cs=[.string (qb m.face.name), .int .u8 (m.face.kind:Int), .bool m.face.param,needv,opv, .string (qb m.rep),rv]∧
 wZ 0 132 5 (Qc w) w needv m.face.needs∧wZ 0 135 5 (qcl w) w opv m.face.ops∧wZ 0 82 7 (qa1 N w) w rv m.routs
section
variable {p:Nat→TypeId→Prop} {w w':World} {cs:List Value} {v:Value}
theorem wZ.at' {α:Type} {b T sz:Nat} {C C':List Value→α→Prop} {l:List α} (h:wZ b T sz C w v l) (e:qv p w w') (s:∀k,v.ownBlock=some k→p k T) (o:∀c a,C c a→C' c a):wZ b T sz C' w' v l:=by
 obtain ⟨css,u,t⟩:=h;exact ⟨css,u.at' e s,t.imp o⟩
theorem Qa.at' {s:Sig} (h:Qa w cs s) (a:qv p w w') (b:∀k,p k 9):Qa w' cs s:=by
 obtain ⟨e,sv,t,o,c⟩:=h;exact ⟨e,sv,t,o.at' a fun k _=>b k,c.at' a fun k _=>b k⟩
theorem Qc.at' {s:Need} (h:Qc w cs s) (a:qv p w w') (e:∀k,p k 9):Qc w' cs s:=by
 obtain ⟨c,o,b⟩:=h;exact ⟨c,o,b.at' a e⟩
theorem qcl.at' {s:Opn} (h:qcl w cs s) (a:qv p w w') (e:∀k,p k 9):qcl w' cs s:=by
 obtain ⟨c,o,b⟩:=h;exact ⟨c,o,b.at' a e⟩
theorem kP.at2 {q:Nat→Prop} {l:List Nd} (h:kP q w v l) (e:qv p w w') (o:∀k,q k→p k 3) (b:∀k,v.ownBlock=some k→p k 44):kP q w' v l:=by
 obtain ⟨xs,u,s,a⟩:=h;exact ⟨xs,u,s.at' e b,fun x c=>⟨(a x c).1.at' e fun k t=>o k ((a x c).2 k t),(a x c).2⟩⟩
theorem kP.at' {q:Nat→Prop} {l:List Nd} (h:kP q w v l) (b:qv p w w') (c:∀k,p k 3) (a:∀k,v.ownBlock=some k→p k 44):kP q w' v l:=h.at2 b (fun k _=>c k) a
theorem kP.mono {q q':Nat→Prop} {l:List Nd} (h:kP q w v l) (e:∀k,k<w.heap.size→q k→q' k):kP q' w v l:=by
 obtain ⟨xs,s,o,a⟩:=h;exact ⟨xs,s,o,fun x b=>⟨(a x b).1,fun k c=>e k ((a x b).1.blk k c).2 ((a x b).2 k c)⟩⟩
theorem qa1.at' {N N':Value→List Nd→Prop} {r:Rout} (h:qa1 N w cs r) (b:qv p w w') (e:∀k,p k 9) (x:∀v l,N v l→N' v l):qa1 N' w' cs r:=by
 obtain ⟨c,o,a,y,t,s,u⟩:=h;exact ⟨c,o,a,y,t.at' b e,s.at' b fun k _=>e k,x _ _ u⟩
end
section
variable {base B X:Nat} {w w1 w2:World} {tv nv nv1 nv2:Value} {L:List Tok} {i f j g:Nat} {xs ys zs:List NV}
theorem PSt.sep (h:PSt base B w1 tv nv1 L i f xs) {a:Value} {e sz b:Nat} {cs:List Value} (t:Own b e sz w1 a cs) (u:e≠3):j9 a xs:=fun x y k E z=>by
 obtain ⟨cur,s⟩:=Own.row (h.kid x y) E;obtain ⟨o,c⟩:=Own.row t z;rw [s] at c;cases c;exact u rfl
end
def PRx {β:Type} (base B:Nat) (tv nv:Value) (L:List Tok) (xs:List NV) (w:World) (V:β→Nat→Nat→Value→World→Prop):Rs β→Ending→World→Prop
 | .oof,_,_=>False
 | .ok a j g,e,w'=>∃v,e= .returned v∧V a j g v w'
 | .no g,e,w'=>∃j nv' ys,e= .panicked yk∧PSt base B w' tv nv' L j g (xs++ys)∧Tn base B nv nv' w w'
section
variable {α β:Type} {A':Ans β} {L:List Tok} {m:M α} {k:α→M β} {r:Rs β} {base B X:Nat} {w w1:World} {tv nv nv1:Value} {i f:Nat} {xs ys:List NV} {K:qa→World→Prop} {Q:Ks} {ρ:qa} {d:Option Nat}
theorem qjK {V:α→Nat→Nat→Value→World→Prop} {F:FuncId} {args:Array Value} (z:m i f≠ .oof→Calls Tryz.prog F args w1 (PRx base B tv nv L xs w V (m i f))) (t:bnd m k i f=r) (y:r≠ .oof)
  (hpn:∀c w',PR A' base B tv nv L xs w r (.panicked c) w'→Q.pn ρ c w') (h:∀a j g v w2,m i f= .ok a j g→V a j g v w2→k a j g=r→K (qk ρ d v) w2):Calls Tryz.prog F args w1 (jR Q d K ρ):=by
 have o:m i f≠ .oof:=fun e=>y (by rw [←t,vg e]);refine (z o).mono ?_;intro e w2 s;cases b:m i f with
 |oof=>exact absurd b o
 |no g=>
  rw [b] at s;obtain ⟨j,nv2,zs,rfl,x,u⟩:=s;rw [qqq];refine hpn _ _ ?_;rw [←t,jJ b];exact ⟨j,nv2,zs,rfl,x,u⟩
 |ok a j g=>
  rw [b] at s;obtain ⟨v,rfl,E⟩:=s;rw [qcd];exact h a j g v w2 b E (by rw [←t,qT b])
end
def smX (X:Nat):Nat→TypeId→Prop:=fun k T=>T≠85∧T≠44∧k≠X
theorem Cu.sm {base B X:Nat} {w w1 w2:World} {tv nv nv1 nv2:Value} {L:List Tok} {i f:Nat} {xs ys:List NV} (h:Cu base B w tv nv L xs w1 nv1 i f ys) (a:Tn base B nv1 nv2 w1 w2):qv (smX X) w1 w2:=(h.st.sameT a).mono fun _ _ h=>⟨h.1, .inl h.2.1⟩
noncomputable def qgJ:IR:= .cond (zv 24) (zq [za 4 (zQ false)] <| .ret) .skip
noncomputable def qmY:IR:= .reg [za 13 (zI .add (zv 13) (zK 1))]
noncomputable def qmX:IR:= .seq (.block 1 (zq [zm 5 13] <| .seq (.drw [za 24 (zI .neq (zl (zx 1 (zv 0) (zv 5))) (zl (zx 1 (zv 1) (zv 5))))]) (qgJ))) (qmY)
noncomputable def qgI:IR:=zq [za 14 (zI .lss (zv 13) (zv 12))] <| .seq (.cond (zv 14) .skip (.exit 0)) (qmX)
noncomputable def qmW:IR:=zq [za 4 (zQ true)] <| .ret
noncomputable def qmV:IR:=zq [za 12 (zL (zv 0)),za 13 (zK 0)] <| .seq (.block 0 (.loop qgI)) (qmW)
noncomputable def qmZ:IR:=zq [za 4 (zQ false),za 10 (zI .neq (zL (zv 0)) (zL (zv 1)))] <| .seq (.cond (zv 10) (zq [za 4 (zQ false)] <| .ret) .skip) (qmV)
def qxd:List Nat:=[0,1,4,5,10,12,13,14,24]
theorem qxc:C2 50 26 qxd qmZ [.tmp 4]:=c2 [] Tryz.func50
noncomputable def qdS:IR:=zq [za 4 (zQ false),zm 5 0,zm 6 1,zc 7 229 #[zt 5,zt 6] #[51,9] 3,za 4 (zI .geq (zv 7) (zK 0))] <| .ret
def qg6:List Nat:=zV 8 [2,3]
theorem qoB:C2 160 9 qg6 qdS [.tmp 4]:=c2 [] Tryz.func160
noncomputable def qdP:IR:= .reg [za 8 (zI .add (zv 8) (zK 1))]
noncomputable def qdO:IR:= .seq (.block 1 (zq [zm 5 8,za 16 (zS .eql (zv 1) (zl (zx 1 (zv 0) (zv 5))))] <| .cond (zv 16) (zq [zm 4 5] <| .ret) .skip)) (qdP)
noncomputable def qb0:IR:=zq [za 9 (zI .lss (zv 8) (zv 7))] <| .seq (.cond (zv 9) .skip (.exit 0)) (qdO)
noncomputable def qdN:IR:=zq [za 4 (.const (.int .i64 (-1)))] <| .ret
noncomputable def qdQ:IR:=zq [za 4 (zK 0),za 7 (zL (zv 0)),za 8 (zK 0)] <| .seq (.block 0 (.loop qb0)) (qdN)
def qgY:List Nat:=[0,1,4,5,7,8,9,16]
theorem qnW:C2 229 19 qgY qdQ [.tmp 4]:=c2 [] Tryz.func229
theorem qq1 {cs:List Value} (h:∀c∈cs,c.cells= #[c]):(Value.agg cs.toArray).cells=cs.toArray:=by
 have:∀l:List Value,(∀c∈l,c.cells= #[c])→(l.flatMap fun c=>c.cells.toList)=l:=by
  intro l
  induction l with
  |nil=>intro _;rfl
  |cons a l e=>
   intro h;rw [List.flatMap_cons,h a (by simp),e fun c b=>h c (by simp [b])];rfl
 apply Array.toList_inj.1;simp [Value.cells,Array.toList_flatMap,this cs h]
theorem Qc.len {w:World} {cs:List Value} {s:Need} (h:Qc w cs s):cs.length=5:=by
 obtain ⟨c,rfl,a,sv,rfl,_⟩:=h;rfl
theorem qho {n:Nat}:∀{css:List (List Value)},(∀c∈css,c.length=n)→css.flatten.length=css.length*n
 |[],_=>by simp
 |c::css,h=>by
  rw [List.flatten_cons,List.length_append,h c (by simp),qho fun c a=>h c (by simp [a]),List.length_cons,Nat.add_mul];omega
def xU (q:Nat→Prop) (w:World) (nv:Value) (xs:List NV) (v:Value) (l:List Nd):Prop:=(v=nv∧l=xs.map (·.nd)∧∀x∈xs,∀k,x.kv.ownBlock=some k→q k)∨(kP q w v l∧∀k,v.ownBlock=some k→nv.ownBlock≠some k)
section
variable {base B X:Nat} {w w1 w2:World} {tv nv nv1 nv2 v:Value} {L:List Tok} {i f j g:Nat} {xs xs1 ys:List NV} {l:List Nd}
theorem xU.at' {q:Nat→Prop} (h:xU q w nv xs v l) {p:Nat→TypeId→Prop} (c:qv p w w1) (e:∀k,p k 3) (a:∀k,nv.ownBlock≠some k→p k 44):xU q w1 nv xs v l:=by
 rcases h with h|⟨s,b⟩
 ·exact .inl h
 ·exact .inr ⟨s.at' c e fun k o=>a k (b k o),b⟩
end
section
variable {w w1:World} {nv v:Value} {xs:List NV} {l:List Nd} {q q':Nat→Prop} {p:Nat→TypeId→Prop}
theorem xU.at2 (h:xU q w nv xs v l) (c:qv p w w1) (e:∀k,q k→p k 3) (a:∀k,nv.ownBlock≠some k→p k 44):xU q w1 nv xs v l:=by
 rcases h with h|⟨s,b⟩
 ·exact .inl h
 ·exact .inr ⟨s.at2 c e fun k o=>a k (b k o),b⟩
theorem xU.mono (h:xU q w nv xs v l) (t:∀x∈xs,∀k,x.kv.ownBlock=some k→k<w.heap.size) (e:∀k,k<w.heap.size→q k→q' k):xU q' w nv xs v l:=by
 rcases h with ⟨c,b,s⟩|⟨c,b⟩
 ·exact .inl ⟨c,b,fun x a k o=>e k (t x a k o) (s x a k o)⟩
 ·exact .inr ⟨c.mono e,b⟩
end
theorem PSt.kidLt {base B:Nat} {w:World} {tv nv:Value} {L:List Tok} {i f:Nat} {xs:List NV} (h:PSt base B w tv nv L i f xs):∀x∈xs,∀k,x.kv.ownBlock=some k→k<w.heap.size:=fun x a k b=>((h.kid x a).blk k b).2
section
variable {base B X:Nat} {w w1 w2:World} {tv nv nv1 nv2 v:Value} {L:List Tok} {i f j g:Nat} {xs xs1 ys:List NV} {l:List Nd}
structure Cm (base B:Nat) (w:World) (tv nv:Value) (L:List Tok) (xs:List NV) (w1:World) (nv1:Value) (i f:Nat) (xs1:List NV):Prop where
 st:PSt base B w1 tv nv1 L i f xs1
 ln:xs1.length≤2*i+2
 tn:TnW base B nv nv1 w w1
 nd:∀q v l,xU q w nv xs v l→xU q w1 nv1 xs1 v l
 b0:base≤w.heap.size
 fr:∀x∈xs1,x∈xs∨kr w x.kv
theorem Cm.trans (h:Cm base B w tv nv L xs w1 nv1 i f xs1) (a:Cm base B w1 tv nv1 L xs1 w2 nv2 j g ys):Cm base B w tv nv L xs w2 nv2 j g ys:=
 ⟨a.st,a.ln,h.tn.trans a.tn,fun q v l e=>a.nd q v l (h.nd q v l e),h.b0,fun y c=>by
  rcases a.fr y c with b|b
  ·exact h.fr y b
  ·exact .inr fun k o=>Nat.le_trans h.tn.below.size (b k o)⟩
end
section
variable {α β:Type} {A:Ans α} {A':Ans β} {L:List Tok} {m:M α} {k:α→M β} {r:Rs β} {base B X:Nat} {w w0 w1:World} {tv nv nv0 nv1:Value} {i f i0 f0:Nat} {xs xs0 ys:List NV} {K:qa→World→Prop} {Q:Ks} {ρ:qa} {d:Option Nat}
end
section
variable {base B X:Nat} {w w1 w2:World} {tv nv nv1:Value} {L:List Tok} {i f:Nat} {xs xs1:List NV}
theorem Cm.ext (h:Cm base B w tv nv L xs w1 nv1 i f xs1) (a:qc w1 w2):Cm base B w tv nv L xs w2 nv1 i f xs1:=
 ⟨h.st.ext a,h.ln,h.tn.trans (Tn.toW (Tn.ext a h.st.bW)),fun q v l b=>(h.nd q v l b).at' (qv.ext (p:=fun _ _=>True) a) (fun _=>trivial) fun _ _=>trivial,h.b0,h.fr⟩
theorem Cm.block {zs:List NV} {j g:Nat} {nv2:Value} (h:Cu base B w1 tv (.slice none 0 0) L [] w2 nv2 j g zs) (t:PSt base B w1 tv (.slice none 0 0) L i f []) (u:zs.length≤2*j+2):Cm base B w1 tv (.slice none 0 0) L [] w2 nv2 j g zs:=by
 refine ⟨by simpa using h.st,u,h.tn.toW,fun q v l z=> .inr ?_,h.b0,fun y x=> .inr (h.fr y x)⟩;have a:=t.sameT h.tn;rcases z with ⟨rfl,rfl,_⟩|⟨o,_⟩
 ·exact ⟨⟨[],rfl,Own.nil _ _ _ _,by simp⟩,fun k b=>by cases b⟩
 ·refine ⟨o.at' a (fun k=>⟨by decide, .inl (by decide)⟩) fun k _=>⟨by decide, .inr (by simp [Value.ownBlock])⟩,fun k b e=> ?_⟩;obtain ⟨F,_,s,_⟩:=o;have E:=(s.blk k b).2;rcases h.tn.row k e with c|c
  ·cases c
  ·omega
end
def mdA (nm:Bs) (k:Int) (pr:Bool) (nd op:Value) (rep:Bs) (rv:Value):Array Value:= #[.string (qb nm), .int .u8 k, .bool pr,nd,op, .string (qb rep),rv]
theorem sz5:jo Tryz.prog 5 1=true:=by kernel_rfl
section
variable {base B X:Nat} {w w1 w2:World} {tv nv nv1 nv2:Value} {L:List Tok} {i f j g:Nat} {xs xs1 ys:List NV} {p:Nat→TypeId→Prop} {N N':Value→List Nd→Prop} {cs:List Value}
theorem yx.at' {m:Mod} (h:yx N w cs m) (b:qv p w w1) (u:∀k,p k 9) (c:∀k,p k 132) (o:∀k,p k 135) (s:∀k,p k 82) (z:∀v l,N v l→N' v l):yx N' w1 cs m:=by
 obtain ⟨a,t,rv,e,E,y,x⟩:=h;exact ⟨a,t,rv,e,E.at' b (fun k _=>c k) fun _ _ h=>h.at' b u,y.at' b (fun k _=>o k) fun _ _ h=>h.at' b u,x.at' b (fun k _=>s k) fun _ _ h=>h.at' b u z⟩
theorem Cm.same (h:Cm base B w tv nv L xs w1 nv1 i f xs1) (c:PSt base B w tv nv L j g xs):qv (fun k T=>T≠85∧T≠44) w w1:=fun k cs T z a b=>
 h.tn.block k (Array.getElem?_eq_some_iff.1 a).1 (c.blkNe a b.1) (c.rowNe a b.2)
theorem Cm.var (h:Cm base B w tv nv L xs w1 nv1 i f xs1) (c:PSt base B w tv nv L j g xs) {Y:Nat} {cs:Array Value} {T:TypeId} (a:Blk w Y cs T) (e:T≠44) (b:T≠85):Blk w1 Y cs T:=a.at' (h.same c) ⟨b,e⟩
end
section
variable {base B X:Nat} {w w1 w2:World} {tv nv nv1:Value} {L:List Tok} {i f:Nat} {xs xs1:List NV}
end
structure ClS (L:List Tok) (base B R X:Nat) (w:World) (tv nv v7 v8:Value) (xs:List NV) (nm rep:Bs) (pr:Bool) (names:List Bs) (ws:List Need) (i f:Nat) (nv' rv:Value) (ys:List NV) (css:List (List Value)) (rs:List Rout) (w':World):Prop where
 m:Cm base B w tv nv L xs w' nv' i f ys
 bR:Blk w' R (mdA [] 0 false (.slice none 0 0) (.slice none 0 0) [] (.slice none 0 0)) 66
 bX:Blk w' X (mdA nm 3 pr v8 (.slice none 0 0) rep rv) 66
 own:Own w.heap.size 82 7 w' rv css.flatten
 all:vq (qa1 (xU (fun k=>w.heap.size≤k) w' nv' ys) w') css rs
 bd:∀q∈rs,q.sig.args.length≤20001∧q.sig.signals.length≤20001
 nms:Own 0 9 1 w' v7 (names.map qi)
 nds:wZ 0 132 5 (Qc w') w' v8 ws
 len:rs.length≤i
 Xw:w.heap.size≤X
 Rw:w.heap.size≤R
 RX:R≠X
 nl:names.length≤20001
section
variable {L:List Tok} {base B R X n:Nat} {w:World} {tv nv v7 v8:Value} {xs:List NV} {nm rep:Bs} {pr:Bool} {names:List Bs} {ws:List Need} {r:Rs Mod}
theorem ClS.ext {i f:Nat} {b rv:Value} {ys:List NV} {css:List (List Value)} {rs:List Rout} {w1 w2:World} (h:ClS L base B R X w tv nv v7 v8 xs nm rep pr names ws i f b rv ys css rs w1) (a:qc w1 w2):ClS L base B R X w tv nv v7 v8 xs nm rep pr names ws i f b rv ys css rs w2:=
 have c:qv (fun _ _=>True) w1 w2:=qv.ext a
 ⟨h.m.ext a,h.bR.ext a,h.bX.ext a,h.own.ext a,h.all.imp fun _ _ h=>h.at' c (fun _=>trivial) fun v l e=>e.at' c (fun _=>trivial) fun _ _=>trivial,h.bd,h.nms.ext a,h.nds.at' c (fun _ _=>trivial) fun _ _ h=>h.at' c fun _=>trivial,h.len,h.Xw,h.Rw,h.RX,h.nl⟩
structure ClN (L:List Tok) (base B R X:Nat) (w:World) (tv nv v7 v8:Value) (xs:List NV) (nm rep:Bs) (pr:Bool) (names:List Bs) (ws:List Need) (i f:Nat) (nv' rv:Value) (ys:List NV) (css:List (List Value)) (rs:List Rout) (k:Nat) (w':World):Prop where
 m:Cm base B w tv nv L xs w' nv' i f ys
 bR:Blk w' R (mdA [] 0 false (.slice none 0 0) (.slice none 0 0) [] (.slice none 0 0)) 66
 bX:∃opv cs2,Blk w' X (mdA nm 3 pr v8 opv rep rv) 66∧Own w.heap.size 135 5 w' opv (List.flatten cs2)∧vq (qcl w') cs2 ((qlh names rs).take k)
 own:Own w.heap.size 82 7 w' rv css.flatten
 all:vq (qa1 (xU (fun k=>w.heap.size≤k) w' nv' ys) w') css rs
 nms:Own 0 9 1 w' v7 (names.map qi)
 nds:wZ 0 132 5 (Qc w') w' v8 ws
theorem ClN.ext {L:List Tok} {base B R X:Nat} {w:World} {tv nv v7 v8:Value} {xs:List NV} {nm rep:Bs} {pr:Bool} {names:List Bs} {ws:List Need} {i f k:Nat} {c rv:Value} {ys:List NV} {css:List (List Value)} {rs:List Rout} {w1 w2:World} (h:ClN L base B R X w tv nv v7 v8 xs nm rep pr names ws i f c rv ys css rs k w1) (a:qc w1 w2):ClN L base B R X w tv nv v7 v8 xs nm rep pr names ws i f c rv ys css rs k w2:=by
 have b:qv (fun _ _=>True) w1 w2:=qv.ext a;obtain ⟨e,o,x,t,s⟩:=h.bX;exact ⟨h.m.ext a,h.bR.ext a,⟨e,o,x.ext a,t.ext a,s.imp fun _ _ h=>h.at' b fun _=>trivial⟩,h.own.ext a,h.all.imp fun _ _ h=>h.at' b (fun _=>trivial) fun v l u=>u.at' b (fun _=>trivial) fun _ _=>trivial,h.nms.ext a,h.nds.at' b (fun _ _=>trivial) fun _ _ h=>h.at' b fun _=>trivial⟩
end
theorem yx.row {N:Value→List Nd→Prop} {w:World} {cs:List Value} {m:Mod} (h:yx N w cs m):cs.length=7∧∀c∈cs,c.cells= #[c]∧c.oneCell=true:=by
 obtain ⟨a,t,rv,rfl,⟨_,s,_⟩,⟨_,o,_⟩,⟨_,e,_⟩⟩:=h;refine ⟨rfl, ?_⟩;intro c b;simp only [List.mem_cons,List.mem_nil_iff,or_false] at b;rcases b with rfl|rfl|rfl|rfl|rfl|rfl|rfl
 ·exact ⟨rfl,rfl⟩
 ·exact ⟨rfl,rfl⟩
 ·exact ⟨rfl,rfl⟩
 ·exact ⟨zH s.isl,xO s.isl⟩
 ·exact ⟨zH o.isl,xO o.isl⟩
 ·exact ⟨rfl,rfl⟩
 ·exact ⟨zH e.isl,xO e.isl⟩
theorem qzR {P:Program} {Q:Ks} {d:Option Nat} {ty:TypeId} {K:qa→World→Prop} {ρ:qa} {w:World} {a b:Operand} {k:IntKind} {x y:Int} {e:Array TypeId} (c:qd ρ a= .int k x) (o:qd ρ b= .int k y) (h:K (qk ρ d (.int k (if y<x then y else x))) w):
  qm P Q d (.call {callee:= .builtin .min,args:= #[a,b],argTypes:=e}) ty K ρ w:=by
 show jV P Q d _ ty K ρ w;refine jk (v:= .int k (if y<x then y else x)) (w':=w) ?_ h;simp [execOp,qA,resolve,invoke,builtin,c,o,Builtin.min_,Builtin.min2]
theorem quL {L:List Tok} {w:World} {b:Nat} {tv:Value} {f:Nat} (u:Own b 53 3 w tv (qB L)) (H:L.length≤20000) (F:f≤L.length):
  Calls Tryz.prog 57 #[tv, .int .i64 (f:Int)] w fun e w'=>e= .returned (.int .i64 (Qz L f))∧w'=w:=by
 have E:=L01.vB u;have h:=u.isl;have a:qh tv=L.length:=by have:=E.len;rw [jn] at this;omega
 refine qw7 fun ρ r0 r1=> ?_;simp -implicitDefEqProofs [qmO,r0,r1,h,a];by_cases o:L.length=0
 ·obtain rfl:=List.length_eq_zero_iff.1 o;simp [Qz]
 ·have s:L≠[]:=fun e=>o (by rw [e];rfl);simp -implicitDefEqProofs [s,qmN,r0,r1,h,a,jG (n:=(L.length:Int) - 1) (by omega)];refine qzR (k:= .i64) (x:=(f:Int)) (y:=(L.length:Int) - 1) (by simp) (by simp) ?_;have e:(if ((L.length:Int) - 1)<(f:Int) then ((L.length:Int) - 1) else (f:Int))=((min f (L.length - 1):Nat):Int):=by
   split<;>omega
  rw [e];have t:min f (L.length - 1)<L.length:=by omega
  simp only [Qz,o,if_false];generalize min f (L.length - 1)=k at t⊢;have c:=E.cell (k*3+2) (by rw [jn];omega);have z:=(jx L k t).2.2;rw [List.getElem?_eq_getElem (by rw [jn];omega)] at z;rw [Option.some.inj z] at c;simp -implicitDefEqProofs [r0,h,a,t,c,tk]
def qcA (_:Nat) (T:TypeId):Prop:=T=3∨T=4∨T=83
def QX (B:Nat) (tv:Value) (W:World) (ok:Bool) (g:Nat) (Ok:World→Prop) (e:Ending) (w2:World):Prop:=
 qv qcA W w2∧Below B W w2∧((ok=true∧e= .returned (.tuple #[])∧Ok w2)∨(ok=false∧e= .panicked yk∧∃(j:Nat) (nv2:Value),Blk w2 B #[tv, .int .i64 (j:Int), .int .i64 (g:Int),nv2] 85∧qt nv2=true∧Ok w2))
def qq4 (B:Nat) (w:World) (tv:Value) (ok:Bool) (g:Nat) (Ok:World→Prop) (e:Ending) (w':World):Prop:=
 e= .returned (.bool ok)∧Below B w w'∧∃w2,Ok w2∧qv (fun _ T=>T≠4∧(ok=true∨T≠85)) w2 w'∧(ok=false→∃a b,Blk w' B #[tv,a, .int .i64 (g:Int),b] 85)
theorem qhr {B:Nat} {w w':World} (h:qc w w') (a:B≤w.heap.size):Below B w w':=⟨h.os,h.tape,h.output,h.size,fun k b=>h.block k (by omega)⟩
theorem qk0 {L:List Tok} {base B:Nat} {w:World} {tv nv:Value} {i f g:Nat} (hS:PSt base B w tv nv L i f []) {ok:Bool} {F:FuncId} {caps:Array Value} {Ok:World→Prop} (hcb:qf Tryz.prog F=true) (ae:∀W,qc w W→Calls Tryz.prog F caps W (QX B tv W ok g Ok)):
  Calls Tryz.prog 54 #[.pointer (some ⟨B,0,none⟩), .func (.func F) #[] caps] w (qq4 B w tv ok g Ok):=by
 generalize hR:qq4 B w tv ok g Ok=R;refine qgH fun ρ r0 r1 rg=> ?_;simp [qbY,r0];refine vY fun A W1 hA aa hbA _=> ?_;simp [Value.cells,r0] at hbA;simp;refine qK z4 fun Y W2 hY aj hbY _=> ?_;simp;have hS2:=hS.ext (aa.trans' aj);have hA2:=hbA.ext aj;refine vS (hpn:=qeR (by decide)) qgG (fun W=>Blk W A #[.pointer (some ⟨B,0,none⟩)] 83∧Blk W B #[tv, .int .i64 (i:Int), .int .i64 (f:Int),nv] 85) fun W3 J _=> ?_;have t:=hS2.ext J;have s:=hA2.ext J;have hJ:Blk W3 A #[.pointer (some ⟨B,0,none⟩)] 83∧Blk W3 B #[tv, .int .i64 (i:Int), .int .i64 (f:Int),nv] 85:=⟨s,t.blk⟩;refine ⟨hJ, ?_⟩;have cA:∀W,(Blk W A #[.pointer (some ⟨B,0,none⟩)] 83∧Blk W B #[tv, .int .i64 (i:Int), .int .i64 (f:Int),nv] 85)→W.cell? ⟨A,0,none⟩=some (.pointer (some ⟨B,0,none⟩))∧W.cell? ⟨B,1,none⟩=some (.int .i64 (i:Int))∧W.cell? ⟨B,3,none⟩=some nv:=fun W h=>⟨by rw [h.1.cell];rfl,by rw [h.2.cell];rfl,by rw [h.2.cell];rfl⟩;have hisl:=hS.own.isl;simp+contextual -implicitDefEqProofs [qdJ,cA,hJ,hisl];have rest:∀(x:qa) (W4:World) (X5 X6:Nat),qc W3 W4→Blk W4 X5 #[.int .i64 (i:Int)] 3→Blk W4 X6 #[.int .i64 (0:Int)] 3→x 1=ρ 1→x 2= .pointer (some ⟨A,0,none⟩)→x 4= .pointer (some ⟨Y,0,none⟩)→x 5= .pointer (some ⟨X5,0,none⟩)→x 6= .pointer (some ⟨X6,0,none⟩)→x gS= .tuple #[]→QC.wp ⟨Tryz.prog,19,QD,ww⟩ (jH Tryz.prog [.cell1 4] R .returning) (vD Tryz.prog [.cell1 4] R) x W4:=by
  intro x W4 X5 X6 a H o e1 e2 e4 e5 e6 eg;have hA4:=s.ext a;have hY4:=(hbY.ext J).ext a;have V:qc w W4:=((aa.trans' aj).trans' J).trans' a;have hBw:=hS.blk.lt;have hBY:B≤Y:=by have:=aa.size;omega
  have U:Below B w W4:=qhr V (by omega);simp [QC];refine qd8 (f:=116) (caps:= #[.pointer (some ⟨X5,0,none⟩), .pointer (some ⟨A,0,none⟩), .pointer (some ⟨X6,0,none⟩), .pointer (some ⟨Y,0,none⟩)]) (by simp [e2,e4,e5,e6]) trivial ?_;have eg':x 1000000000= .tuple #[]:=eg;simp [gS,e1,r1,eg'];refine xT (f:=F) hcb (fs:= #[]) (caps:=caps) (by simp) ?_;simp;refine (ae W4 V).mono ?_;rintro e w5 ⟨E,Z,h|h⟩
  ·obtain ⟨rfl,rfl,ad⟩:=h;have z:=hY4.at' E (.inr (.inl rfl));simp;refine qS (B:=Y) (i:=0) (by simp [e4]) z (by simp) (by simp [Value.cells]) (by simp) sz4 fun W6 c o=> ?_;simp at o;simp [vD,jH,gS,e4];refine jO (by simp) qaX (qh7.mono ?_);rintro e u' w' ⟨⟨v,rfl⟩,rfl,rfl⟩;refine yT ?_;have cY:w'.cell? ⟨Y,0,none⟩=some (.bool true):=by rw [o.cell];rfl
   simp [qz,vj,RV.val,e4,cY,kR,←hR];exact ⟨rfl,(U.trans Z).trans (kY c hBY),w5,ad,(qv.only c z).mono fun _ _ h=> .inr h.1,by simp⟩
  ·obtain ⟨rfl,rfl,j,nv2,S,hsl,ad⟩:=h;have z:=hY4.at' E (.inr (.inl rfl));have h55:=H.at' E (.inl rfl);have h56:=o.at' E (.inl rfl);have hA5:=hA4.at' E (.inr (.inr rfl));simp [vD,jH,gS,e4];refine jO (by simp) qaX ((qh6 (n:=0) h55 hA5 h56 (.inr z) S hsl (Nat.zero_le _)).mono ?_);rintro e u' w' ⟨⟨v,rfl⟩,hu,W6,W7,O,u,y,ag,hb8⟩;show jK _ _ _ _ [] (settle u') w';rw [hu];refine yT ?_;have cY:w'.cell? ⟨Y,0,none⟩=some (.bool false):=by rw [hb8.cell];rfl
   simp [qz,vj,RV.val,e4,cY,kR,←hR];have bYB:B≠Y:=fun e=>by
    subst e;have:=S.heap;rw [z.heap] at this;cases this
   have hY7:=u.blk (z.ext O) (Ne.symm bYB);have hB8:=ag.blk y bYB;refine ⟨rfl,(((U.trans Z).trans (qhr O (by have:=S.lt;omega))).trans (kY u (Nat.le_refl _))).trans (kY ag hBY),w5,ad, ?_,fun _=>⟨_,_,hB8⟩⟩;exact ((qv.ext O).trans ((qv.only u (S.ext O)).mono fun _ _ h=> .inr (by simpa using h.2))).trans ((qv.only ag hY7).mono fun _ _ h=> .inr h.1)
 have nvl:qh nv=0:=by
  have:=(L01.vB hS.own).len;rw [yo] at this;simp at this;omega
 refine ⟨?_, ?_⟩
 ·refine qK z3 fun X5 W4 ai a ac hs4=>⟨⟨s.ext a,(t.ext a).blk⟩, ?_⟩;refine qK z3 fun X6 W5 hX6 b H hs5=>⟨⟨(s.ext a).ext b,((t.ext a).ext b).blk⟩, ?_⟩;have ab:=(t.ext a).ext b;have l5:W3.heap.size≤X5:=ai;have I:X5≠X6:=by omega
  refine qS (B:=X5) (i:=0) (by simp) (ac.ext b) (by simp) (by simp [Value.cells]) (by simp) jS fun W6 c o=> ?_;simp at o;have af:=c.blk ((s.ext a).ext b) (by have:=s.lt;omega);have ah:=c.blk ab.blk (by have:=t.blk.lt;omega);refine ⟨⟨af,ah⟩, ?_⟩;refine qS (B:=X6) (i:=0) (by simp) (c.blk H (Ne.symm I)) (by simp) (by simp [Value.cells]) (by simp) jS fun W7 u y=> ?_;simp [nvl] at y;exact rest _ W7 X5 X6 (u.ext (c.ext (a.trans' b) l5) (by have:=a.size;omega)) (u.blk o I) y (by simp) (by simp) (by simp) (by simp) (by simp) (by simp [gS] at rg⊢;exact rg)
 ·refine qK z3 fun X6 W4 hX6 a ac hs4=>⟨⟨s.ext a,(t.ext a).blk⟩, ?_⟩;refine qK z3 fun X5 W5 ai b H hs5=>⟨⟨(s.ext a).ext b,((t.ext a).ext b).blk⟩, ?_⟩;have ab:=(t.ext a).ext b;have l5:W3.heap.size≤X5:=Nat.le_trans a.size ai;have I:X6≠X5:=by omega
  refine qS (B:=X5) (i:=0) (by simp) H (by simp) (by simp [Value.cells]) (by simp) jS fun W6 c o=> ?_;simp at o;have af:=c.blk ((s.ext a).ext b) (by have:=s.lt;omega);have ah:=c.blk ab.blk (by have:=t.blk.lt;omega);refine ⟨⟨af,ah⟩, ?_⟩;refine qS (B:=X6) (i:=0) (by simp) (c.blk (ac.ext b) I) (by simp) (by simp [Value.cells]) (by simp) jS fun W7 u y=> ?_;simp [nvl] at y;exact rest _ W7 X5 X6 (u.ext (c.ext (a.trans' b) l5) hX6) (u.blk o (Ne.symm I)) y (by simp) (by simp) (by simp) (by simp) (by simp) (by simp [gS] at rg⊢;exact rg)
theorem qrr:∀t∈L01.zR,t.length≤20:=by decide
theorem qsR:∀t∈L01.qU,t.length≤20:=by decide
theorem qjY {L:List Tok} (h:jv L):xf L:=fun t a=>by
 have:=h t a;unfold L01.right at this;split at this
 ·unfold L01.qo at this;simp only [Bool.and_eq_true,decide_eq_true_eq] at this;omega
 ·split at this
  ·exact qrr _ (List.contains_iff_mem.1 this)
  ·split at this
   ·unfold L01.qY at this;simp only [Bool.and_eq_true,Bool.not_eq_true',Bool.or_eq_false_iff,decide_eq_false_iff_not] at this;omega
   ·split at this
    ·exact qsR _ (List.contains_iff_mem.1 this)
    ·cases this
theorem qlo:∀(l:Bs) (a:Nat),(∀c∈l,L01.qw c=true)→l.foldl (fun n c=>10*n+((c.toNat:Int) - 48)) (a:Int)=(L01.vA a l:Int)
 |[],a,_=>rfl
 |c::l,a,h=>by
  have b:=h c (by simp);simp [L01.qw] at b;have o:=b.1;rw [List.foldl_cons,L01.qa9,←qlo l _ fun x e=>h x (by simp [e])];congr 1;omega
theorem qBr {s:Bs} (h:L01.qY s=true):Lib.atoiAll s= .ok (qbQ s):=by
 unfold L01.qY at h;simp only [Bool.and_eq_true,Bool.not_eq_true',Bool.or_eq_false_iff,Bool.and_eq_false_iff,decide_eq_false_iff_not,Bool.or_eq_true,decide_eq_true_eq] at h;obtain ⟨⟨⟨⟨o,y⟩,u⟩,E⟩,x⟩:=h;have a:=L01.qh4.1 (Decidable.of_not_not u);have F:L01.vA 0 s≤1000000000:=by
  rcases x with h|h
  ·have H:=L01.qeJ s 0 a;have z:(10:Nat)^s.length≤10^9:=Nat.pow_le_pow_right (by decide) (by omega);omega
  ·rw [h];decide
 have b:s≠[]:=fun e=>o (by rw [e];rfl);have e:qbQ s=(L01.vA 0 s:Int):=qlo s 0 a;rw [e];obtain ⟨c,r,rfl⟩:∃c r,s=c::r:=by cases s with|nil=>exact absurd rfl b|cons c r=>exact ⟨c,r,rfl⟩
 have t:=a c (by simp);simp [L01.qw] at t;unfold Lib.atoiAll;simp only [];rw [if_neg (by omega),Lib.parseMag,if_neg (by simp),L01.qf0 _ 0 a (by omega)];simp only [];rw [if_neg (by omega),if_neg (by omega),if_neg (by omega)]
theorem qvx {L:List Tok} (h:jv L):qeD L:=fun t a b=>by
 have:=h t a;rw [b] at this;exact qBr this
section
variable {α:Type} {A:Ans α} {L:List Tok} {m:M α} {B P:Nat} {w:World} {tv nv:Value} {g:Nat}
def vl (L:List Tok) (m:M α):Bool:=match bnd m (fun a=>bnd (fin L) fun _=>ret a) 0 0 with| .ok _ _ _=>true|_=>false
def qiD (A:Ans α) (L:List Tok) (B:Nat) (tv:Value) (m:M α) (w2:World):Prop:=∃(i f:Nat) (nv2:Value) (ys:List NV),PSt B B w2 tv nv2 L i f ys∧∀a j g,vl L m=true→m 0 0= .ok a j g→ys.map (·.nd)=A.nodes 0 a∧j≤L.length
def vW (L:List Tok) (m:M α):Nat:=match bnd m (fun a=>bnd (fin L) fun _=>ret a) 0 0 with| .no g=>g| .ok _ _ g=>g| .oof=>0
end
theorem qu2 {L:List Tok} {m:M T} (hm:Mt aT L 62 me m) (I:m 0 0≠ .oof) {B P:Nat} {w:World} {tv:Value} (hS:PSt B B w tv (.slice none 0 0) L 0 0 []) (hP:Blk w P #[.pointer (some ⟨B,0,none⟩)] 83):
  Calls Tryz.prog 61 #[.pointer (some ⟨P,0,none⟩)] w (QX B tv w (vl L m) (vW L m) (qiD aT L B tv m)):=by
 refine qw5 fun ρ r0=> ?_;have cP:w.cell? ⟨P,0,none⟩=some (.pointer (some ⟨B,0,none⟩)):=by rw [hP.cell];rfl
 simp [qmM,r0,cP];have sm:∀{nv2:Value} {w2:World},Tn B B (.slice none 0 0) nv2 w w2→qv qcA w w2:=fun hT=>(hS.sameT hT).mono fun k T h=>by
  rcases h with rfl|rfl|rfl<;>exact ⟨by decide, .inl (by decide)⟩
 refine (hm B B w tv _ 0 0 [] hS (by simp) I).mono ?_;intro e w2 V;cases h:m 0 0 with
 |oof=>exact absurd h I
 |no g=>
  rw [h] at V;obtain ⟨j,nv2,ys,rfl,o,b⟩:=V;have E:vl L m=false:=by simp [vl,bnd,h,Rs.andThen]
  have J:vW L m=g:=by simp [vW,bnd,h,Rs.andThen]
  rw [E,J];refine ⟨sm b,b.below, .inr ⟨rfl,rfl,j,nv2,o.blk,o.own.isl,j,g,nv2,_,o,fun a j g _ F=> ?_⟩⟩;cases h.symm.trans F
 |ok t j g=>
  rw [h] at V;obtain ⟨v,nv2,ys,rfl,o,Z,_,b,hv⟩:=V;have Y:=hP.at' (sm b) (.inr (.inr rfl));have W:w2.cell? ⟨P,0,none⟩=some (.pointer (some ⟨B,0,none⟩)):=by rw [Y.cell];rfl
  simp [r0,W];refine ⟨by kernel_rfl,(qk8 o).mono ?_⟩;intro e w3 c;cases z:fin L j g with
  |oof=>rw [z] at c;exact c.elim
  |no S=>
   rw [z] at c;obtain ⟨U,y,H,rfl,s,x⟩:=c;have E:vl L m=false:=by simp [vl,bnd,h,z,Rs.andThen]
   have J:vW L m=S:=by simp [vW,bnd,h,z,Rs.andThen]
   rw [E,J];simp;exact ⟨sm (b.trans x),(b.trans x).below, .inr ⟨rfl,rfl,U,y,s.blk,s.own.isl,U,S,y,_,s,fun a j g F=>by rw [E] at F;cases F⟩⟩
  |ok u U S=>
   rw [z] at c;obtain ⟨v3,y,H,rfl,s,O,_,x,hv3⟩:=c;have E:vl L m=true:=by simp [vl,bnd,h,z,ret,Rs.andThen]
   have J:vW L m=S:=by simp [vW,bnd,h,z,ret,Rs.andThen]
   rw [E,J];obtain rfl:H=[]:=by simpa [aU] using O
   simp;refine ⟨sm (b.trans x),(b.trans x).below, .inl ⟨rfl,rfl,U,S,y,ys,by simpa using s,fun a j g _ F=> ?_⟩⟩;obtain ⟨rfl,rfl,_⟩:t=a∧_∧_:=by simpa using h.symm.trans F
   exact ⟨Z,o.il⟩
theorem qu1 {L:List Tok} {m:M Unit} (hm:Mt aU L 72 me m) (I:m 0 0≠ .oof) {B P:Nat} {w:World} {tv:Value} (hS:PSt B B w tv (.slice none 0 0) L 0 0 []) (hP:Blk w P #[.pointer (some ⟨B,0,none⟩)] 83):
  Calls Tryz.prog 71 #[.pointer (some ⟨P,0,none⟩)] w (QX B tv w (vl L m) (vW L m) (qiD aU L B tv m)):=by
 refine qwV fun ρ r0=> ?_;have cP:w.cell? ⟨P,0,none⟩=some (.pointer (some ⟨B,0,none⟩)):=by rw [hP.cell];rfl
 simp [qmE,r0,cP];have sm:∀{nv2:Value} {w2:World},Tn B B (.slice none 0 0) nv2 w w2→qv qcA w w2:=fun hT=>(hS.sameT hT).mono fun k T h=>by
  rcases h with rfl|rfl|rfl<;>exact ⟨by decide, .inl (by decide)⟩
 refine (hm B B w tv _ 0 0 [] hS (by simp) I).mono ?_;intro e w2 V;cases h:m 0 0 with
 |oof=>exact absurd h I
 |no g=>
  rw [h] at V;obtain ⟨j,nv2,ys,rfl,o,b⟩:=V;have E:vl L m=false:=by simp [vl,bnd,h,Rs.andThen]
  have J:vW L m=g:=by simp [vW,bnd,h,Rs.andThen]
  rw [E,J];refine ⟨sm b,b.below, .inr ⟨rfl,rfl,j,nv2,o.blk,o.own.isl,j,g,nv2,_,o,fun a j g _ F=> ?_⟩⟩;cases h.symm.trans F
 |ok t j g=>
  rw [h] at V;obtain ⟨v,nv2,ys,rfl,o,Z,_,b,hv⟩:=V;have Y:=hP.at' (sm b) (.inr (.inr rfl));have W:w2.cell? ⟨P,0,none⟩=some (.pointer (some ⟨B,0,none⟩)):=by rw [Y.cell];rfl
  simp [r0,W];refine ⟨by kernel_rfl,(qk8 o).mono ?_⟩;intro e w3 c;cases z:fin L j g with
  |oof=>rw [z] at c;exact c.elim
  |no S=>
   rw [z] at c;obtain ⟨U,y,H,rfl,s,x⟩:=c;have E:vl L m=false:=by simp [vl,bnd,h,z,Rs.andThen]
   have J:vW L m=S:=by simp [vW,bnd,h,z,Rs.andThen]
   rw [E,J];simp;exact ⟨sm (b.trans x),(b.trans x).below, .inr ⟨rfl,rfl,U,y,s.blk,s.own.isl,U,S,y,_,s,fun a j g F=>by rw [E] at F;cases F⟩⟩
  |ok u U S=>
   rw [z] at c;obtain ⟨v3,y,H,rfl,s,O,_,x,hv3⟩:=c;have E:vl L m=true:=by simp [vl,bnd,h,z,ret,Rs.andThen]
   have J:vW L m=S:=by simp [vW,bnd,h,z,ret,Rs.andThen]
   rw [E,J];obtain rfl:H=[]:=by simpa [aU] using O
   simp;refine ⟨sm (b.trans x),(b.trans x).below, .inl ⟨rfl,rfl,U,S,y,ys,by simpa using s,fun a j g _ F=> ?_⟩⟩;obtain ⟨_,rfl,_⟩:=Rs.ok.inj (h.symm.trans F);exact ⟨Z,o.il⟩
@[simp] theorem qDz:qf Tryz.prog 53=true:=by kernel_rfl
@[simp] theorem qDy:qf Tryz.prog 57=true:=by kernel_rfl
@[simp] theorem qDx:qf Tryz.prog 64=true:=by kernel_rfl
@[simp] theorem qDw:qf Tryz.prog 76=true:=by kernel_rfl
theorem qbo:∀(n:Nat) (s:Bs) (l e m:Int),L01.kU n s l= .bad e m→e≠0
 |0,_,_,_,_,h=>by cases h
 |_+1,[],_,_,_,h=>by cases h
 |n+1,c::r,l,e,m,h=>by
  have add:∀{o c:_} {x:L01.Res},x.add o c= .bad e m→x= .bad e m:=fun {o c x} h=>by cases x<;>simpa [L01.Res.add] using h
  unfold L01.kU at h;split at h
  ·exact qbo n _ _ _ _ h
  ·split at h
   ·exact qbo n _ _ _ _ h
   ·split at h
    ·exact qbo n _ _ _ _ (add h)
    ·split at h
     ·rename_i a;simp only [L01.Res.bad.injEq] at h;rw [←h.1];exact a
     ·exact qbo n _ _ _ _ (add h)
theorem qft {s:Bs} {e l:Int} (h:qr s= .bad e l):e≠0:=by
 unfold L01.qr at h;split at h
 ·simp only [L01.Res.bad.injEq] at h;rw [←h.1];decide
 ·exact qbo _ _ _ _ _ h
theorem qqw {v:Value} (h:qt v=true):Tryz.prog.built 85 [(0,v)]=some #[v, .int .i64 0, .int .i64 0, .slice none 0 0]:=by
 rcases xy h with ⟨b,o,n,c,rfl,_⟩|rfl|⟨b,o,s,rfl⟩<;>kernel_rfl
theorem z83:vh Tryz.prog 83=some #[.pointer none]:=by kernel_rfl
theorem qjw:jo Tryz.prog 83 1=true:=by kernel_rfl
theorem qpO {B:Nat} {w w1 w2:World} (h:qc w w1) (a:Below B w1 w2) (c:w.heap.size≤B):qc w w2:=⟨a.os.trans h.os,a.tape.trans h.tape,a.output.trans h.output,Nat.le_trans h.size a.size,fun k b=>(a.block k (by omega)).trans (h.block k b)⟩
theorem qdf {w:World} (hG:L01.G w) (s:Bs) (hs:s.length<4611686018427387904):Calls Tryz.prog 22 #[.string (qb s)] w fun e w'=>e= .returned (.bool (xN s))∧qc w w':=by
 refine qx8 fun ρ r0=> ?_;simp -implicitDefEqProofs [qn9,r0];refine (L01.qe4 hG s hs).mono ?_;rintro _ w1 ⟨v,rfl,hv,hE1⟩;simp -implicitDefEqProofs [fV];refine qK L01.z31 fun F w2 hF U hb2 _=> ?_;simp -implicitDefEqProofs;refine jg (B:=F) (by simp) hb2 (by simp [Value.cells]) (by simp [Value.cells]) (by simpa [Value.cells] using L01.qaa) fun w3 S ae=> ?_;simp [Value.cells] at ae;have c:qc w w3:=(S.ext U hF)|>hE1.trans'
 have hc0:w3.cell? ⟨F,0,none⟩=some (.int .i64 (qr s).err):=by rw [ae.cell];rfl
 simp -implicitDefEqProofs [hc0,r0];by_cases b:(qr s).err=0∧s.length≤100
 ·obtain ⟨O,ac⟩:=b;have I:¬(100:Int)<(s.length:Int):=by omega
  obtain ⟨a,cs,x⟩:∃a cs,qr s= .ok a cs:=by
   cases h:qr s with
   |ok a cs=>exact ⟨a,cs,rfl⟩
   |bad e l=>rw [h] at O;exact absurd O (qft h)
  rw [x] at hv;have E:Own w.heap.size 53 3 w1 v (qB a):=hv;have J:=qd2 x;have aa:a.length≤20000:=by have:=(L01.qj6 s).1;rw [x] at this;exact this
  have af:=E.isl;have hic:=zH af;simp -implicitDefEqProofs [O,I,qnV,qqw af];refine vY fun B w4 hB hE4 Y _=> ?_;simp -implicitDefEqProofs [Value.cells,hic] at Y⊢;refine qK z83 fun P w5 hP hE5 hb5 _=> ?_;simp -implicitDefEqProofs;refine jg (B:=P) (by simp) hb5 (by simp [Value.cells]) (by simp [Value.cells]) (by simpa [Value.cells] using qjw) fun w6 hO6 H=> ?_;simp -implicitDefEqProofs [Value.cells] at H;have cP:w6.cell? ⟨P,0,none⟩=some (.pointer (some ⟨B,0,none⟩)):=by rw [H.cell];rfl
  have y:qc w4 w6:=hO6.ext hE5 hP;have z:qc w3 w6:=hE4.trans' y;have ad:=((E.ext ((S.ext U hF))).ext z);have ag:=Y.ext y;have hS:PSt B B w6 v (.slice none 0 0) a 0 0 []:=⟨ag,Own.down ad (Nat.zero_le _),Own.nil _ _ _ _,by simp,Nat.le_refl _,Nat.le_of_lt ag.lt,aa,Nat.zero_le _,Nat.zero_le _⟩;simp -implicitDefEqProofs [cP];have hkn:kind a (a.length+3) 0 0≠ .oof:=qwm (Nat.le_refl _) 0;refine (qk0 hS (by kernel_rfl) fun W hE=>qu1 (qf3 (a.length+3)) hkn (hS.ext hE) (H.ext hE)).mono ?_;rintro _ w7 ⟨rfl,ab,w8,_,hsm,_⟩;have hB3:w3.heap.size≤B:=hB;have V:qc w w7:=by
   exact qpO (c.trans' z) ab (by have:=c.size;omega)
  have Z:vl a (kind a (a.length+3))=(match kind a (a.length+3) 0 0 with| .ok _ j _=>decide (a.length≤j)|_=>false):=by
   unfold vl bnd;cases h:kind a (a.length+3) 0 0 with
   |oof=>rfl
   |no g=>rfl
   |ok u j g=>
    simp only [Rs.andThen,bnd,fin];by_cases hj:j<a.length
    ·simp [hj,Rs.andThen]
    ·simp [hj,Rs.andThen,ret];omega
  have o:xN s=(vl a (kind a (a.length+3))&&decide (vm a=s)):=by
   unfold xN;rw [x,Z];simp [ac];rfl
  cases hk:vl a (kind a (a.length+3)) with
  |false=>
   rw [hk] at o;simp -implicitDefEqProofs [o];exact V
  |true=>
   rw [hk] at o hsm;have hv7:Own w.heap.size 53 3 w7 v (qB a):=Own.same ad fun k hk=>ab.block k (by have:=(E.blk k hk).2;have:=U.size;have:=S.size;omega);simp -implicitDefEqProofs [o];refine (qk4 (SlK.own hv7 (by omega)) (qjY J) aa).mono ?_;rintro _ w9 ⟨rfl,hE9⟩;simp -implicitDefEqProofs [r0];exact ⟨xH,V.trans' hE9⟩
 ·have t:xN s=false:=by
   unfold xN;split
   ·rename_i a cs h;have:¬s.length≤100:=fun h1=>b ⟨by rw [h];rfl,h1⟩;simp [this]
   ·rfl
  rw [t];have hor:((qr s).err=0→(100:Int)<s.length):=fun h=>by
   have:¬s.length≤100:=fun h1=>b ⟨h,h1⟩;omega
  by_cases O:(qr s).err=0
  ·have:=hor O;simp -implicitDefEqProofs [O,this];exact c
  ·simp -implicitDefEqProofs [O];exact c
end Go.L02
