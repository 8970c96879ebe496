/- Texts of mine for the claims about layer 2 (tree), joined: EngXa. -/
import Derived.Test.YtbcmiempigoooaaGreatDoorJax
set_option linter.all false
set_option linter.unusedSimpArgs false
set_option linter.unusedVariables false
namespace Go.Eng
open Go.RowKit
inductive Tr (α:Type) where
  |lf
  |nd (v:Option α) (l r:Tr α)
noncomputable def Tr.get {α:Type} (t:Tr α):Nat→Option α:=
  Tr.rec (motive:=fun _=>Nat→Option α) (fun _=>none) (fun v _ _ l r k=>Bool.rec (motive:=fun _=>Option α) (Bool.rec (motive:=fun _=>Option α) (r (Nat.sub (Nat.div k 2) 1)) (l (Nat.div k 2)) (Nat.beq (Nat.mod k 2) 1)) v (Nat.beq k 0)) t
noncomputable def Tr.putS {α:Type} (x:Option α) (ih:Tr α→Nat→Tr α) (v:Option α) (l r:Tr α) (k:Nat):Tr α:=
  Bool.rec (motive:=fun _=>Tr α) (Bool.rec (motive:=fun _=>Tr α) (.nd v l (ih r (Nat.sub (Nat.div k 2) 1))) (.nd v (ih l (Nat.div k 2)) r) (Nat.beq (Nat.mod k 2) 1)) (.nd x l r) (Nat.beq k 0)
noncomputable def Tr.put {α:Type} (f:Nat) (t:Tr α) (k:Nat) (x:Option α):Tr α:=
  Nat.rec (motive:=fun _=>Tr α→Nat→Tr α) (fun t _=>t) (fun _ ih t k=>Tr.rec (motive:=fun _=>Tr α) (Tr.putS x ih none .lf .lf k) (fun v l r _ _=>Tr.putS x ih v l r k) t) f t k
theorem recP {β:Type} (a b:Nat) (x y:β):(Bool.rec (motive:=fun _=>β) y x (Nat.beq a b):β)=if a=b then x else y:=by
  by_cases h:a=b
  · subst h;simp
  · rw [if_neg h,show Nat.beq a b=false from by
      cases e:Nat.beq a b
      · rfl
      · exact absurd (Nat.eq_of_beq_eq_true e) h]
theorem beqP {α:Type} (a b:Nat) (x y:α):(bif Nat.beq a b then x else y)=if a=b then x else y:=by
  by_cases h:a=b
  · subst h;simp
  · rw [if_neg h,show Nat.beq a b=false from by
      cases e:Nat.beq a b
      · rfl
      · exact absurd (Nat.eq_of_beq_eq_true e) h];rfl
@[simp] theorem Tr.get_lf {α:Type} (k:Nat):(Tr.lf:Tr α).get k=none:=rfl
theorem Tr.get_nd {α:Type} (v:Option α) (l r:Tr α) (k:Nat):(Tr.nd v l r).get k=if k=0 then v else if k%2=1 then l.get (k / 2) else r.get (k / 2 - 1):=by
  show (Bool.rec (motive:=fun _=>Option α) (Bool.rec (motive:=fun _=>Option α) (r.get (k / 2 - 1)) (l.get (k / 2)) (Nat.beq (k%2) 1)) v (Nat.beq k 0))=_
  rw [recP,recP]
theorem Tr.putS_eq {α:Type} (x:Option α) (ih:Tr α→Nat→Tr α) (v:Option α) (l r:Tr α) (k:Nat):Tr.putS x ih v l r k=if k=0 then .nd x l r else if k%2=1 then .nd v (ih l (k / 2)) r else .nd v l (ih r (k / 2 - 1)):=by
  show (Bool.rec (motive:=fun _=>Tr α) (Bool.rec (motive:=fun _=>Tr α) (.nd v l (ih r (k / 2 - 1))) (.nd v (ih l (k / 2)) r) (Nat.beq (k%2) 1)) (.nd x l r) (Nat.beq k 0))=_
  rw [recP,recP]
theorem Tr.put_lf {α:Type} (f k:Nat) (x:Option α):Tr.put (f+1) .lf k x=if k=0 then .nd x .lf .lf else if k%2=1 then .nd none (Tr.put f .lf (k / 2) x) .lf else .nd none .lf (Tr.put f .lf (k / 2 - 1) x):=
  Tr.putS_eq x (fun t k=>Tr.put f t k x) none .lf .lf k
theorem Tr.put_nd {α:Type} (f k:Nat) (x v:Option α) (l r:Tr α):Tr.put (f+1) (.nd v l r) k x=if k=0 then .nd x l r else if k%2=1 then .nd v (Tr.put f l (k / 2) x) r else .nd v l (Tr.put f r (k / 2 - 1) x):=
  Tr.putS_eq x (fun t k=>Tr.put f t k x) v l r k
theorem Tr.get_put {α : Type} : ∀ (f : Nat) (t : Tr α) (k : Nat) (x : Option α), k + 1 < 2 ^ f → ∀ j, (Tr.put f t k x).get j = if j = k then x else t.get j
  |0,t,k,x,h,j=>by simp at h
  | f + 1, t, k, x, h, j => by
    have e:2^(f+1)=2*2^f:=by rw [Nat.pow_succ];omega
    rw [e] at h
    have key:∀(v:Option α) (l r:Tr α),(if k=0 then Tr.nd x l r else if k%2=1 then .nd v (Tr.put f l (k / 2) x) r else .nd v l (Tr.put f r (k / 2 - 1) x)).get j=if j=k then x else (Tr.nd v l r).get j:=by
      intro v l r
      by_cases k0:k=0
      · subst k0
        by_cases j0:j=0
        · subst j0;simp [Tr.get_nd]
        · simp [Tr.get_nd,j0]
      · rw [if_neg k0]
        by_cases k1:k%2=1
        · rw [if_pos k1]
          have ih:=Tr.get_put f l (k / 2) x (by omega)
          by_cases j0:j=0
          · subst j0;rw [if_neg (fun e=>k0 e.symm)];simp [Tr.get_nd]
          · by_cases j1:j%2=1
            · simp only [Tr.get_nd,if_neg j0,if_pos j1,ih]
              by_cases e1:j=k
              · subst e1;simp
              · rw [if_neg (by omega),if_neg e1]
            · simp only [Tr.get_nd,if_neg j0,if_neg j1]
              rw [if_neg (by omega)]
        · rw [if_neg k1]
          have ih:=Tr.get_put f r (k / 2 - 1) x (by omega)
          by_cases j0:j=0
          · subst j0;rw [if_neg (fun e=>k0 e.symm)];simp [Tr.get_nd]
          · by_cases j1:j%2=1
            · simp only [Tr.get_nd,if_neg j0,if_pos j1]
              rw [if_neg (by omega)]
            · simp only [Tr.get_nd,if_neg j0,if_neg j1,ih]
              by_cases e1:j=k
              · subst e1;simp
              · rw [if_neg (by omega),if_neg e1]
    cases t with
    |lf=>
      have:=key none .lf .lf
      have e2:(Tr.nd none .lf .lf:Tr α).get j=(Tr.lf:Tr α).get j:=by
        simp only [Tr.get_nd,Tr.get_lf];split
        · rfl
        · split<;>rfl
      rw [e2] at this
      rw [Tr.put_lf]
      exact this
    |nd v l r=>rw [Tr.put_nd];exact key v l r
def lim:Nat:=1048570
noncomputable def Tr.set {α:Type} (t:Tr α) (k:Nat) (x:α):Tr α:=Tr.put 20 t k (some x)
noncomputable def Tr.del {α:Type} (t:Tr α) (k:Nat):Tr α:=Tr.put 20 t k none
theorem Tr.get_set {α:Type} (t:Tr α) {k:Nat} (x:α) (h:k<lim) (j:Nat):(t.set k x).get j=if j=k then some x else t.get j:=Tr.get_put 20 t k _ (by unfold lim at h;simp only [Nat.reducePow];omega) j
theorem Tr.get_del {α:Type} (t:Tr α) {k:Nat} (h:k<lim) (j:Nat):(t.del k).get j=if j=k then none else t.get j:=Tr.get_put 20 t k _ (by unfold lim at h;simp only [Nat.reducePow];omega) j
structure Ob where
  cells:List Value
  ty:TypeId
  sz:Nat
  whole:Bool
  ex:Bool
abbrev Mem:=Tr Ob
abbrev Sg:=Nat→Option (Nat×Nat×Nat)
def Sg.le (σ τ:Sg):Prop:=∀k p,σ k=some p→τ k=some p
theorem Sg.le_refl (σ:Sg):σ.le σ:=fun _ _ h=>h
theorem Sg.le_trans {a b c:Sg} (h:a.le b) (k:b.le c):a.le c:=fun i p hp=>k i p (h i p hp)
def plainV:Value→Bool
  | .bool _| .int _ _| .string _| .nilFunc| .nilIface| .pointer none=>true
  | .slice none 0 0=>true
  |_=>false
inductive VR (σ:Sg):Value→Value→Prop
  |pln {v:Value} (h:plainV v=true):VR σ v v
  |ptr {i b f x o:Nat} (h:σ i=some (b,f,x)):VR σ (.pointer (some ⟨i,o,none⟩)) (.pointer (some ⟨b,f+o,none⟩))
  |slc {i b f x o n c:Nat} (h:σ i=some (b,f,x)) (hn:n≤c):VR σ (.slice (some ⟨i,o,none⟩) n c) (.slice (some ⟨b,f+o,none⟩) n (c+x))
  |fnc {g:Fn} {fs gs cs ds:Array Value} (h1:fs.size=gs.size) (h2:∀(i:Nat) (x y:Value),fs[i]? =some x→gs[i]? =some y→VR σ x y) (h3:cs.size=ds.size) (h4:∀(i:Nat) (x y:Value),cs[i]? =some x→ds[i]? =some y→VR σ x y):VR σ (.func g fs cs) (.func g gs ds)
  |mp {i b:Nat} (h:σ i=some (b,0,0)):VR σ (.map (some i)) (.map (some b))
  |ifc {t:TypeId} {v v':Value} (h:VR σ v v'):VR σ (.iface t v) (.iface t v')
  |agg {cs ds:Array Value} (h1:cs.size=ds.size) (h2:∀(i:Nat) (x y:Value),cs[i]? =some x→ds[i]? =some y→VR σ x y):VR σ (.agg cs) (.agg ds)
  |tup {cs ds:Array Value} (h1:cs.size=ds.size) (h2:∀(i:Nat) (x y:Value),cs[i]? =some x→ds[i]? =some y→VR σ x y):VR σ (.tuple cs) (.tuple ds)
theorem VR.mono {σ τ:Sg} (hl:σ.le τ) {v v':Value} (h:VR σ v v'):VR τ v v':=by
  induction h with
  |pln h=>exact .pln h
  |ptr h=>exact .ptr (hl _ _ h)
  |slc h hn=>exact .slc (hl _ _ h) hn
  |mp h=>exact .mp (hl _ _ h)
  |fnc h1 _ h3 _ i2 i4=>exact .fnc h1 i2 h3 i4
  |ifc _ ih=>exact .ifc ih
  |agg h1 _ ih=>exact .agg h1 ih
  |tup h1 _ ih=>exact .tup h1 ih
theorem arr_fun {cs ds es:Array Value} {σ:Sg} (h1:cs.size=ds.size) (h2:∀(i:Nat) (x y:Value),cs[i]? =some x→ds[i]? =some y→∀z,VR σ x z→y=z) (k1:cs.size=es.size) (k2:∀(i:Nat) (x y:Value),cs[i]? =some x→es[i]? =some y→VR σ x y):ds=es:=by
  apply Array.ext
  · omega
  · intro i hi hj
    have hc:i<cs.size:=by omega
    exact h2 i cs[i] ds[i] (Array.getElem?_eq_getElem hc) (Array.getElem?_eq_getElem hi) es[i] (k2 i cs[i] es[i] (Array.getElem?_eq_getElem hc) (Array.getElem?_eq_getElem hj))
theorem VR.uniq {σ:Sg} {v a:Value} (h:VR σ v a):∀{b:Value},VR σ v b→a=b:=by
  induction h with
  |pln h=>
    intro b hb
    cases hb with
    |pln _=>rfl
    |ptr _=>cases h
    |slc _ _=>cases h
    |mp _=>cases h
    |fnc _ _ _ _=>cases h
    |ifc _=>cases h
    |agg _ _=>cases h
    |tup _ _=>cases h
  |ptr h=>
    intro b hb
    cases hb with
    |pln h'=>cases h'
    |ptr h'=>rw [h] at h';cases h';rfl
  |slc h hn=>
    intro b hb
    cases hb with
    |pln h'=>cases h'
    |slc h' _=>rw [h] at h';cases h';rfl
  |mp h=>
    intro b hb
    cases hb with
    |pln h'=>cases h'
    |mp h'=>rw [h] at h';cases h';rfl
  |fnc h1 _ h3 _ i2 i4=>
    intro b hb
    cases hb with
    |pln h'=>cases h'
    |fnc k1 k2 k3 k4=>rw [arr_fun h1 (fun i x y hx hy z hz=>i2 i x y hx hy hz) k1 k2,arr_fun h3 (fun i x y hx hy z hz=>i4 i x y hx hy hz) k3 k4]
  |ifc _ ih=>
    intro b hb
    cases hb with
    |pln h'=>cases h'
    |ifc h'=>rw [ih h']
  |agg h1 _ ih=>
    intro b hb
    cases hb with
    |pln h'=>cases h'
    |agg k1 k2=>rw [arr_fun h1 (fun i x y hx hy z hz=>ih i x y hx hy hz) k1 k2]
  |tup h1 _ ih=>
    intro b hb
    cases hb with
    |pln h'=>cases h'
    |tup k1 k2=>rw [arr_fun h1 (fun i x y hx hy z hz=>ih i x y hx hy hz) k1 k2]
def VRs (σ:Sg):List Value→List Value→Prop
  |[],[]=>True
  |a::l,b::m=>VR σ a b∧VRs σ l m
  |_,_=>False
theorem VRs.len {σ:Sg}:∀{l m:List Value},VRs σ l m→l.length=m.length
  |[],[],_=>rfl
  |_::l,_::m,h=>by simp [VRs.len h.2]
theorem VRs.mono {σ τ:Sg} (hl:σ.le τ):∀{l m:List Value},VRs σ l m→VRs τ l m
  |[],[],_=>trivial
  |_::_,_::_,h=>⟨h.1.mono hl,VRs.mono hl h.2⟩
theorem VRs.get {σ:Sg}:∀{l m:List Value},VRs σ l m→∀(j:Nat) (v:Value),l[j]? =some v→∃v',m[j]? =some v'∧VR σ v v'
  |[],[],_,j,v,hv=>by simp at hv
  |a::l,b::m,h,0,v,hv=>by simp at hv;subst hv;exact ⟨b,rfl,h.1⟩
  |a::l,b::m,h,j+1,v,hv=>by simpa using VRs.get h.2 j v (by simpa using hv)
theorem VRs.uniq {σ:Sg}:∀{l a b:List Value},VRs σ l a→VRs σ l b→a=b
  |[],[],[],_,_=>rfl
  |_::_,_::_,_::_,h,k=>by rw [h.1.uniq k.1,VRs.uniq h.2 k.2]
theorem VRs.app {σ:Sg}:∀{a b c d:List Value},VRs σ a b→VRs σ c d→VRs σ (a++c) (b++d)
  |[],[],_,_,_,k=>k
  |_::_,_::_,_,_,h,k=>⟨h.1,VRs.app h.2 k⟩
theorem VRs.take {σ:Sg}:∀{a b:List Value} (n:Nat),VRs σ a b→VRs σ (a.take n) (b.take n)
  |[],[],_,_=>by simp [VRs]
  |_::_,_::_,0,_=>by simp [VRs]
  |_::_,_::_,n+1,h=>⟨h.1,VRs.take n h.2⟩
theorem VRs.drop {σ:Sg}:∀{a b:List Value} (n:Nat),VRs σ a b→VRs σ (a.drop n) (b.drop n)
  |[],[],_,_=>by simp [VRs]
  |_::_,_::_,0,h=>h
  |_::_,_::_,n+1,h=>VRs.drop n h.2
theorem VRs.set {σ:Sg} {v v':Value} (hv:VR σ v v'):∀{a b:List Value} (n:Nat),VRs σ a b→VRs σ (a.set n v) (b.set n v')
  |[],[],_,_=>trivial
  |_::_,_::_,0,h=>⟨hv,h.2⟩
  |_::_,_::_,n+1,h=>⟨h.1,VRs.set hv n h.2⟩
theorem VRs.of {σ:Sg}:∀{l m:List Value},l.length=m.length→(∀(j:Nat) (x y:Value),l[j]? =some x→m[j]? =some y→VR σ x y)→VRs σ l m
  |[],[],_,_=>trivial
  |a::l,b::m,h,hh=>⟨hh 0 a b rfl rfl,VRs.of (by simpa using h) fun j x y hx hy=>hh (j+1) x y (by simpa using hx) (by simpa using hy)⟩
theorem VRs.arr {σ:Sg} {cs ds:Array Value} (h:VRs σ cs.toList ds.toList):cs.size=ds.size∧∀(i:Nat) (x y:Value),cs[i]? =some x→ds[i]? =some y→VR σ x y:=by
  refine ⟨by simpa using h.len,fun i x y hx hy=> ?_⟩
  obtain ⟨v',hv,hr⟩:=h.get i x (by rw [←hx];simp)
  rw [←Array.getElem?_toList,hv] at hy
  cases hy
  exact hr
structure RO (σ:Sg) (w:World) (i:Nat) (o:Ob) (b f x:Nat) (cur:Array Value):Prop where
  at':σ i=some (b,f,x)
  heap:w.heap[b]? =some (.cells cur o.ty (0,0))
  cs:VRs σ o.cells ((cur.toList.drop f).take o.cells.length)
  room:f+o.cells.length+x*o.sz≤cur.size
  whole:o.whole=true→f=0∧x=0∧cur.size=o.cells.length
  most:o.whole=false→∃n,o.cells.length=n*o.sz∧n+x≤maxLen
  exact:o.ex=true→f=0∧cur.size=o.cells.length+x*o.sz
def pairsV (ps:List (ByteArray×Value)):List Value:=ps.flatMap fun p=>[.string p.1,p.2]
def MO (σ:Sg) (w:World) (i:Nat) (o:Ob):Prop:=∃b ps,σ i=some (b,0,0)∧MapB w b ps∧o.cells=pairsV ps∧∀p∈ps,plainV p.2=true
def MR (σ:Sg) (H:Mem) (w:World):Prop:=∀i o,H.get i=some o→(o.sz=0→MO σ w i o)∧(o.sz≠0→∃b f x cur,RO σ w i o b f x cur)
theorem MO.mono {σ τ:Sg} (hl:σ.le τ) {w:World} {i:Nat} {o:Ob} (h:MO σ w i o):MO τ w i o:=by
  obtain ⟨b,ps,h1,h2⟩:=h
  exact ⟨b,ps,hl _ _ h1,h2⟩
theorem RO.mono {σ τ:Sg} (hl:σ.le τ) {w:World} {i:Nat} {o:Ob} {b f x:Nat} {cur:Array Value} (h:RO σ w i o b f x cur):RO τ w i o b f x cur:=
  ⟨hl _ _ h.at',h.heap,h.cs.mono hl,h.room,h.whole,h.most,h.exact⟩
theorem RO.keep {σ:Sg} {w w':World} {i:Nat} {o:Ob} {b f x:Nat} {cur:Array Value} (h:RO σ w i o b f x cur) (hb:w'.heap[b]? =w.heap[b]?):RO σ w' i o b f x cur:=
  ⟨h.at',hb.trans h.heap,h.cs,h.room,h.whole,h.most,h.exact⟩
theorem RO.lt {σ:Sg} {w:World} {i:Nat} {o:Ob} {b f x:Nat} {cur:Array Value} (h:RO σ w i o b f x cur):b<w.heap.size:=(Array.getElem?_eq_some_iff.1 h.heap).1
theorem MR.ext {σ:Sg} {H:Mem} {w w':World} (h:MR σ H w) (hE:Ext w w'):MR σ H w':=fun i o hi=>by
  refine ⟨fun hz=> ?_,fun hz=> ?_⟩
  · obtain ⟨b,ps,h1,h2,h3⟩:=(h i o hi).1 hz
    exact ⟨b,ps,h1,h2.ext hE,h3⟩
  · obtain ⟨b,f,x,cur,hr⟩:=(h i o hi).2 hz
    exact ⟨b,f,x,cur,hr.keep (hE.block b hr.lt)⟩
theorem MR.mono {σ τ:Sg} {H:Mem} {w:World} (h:MR σ H w) (hl:σ.le τ):MR τ H w:=fun i o hi=>by
  refine ⟨fun hz=>((h i o hi).1 hz).mono hl,fun hz=> ?_⟩
  obtain ⟨b,f,x,cur,hr⟩:=(h i o hi).2 hz
  exact ⟨b,f,x,cur,hr.mono hl⟩
theorem RO.cell {σ:Sg} {w:World} {i:Nat} {o:Ob} {b f x:Nat} {cur:Array Value} (h:RO σ w i o b f x cur) {j:Nat} {v:Value} (hj:o.cells[j]? =some v):∃v',w.cell? ⟨b,f+j,none⟩=some v'∧VR σ v v':=by
  obtain ⟨v',hv,hr⟩:=h.cs.get j v hj
  refine ⟨v', ?_,hr⟩
  have hlt:j<o.cells.length:=(List.getElem?_eq_some_iff.1 hj).1
  rw [List.getElem?_take_of_lt hlt,List.getElem?_drop] at hv
  simpa [World.cell?,h.heap] using hv
noncomputable def cellX (H:Mem) (a:Addr):Option Value:=
  match a.spot with
  |none=>match H.get a.block with|some o=>bif Nat.beq o.sz 0 then none else o.cells[a.off]? |none=>none
  |some _=>none
noncomputable def rowX (H:Mem) (a:Addr) (n:Nat):Option (List Value):=
  match a.spot with
  |none=>match H.get a.block with
    |some o=>bif Nat.beq o.sz 0 then none else if ((o.cells.drop a.off).take n).length=n then some ((o.cells.drop a.off).take n) else none
    |none=>none
  |some _=>none
def subX (sz:Nat) (v:Value) (l h:Int):Option Value:=
  match v with
  | .slice (some ⟨i,o,none⟩) _ c=>if 0≤l∧l≤h∧h≤c∧(l<c∨l=0) then some (.slice (some ⟨i,o+l.toNat*sz,none⟩) (h.toNat - l.toNat) (c - l.toNat)) else none
  | .slice none 0 0=>if l=0∧h=0 then some (.slice none 0 0) else none
  |_=>none
noncomputable def x1 (H:Mem):K1→Value→Option Value
  | .same,v=>some v
  | .load1, .pointer (some a)=>cellX H a
  | .loadN n, .pointer (some a)=>match rowX H a n with|some l=>some (.agg l.toArray)|none=>none
  | .fadr off, .pointer (some ⟨i,o,none⟩)=>some (.pointer (some ⟨i,o+off,none⟩))
  | .fld off, .agg cs=>cs[off]?
  | .lenS, .slice _ n _=>some (.int .i64 n)
  | .lenT, .string s=>some (.int .i64 s.size)
  | .not, .bool b=>some (.bool !b)
  | .neg, .int k n=>some (.int k (k.wrap (0 - n)))
  | .conv k, .int _ n=>some (.int k (k.wrap n))
  | .ext i, .tuple vs=>vs[i]?
  | .mkif t,v=>some (.iface t v)
  | .nilc, .pointer (some a)=>some (.pointer (some a))
  | .nilc, .iface t v=>some (.iface t v)
  | .strid, .string s=>some (.string s)
  | .b2s, .slice none 0 0=>some (.string (bytesFrom []))
  | .b2s, .slice (some a) n _=>match rowX H a n with
    |some l=>(match byteNums l with|some ns=>some (.string (bytesFrom ns))|none=>none)
    |none=>none
  |_,_=>none
def x2:K2→Value→Value→Option Value
  | .ibin op _, .int k a, .int k' b=>if k=k' then (match intBin op k a b with|some (.int k n)=>some (.int k n)|some (.bool b)=>some (.bool b)|_=>none) else none
  | .sbin op, .string x, .string y=>match strBin op x y with|some (.string s)=>some (.string s)|some (.bool b)=>some (.bool b)|_=>none
  | .bbin .eql, .bool a, .bool b=>some (.bool (a==b))
  | .bbin .neq, .bool a, .bool b=>some (.bool (!(a==b)))
  | .ixa sz, .slice (some ⟨i,o,none⟩) n _, .int _ j=>if 0≤j∧j<n then some (.pointer (some ⟨i,o+j.toNat*sz,none⟩)) else none
  | .ixs, .string s, .int _ i=>if 0≤i then (match s[i.toNat]? with|some b=>some (.int .u8 b.toNat)|none=>none) else none
  | .slLo sz, .slice a n c, .int _ l=>subX sz (.slice a n c) l n
  | .stLo, .string s, .int _ l=>if 0≤l∧l≤s.size then some (.string (s.extract l.toNat s.size)) else none
  |_,_,_=>none
def x3:K3→Value→Value→Value→Option Value
  | .slLoHi sz,v, .int _ l, .int _ h=>subX sz v l h
  | .stLoHi, .string s, .int _ l, .int _ h=>if 0≤l∧l≤h∧h≤s.size then some (.string (s.extract l.toNat h.toNat)) else none
  |_,_,_,_=>none
def constB:Value→Bool
  | .func _ fs cs=>fs.isEmpty&&cs.isEmpty
  | .agg cs=>cs.toList.all plainV
  | .tuple cs=>cs.toList.all plainV
  | .iface _ (.agg cs)=>cs.toList.all plainV
  | .iface _ v=>plainV v
  |v=>plainV v
noncomputable def evX (H:Mem) (e:Tr Value):Ex→Option Value
  | .var i=>e.get i
  | .const v=>if constB v then some v else none
  | .op1 k x=>match evX H e x with|some a=>x1 H k a|none=>none
  | .op2 k x y=>match evX H e x,evX H e y with|some a,some b=>x2 k a b|_,_=>none
  | .op3 k x y z=>match evX H e x,evX H e y,evX H e z with|some a,some b,some c=>x3 k a b c|_,_,_=>none
  | .op4 .. =>none
  | .ite c x y=>match evX H e c with|some (.bool true)=>evX H e x|some (.bool false)=>evX H e y|_=>none
section
variable {σ:Sg} {H:Mem} {w:World}
theorem plains_ok {cs:Array Value} (h:cs.toList.all plainV=true):∀(i:Nat) (x y:Value),cs[i]? =some x→cs[i]? =some y→VR σ x y:=fun i x y hx hy=>by
  rw [hx] at hy;cases hy
  exact .pln (List.all_eq_true.1 h x (by rw [Array.mem_toList_iff];exact Array.mem_of_getElem? hx))
theorem constB_ok {v:Value} (h:constB v=true):VR σ v v:=by
  unfold constB at h
  split at h
  · simp only [Bool.and_eq_true,Array.isEmpty_iff] at h
    obtain ⟨rfl,rfl⟩:=h
    exact .fnc rfl (fun i x y hx=>by simp at hx) rfl (fun i x y hx=>by simp at hx)
  · exact .agg rfl (plains_ok h)
  · exact .tup rfl (plains_ok h)
  · exact .ifc (.agg rfl (plains_ok h))
  · exact .ifc (.pln h)
  · exact .pln h
theorem cellX_ok (hM:MR σ H w) {a:Addr} {v v':Value} (ha:VR σ (.pointer (some a)) v') (h:cellX H a=some v):∃u,pv1 w .load1 v'=some u∧VR σ v u:=by
  cases ha with
  |pln h'=>cases h'
  |ptr hs=>
    simp only [cellX] at h
    split at h
    · rename_i o ho
      rw [beqP] at h
      by_cases hz:o.sz=0
      · rw [if_pos hz] at h;cases h
      rw [if_neg hz] at h
      obtain ⟨b,f,x,cur,hr⟩:=(hM _ o ho).2 hz
      have:=hr.at'
      rw [hs] at this
      cases this
      obtain ⟨u,hu,hv⟩:=hr.cell h
      exact ⟨u,hu,hv⟩
    · cases h
theorem rowX_ok (hM : MR σ H w) {i o : Nat} {b f x : Nat} (hs : σ i = some (b, f, x)) {n : Nat} {l : List Value} (h : rowX H ⟨i, o, none⟩ n = some l) : ∃ l', rowAt w ⟨b, f + o, none⟩ 0 n = some l' ∧ VRs σ l l' ∧ l.length = n := by
  simp only [rowX] at h
  split at h
  · rename_i ob hob
    rw [beqP] at h
    by_cases hz:ob.sz=0
    · rw [if_pos hz] at h;cases h
    rw [if_neg hz] at h
    split at h
    · rename_i hl
      cases h
      obtain ⟨b',f',x',cur,hr⟩:=(hM _ ob hob).2 hz
      have:=hr.at'
      rw [hs] at this
      cases this
      have hv:=(hr.cs.drop o).take n
      have hln:=hv.len
      rw [hl] at hln
      refine ⟨_, ?_,hv,hl⟩
      have hk:=rowAt_of (w:=w) (a:=⟨b,f+o,none⟩) (l:=(((cur.toList.drop f).take ob.cells.length).drop o).take n) (i:=0) fun j hj=>by
        have hj':j<n:=by omega
        have hc:(((cur.toList.drop f).take ob.cells.length).drop o)[j]? =some ((((cur.toList.drop f).take ob.cells.length).drop o).take n)[j]:=by
          rw [←List.getElem?_take_of_lt hj',List.getElem?_eq_getElem hj]
        rw [List.getElem?_drop] at hc
        have hlt:o+j<ob.cells.length:=by
          have:=(List.getElem?_eq_some_iff.1 hc).1
          simp at this;omega
        rw [List.getElem?_take_of_lt hlt,List.getElem?_drop] at hc
        simp only [add_lit,Nat.zero_add]
        simpa [World.cell?,hr.heap,Nat.add_assoc] using hc
      rw [←hln] at hk
      exact hk
    · cases h
  · cases h
theorem bytes_ok : ∀ {l l' : List Value} {ns : List Int}, VRs σ l l' → byteNums l = some ns → byteNums l' = some ns
  |[],[],ns,_,h=>h
  | a :: l, b :: m, ns, hv, h => by
    unfold byteNums at h
    split at h
    · rename_i e;cases e
    · rename_i n l2 e
      cases e
      obtain ⟨h1,h2⟩:=hv
      cases h1 with
      |pln _=>
        simp only [Option.map_eq_some_iff] at h
        obtain ⟨ms,hms,rfl⟩:=h
        simp [byteNums,bytes_ok h2 hms]
    · cases h
theorem sl_is {a:Option Addr} {n c:Nat} {v':Value} (h:VR σ (.slice a n c) v'):isSl v'=true∧slLen v'=n:=by
  cases h with
  |pln h=>
    unfold plainV at h
    split at h<;>simp_all [isSl,slLen]
  |slc _ hn=>exact ⟨by simp [isSl];omega,rfl⟩
theorem x1_ok (hM : MR σ H w) {k : K1} {v v' u : Value} (hv : VR σ v v') (h : x1 H k v = some u) : ∃ u', pv1 w k v' = some u' ∧ VR σ u u' := by
  unfold x1 at h
  split at h
  · cases h;exact ⟨v',rfl,hv⟩
  · exact cellX_ok hM hv h
  · rename_i n a
    split at h
    · rename_i l hl
      cases h
      cases hv with
      |pln h'=>cases h'
      |ptr hs=>
        obtain ⟨l',h1,h2,_⟩:=rowX_ok hM hs hl
        refine ⟨.agg l'.toArray,by simp only [pv1,h1];rfl, ?_⟩
        obtain ⟨k1,k2⟩:=VRs.arr (cs:=l.toArray) (ds:=l'.toArray) (by simpa using h2)
        exact .agg k1 k2
    · cases h
  · cases h
    cases hv with
    |pln h'=>cases h'
    |ptr hs=>exact ⟨_,rfl,by rw [add_lit,Nat.add_assoc];exact .ptr hs⟩
  · rename_i off cs
    cases hv with
    |pln h'=>cases h'
    |agg h1 h2=>
      rename_i ds
      have hlt:off<cs.size:=(Array.getElem?_eq_some_iff.1 h).1
      have hd:ds[off]? =some ds[off]:=Array.getElem?_eq_getElem (by omega)
      exact ⟨ds[off],hd,h2 off u _ h hd⟩
  · cases h
    obtain ⟨h1,h2⟩:=sl_is hv
    refine ⟨_, ?_, .pln rfl⟩
    show (if isSl v'=true then some (Value.int .i64 (slLen v')) else none)=_
    rw [if_pos h1,h2]
  · cases h;cases hv with|pln _=>exact ⟨_,rfl, .pln rfl⟩
  · cases h;cases hv with|pln _=>exact ⟨_,rfl, .pln rfl⟩
  · cases h;cases hv with|pln _=>exact ⟨_,rfl, .pln rfl⟩
  · cases h;cases hv with|pln _=>exact ⟨_,rfl, .pln rfl⟩
  · rename_i i vs
    cases hv with
    |pln h'=>cases h'
    |tup h1 h2=>
      rename_i ds
      have hlt:i<vs.size:=(Array.getElem?_eq_some_iff.1 h).1
      have hd:ds[i]? =some ds[i]:=Array.getElem?_eq_getElem (by omega)
      exact ⟨ds[i],hd,h2 i u _ h hd⟩
  · cases h;exact ⟨_,rfl, .ifc hv⟩
  · cases h
    cases hv with
    |pln h'=>cases h'
    |ptr hs=>exact ⟨_,rfl, .ptr hs⟩
  · cases h
    cases hv with
    |pln h'=>cases h'
    |ifc hh=>exact ⟨_,rfl, .ifc hh⟩
  · cases h;cases hv with|pln _=>exact ⟨_,rfl, .pln rfl⟩
  · cases h;cases hv with|pln _=>exact ⟨_,rfl, .pln rfl⟩
  · rename_i a n c
    split at h
    · rename_i l hl
      split at h
      · rename_i ns hns
        cases h
        cases hv with
        |pln h'=>cases h'
        |slc hs hn=>
          rename_i b f x o
          obtain ⟨l',h1,h2,_⟩:=rowX_ok hM hs hl
          refine ⟨.string (bytesFrom ns), ?_, .pln rfl⟩
          have g:isSl (.slice (some ⟨b,f+o,none⟩) n (c+x))=true:=by simp [isSl];omega
          show (if isSl (.slice (some ⟨b,f+o,none⟩) n (c+x))=true then (rowAt w (slAddr (.slice (some ⟨b,f+o,none⟩) n (c+x)) 0) 0 (slLen (.slice (some ⟨b,f+o,none⟩) n (c+x)))).bind _ else none)=_
          rw [if_pos g]
          simp [slAddr,slLen,h1,bytes_ok h2 hns]
      · cases h
    · cases h
  · cases h
theorem slSub_eq (b o n c sz l h:Nat) (hl:l<c∨l=0):slSub (.slice (some ⟨b,o,none⟩) n c) sz l h c= .slice (some ⟨b,o+l*sz,none⟩) (h - l) (c - l):=by
  unfold slSub
  by_cases e:c=l
  · have:l=0:=by omega
    subst this;subst e;simp
  · simp [e]
theorem subX_ok {sz : Nat} {v v' u : Value} {l h : Int} (hv : VR σ v v') (hx : subX sz v l h = some u) :
    isSl v'=true∧0≤l∧l≤h∧h≤slCap v'∧∃u',slSub v' sz l.toNat h.toNat (slCap v')=u'∧VR σ u u':=by
  unfold subX at hx
  split at hx
  · rename_i i o n c
    split at hx
    · rename_i hc
      cases hx
      obtain ⟨h1,h2,h3,h4⟩:=hc
      cases hv with
      |pln h'=>cases h'
      |slc hs hn=>
        rename_i b f x
        refine ⟨by simp [isSl];omega,h1,h2,by simp only [slCap];omega,_,rfl, ?_⟩
        rw [show slCap (.slice (some ⟨b,f+o,none⟩) n (c+x))=c+x from rfl,slSub_eq _ _ _ _ _ _ _ (by omega)]
        have e:c+x - l.toNat=(c - l.toNat)+x:=by omega
        rw [e,Nat.add_assoc]
        exact .slc hs (by omega)
    · cases hx
  · split at hx
    · rename_i hc
      cases hx
      obtain ⟨rfl,rfl⟩:=hc
      cases hv with
      |pln _=>exact ⟨rfl,by simp,by simp,by simp [slCap],_,rfl, .pln rfl⟩
    · cases hx
  · cases hx
theorem x2_ok {k : K2} {a b a' b' u : Value} (ha : VR σ a a') (hb : VR σ b b') (h : x2 k a b = some u) : ∃ u', pv2 w k a' b' = some u' ∧ VR σ u u' := by
  unfold x2 at h
  split at h
  · rename_i op k1 x k2 y
    cases ha with
    | pln _ => cases hb with
      |pln _=>
        simp only [pv2]
        split at h
        · rename_i hk
          rw [if_pos hk]
          split at h
          · rename_i k3 n hn;cases h;exact ⟨_,hn, .pln rfl⟩
          · rename_i b1 hn;cases h;exact ⟨_,hn, .pln rfl⟩
          · cases h
        · cases h
  · rename_i op x y
    cases ha with
    |pln _=>cases hb with
      |pln _=>
        simp only [pv2]
        split at h
        · rename_i s hn;cases h;exact ⟨_,hn, .pln rfl⟩
        · rename_i b1 hn;cases h;exact ⟨_,hn, .pln rfl⟩
        · cases h
  · cases h;cases ha with|pln _=>cases hb with|pln _=>exact ⟨_,rfl, .pln rfl⟩
  · cases h;cases ha with|pln _=>cases hb with|pln _=>exact ⟨_,rfl, .pln rfl⟩
  · rename_i sz i o n c k2 j
    split at h
    · rename_i hc
      cases h
      cases ha with
      |pln h'=>cases h'
      |slc hs hn=>
        rename_i b f x
        cases hb with
        |pln _=>
          refine ⟨.pointer (some ⟨b,f+o+j.toNat*sz,none⟩), ?_,by rw [Nat.add_assoc];exact .ptr hs⟩
          show (if isSl (.slice (some ⟨b,f+o,none⟩) n (c+x))=true∧0≤j∧j<slLen (.slice (some ⟨b,f+o,none⟩) n (c+x)) then some (Value.pointer (some (slAddr (.slice (some ⟨b,f+o,none⟩) n (c+x)) (j.toNat*sz)))) else none)=_
          rw [if_pos ⟨by simp [isSl];omega,hc.1,hc.2⟩]
          rfl
    · cases h
  · split at h
    · rename_i hc
      split at h
      · rename_i b1 hb1
        cases h
        cases ha with
        |pln _=>cases hb with
          |pln _=>exact ⟨_,by simp only [pv2];rw [if_pos hc,hb1];rfl, .pln rfl⟩
      · cases h
    · cases h
  · rename_i sz a0 n c k2 l
    obtain ⟨h1,h2,h3,h4,u',h5,h6⟩:=subX_ok ha h
    obtain ⟨g1,g2⟩:=sl_is ha
    cases hb with
    |pln _=>
      refine ⟨u', ?_,h6⟩
      show (if isSl a'=true∧0≤l∧l≤slLen a' then some (slSub a' sz l.toNat (slLen a') (slCap a')) else none)=_
      rw [if_pos ⟨h1,h2,by omega⟩,←h5,g2]
      rfl
  · split at h
    · rename_i hc
      cases h
      cases ha with
      |pln _=>cases hb with
        |pln _=>exact ⟨_,by simp only [pv2];rw [if_pos hc], .pln rfl⟩
    · cases h
  · cases h
theorem x3_ok {k : K3} {a b c a' b' c' u : Value} (ha : VR σ a a') (hb : VR σ b b') (hc : VR σ c c') (h : x3 k a b c = some u) : ∃ u', pv3 w k a' b' c' = some u' ∧ VR σ u u' := by
  unfold x3 at h
  split at h
  · rename_i sz k1 l k2 hh
    obtain ⟨h1,h2,h3,h4,u',h5,h6⟩:=subX_ok ha h
    cases hb with
    |pln _=>cases hc with
      |pln _=>
        refine ⟨u', ?_,h6⟩
        have e:pv3 w (.slLoHi sz) a' (.int k1 l) (.int k2 hh)=if isSl a'=true∧0≤l∧l≤hh∧hh≤slCap a' then some (slSub a' sz l.toNat hh.toNat (slCap a')) else none:=by cases a'<;>rfl
        rw [e,if_pos ⟨h1,h2,h3,h4⟩,h5]
  · split at h
    · rename_i hx
      cases h
      cases ha with
      |pln _=>cases hb with
        |pln _=>cases hc with
          |pln _=>exact ⟨_,by simp only [pv3];rw [if_pos hx], .pln rfl⟩
    · cases h
  · cases h
def ER (σ:Sg) (e:Tr Value) (ρ:Env):Prop:=∀i v,e.get i=some v→VR σ v (ρ i)
theorem evX_ok (hM : MR σ H w) {e : Tr Value} {ρ : Env} (he : ER σ e ρ) : ∀ {ex : Ex} {u : Value}, evX H e ex = some u → ∃ u', ex.ev ρ w = some u' ∧ VR σ u u'
  | .var i,u,h=>⟨ρ i,rfl,he i u h⟩
  | .const v,u,h=>by
    simp only [evX] at h
    split at h
    · rename_i hc;cases h;exact ⟨_,rfl,constB_ok hc⟩
    · cases h
  | .op1 k x,u,h=>by
    simp only [evX] at h
    split at h
    · rename_i a ha
      obtain ⟨a',h1,h2⟩:=evX_ok hM he ha
      obtain ⟨u',h3,h4⟩:=x1_ok hM h2 h
      exact ⟨u',by simp only [Ex.ev,h1,Option.bind_some,h3],h4⟩
    · cases h
  | .op2 k x y,u,h=>by
    simp only [evX] at h
    split at h
    · rename_i a b ha hb
      obtain ⟨a',h1,h2⟩:=evX_ok hM he ha
      obtain ⟨b',h3,h4⟩:=evX_ok hM he hb
      obtain ⟨u',h5,h6⟩:=x2_ok (w:=w) h2 h4 h
      exact ⟨u',by simp only [Ex.ev,h1,h3,Option.bind_some,h5],h6⟩
    · cases h
  | .op3 k x y z,u,h=>by
    simp only [evX] at h
    split at h
    · rename_i a b c ha hb hc
      obtain ⟨a',h1,h2⟩:=evX_ok hM he ha
      obtain ⟨b',h3,h4⟩:=evX_ok hM he hb
      obtain ⟨c',h5,h6⟩:=evX_ok hM he hc
      obtain ⟨u',h7,h8⟩:=x3_ok (w:=w) h2 h4 h6 h
      exact ⟨u',by simp only [Ex.ev,h1,h3,h5,Option.bind_some,h7],h8⟩
    · cases h
  | .op4 ..,u,h=>by simp [evX] at h
  | .ite c x y,u,h=>by
    simp only [evX] at h
    split at h
    · rename_i hc
      obtain ⟨c',h1,h2⟩:=evX_ok hM he hc
      cases h2 with
      |pln _=>
        obtain ⟨u',h3,h4⟩:=evX_ok hM he h
        exact ⟨u',by simp only [Ex.ev,h1,Option.bind_some,pickV,h3],h4⟩
    · rename_i hc
      obtain ⟨c',h1,h2⟩:=evX_ok hM he hc
      cases h2 with
      |pln _=>
        obtain ⟨u',h3,h4⟩:=evX_ok hM he h
        exact ⟨u',by simp only [Ex.ev,h1,Option.bind_some,pickV,h3],h4⟩
    · cases h
end
end Go.Eng
