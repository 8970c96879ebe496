/- Texts of mine for the claims about layer 2 (tree), joined: EngXc. -/
import Derived.Test.YtbcmiempigoooaaGreatDoorJba
set_option linter.all false
set_option linter.unusedSimpArgs false
set_option linter.unusedVariables false
namespace Go.Eng
open Go.RowKit
theorem bifP {α:Type} {b:Bool} {x:Option α} {v:α} (h:(bif b then x else none)=some v):b=true∧x=some v:=by
  cases b
  · cases h
  · exact ⟨rfl,h⟩
theorem blt_lim {n:Nat} (h:Nat.blt n lim=true):n<lim:=by simpa [Nat.blt_eq] using h
section
variable {σ:Sg} {e:Tr Value} {ρ:Env}
theorem constX_ok {v u:Value} (h:constX v=some u):VR σ u v:=by
  obtain ⟨h1,h2⟩:=bifP h
  cases h2
  exact constB_ok h1
theorem opX_ok (he:ER σ e ρ) {x:Operand} {v:Value} (h:opX e x=some v):VR σ v (evE ρ x):=by
  unfold opX at h
  split at h
  · exact he _ _ h
  · cases x with
    |tmp t=>rename_i hx;exact absurd rfl (hx t)
    |_=>exact constX_ok h
theorem opsX_ok (he:ER σ e ρ):∀{l:List Operand} {vs:List Value},opsX e l=some vs→VRs σ vs (l.map (evE ρ))
  |[],vs,h=>by cases h;trivial
  | x :: l, vs, h => by
    unfold opsX at h
    split at h
    · rename_i v us hv hus
      cases h
      exact ⟨opX_ok he hv,opsX_ok he hus⟩
    · cases h
theorem setX_ok (he:ER σ e ρ) {d:Nat} {v v':Value} (hv:VR σ v v') {e':Tr Value} (h:setX e d v=some e'):ER σ e' (upd ρ d v'):=by
  obtain ⟨h1,h2⟩:=bifP h
  cases h2
  intro i u hu
  rw [Tr.get_set _ _ (blt_lim h1)] at hu
  unfold upd
  split at hu
  · rename_i hi;cases hu;rw [if_pos hi];exact hv
  · rename_i hi;rw [if_neg hi];exact he i u hu
theorem putX_ok (he:ER σ e ρ) {d:Option Nat} {v v':Value} (hv:VR σ v v') {e':Tr Value} (h:putX e d v=some e'):ER σ e' (updO ρ d v'):=by
  cases d with
  |none=>cases h;exact he
  |some d=>exact setX_ok he hv h
theorem ER.mono {τ:Sg} (he:ER σ e ρ) (hl:σ.le τ):ER τ e ρ:=fun i v h=>(he i v h).mono hl
theorem gdX_ok (he:ER σ e ρ) {g:Option (Nat×Bool)} {b:Bool} (h:gdX e g=some b):gd ρ g=b:=by
  cases g with
  |none=>cases h;rfl
  |some p=>
    obtain ⟨t,want⟩:=p
    simp only [gdX] at h
    split at h
    · rename_i b' hb
      cases h
      have:=he _ _ hb
      generalize hr:ρ t=r at this
      cases this
      simp [gd,hr]
    · rename_i cs hb
      cases h
      have:=he _ _ hb
      generalize hr:ρ t=r at this
      cases this with
      |pln h=>cases h
      |tup _ _=>simp [gd,hr]
    · cases h
theorem undef_ok:VR σ undef undef:=constB_ok (v:=undef) rfl
theorem cells_ok {v v':Value} (h:VR σ v v'):VRs σ v.cells.toList v'.cells.toList:=by
  cases h with
  |pln h=>
    have:v.cells= #[v]:=by
      unfold plainV at h
      split at h<;>first|rfl|cases h
    rw [this]
    exact ⟨.pln h,trivial⟩
  |ptr h=>exact ⟨.ptr h,trivial⟩
  |slc h hn=>exact ⟨.slc h hn,trivial⟩
  |mp h=>exact ⟨.mp h,trivial⟩
  |fnc h1 h2 h3 h4=>exact ⟨.fnc h1 h2 h3 h4,trivial⟩
  |ifc h=>exact ⟨.ifc h,trivial⟩
  | @agg cs ds h1 h2=>
    show VRs σ cs.toList ds.toList
    exact VRs.of (by simpa using h1) fun j x y hx hy=>h2 j x y (by simpa using hx) (by simpa using hy)
  |tup h1 h2=>exact ⟨.tup h1 h2,trivial⟩
theorem cells_size {v v':Value} (h:VR σ v v'):v'.cells.size=v.cells.size:=by
  have:=(cells_ok h).len
  simpa using this.symm
theorem one_ok {v v':Value} (h:VR σ v v') (ho:oneB v=true):v'.oneCell=true:=by
  cases h with
  |pln h=>
    unfold plainV at h
    split at h<;>first|rfl|cases h
  |agg _ _=>cases ho
  |tup _ _=>cases ho
  |_=>rfl
theorem ones_ok:∀{l m:List Value},VRs σ l m→l.all oneB=true→∀v∈m,v.oneCell=true
  |[],[],_,_,v,hv=>by simp at hv
  |a::l,b::m,h,ho,v,hv=>by
    simp only [List.all_cons,Bool.and_eq_true] at ho
    rcases List.mem_cons.1 hv with rfl|hv
    · exact one_ok h.1 ho.1
    · exact ones_ok h.2 ho.2 v hv
theorem plainsV_ok:∀{l:List Value},l.all plainV=true→VRs σ l l
  |[],_=>trivial
  |a::l,h=>by
    simp only [List.all_cons,Bool.and_eq_true] at h
    exact ⟨.pln h.1,plainsV_ok h.2⟩
end
structure Iv (σ:Sg) (w0:World) (s:Sx) (w:World):Prop where
  mr:MR σ s.H w
  dom:∀i p,σ i=some p→i<s.nx∧i∉s.rs
  res:∀i∈s.rs,i<s.nx
  ap:∀i j oi oj pi pj,s.H.get i=some oi→s.H.get j=some oj→σ i=some pi→σ j=some pj→pi.1=pj.1→i=j
  ext:Ext w0 w
  own:∀i o p,s.H.get i=some o→σ i=some p→w0.heap.size≤p.1
section
variable {σ:Sg} {w0 w:World} {s:Sx}
theorem Iv.toExt (h:Iv σ w0 s w) {w':World} (hE:Ext w w'):Iv σ w0 s w':=⟨h.mr.ext hE,h.dom,h.res,h.ap,h.ext.trans' hE,h.own⟩
theorem MR.at' {H:Mem} (h:MR σ H w) {i:Nat} {o:Ob} (hi:H.get i=some o):∃p,σ i=some p∧p.1<w.heap.size:=by
  by_cases hz:o.sz=0
  · obtain ⟨b,ps,h1,h2,_⟩:=(h i o hi).1 hz
    exact ⟨_,h1,h2.lt⟩
  · obtain ⟨b,f,x,cur,hr⟩:=(h i o hi).2 hz
    exact ⟨_,hr.at',hr.lt⟩
theorem MR.keep {H H':Mem} (h:MR σ H w) {w':World} (hs:∀i o,H'.get i=some o→H.get i=some o) (hk:∀i o p,H'.get i=some o→σ i=some p→w'.heap[p.1]? =w.heap[p.1]?):MR σ H' w':=fun i o hi=>by
  refine ⟨fun hz=> ?_,fun hz=> ?_⟩
  · obtain ⟨b,ps,h1,h2,h3⟩:=(h i o (hs i o hi)).1 hz
    exact ⟨b,ps,h1,h2.block (hk i o _ hi h1),h3⟩
  · obtain ⟨b,f,x,cur,hr⟩:=(h i o (hs i o hi)).2 hz
    exact ⟨b,f,x,cur,hr.keep (hk i o _ hi hr.at')⟩
theorem new_ok4 (hI : Iv σ w0 s w) {k : Option Nat} {o : Ob} {i : Nat} {s' : Sx} (h : newX s k o = some (i, s')) {b f x : Nat} {W : World} (hW : MR σ s.H W) (hE : Ext w0 W) (hb0 : w0.heap.size ≤ b)
    (hap:∀j oj pj,s.H.get j=some oj→σ j=some pj→pj.1≠b) (ho:∀τ,σ.le τ→τ i=some (b,f,x)→(o.sz=0→MO τ W i o)∧(o.sz≠0→∃cur,RO τ W i o b f x cur)):
    ∃τ,σ.le τ∧τ i=some (b,f,x)∧Iv τ w0 s' W∧s'.H=s.H.set i o∧i<lim∧∀j p,τ j=some p→j≠i→σ j=some p:=by
  have key:i<lim∧s'.H=s.H.set i o∧σ i=none∧i<s'.nx∧i∉s'.rs∧s.nx≤s'.nx∧(∀j∈s'.rs,j∈s.rs):=by
    unfold newX at h
    split at h
    · obtain ⟨h1,h2⟩:=bifP h
      cases h2
      refine ⟨blt_lim h1,rfl, ?_,Nat.lt_succ_self _,fun hm=> ?_,Nat.le_succ _,fun j hj=>hj⟩
      · cases hs:σ s.nx with
        |none=>rfl
        |some p=>exact absurd (hI.dom _ _ hs).1 (Nat.lt_irrefl _)
      · exact absurd (hI.res _ hm) (Nat.lt_irrefl _)
    · rename_i k
      obtain ⟨h1,h2⟩:=bifP h
      cases h2
      simp only [Bool.and_eq_true] at h1
      have hm:i∈s.rs:=by simpa using h1.1
      refine ⟨blt_lim h1.2,rfl, ?_,hI.res _ hm,by simp,Nat.le_refl _,fun j hj=>(List.mem_filter.1 hj).1⟩
      cases hs:σ i with
      |none=>rfl
      |some p=>exact absurd hm (hI.dom _ _ hs).2
  obtain ⟨k1,k2,k3,k4,k5,k6,k7⟩:=key
  have hle:σ.le (fun j=>if j=i then some (b,f,x) else σ j):=fun j p hp=>by
    have:j≠i:=fun e=>by rw [e,k3] at hp;cases hp
    simp [this,hp]
  have hgi:∀j,s'.H.get j=if j=i then some o else s.H.get j:=fun j=>by rw [k2,Tr.get_set _ _ k1]
  refine ⟨_,hle,by simp,⟨?_, ?_,fun j hj=>Nat.lt_of_lt_of_le (hI.res j (k7 j hj)) k6, ?_,hE, ?_⟩,k2,k1,fun j p hp hne=>by simpa [hne] using hp⟩
  · intro j oj hj
    rw [hgi] at hj
    split at hj
    · rename_i e
      cases hj
      subst e
      obtain ⟨a1,a2⟩:=ho _ hle (by simp)
      exact ⟨a1,fun hz=>let ⟨cur,hc⟩:=a2 hz;⟨b,f,x,cur,hc⟩⟩
    · exact (hW.mono hle) j oj hj
  · intro j p hp
    split at hp
    · rename_i e;subst e;exact ⟨k4,k5⟩
    · have:=hI.dom j p hp
      exact ⟨Nat.lt_of_lt_of_le this.1 k6,fun hm=>this.2 (k7 j hm)⟩
  · intro j l oj ol pj pl hj hl hpj hpl he
    rw [hgi] at hj hl
    split at hj
    · rename_i e1
      rw [if_pos e1] at hpj
      cases hpj
      split at hl
      · rename_i e2;rw [e1,e2]
      · rename_i e2
        rw [if_neg e2] at hpl
        exact absurd he.symm (hap l ol pl hl hpl)
    · rename_i e1
      rw [if_neg e1] at hpj
      split at hl
      · rename_i e2
        rw [if_pos e2] at hpl
        cases hpl
        exact absurd he (hap j oj pj hj hpj)
      · rename_i e2
        rw [if_neg e2] at hpl
        exact hI.ap j l oj ol pj pl hj hl hpj hpl he
  · intro j oj pj hj hpj
    rw [hgi] at hj
    split at hj
    · rename_i e1;rw [if_pos e1] at hpj;cases hpj;exact hb0
    · rename_i e1;rw [if_neg e1] at hpj;exact hI.own j oj pj hj hpj
theorem new_ok (hI:Iv σ w0 s w) {k:Option Nat} {o:Ob} {i:Nat} {s':Sx} (h:newX s k o=some (i,s')) {b f x:Nat} {W:World} (hW:MR σ s.H W) (hE:Ext w0 W) (hb0:w0.heap.size≤b)
    (hap:∀j oj pj,s.H.get j=some oj→σ j=some pj→pj.1≠b) (ho:∀τ,σ.le τ→τ i=some (b,f,x)→(o.sz=0→MO τ W i o)∧(o.sz≠0→∃cur,RO τ W i o b f x cur)):
    ∃τ,σ.le τ∧τ i=some (b,f,x)∧Iv τ w0 s' W:=by
  obtain ⟨τ,h1,h2,h3,_⟩:=new_ok4 hI h hW hE hb0 hap ho
  exact ⟨τ,h1,h2,h3⟩
theorem push_ok (hI:Iv σ w0 s w) {cs cs':List Value} {t:TypeId} {i:Nat} {s':Sx} (h:newX s none ⟨cs,t,1,true,false⟩=some (i,s')) {b:Nat} (hb0:w0.heap.size≤b) (hap:∀j oj pj,s.H.get j=some oj→σ j=some pj→pj.1≠b) (hB:Blk w b cs'.toArray t) (hv:VRs σ cs cs'):
    ∃τ,σ.le τ∧τ i=some (b,0,0)∧Iv τ w0 s' w∧∀j o p,s'.H.get j=some o→τ j=some p→p.1=b∨(s.H.get j=some o∧σ j=some p):=by
  obtain ⟨τ,h1,h2,h3,h4,h5,h6⟩:=new_ok4 hI h (b:=b) (f:=0) (x:=0) hI.mr hI.ext hb0 hap fun τ hl hi=>⟨(fun hz=>by cases hz),fun _=>⟨cs'.toArray,hi,hB.heap,by
    simp only [List.drop_zero]
    rw [List.take_of_length_le (by rw [hv.len];exact Nat.le_refl _)]
    exact hv.mono hl,by simp [hv.len],fun _=>⟨rfl,rfl,by simp [hv.len]⟩,(fun hw=>by cases hw),(fun hx=>by cases hx)⟩⟩
  refine ⟨τ,h1,h2,h3,fun j o p hj hp=> ?_⟩
  rw [h4,Tr.get_set _ _ h5] at hj
  split at hj
  · rename_i e;subst e;rw [h2] at hp;cases hp;exact .inl rfl
  · rename_i e;exact .inr ⟨hj,h6 j p hp e⟩
theorem blk_of (hI:Iv σ w0 s w) {i:Nat} {ob:Ob} (h:s.H.get i=some ob) (hw:ob.whole=true) (hz:ob.sz≠0):∃b cs',σ i=some (b,0,0)∧VRs σ ob.cells cs'∧Blk w b cs'.toArray ob.ty:=by
  obtain ⟨b,f,x,cur,hr⟩:=(hI.mr i ob h).2 hz
  obtain ⟨rfl,rfl,hs⟩:=hr.whole hw
  refine ⟨b,cur.toList,hr.at', ?_,⟨by simpa using hr.heap⟩⟩
  have:=hr.cs
  simp only [List.drop_zero] at this
  rwa [List.take_of_length_le (by simp [hs])] at this
theorem del_ok (hI:Iv σ w0 s w) {i:Nat} {ob:Ob} (hi:s.H.get i=some ob) (hlim:i<lim) {b f x:Nat} (hσ:σ i=some (b,f,x)) {W:World} (hO:Only b w W):Iv σ w0 ⟨s.H.del i,s.nx,s.rs⟩ W:=by
  have hg:∀j o,(s.H.del i).get j=some o→j≠i∧s.H.get j=some o:=fun j o hj=>by
    rw [Tr.get_del _ hlim] at hj
    split at hj
    · cases hj
    · rename_i e;exact ⟨e,hj⟩
  exact ⟨hI.mr.keep (fun j o hj=>(hg j o hj).2) fun j o p hj hp=>hO.block _ fun e=>(hg j o hj).1 (hI.ap j i o ob p _ (hg j o hj).2 hi hp hσ e),hI.dom,hI.res,fun j l oj ol pj pl hj hl=>hI.ap j l oj ol pj pl (hg j oj hj).2 (hg l ol hl).2,hO.ext hI.ext (hI.own i ob _ hi hσ),fun j o p hj=>hI.own j o p (hg j o hj).2⟩
theorem alloc_ok (hI:Iv σ w0 s w) {k:Option Nat} {cs cs':List Value} {t:TypeId} {sz:Nat} {wh:Bool} {i:Nat} {s':Sx} (h:newX s k ⟨cs,t,sz,wh,false⟩=some (i,s')) (hv:VRs σ cs cs') (hsz:sz≠0) {W:World} (hE:Ext w W) {b:Nat} (hb:w.heap.size≤b) (hB:Blk W b cs'.toArray t) (hn:wh=false→∃n,cs.length=n*sz∧n≤maxLen):
    ∃τ,σ.le τ∧τ i=some (b,0,0)∧Iv τ w0 s' W:=by
  refine new_ok hI h (hI.mr.ext hE) (hI.ext.trans' hE) (Nat.le_trans hI.ext.size hb) (fun j oj pj hj hp he=> ?_) fun τ hl hi=>⟨fun hz=>absurd hz hsz,fun _=>⟨cs'.toArray,hi,hB.heap, ?_, ?_,fun _=>⟨rfl,rfl, ?_⟩,fun hw=> ?_,(fun h=>by cases h)⟩⟩
  · obtain ⟨p,hp',hlt⟩:=hI.mr.at' hj
    rw [hp] at hp';cases hp'
    omega
  · simp only [List.drop_zero]
    have:(cs'.take cs.length)=cs':=List.take_of_length_le (by rw [hv.len];exact Nat.le_refl _)
    rw [this]
    exact hv.mono hl
  · simp [hv.len]
  · simp [hv.len]
  · obtain ⟨n,h1,h2⟩:=hn hw
    exact ⟨n,h1,by simpa using h2⟩
theorem cells_set (hI : Iv σ w0 s w) {i : Nat} {ob : Ob} (hi : s.H.get i = some ob) {ob' : Ob} (hlim : i < lim) {b f x : Nat} (hσ : σ i = some (b, f, x)) {W : World} (hO : Only b w W) (ho : (ob'.sz = 0 → MO σ W i ob') ∧ (ob'.sz ≠ 0 → ∃ cur, RO σ W i ob' b f x cur)) :
    Iv σ w0 ⟨s.H.set i ob',s.nx,s.rs⟩ W:=by
  have hgi:∀j,(s.H.set i ob').get j=if j=i then some ob' else s.H.get j:=fun j=>Tr.get_set _ _ hlim j
  have hex:∀j o,(s.H.set i ob').get j=some o→∃o',s.H.get j=some o':=fun j o hj=>by
    rw [hgi] at hj
    split at hj
    · rename_i e;rw [e];exact ⟨_,hi⟩
    · exact ⟨_,hj⟩
  refine ⟨fun j oj hj=> ?_,hI.dom,hI.res,fun j l oj ol pj pl hj hl hpj hpl he=> ?_,hO.ext hI.ext (hI.own i ob _ hi hσ),fun j oj pj hj hpj=> ?_⟩
  · have hj':=hj
    dsimp only at hj'
    rw [hgi] at hj'
    split at hj'
    · rename_i e
      cases hj'
      subst e
      exact ⟨ho.1,fun hz=>let ⟨cur,hc⟩:=ho.2 hz;⟨b,f,x,cur,hc⟩⟩
    · rename_i e
      have hne:∀p,σ j=some p→W.heap[p.1]? =w.heap[p.1]? :=fun p hp=>hO.block _ fun he=>e (hI.ap j i oj ob p _ hj' hi hp hσ he)
      refine ⟨fun hz=> ?_,fun hz=> ?_⟩
      · obtain ⟨b1,ps,h1,h2,h3⟩:=(hI.mr j oj hj').1 hz
        exact ⟨b1,ps,h1,h2.block (hne _ h1),h3⟩
      · obtain ⟨b1,f1,x1,cur,hr⟩:=(hI.mr j oj hj').2 hz
        exact ⟨b1,f1,x1,cur,hr.keep (hne _ hr.at')⟩
  · obtain ⟨o1,h1⟩:=hex j oj hj
    obtain ⟨o2,h2⟩:=hex l ol hl
    exact hI.ap j l o1 o2 pj pl h1 h2 hpj hpl he
  · obtain ⟨o1,h1⟩:=hex j oj hj
    exact hI.own j o1 pj h1 hpj
end
end Go.Eng
