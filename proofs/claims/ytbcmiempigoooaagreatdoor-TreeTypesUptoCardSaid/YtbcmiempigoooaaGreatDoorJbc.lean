/- Texts of mine for the claims about layer 2 (tree), joined: EngXd. -/
import Derived.Test.YtbcmiempigoooaaGreatDoorJbb
set_option linter.all false
set_option linter.unusedSimpArgs false
set_option linter.unusedVariables false
namespace Go.Eng
open Go.RowKit
theorem window_put {α:Type} {C vs:List α} {f m o:Nat} (h1:o+vs.length≤m) (h2:f+m≤C.length):
    ((C.take (f+o)++vs++C.drop (f+o+vs.length)).drop f).take m=((C.drop f).take m).take o++vs++((C.drop f).take m).drop (o+vs.length):=by
  obtain ⟨A,D,rfl,rfl⟩:∃A D,C=A++D∧A.length=f:=⟨C.take f,C.drop f,by simp,by rw [List.length_take];omega⟩
  have hD:m≤D.length:=by rw [List.length_append] at h2;omega
  have e1:(A++D).take (A.length+o)=A++D.take o:=by rw [List.take_append,List.take_of_length_le (by omega),Nat.add_sub_cancel_left]
  have e2:(A++D).drop (A.length+o+vs.length)=D.drop (o+vs.length):=by
    rw [List.drop_append,List.drop_eq_nil_of_le (by omega),List.nil_append,show A.length+o+vs.length - A.length=o+vs.length by omega]
  have l1:(D.take o).length=o:=by rw [List.length_take];omega
  rw [e1,e2,List.drop_left,List.append_assoc,List.append_assoc,List.drop_left,List.take_append,List.take_of_length_le (l:=D.take o) (by omega),l1,List.take_append,List.take_of_length_le (l:=vs) (by omega),
    List.take_take,Nat.min_eq_left (by omega),List.append_assoc,List.drop_take,Nat.sub_sub]
section
variable {P:Program} {Q:Ks} {K:Env→World→Prop} {ρ:Env} {w w0:World} {σ:Sg} {e:Tr Value} {s s':Sx} {k:Option Nat} {d:Option Nat} {ty:TypeId} {v:Value}
def Kn (σ:Sg) (w0:World) (s':Sx) (v:Value) (d:Option Nat) (K:Env→World→Prop) (ρ:Env):Prop:=∀τ v' W,σ.le τ→Iv τ w0 s' W→VR τ v v'→K (updO ρ d v') W
theorem ptrX_is {p:Option (Nat×Sx)} (h:ptrX p=some (v,s')):∃i,p=some (i,s')∧v= .pointer (some ⟨i,0,none⟩):=by
  unfold ptrX at h
  split at h
  · cases h;exact ⟨_,rfl,rfl⟩
  · cases h
theorem rowPX_is {n:Nat} {p:Option (Nat×Sx)} (h:rowPX n p=some (v,s')):∃i,p=some (i,s')∧v= .slice (some ⟨i,0,none⟩) n n:=by
  unfold rowPX at h
  split at h
  · cases h;exact ⟨_,rfl,rfl⟩
  · cases h
theorem ptr0 {τ:Sg} {i b:Nat} (h:τ i=some (b,0,0)):VR τ (.pointer (some ⟨i,0,none⟩)) (.pointer (some ⟨b,0,none⟩)):= .ptr (o:=0) h
theorem slc0 {τ:Sg} {i b n:Nat} (h:τ i=some (b,0,0)):VR τ (.slice (some ⟨i,0,none⟩) n n) (.slice (some ⟨b,0,none⟩) n n):= .slc (o:=0) h (Nat.le_refl _)
theorem box_ok (hI:Iv σ w0 s w) (he:ER σ e ρ) {t:TypeId} {x:Operand} (h:effBox e s k t x=some (v,s')) (hK:Kn σ w0 s' v d K ρ):effW P Q d (.box t x) ty K ρ w:=by
  unfold effBox at h
  split at h
  · rename_i u hu
    obtain ⟨i,h1,rfl⟩:=ptrX_is h
    refine eff_box fun B W hB hE hb _=> ?_
    obtain ⟨τ,hl,hi,hI'⟩:=alloc_ok hI h1 (cells_ok (opX_ok he hu)) (by decide) hE hB (by simpa using hb) (by simp)
    exact hK τ _ W hl hI' (ptr0 hi)
  · cases h
theorem new0_ok (hI:Iv σ w0 s w) {t:TypeId} (h:effAlloc P s k t=some (v,s')) (hK:Kn σ w0 s' v d K ρ):effW P Q d (.alloc t) ty K ρ w:=by
  unfold effAlloc at h
  split at h
  · rename_i z hz
    obtain ⟨hp,h⟩:=bifP h
    obtain ⟨i,h1,rfl⟩:=ptrX_is h
    refine eff_alloc hz fun B W hB hE hb _=> ?_
    obtain ⟨τ,hl,hi,hI'⟩:=alloc_ok hI h1 (plainsV_ok hp) (by decide) hE hB (by simpa using hb) (by simp)
    exact hK τ _ W hl hI' (ptr0 hi)
  · cases h
theorem storeX_ok (hI:Iv σ w0 s w) {i o b f x:Nat} {vs vs':List Value} (hv:VRs σ vs vs') (h1:∀u∈vs',u.oneCell=true) (hσ:σ i=some (b,f,x)) (h:storeX s i o vs=some (v,s')) {K:World→Prop} (hK:v=undef→∀W,Iv σ w0 s' W→K W):storesW ⟨b,f+o,none⟩ vs' 0 K w:=by
  unfold storeX at h
  split at h
  · rename_i ob hob
    obtain ⟨hc,h⟩:=bifP h
    cases h
    simp only [Bool.and_eq_true,Nat.ble_eq,Bool.not_eq_true',Nat.add_eq] at hc
    obtain ⟨⟨h2,h3⟩,h4⟩:=hc
    have hz:ob.sz≠0:=fun e=>by rw [e] at h4;cases h4
    obtain ⟨b1,f1,x1,cur,hr⟩:=(hI.mr i ob hob).2 hz
    have hat:=hr.at'
    rw [hσ] at hat;cases hat
    have hlen:=hv.len
    have hroom:=hr.room
    refine storesW_shift _ _ _ ?_
    refine storesW_blk _ _ w cur ⟨hr.heap⟩ (by omega) h1 fun W hO hB=>hK rfl W ?_
    have hsz:(cur.toList.take (f+o)++vs'++cur.toList.drop (f+o+vs'.length)).toArray.size=cur.size:=by simp;omega
    have hpl:(putAt ob.cells o vs).length=ob.cells.length:=by simp [putAt];omega
    refine cells_set hI hob (blt_lim h3) hσ hO ⟨fun e=>absurd e hz,fun _=>⟨_,hσ,hB.heap, ?_, ?_,fun hw=> ?_, ?_,fun hx=> ?_⟩⟩
    · rw [hpl]
      have:=window_put (C:=cur.toList) (vs:=vs') (f:=f) (m:=ob.cells.length) (o:=o) (by omega) (by simp;omega)
      simp only [Nat.add_zero]
      rw [this]
      rw [←hlen]
      exact ((hr.cs.take o).app hv).app (hr.cs.drop _)
    · simp only [Nat.add_zero]
      rw [hsz,hpl];exact hr.room
    · simp only [Nat.add_zero]
      rw [hsz];rw [hpl];exact hr.whole hw
    · intro hw
      rw [hpl];exact hr.most hw
    · simp only [Nat.add_zero]
      rw [hsz,hpl];exact hr.exact hx
  · cases h
theorem store_ok (hI:Iv σ w0 s w) (he:ER σ e ρ) {t:TypeId} {p x:Operand} (h:effStore P e s t p x=some (v,s')) (hK:Kn σ w0 s' v d K ρ):effW P Q d (.store t p x) ty K ρ w:=by
  unfold effStore at h
  split at h
  · rename_i i o u hp hu
    obtain ⟨hc,h⟩:=bifP h
    simp only [Bool.and_eq_true] at hc
    have hvp:=opX_ok he hp
    have hvu:=opX_ok he hu
    show sizeIs P t (evE ρ x).cells.size=true∧ptrK (evE ρ p) _
    rw [cells_size hvu]
    refine ⟨hc.1, ?_⟩
    generalize evE ρ p=q at hvp
    cases hvp with
    |pln h'=>cases h'
    |ptr hσ=>exact storeX_ok hI (cells_ok hvu) (ones_ok (cells_ok hvu) hc.2) hσ h fun hv W hI'=>by subst hv;exact hK σ _ W (Sg.le_refl σ) hI' undef_ok
  · cases h
theorem opsX_arr (he:ER σ e ρ) {l:Array Operand} {vs:List Value} (h:opsX e l.toList=some vs):vs.toArray.size=(l.map (evE ρ)).size∧∀(i:Nat) (x y:Value),vs.toArray[i]? =some x→(l.map (evE ρ))[i]? =some y→VR σ x y:=
  VRs.arr (by simpa using opsX_ok he h)
theorem fn_ok (hI:Iv σ w0 s w) (he:ER σ e ρ) {fn:Fn} {fs cs:Array Operand} (h:effFn e s fn fs.toList cs.toList=some (v,s')) (hK:Kn σ w0 s' v d K ρ):effW P Q d (.makeFunc fn fs cs) ty K ρ w:=by
  unfold effFn at h
  split at h
  · rename_i a b ha hb
    cases h
    obtain ⟨h1,h2⟩:=opsX_arr he ha
    obtain ⟨h3,h4⟩:=opsX_arr he hb
    exact hK σ _ w (Sg.le_refl σ) hI (.fnc h1 h2 h3 h4)
  · cases h
def PRs (σ:Sg):List (Nat×Value)→List (Nat×Value)→Prop
  |[],[]=>True
  |a::l,b::m=>(a.1=b.1∧VR σ a.2 b.2)∧PRs σ l m
  |_,_=>False
theorem partsX_ok (he:ER σ e ρ):∀{l:List (Nat×Operand)} {vs:List (Nat×Value)},partsX e l=some vs→PRs σ vs (l.map fun p=>(p.1,evE ρ p.2))
  |[],vs,h=>by cases h;trivial
  |(k,x)::l,vs,h=>by
    unfold partsX at h
    split at h
    · rename_i u us hu hus
      cases h
      exact ⟨⟨rfl,opX_ok he hu⟩,partsX_ok he hus⟩
    · cases h
theorem setAt_ok:∀{vs vs':List Value} {o off:Nat} {cs ds:Array Value},VRs σ vs vs'→VRs σ cs.toList ds.toList→
    VRs σ ((vs.zipIdx o).foldl (fun (cs:Array Value) (x:Value×Nat)=>cs.setIfInBounds (off+x.2) x.1) cs).toList ((vs'.zipIdx o).foldl (fun (cs:Array Value) (x:Value×Nat)=>cs.setIfInBounds (off+x.2) x.1) ds).toList
  |[],[],_,_,_,_,_,h=>h
  |a::l,b::m,o,off,cs,ds,hv,h=>by
    simp only [List.zipIdx_cons,List.foldl_cons]
    exact setAt_ok hv.2 (by simp only [Array.toList_setIfInBounds];exact h.set hv.1 _)
theorem fill_ok {place : Nat → Option (Nat × Nat)} : ∀ {l l' : List (Nat × Value)} {cs ds us : Array Value}, PRs σ l l' → VRs σ cs.toList ds.toList → Instr.fill place cs l = some us → ∃ us', Instr.fill place ds l' = some us' ∧ VRs σ us.toList us'.toList
  |[],[],cs,ds,us,_,h,hf=>by simp only [Instr.fill] at hf⊢;cases hf;exact ⟨_,rfl,h⟩
  | (i, a) :: l, (j, b) :: m, cs, ds, us, hp, h, hf => by
    obtain ⟨⟨rfl,hv⟩,hp⟩:=hp
    simp only [Instr.fill] at hf⊢
    split at hf
    · cases hf
    · rename_i off size hpl
      split at hf
      · cases hf
      · rename_i hn
        have e1:=cells_size hv
        have e2:ds.size=cs.size:=by have:=h.len;simpa using this.symm
        have hk:=setAt_ok (o:=0) (off:=off) (cells_ok hv) h
        rw [if_neg (by rw [e1,e2];exact hn)]
        refine fill_ok hp ?_ hf
        rw [←Array.foldl_toList,←Array.foldl_toList]
        simpa using hk
theorem built_ok {t:TypeId} {l l':List (Nat×Value)} {cs:Array Value} (hz:∀it z,P.info? t=some it→it.zero=some z→z.cells.toList.all plainV=true) (hp:PRs σ l l') (h:P.built t l=some cs):∃cs',P.built t l'=some cs'∧VRs σ cs.toList cs'.toList:=by
  unfold Program.built at h⊢
  split at h
  · rename_i it n e' hit hun
    split at h
    · rename_i z ie hzz hie
      exact fill_ok hp (plainsV_ok (hz it z hit hzz)) h
    · cases h
  · rename_i it fields hit hun
    split at h
    · rename_i z places hzz hpl
      exact fill_ok hp (plainsV_ok (hz it z hit hzz)) h
    · cases h
  · cases h
theorem mm_ok (hI:Iv σ w0 s w) (he:ER σ e ρ) {mx:Bool} {a b:Operand} {t:TypeId} {ts:Array TypeId} (hts:mx=true→ts= #[t,t]) (h:effMM e s mx a b=some (v,s')) (hK:Kn σ w0 s' v d K ρ):effW P Q d (.call {callee:= .builtin (if mx then .max else .min),args:= #[a,b],argTypes:=ts}) ty K ρ w:=by
  unfold effMM at h
  split at h
  · rename_i k1 x k2 y hx hy
    have hk:k1=k2:=by
      cases hk:(k1==k2) with
      |false=>rw [hk] at h;cases h
      |true=>simpa using hk
    subst hk
    rw [show (k1==k1)=true by simp] at h
    cases h
    have h1:=opX_ok he hx
    have h2:=opX_ok he hy
    generalize hq1:evE ρ a=q1 at h1
    generalize hq2:evE ρ b=q2 at h2
    cases h1
    cases h2
    cases mx with
    |true=>
      obtain rfl:=hts rfl
      exact eff_max hq1 hq2 (hK σ _ w (Sg.le_refl σ) hI (.pln rfl))
    |false=>
      show effE P Q d _ ty K ρ w
      refine effE_ok (v:= .int k1 (if y<x then y else x)) (w':=w) ?_ (hK σ _ w (Sg.le_refl σ) hI (.pln rfl))
      simp [execOp,effOp,resolve,invoke,builtin,hq1,hq2,Builtin.min_,Builtin.min2]
  · cases h
theorem build_ok (hI:Iv σ w0 s w) (he:ER σ e ρ) {t:TypeId} {ps:Array (Nat×Operand)} (h:effBuild P e s t ps.toList=some (v,s')) (hK:Kn σ w0 s' v d K ρ):effW P Q d (.build t ps) ty K ρ w:=by
  unfold effBuild at h
  split at h
  · rename_i l hl
    obtain ⟨hz,h⟩:=bifP h
    split at h
    · rename_i cs hcs
      cases h
      have hp:=partsX_ok he hl
      obtain ⟨cs',h1,h2⟩:=built_ok (fun it z h1 h2=>by unfold zeroB at hz;simpa only [h1,h2] using hz) hp hcs
      show onO (P.built t (ps.map fun p=>(p.1,evE ρ p.2)).toList) _
      rw [Array.toList_map,h1]
      obtain ⟨h3,h4⟩:=VRs.arr h2
      exact hK σ _ w (Sg.le_refl σ) hI (.agg h3 h4)
    · cases h
  · cases h
theorem prs_map:∀{l m:List (Nat×Value)},PRs σ l m→l.map (·.1)=m.map (·.1)
  |[],[],_=>rfl
  |_::_,_::_,h=>by simp only [List.map_cons];rw [h.1.1,prs_map h.2]
theorem prs_all {sz:Nat}:∀{l m:List (Nat×Value)},PRs σ l m→(l.all fun p=>p.2.cells.size==sz)=true→∀p∈m,p.2.cells.size=sz
  |[],[],_,_,p,hp=>by simp at hp
  |a::l,b::m,h,ha,p,hp=>by
    simp only [List.all_cons,Bool.and_eq_true,beq_iff_eq] at ha
    rcases List.mem_cons.1 hp with rfl|hp
    · rw [cells_size h.1.2];exact ha.1
    · exact prs_all h.2 ha.2 p hp
theorem prs_flat:∀{l m:List (Nat×Value)},PRs σ l m→VRs σ (l.flatMap fun p=>p.2.cells.toList) (m.flatMap fun p=>p.2.cells.toList)
  |[],[],_=>trivial
  |_::_,_::_,h=>(cells_ok h.1.2).app (prs_flat h.2)
theorem prs_len {sz:Nat}:∀{l:List (Nat×Value)},(l.all fun p=>p.2.cells.size==sz)=true→(l.flatMap fun p=>p.2.cells.toList).length=l.length*sz
  |[],_=>by simp
  |a::l,ha=>by
    simp only [List.all_cons,Bool.and_eq_true,beq_iff_eq] at ha
    rw [List.flatMap_cons,List.length_append,prs_len ha.2,Array.length_toList,ha.1,List.length_cons,Nat.succ_mul]
    omega
theorem lit_ok (hI:Iv σ w0 s w) (he:ER σ e ρ) {t:TypeId} {n:Nat} {ps:Array (Nat×Operand)} (h:effLit P e s k t n ps.toList=some (v,s')) (hK:Kn σ w0 s' v d K ρ):effW P Q d (.buildSlice t n ps) ty K ρ w:=by
  unfold effLit at h
  split at h
  · rename_i l t1 sz hl hsi
    obtain ⟨hc,h⟩:=bifP h
    simp only [Bool.and_eq_true,Nat.ble_eq,beq_iff_eq] at hc
    obtain ⟨⟨⟨h1,h2⟩,h3⟩,h4⟩:=hc
    obtain ⟨i,h5,rfl⟩:=rowPX_is h
    have hp:=partsX_ok he hl
    have hm:=prs_map hp
    have hln:l.length=n:=by have:=congrArg List.length h2;simpa using this
    refine eff_lit hsi h1 ?_ ?_ fun B W hB hE hb _=> ?_
    · rw [←h2,hm,List.map_map];rfl
    · intro p hp'
      exact prs_all hp h3 (p.1,evE ρ p.2) (List.mem_map.2 ⟨p,hp',rfl⟩)
    · obtain ⟨τ,hle,hi,hI'⟩:=alloc_ok (cs':=ps.toList.flatMap fun p=>(evE ρ p.2).cells.toList) hI h5 (by have:=prs_flat hp;rwa [List.flatMap_map] at this) (by omega) hE hB hb fun _=>⟨n,by rw [prs_len h3,hln],Nat.le_trans (Nat.le_trans (Nat.le_mul_of_pos_right n (by omega)) h1) (by decide)⟩
      exact hK τ _ W hle hI' (slc0 hi)
  · cases h
theorem rowAt_get {a:Addr}:∀{n i:Nat} {l:List Value},rowAt w a i n=some l→∀j (h:j<l.length),w.cell? (a.add (i+j))=some l[j]
  |0,i,l,h,j,hj=>by simp only [rowAt,Option.some.injEq] at h;subst h;simp at hj
  | n + 1, i, l, h, j, hj => by
    simp only [rowAt,Option.bind_eq_some_iff,Option.map_eq_some_iff] at h
    obtain ⟨u,hu,r,hr,h⟩:=h
    cases h
    cases j with
    |zero=>exact hu
    |succ j=>
      have:=rowAt_get hr j (by simpa using hj)
      rw [show i+(j+1)=i+1+j by omega]
      exact this
theorem sliceX_ok (hI : Iv σ w0 s w) {sz : Nat} {v v' : Value} (hv : VR σ v v') {l : List Value} (h : sliceX s.H sz v = some l) : ∃ l', Cells w v' sz l' ∧ VRs σ l l' := by
  unfold sliceX at h
  split at h
  · cases h
    cases hv with
    |pln _=>exact ⟨[],⟨rfl,by simp [slLen],fun j hj=>by simp at hj⟩,trivial⟩
  · rename_i a n c
    cases hv with
    |pln h'=>cases h'
    |slc hs hn=>
      obtain ⟨l',h1,h2,h3⟩:=rowX_ok hI.mr hs h
      refine ⟨l',⟨by simp [isSl];omega, ?_,fun j hj=> ?_⟩,h2⟩
      · rw [←h2.len,h3];rfl
      · have:=rowAt_get h1 j hj
        rw [Nat.zero_add,add_lit] at this
        exact this
  · cases h
theorem ones_ok':∀{l m:List Value},VRs σ l m→l.all oneB=true→∀v∈m,v.oneCell'=true:=fun h ho v hv=>by
  have:=ones_ok h ho v hv
  cases v<;>first|rfl|(exfalso;simp [Value.oneCell] at this)
theorem get_del {H:Mem} {i:Nat} (h:i<lim) {j:Nat} {o:Ob} (hj:(H.del i).get j=some o):j≠i∧H.get j=some o:=by
  rw [Tr.get_del _ h] at hj
  split at hj
  · cases hj
  · rename_i e;exact ⟨e,hj⟩
theorem eff_appendX {t e sz bytes:Nat} (hi:rowInfo P t=some (e,sz,bytes)) {base:Nat} (hbase:base≤w.heap.size) {s x:Operand} {sv xv:Value} (hs:evE ρ s=sv) (hx:evE ρ x=xv) {xs news:List Value}
    (hown:Own base e sz w sv xs) (hnew:Cells w xv sz news) (h1:∀u∈news,u.oneCell'=true)
    (hlen:xs.length+news.length<4611686018427387904) (hbytes:(xs.length+news.length)*bytes≤140737488355328*sz)
    (h:∀v' W,Own base e sz W v' (xs++news)→w.grownBy W sv.ownBlock→(v'.ownBlock=sv.ownBlock∨v'.ownBlock=some w.heap.size)→K (updO ρ d v') W):effW P Q d (.call {callee:= .builtin .append,args:= #[s,x],argTypes:= #[t,t]}) ty K ρ w:=by
  obtain ⟨v',W,h1,h2,h3,h4⟩:=run_append (ty:=ty) hi hown hnew h1 hlen hbytes hbase
  refine effE_ok (v:=v') (w':=W) ?_ (h v' W h2 h3 h4)
  simp [execOp,effOp,resolve,invoke,builtin,hs,hx,h1]
theorem dropX_ok (hI : Iv σ w0 s w) {t : TypeId} {sz : Nat} (hsz : sz ≠ 0) {v v' : Value} {H : Mem} (hv : VR σ v v') (h : dropX s.H t sz v = some H) {xs xs' : List Value} (hx : sliceX s.H sz v = some xs) (hc : Cells w v' sz xs') (hvs : VRs σ xs xs') :
    Own w0.heap.size t sz w v' xs'∧(∀j o,H.get j=some o→s.H.get j=some o)∧(∀j o p,H.get j=some o→σ j=some p→some p.1≠v'.ownBlock):=by
  unfold dropX at h
  split at h
  · rename_i a n c
    split at h
    · rename_i ob hob
      obtain ⟨hb,h⟩:=bifP h
      cases h
      simp only [Bool.and_eq_true,beq_iff_eq,Bool.not_eq_true',Nat.ble_eq] at hb
      obtain ⟨⟨⟨⟨h1,h2⟩,h3⟩,h4⟩,h5⟩:=hb
      have h4:=blt_lim h4
      cases hv with
      |pln h'=>cases h'
      | slc hs hn =>
        rename_i i b f x o hq
        obtain ⟨b1,f1,x1,cur,hr⟩:=(hI.mr i ob hob).2 (by rw [h2];exact hsz)
        have hat:=hr.at'
        rw [hs] at hat;cases hat
        have hroom:=hr.room
        rw [h2] at hroom
        obtain ⟨n0,hn0,hm0⟩:=hr.most h3
        rw [h2] at hn0
        have hlen:=hc.len
        have hcn:c≤n0:=by
          have:c*sz≤n0*sz:=by dsimp only at h5;omega
          exact Nat.le_of_mul_le_mul_right this (Nat.pos_of_ne_zero hsz)
        refine ⟨.inr ⟨b,f+o,n,c+x,cur,rfl,hI.own i ob _ hob hs,by rw [←h1];exact hr.heap,hlen,by omega,by omega, ?_, ?_⟩,fun j oj hj=>(get_del h4 hj).2,fun j oj p hj hp he=> ?_⟩
        · dsimp only at h5
          rw [Nat.add_mul];omega
        · have hxl:xs'.length=n*sz:=hlen
          dsimp only at h5
          have hnc:n*sz≤c*sz:=Nat.mul_le_mul_right _ hn
          refine List.ext_getElem? fun j=> ?_
          by_cases hj:j<n*sz
          · have hcell:=hc.cell j (by omega)
            simp only [slAddr,World.cell?,hr.heap] at hcell
            rw [List.getElem?_take_of_lt hj,List.getElem?_drop,List.getElem?_eq_getElem (l:=xs') (by omega)]
            simpa using hcell
          · rw [List.getElem?_eq_none (by simp;omega),List.getElem?_eq_none (by omega)]
        · obtain ⟨hne,hj'⟩:=get_del h4 hj
          refine hne (hI.ap j i oj ob p _ hj' hob hp hs ?_)
          simpa [Value.ownBlock] using he
    · cases h
  · cases h
    cases hv with
    |pln _=>
      have:xs'=[]:=List.length_eq_zero_iff.1 (by rw [hc.len];simp [slLen])
      subst this
      exact ⟨Own.nil _ _ _ _,fun _ _ h=>h,fun _ _ _ _ _=>by simp [Value.ownBlock]⟩
  · cases h
theorem app_ok (hI : Iv σ w0 s w) (he : ER σ e ρ) {t : TypeId} {a b : Operand} (h : effApp P e s k t a b = some (v, s')) (hK : Kn σ w0 s' v d K ρ) : effW P Q d (.call { callee := .builtin .append, args := #[a, b], argTypes := #[t, t] }) ty K ρ w := by
  unfold effApp at h
  split at h
  · rename_i t1 sz bytes av bv hri ha hb
    split at h
    · rename_i xs ys hxs hys
      unfold appX at h
      obtain ⟨hc,h⟩:=bifP h
      simp only [Bool.and_eq_true,Nat.ble_eq,Nat.blt_eq] at hc
      obtain ⟨⟨⟨⟨h1,h2⟩,h3⟩,h4⟩,h5⟩:=hc
      split at h
      · rename_i H hH
        obtain ⟨i,h6,rfl⟩:=rowPX_is h
        have hva:=opX_ok he ha
        have hvb:=opX_ok he hb
        obtain ⟨xs',hcx,hrx⟩:=sliceX_ok hI hva hxs
        obtain ⟨ys',hcy,hry⟩:=sliceX_ok hI hvb hys
        obtain ⟨hown,hsub,hne⟩:=dropX_ok hI (by omega) hva hH hxs hcx hrx
        have lx:=hrx.len
        have ly:=hry.len
        refine eff_appendX hri hI.ext.size rfl rfl hown hcy (ones_ok' hry h4) (by omega) (by rw [←lx,←ly];exact h3) fun v' W ho hg hr=> ?_
        have hIH:Iv σ w0 ⟨H,s.nx,s.rs⟩ w:=⟨hI.mr.keep hsub fun _ _ _ _ _=>rfl,hI.dom,hI.res,fun j l oj ol pj pl hj hl=>hI.ap j l oj ol pj pl (hsub j oj hj) (hsub l ol hl),hI.ext,fun j o p hj=>hI.own j o p (hsub j o hj)⟩
        rcases ho with ⟨_,hnil⟩|⟨g,off,n',cap,cur,rfl,hgb,hgh,hl,hnc,hcm,hroom,htake⟩
        · have:=congrArg List.length hnil
          rw [List.length_append,List.length_nil] at this
          omega
        · have hl':xs.length+ys.length=n'*sz:=by rw [List.length_append] at hl;omega
          have hn':(xs.length+ys.length) / sz=n':=by rw [hl',Nat.mul_div_cancel _ (by omega)]
          rw [hn'] at hK
          have hlt:∀j o p,H.get j=some o→σ j=some p→p.1<w.heap.size:=fun j o p hj hp=>by
            obtain ⟨q,hq,hlt⟩:=hIH.mr.at' hj
            rw [hp] at hq;cases hq;exact hlt
          have hW:MR σ H W:=hIH.mr.keep (fun _ _ h=>h) fun j o p hj hp=>hg.block _ (hlt j o p hj hp) (hne j o p hj hp)
          have hE:Ext w0 W:=⟨hg.os.trans hI.ext.os,hg.tape.trans hI.ext.tape,hg.output.trans hI.ext.output,Nat.le_trans hI.ext.size hg.size,fun q hq=>by
            refine (hg.block q (Nat.lt_of_lt_of_le hq hI.ext.size) fun e=> ?_).trans (hI.ext.block q hq)
            have:=(hown.blk q e.symm).1
            omega⟩
          have hro:∀τ:Sg,σ.le τ→τ i=some (g,off,cap - n')→RO τ W i ⟨xs++ys,t1,sz,false,false⟩ g off (cap - n') cur:=fun τ hle hi=>by
            refine ⟨hi,hgh, ?_, ?_,(fun hw=>by cases hw),fun _=>⟨n',by rw [List.length_append];exact hl',by omega⟩,(fun hx=>by cases hx)⟩
            · rw [List.length_append,hl',htake]
              exact (hrx.app hry).mono hle
            · rw [List.length_append,hl']
              have:n'*sz+(cap - n')*sz=cap*sz:=by rw [←Nat.add_mul];congr 1;omega
              dsimp only
              omega
          obtain ⟨τ,hle,hi,hI'⟩:=new_ok hIH h6 (b:=g) (f:=off) (x:=cap - n') (W:=W) hW hE hgb (fun j oj pj hj hp e=>by
            rcases hr with hr|hr
            · exact hne j oj pj hj hp (by rw [←hr,e];rfl)
            · have:=hlt j oj pj hj hp
              simp [Value.ownBlock] at hr
              omega) fun τ hle hi=>⟨fun hz=>absurd hz (by dsimp only;omega),fun _=>⟨cur,hro τ hle hi⟩⟩
          refine hK τ _ W hle hI' ?_
          have:=VR.slc (σ:=τ) (o:=0) (n:=n') (c:=n') hi (Nat.le_refl _)
          rwa [show n'+(cap - n')=cap by omega] at this
      · cases h
    · cases h
  · cases h
theorem make_ok (hI:Iv σ w0 s w) (he:ER σ e ρ) {t:TypeId} {x y:Operand} (h:effMake P e s k t x y=some (v,s')) (hK:Kn σ w0 s' v d K ρ):effW P Q d (.makeSlice t x y) ty K ρ w:=by
  unfold effMake at h
  split at h
  · rename_i t1 z bytes kx n ky m hmi hx hy
    replace h:=bifP h
    obtain ⟨hc,h0⟩:=h
    simp only [Bool.and_eq_true,Nat.ble_eq,beq_iff_eq,decide_eq_true_eq] at hc
    obtain ⟨⟨⟨⟨⟨⟨h1,h2⟩,h3⟩,h4⟩,h5⟩,h6⟩,h7⟩:=hc
    subst h1
    obtain ⟨i,h8,rfl⟩:=rowPX_is h0
    have hvx:=opX_ok he hx
    have hvy:=opX_ok he hy
    generalize hq1:evE ρ x=q1 at hvx
    generalize hq2:evE ρ y=q2 at hvy
    cases hvx
    cases hvy
    have hn:((n.toNat:Nat):Int)=n:=Int.toNat_of_nonneg h2
    have hb:bytes*n.toNat≤1000*100000:=Nat.mul_le_mul h4 (by omega)
    refine eff_make (n:=n.toNat) (kl:=kx) (kc:=ky) hmi (by rw [hq1,hn]) (by rw [hq2,hn]) (by omega) (by omega) (fun i z h1 h2=> ?_) fun B W hB hE hb=> ?_
    · rw [h1] at h7
      simp only [h2,beq_iff_eq] at h7
      exact h7
    · obtain ⟨τ,hle,hi,hI'⟩:=alloc_ok (cs':=List.replicate n.toNat z) hI h8 (plainsV_ok (by rw [List.all_eq_true];intro u hu;rw [(List.mem_replicate.1 hu).2];exact h5)) (by decide) hE hB hb fun _=>⟨n.toNat,by simp,Nat.le_trans (show n.toNat≤100000 by omega) (by decide)⟩
      exact hK τ _ W hle hI' (slc0 hi)
  · cases h
theorem mapNew_ok (hI : Iv σ w0 s w) {t : TypeId} {r : Option Operand} (h : effMapNew s k (r.map fun _ => 0) = some (v, s')) (hK : Kn σ w0 s' v d K ρ) : effW P Q d (.makeMap t r) ty K ρ w := by
  cases r with
  |some _=>cases h
  |none=>
    unfold effMapNew at h
    dsimp only [Option.map_none] at h
    split at h
    · rename_i i s1 h1
      cases h
      refine eff_makeMap fun B W hB hE hb _=> ?_
      obtain ⟨τ,hle,hi,hI'⟩:=new_ok hI h1 (b:=B) (f:=0) (x:=0) (hI.mr.ext hE) (hI.ext.trans' hE) (Nat.le_trans hI.ext.size hB) (fun j oj pj hj hp he=>by
        obtain ⟨p,hp',hlt⟩:=hI.mr.at' hj
        rw [hp] at hp';cases hp'
        omega) fun τ hle hi=>⟨fun _=>⟨B,[],hi,hb,rfl,fun p hp=>by simp at hp⟩,fun hz=>absurd rfl hz⟩
      exact hK τ _ W hle hI' (.mp hi)
    · cases h
theorem strB_iff {a b:ByteArray}:strB a b=true↔a=b:=by
  unfold strB
  rw [beq_iff_eq]
  constructor
  · intro h
    have h2:a.data.toList=b.data.toList:=List.map_inj_right (fun x y hxy=>UInt8.toNat_inj.1 hxy)|>.1 h
    cases a;cases b
    congr 1
    exact Array.toList_inj.1 h2
  · rintro rfl;rfl
theorem look_ok (b:ByteArray):∀ps:List (ByteArray×Value),lookX (pairsV ps) b=lookP ps b
  |[]=>rfl
  | p :: ps => by
    rw [look_cons]
    show (bif strB p.1 b then some p.2 else lookX (pairsV ps) b)=_
    by_cases hp:p.1=b
    · rw [if_pos hp,strB_iff.2 hp];rfl
    · rw [if_neg hp,←look_ok b ps]
      cases hs:strB p.1 b with
      |true=>exact absurd (strB_iff.1 hs) hp
      |false=>rfl
theorem put_ok (b:ByteArray) (x:Value):∀ps:List (ByteArray×Value),mapPut (pairsV ps) b x=pairsV (setP ps b x)
  |[]=>rfl
  | p :: ps => by
    show (bif strB p.1 b then .string b::x::pairsV ps else .string p.1::p.2::mapPut (pairsV ps) b x)=_
    unfold setP
    by_cases hp:p.1=b
    · rw [if_pos hp,strB_iff.2 hp];rfl
    · rw [if_neg hp,put_ok b x ps]
      cases hs:strB p.1 b with
      |true=>exact absurd (strB_iff.1 hs) hp
      |false=>rfl
theorem setP_mem {b : ByteArray} {x : Value} : ∀ {ps : List (ByteArray × Value)} {p : ByteArray × Value}, p ∈ setP ps b x → p ∈ ps ∨ p.2 = x
  |[],p,h=>by simp [setP] at h;exact .inr (by rw [h])
  | q :: ps, p, h => by
    unfold setP at h
    split at h
    · rcases List.mem_cons.1 h with rfl|h
      · exact .inr rfl
      · exact .inl (List.mem_cons_of_mem _ h)
    · rcases List.mem_cons.1 h with rfl|h
      · exact .inl (by simp)
      · rcases setP_mem h with h|h
        · exact .inl (List.mem_cons_of_mem _ h)
        · exact .inr h
theorem lookP_mem {b:ByteArray} {x:Value} {ps:List (ByteArray×Value)} (h:lookP ps b=some x):∃p∈ps,p.2=x:=by
  unfold lookP at h
  simp only [Option.map_eq_some_iff] at h
  obtain ⟨p,hp,rfl⟩:=h
  exact ⟨p,List.mem_of_find?_eq_some hp,rfl⟩
theorem lookup_ok (hI : Iv σ w0 s w) (he : ER σ e ρ) {t : TypeId} {m x : Operand} (h : effLook P e s t m x = some (v, s')) (hK : Kn σ w0 s' v d K ρ) : effW P Q d (.lookup t m x false) ty K ρ w := by
  unfold effLook at h
  split at h
  · rename_i i b kt et hm hx hun
    split at h
    · rename_i ob z hob hkt hz
      obtain ⟨hc,h⟩:=bifP h
      cases h
      simp only [Bool.and_eq_true] at hc
      have hz0:=Nat.eq_of_beq_eq_true hc.1
      obtain ⟨B,ps,h1,h2,h3,h4⟩:=(hI.mr i ob hob).1 hz0
      have hvm:=opX_ok he hm
      have hvx:=opX_ok he hx
      generalize hq1:evE ρ m=q1 at hvm
      generalize hq2:evE ρ x=q2 at hvx
      cases hvm with
      |pln h'=>cases h'
      |mp hs=>
        rw [h1] at hs;cases hs
        cases hvx
        refine eff_lookup hun hkt hz hq1 hq2 h2 false ?_
        rw [h3,look_ok] at hK
        refine hK σ _ w (Sg.le_refl σ) hI (.pln ?_)
        cases hl:lookP ps b with
        |none=>exact hc.2
        |some u=>
          obtain ⟨p,hp,rfl⟩:=lookP_mem hl
          exact h4 p hp
    · cases h
  · cases h
theorem upd_ok (hI : Iv σ w0 s w) (he : ER σ e ρ) {t : TypeId} {m x y : Operand} (h : effUpd P e s t m x y = some (v, s')) (hK : Kn σ w0 s' v d K ρ) : effW P Q d (.mapUpdate t m x y) ty K ρ w := by
  unfold effUpd at h
  split at h
  · rename_i i b u hm hx hy
    split at h
    · rename_i kt et hun
      split at h
      · rename_i ob hob hkt
        obtain ⟨hc,h⟩:=bifP h
        cases h
        simp only [Bool.and_eq_true] at hc
        have hz0:=Nat.eq_of_beq_eq_true hc.1.1
        obtain ⟨B,ps,h1,h2,h3,h4⟩:=(hI.mr i ob hob).1 hz0
        have hvm:=opX_ok he hm
        have hvx:=opX_ok he hx
        have hvy:=opX_ok he hy
        generalize hq1:evE ρ m=q1 at hvm
        generalize hq2:evE ρ x=q2 at hvx
        cases hvm with
        |pln h'=>cases h'
        |mp hs=>
          rw [h1] at hs;cases hs
          cases hvx
          have hu:evE ρ y=u:=hvy.uniq (.pln hc.1.2)
          refine eff_mapUpdate hun hkt hq1 hq2 h2 fun W hO hb=>hK σ _ W (Sg.le_refl σ) ?_ undef_ok
          refine cells_set hI hob (blt_lim hc.2) h1 hO ⟨fun _=>⟨B,setP ps b u,h1,by rw [←hu];exact hb, ?_,fun p hp=> ?_⟩,fun hz=>absurd hz0 hz⟩
          · rw [h3,put_ok]
          · rcases setP_mem hp with hp|hp
            · exact h4 p hp
            · rw [hp];exact hc.1.2
      · cases h
    · cases h
  · cases h
end
end Go.Eng
