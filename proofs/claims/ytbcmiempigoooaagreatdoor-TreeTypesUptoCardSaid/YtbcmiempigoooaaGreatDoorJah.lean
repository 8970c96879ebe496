/- Texts of mine for the claims about layer 2 (tree), joined: EngH. -/
import Derived.Test.YtbcmiempigoooaaGreatDoorJag
import Derived.Laws.AppendOwn
import Derived.Laws.OwnMore
set_option linter.all false
set_option linter.unusedSimpArgs false
set_option linter.unusedVariables false
namespace Go.Eng
open Go.RowKit
def rowInfo (P:Program) (t:TypeId):Option (TypeId×Nat×Nat):=
  match P.underlying t with
  |some (.slice e)=>(P.info? e).bind fun i=>i.zero.bind fun z=>if z.cells.size=i.size∧0<i.size then some (e,i.size,i.bytes) else none
  |_=>none
def Own (base:Nat) (e sz:Nat) (w:World) (v:Value) (xs:List Value):Prop:=
  (v= .slice none 0 0∧xs=[])∨
  ∃g off n cap cur,v= .slice (some ⟨g,off,none⟩) n cap∧base≤g∧w.heap[g]? =some (.cells cur e (0,0))∧xs.length=n*sz∧n≤cap∧cap≤maxLen∧off+cap*sz≤cur.size∧(cur.toList.drop off).take (n*sz)=xs
theorem Own.nil (base e sz:Nat) (w:World):Own base e sz w (.slice none 0 0) []:= .inl ⟨rfl,rfl⟩
theorem Own.blk {base e sz:Nat} {w:World} {v:Value} {xs:List Value} (h:Own base e sz w v xs):∀k,v.ownBlock=some k→base≤k∧k<w.heap.size:=by
  intro k hk
  rcases h with ⟨rfl,_⟩|⟨g,off,n,cap,cur,rfl,hb,hg,_⟩
  · simp [Value.ownBlock] at hk
  · simp [Value.ownBlock] at hk
    subst hk
    exact ⟨hb,(Array.getElem?_eq_some_iff.1 hg).1⟩
theorem Own.ext {base e sz:Nat} {w w':World} {v:Value} {xs:List Value} (h:Own base e sz w v xs) (hE:Ext w w'):Own base e sz w' v xs:=by
  rcases h with h|⟨g,off,n,cap,cur,rfl,hb,hg,r⟩
  · exact .inl h
  · exact .inr ⟨g,off,n,cap,cur,rfl,hb,(hE.block g (Array.getElem?_eq_some_iff.1 hg).1).trans hg,r⟩
theorem Own.kept {base e sz:Nat} {w w':World} {v:Value} {xs:List Value} {row:Option Nat} (h:Own base e sz w v xs) (hg':w.grownBy w' row) (hne:v.ownBlock=none∨v.ownBlock≠row):Own base e sz w' v xs:=by
  rcases h with h|⟨g,off,n,cap,cur,rfl,hb,hg,r⟩
  · exact .inl h
  · refine .inr ⟨g,off,n,cap,cur,rfl,hb, ?_,r⟩
    rw [hg'.block g (Array.getElem?_eq_some_iff.1 hg).1 (by simpa [Value.ownBlock] using hne)]
    exact hg
theorem Own.only {base e sz:Nat} {w w':World} {v:Value} {xs:List Value} {B:Nat} (h:Own base e sz w v xs) (hO:Only B w w') (hB:B<base):Own base e sz w' v xs:=by
  rcases h with h|⟨g,off,n,cap,cur,rfl,hb,hg,r⟩
  · exact .inl h
  · exact .inr ⟨g,off,n,cap,cur,rfl,hb,(hO.block g (by omega)).trans hg,r⟩
theorem Own.lit {base e sz:Nat} {W:World} {B n:Nat} {cs:List Value} (h:Blk W B cs.toArray e) (hl:cs.length=n*sz) (hb:base≤B) (hn:n≤maxLen):Own base e sz W (.slice (some ⟨B,0,none⟩) n n) cs:=
  .inr ⟨B,0,n,n,cs.toArray,rfl,hb,h.heap,hl,Nat.le_refl _,hn,by simpa using Nat.le_of_eq hl.symm,by simp [←hl]⟩
theorem Own.sl {α:Type} {enc:α→Value} {base e:Nat} {w:World} {v:Value} {xs:List α} (h:Own base e 1 w v (xs.map enc)) (hbd:xs.length<4611686018427387904):Sl enc w v xs:=by
  rcases h with ⟨rfl,hn0⟩|⟨g,off,n,cap,cur,rfl,hb,hg,hl,hc,_,hs,ht⟩
  · have:xs=[]:=by simpa using hn0
    subst this;exact Sl.nil enc w
  · have hn':n=xs.length:=by simpa using hl.symm
    refine ⟨by simp [isSl,hc],by simp [slLen,hn'],hbd,fun i hi=> ?_⟩
    have h2:((cur.toList.drop off).take (n*1))[i]? =(xs.map enc)[i]? :=by rw [ht]
    rw [List.getElem?_take,if_pos (by omega),List.getElem?_drop] at h2
    simp only [slAddr,World.cell?,hg]
    simpa [hi] using h2
theorem Own.drop {base e:Nat} {w:World} {v:Value} {xs:List Value} (h:Own base e 1 w v xs) (l:Nat) (hl:l≤xs.length):Own base e 1 w (slSub v 1 l (slLen v) (slCap v)) (xs.drop l):=by
  rcases h with ⟨rfl,rfl⟩|⟨g,off,n,cap,cur,rfl,hb,hg,hlen,hc,hm,hs,ht⟩
  · have:l=0:=by simpa using hl
    subst this
    exact .inl ⟨by simp [slSub,slLen,slCap],rfl⟩
  · have hn:n=xs.length:=by omega
    have es:slSub (.slice (some ⟨g,off,none⟩) n cap) 1 l (slLen (.slice (some ⟨g,off,none⟩) n cap)) (slCap (.slice (some ⟨g,off,none⟩) n cap))= .slice (some ⟨g,if cap=l then off else off+l,none⟩) (n - l) (cap - l):=by
      simp [slSub,slLen,slCap]
      split<;>simp
    rw [es]
    by_cases hcl:cap=l
    · have:xs.drop l=[]:=List.drop_eq_nil_of_le (by omega)
      rw [this,if_pos hcl]
      exact .inr ⟨g,off,n - l,cap - l,cur,rfl,hb,hg,by simp;omega,by omega,by omega,by omega,by rw [show (n - l)*1=0 by omega];simp⟩
    · rw [if_neg hcl]
      refine .inr ⟨g,off+l,n - l,cap - l,cur,rfl,hb,hg,by simp;omega,by omega,by omega,by omega, ?_⟩
      rw [←ht,List.drop_take,List.drop_drop]
      congr 1
      omega
theorem Sl.kept {α:Type} {enc:α→Value} {w w':World} {v:Value} {xs:List α} {row:Option Nat} (h:Sl enc w v xs) (hg:w.grownBy w' row) (hne:v.ownBlock=none∨v.ownBlock≠row):Sl enc w' v xs:=by
  refine ⟨h.is,h.len,h.bd,fun i hi=> ?_⟩
  have hc:=h.cell i hi
  rcases isSl_cases h.is with ⟨b,o,n,c,rfl,_⟩|rfl|⟨b,o,s,rfl⟩
  rotate_left 2
  · have:=h.len;simp [slLen] at this;omega
  · exact hg.cell hc (by simpa [Value.ownBlock,slAddr] using hne)
  · have:=h.len;simp [slLen] at this;omega
structure Cells (w:World) (v:Value) (sz:Nat) (xs:List Value):Prop where
  is:isSl v=true
  len:xs.length=slLen v*sz
  cell:∀(j:Nat) (h:j<xs.length),w.cell? (slAddr v j)=some xs[j]
theorem Sl.cells {α:Type} {enc:α→Value} {w:World} {v:Value} {xs:List α} (h:Sl enc w v xs):Cells w v 1 (xs.map enc):=
  ⟨h.is,by simp [h.len],fun j hj=>by rw [h.cell j (by simpa using hj)];simp⟩
theorem Blk.cells {w:World} {B n sz:Nat} {cs:List Value} {t:TypeId} (h:Blk w B cs.toArray t) (hl:cs.length=n*sz):Cells w (.slice (some ⟨B,0,none⟩) n n) sz cs:=
  ⟨by simp [isSl],by simp [slLen,hl],fun j hj=>by simp only [slAddr];rw [h.cell];simp⟩
section
variable {P:Program} {Q:Ks} {d:Option Nat} {ty:TypeId} {K:Env→World→Prop} {ρ:Env} {w:World}
theorem storesW_shift {B o:Nat} {K:World→Prop}:∀(vs:List Value) (i:Nat) (w:World),storesW ⟨B,0,none⟩ vs (o+i) K w→storesW ⟨B,o,none⟩ vs i K w
  |[],_,_,h=>h
  |v::vs,i,w,h=>by
    obtain ⟨h1,h2,h3,h4⟩:=h
    simp only [add_lit,Nat.zero_add] at h1 h2 h4
    refine ⟨by simpa using h1,by simpa using h2,h3, ?_⟩
    simp only [add_lit]
    exact storesW_shift vs (i+1) _ (by simpa [Nat.add_assoc] using h4)
theorem run_append {t e sz bytes : Nat} (hi : rowInfo P t = some (e, sz, bytes)) {base : Nat} {v xv : Value} {xs news : List Value} (hown : Own base e sz w v xs) (hnew : Cells w xv sz news) (h1 : ∀ u ∈ news, u.oneCell' = true)
    (hlen:xs.length+news.length<4611686018427387904) (hbytes:(xs.length+news.length)*bytes≤140737488355328*sz) (hbase:base≤w.heap.size):
    ∃v' W,(Builtin.append_ #[t,t] ty #[v,xv]).run P w= .ok v' W∧Own base e sz W v' (xs++news)∧w.grownBy W v.ownBlock∧(v'.ownBlock=v.ownBlock∨v'.ownBlock=some w.heap.size):=by
  unfold rowInfo at hi
  split at hi
  · rename_i e' hu
    simp only [Option.bind_eq_some_iff] at hi
    obtain ⟨i,hie,z,hz,hc⟩:=hi
    split at hc
    · rename_i hzs
      cases hc
      obtain ⟨hzs,hpos⟩:=hzs
      have hlm:=hnew.len
      have grown:∀(n m old:Nat),xs.length=n*i.size→news.length=m*i.size→n+m≤maxLen→∀(row:Option Nat),
          Own base e i.size (w.drew.alloc (.cells (xs.toArray++news.toArray++Builtin.zeroCells z.cells (grownCap w (n+m) old e - (n+m))) e)) (.slice (some ⟨w.heap.size,0,none⟩) (n+m) (grownCap w (n+m) old e)) (xs++news)∧
          w.grownBy (w.drew.alloc (.cells (xs.toArray++news.toArray++Builtin.zeroCells z.cells (grownCap w (n+m) old e - (n+m))) e)) row:=by
        intro n m old hn hm h63 row
        have hge:=grownCap_ge w (n+m) old e
        have hcm:grownCap w (n+m) old e≤maxLen:=grownCap_le_maxLen w (n+m) old e h63
        have hl:(xs++news).length=(n+m)*i.size:=by rw [List.length_append,hn,hm,Nat.add_mul]
        refine ⟨.inr ⟨w.heap.size,0,_,_,_,rfl,hbase,heap_alloc_new w.drew _,hl,hge,hcm, ?_, ?_⟩,⟨rfl,rfl,rfl,by simp,fun k hk _=>heap_alloc_old w.drew _ k hk⟩⟩
        · simp only [Array.size_append,List.size_toArray,size_zeroCells,hzs,hn,hm,←Nat.add_mul,Nat.zero_add]
          refine Nat.le_of_eq ?_
          congr 1
          omega
        · simp only [Array.toList_append,List.append_assoc,List.drop_zero]
          rw [←List.append_assoc,←hl]
          exact List.take_left
      have bounds:∀n:Nat,xs.length=n*i.size→n+slLen xv≤maxLen∧(n+slLen xv)*i.bytes≤140737488355328:=by
        intro n hn
        have h2:(n+slLen xv)*i.size=xs.length+news.length:=by rw [hn,hlm,Nat.add_mul]
        have h3:n+slLen xv≤(n+slLen xv)*i.size:=Nat.le_mul_of_pos_right _ hpos
        refine ⟨by simp only [maxLen];omega, ?_⟩
        rw [←h2,Nat.mul_right_comm] at hbytes
        exact Nat.le_of_mul_le_mul_right hbytes hpos
      rcases isSl_cases hnew.is with ⟨b,o,m,c,rfl,hmc⟩|rfl|⟨b,o,sp,rfl⟩
      rotate_left 2
      · have hnil:news=[]:=List.length_eq_zero_iff.1 (by simpa [slLen] using hlm)
        subst hnil
        refine ⟨v,w, ?_,by simpa using hown,⟨rfl,rfl,rfl,Nat.le_refl _,fun _ _ _=>rfl⟩, .inl rfl⟩
        rcases hown with ⟨rfl,rfl⟩|⟨g,off,n,cap,cur,rfl,hbg,hg,hn,hnc,hcm,hcs,htake⟩
        · simp [Builtin.append_,run_underlying hu,sizeOf,typeInfo,hie,Builtin.lenOf,Builtin.firstCells,loadCells,loadCellsFrom]
        · simp [Builtin.append_,run_underlying hu,sizeOf,typeInfo,hie,Builtin.lenOf,Builtin.firstCells,hnc,storeCells,loadCells,loadCellsFrom]
      · have hnews:∀j u,news[j]? =some u→w.cell? ((⟨b,o,none⟩:Addr).add j)=some u:=fun j u hu=>by
          obtain ⟨hj,rfl⟩:=List.getElem?_eq_some_iff.1 hu
          have:=hnew.cell j hj
          simpa [slAddr] using this
        simp only [slLen] at hlm bounds
        rcases hown with ⟨rfl,rfl⟩|⟨g,off,n,cap,cur,rfl,hbg,hg,hn,hnc,hcm,hcs,htake⟩
        · obtain ⟨hbd,hby⟩:=bounds 0 (by simp)
          by_cases hm:m=0
          · subst hm
            have hnn:news=[]:=List.eq_nil_of_length_eq_zero (by simpa using hlm)
            subst hnn
            refine ⟨.slice none 0 0,w, ?_,Own.nil _ _ _ _,⟨rfl,rfl,rfl,Nat.le_refl _,fun _ _ _=>rfl⟩, .inl rfl⟩
            simp [Builtin.append_,run_underlying hu,sizeOf,typeInfo,hie,Builtin.lenOf,Builtin.firstCells,loadCells,loadCellsFrom]
          · simp only [maxLen] at hbd
            simp only [Nat.zero_add] at hbd hby
            have hr:=run_append_nil (P:=P) w t ty e i z hu hie hz ⟨b,o,none⟩ m c news hlm hnews (by omega) (by omega) (by omega)
            have hgr:=grown 0 m 0 (by simp) hlm (by simp only [maxLen];omega) (Value.ownBlock (.slice none 0 0))
            simp only [Nat.zero_add,List.nil_append,Array.empty_append] at hgr⊢
            exact ⟨_,_,hr,hgr.1,hgr.2, .inr rfl⟩
        · obtain ⟨hbd,hby⟩:=bounds n hn
          by_cases hroom:n+m≤cap
          · have hmul:(n+m)*i.size≤cap*i.size:=Nat.mul_le_mul_right _ hroom
            rw [Nat.add_mul,←hlm] at hmul
            have hb:Blk w g cur e:=⟨hg⟩
            have hone:∀u∈news,u.oneCell=true:=fun u hu=>by have:=h1 u hu;cases u<;>first|rfl|exact this
            obtain ⟨W,hW,hOnly,hBlk⟩:=run_storeCells (P:=P) ⟨g,off+n*i.size,none⟩ news 0
              (fun W=>Only g w W∧Blk W g (cur.toList.take (off+n*i.size+0)++news++cur.toList.drop (off+n*i.size+0+news.length)).toArray e) w
              (storesW_shift news 0 w (storesW_blk news (off+n*i.size+0) w cur hb (by omega) hone fun W hO hB=>⟨hO,hB⟩))
            refine ⟨.slice (some ⟨g,off,none⟩) (n+m) cap,W, ?_, .inr ⟨g,off,n+m,cap,_,rfl,hbg,hBlk.heap,by rw [List.length_append,hn,hlm,Nat.add_mul],hroom,hcm, ?_, ?_⟩, ?_, .inl rfl⟩
            · have hf:=run_firstCells_some (P:=P) w i.size m ⟨b,o,none⟩ m c news hlm hnews
              simp [Builtin.append_,run_underlying hu,sizeOf,typeInfo,hie,Builtin.lenOf,hroom,hf,hW]
            · simp;omega
            · have e0:off+n*i.size≤cur.toList.length:=by rw [Array.length_toList];omega
              have e1:(cur.toList.take (off+n*i.size)).drop off=xs:=by
                rw [List.drop_take,←htake]
                congr 1
                omega
              simp only [Nat.add_zero]
              rw [List.append_assoc,List.drop_append_of_le_length (by rw [List.length_take];omega),e1,←List.append_assoc,Nat.add_mul,←hlm,←hn,←List.length_append]
              exact List.take_left
            · exact ⟨hOnly.os,hOnly.tape,hOnly.output,by rw [hOnly.size];exact Nat.le_refl _,fun k _ hk=>hOnly.block k (fun e=>hk (by simp [Value.ownBlock,e]))⟩
          · have holds:∀j u,xs[j]? =some u→w.cell? ((⟨g,off,none⟩:Addr).add j)=some u:=by
              intro j u hu
              rw [←htake,List.getElem?_take] at hu
              split at hu
              · rw [List.getElem?_drop] at hu
                rw [add_lit,(⟨hg⟩:Blk w g cur e).cell]
                simpa using hu
              · cases hu
            simp only [maxLen] at hbd
            have hr:=run_append_grow (P:=P) w t ty e i z hu hie hz ⟨g,off,none⟩ n cap xs hn holds ⟨b,o,none⟩ m c news hlm hnews (by omega) (by omega) (growslice_fits (by omega) hby)
            have hgr:=grown n m cap hn hlm (by simp only [maxLen];omega) (Value.ownBlock (.slice (some ⟨g,off,none⟩) n cap))
            exact ⟨_,_,hr,hgr.1,hgr.2, .inr rfl⟩
      · have hnil:news=[]:=List.length_eq_zero_iff.1 (by simpa [slLen] using hlm)
        subst hnil
        refine ⟨v,w, ?_,by simpa using hown,⟨rfl,rfl,rfl,Nat.le_refl _,fun _ _ _=>rfl⟩, .inl rfl⟩
        rcases hown with ⟨rfl,rfl⟩|⟨g,off,n,cap,cur,rfl,hbg,hg,hn,hnc,hcm,hcs,htake⟩
        · simp [Builtin.append_,run_underlying hu,sizeOf,typeInfo,hie,Builtin.lenOf,Builtin.firstCells]
        · simp [Builtin.append_,run_underlying hu,sizeOf,typeInfo,hie,Builtin.lenOf,Builtin.firstCells,hnc,storeCells]
    · cases hc
  · cases hi
theorem eff_append {t e sz bytes:Nat} (hi:rowInfo P t=some (e,sz,bytes)) {W0:World} (hE:Ext W0 w) {s x:Operand} {sv xv:Value} (hs:evE ρ s=sv) (hx:evE ρ x=xv) {xs news:List Value}
    (hown:Own W0.heap.size e sz w sv xs) (hnew:Cells w xv sz news) (h1:∀u∈news,u.oneCell'=true)
    (hlen:xs.length+news.length<4611686018427387904) (hbytes:(xs.length+news.length)*bytes≤140737488355328*sz)
    (h:∀v' W,Ext W0 W→Own W0.heap.size e sz W v' (xs++news)→w.grownBy W sv.ownBlock→(v'.ownBlock=sv.ownBlock∨v'.ownBlock=some w.heap.size)→K (updO ρ d v') W):effW P Q d (.call {callee:= .builtin .append,args:= #[s,x],argTypes:= #[t,t]}) ty K ρ w:=by
  subst hs;subst hx
  obtain ⟨v',W,hr,ho,hg,hfr⟩:=run_append (P:=P) (ty:=ty) hi hown hnew h1 hlen hbytes hE.size
  refine effE_ok (v:=v') (w':=W) ?_ (h v' W ?_ ho hg hfr)
  · simp only [execOp,effOp,resolve,invoke,builtin,Sem.run_bind,Sem.run_pure,Result.andThen_ok,List.map_toArray,List.map_cons,List.map_nil,hr]
  · exact hE.grown hg hE.size fun k hk=>(hown.blk k hk).1
end
end Go.Eng
