/- Texts of mine for the claims about layer 2 (tree), joined: L02Vi, L02Qa, L02Qb, L02Vj, L02Vk, L02Vl, L02Kb, L02Vr, L02Vs, L02Ig, L02Vt, L02Vu, L02Xp, L02Xt, L02Xq, L02Xr, L02Xs. -/
import Derived.Test.YtbcmiempigoooaaGreatDoorJbl
import Derived.Shelf.Strings.OnBuilder
import Derived.Test.YtbcmiempigoooaaGreatDoorProg
import Derived.KernelRfl
set_option linter.all false
set_option linter.unusedSimpArgs false
set_option linter.unusedVariables false
namespace Go.Proofs
open Go.Shelf
def Tryz.lays156_ren:Go.Shelf.Ren:=⟨fun|156=>34|165=>88|166=>89|169=>90|240=>177|241=>178|276=>247|277=>248|n=>n,fun|31=>51|9=>9|3=>3|4=>4|0=>0|20=>20|72=>114|76=>127|70=>111|37=>112|75=>126|127=>196|164=>254|5=>5|80=>129|n=>n,fun|n=>n⟩
theorem Tryz.lays156:Go.Proofs.Lays.n156 Tryz.prog Tryz.lays156_ren:={
 mixed:=by kernel_rfl
 f156:=Tryz.func34.trans (congrArg some (by kernel_rfl))
 f165:=Tryz.func88.trans (congrArg some (by kernel_rfl))
 f166:=Tryz.func89.trans (congrArg some (by kernel_rfl))
 f169:=Tryz.func90.trans (congrArg some (by kernel_rfl))
 f240:=Tryz.func177.trans (congrArg some (by kernel_rfl))
 f241:=Tryz.func178.trans (congrArg some (by kernel_rfl))
 f276:=Tryz.func247.trans (congrArg some (by kernel_rfl))
 f277:=Tryz.func248.trans (congrArg some (by kernel_rfl))
 t0:=Tryz.underlying0
 a0:=Tryz.isAgg0
 z0:=Tryz.sizeOf0
 v0:=Tryz.zeroValue0
 t3:=Tryz.underlying3
 a3:=Tryz.isAgg3
 z3:=Tryz.sizeOf3
 v3:=Tryz.zeroValue3
 t4:=Tryz.underlying4
 a4:=Tryz.isAgg4
 z4:=Tryz.sizeOf4
 v4:=Tryz.zeroValue4
 t9:=Tryz.underlying9
 a9:=Tryz.isAgg9
 z9:=Tryz.sizeOf9
 v9:=Tryz.zeroValue9
 t20:=Tryz.underlying20
 a20:=Tryz.isAgg20
 z20:=Tryz.sizeOf20
 v20:=Tryz.zeroValue20
 t31:=Tryz.underlying51
 a31:=Tryz.isAgg51
 z31:=Tryz.sizeOf51
 v31:=Tryz.zeroValue51
 t37:=Tryz.underlying112
 a37:=Tryz.isAgg112
 z37:=Tryz.sizeOf112
 v37:=Tryz.zeroValue112
 t70:=Tryz.underlying111
 a70:=Tryz.isAgg111
 z70:=Tryz.sizeOf111
 v70:=Tryz.zeroValue111
 t72:=Tryz.underlying114
 a72:=Tryz.isAgg114
 z72:=Tryz.sizeOf114
 v72:=Tryz.zeroValue114
 t75:=Tryz.underlying126
 a75:=Tryz.isAgg126
 z75:=Tryz.sizeOf126
 v75:=Tryz.zeroValue126
 t76:=Tryz.underlying127
 a76:=Tryz.isAgg127
 z76:=Tryz.sizeOf127
 v76:=Tryz.zeroValue127
 t127:=Tryz.underlying196
 a127:=Tryz.isAgg196
 z127:=Tryz.sizeOf196
 v127:=Tryz.zeroValue196
 t164:=Tryz.underlying254
 a164:=Tryz.isAgg254
 z164:=Tryz.sizeOf254
 v164:=Tryz.zeroValue254}
theorem Tryz.extra156:Builder.Extra Tryz.prog Tryz.lays156_ren where
 sizeBuilder:=by kernel_rfl
 liesBuilder:=by kernel_rfl
 t5:=Tryz.underlying5
 a5:=Tryz.isAgg5
 z5:=Tryz.sizeOf5
 v5:=Tryz.zeroValue5
 infoByte:=by kernel_rfl
 cellsByte:=by kernel_rfl
 sizeByte:=by kernel_rfl
 neB5:=by decide
open Go.RowKit in
theorem Tryz.join (bk o c:Nat) (xs:List ByteArray) (sep:ByteArray) (w:World)
  (hcells:∀(j:Nat) x,xs[j]? =some x→w.cell? ⟨bk,o+j,none⟩=some (.string x))
  (hbk:bk<w.heap.size) (hN:xs.length≤140737488355328) (hcap:xs.length≤c)
  (hlen:(Lib.join (xs.map (·.data.toList)) sep.data.toList).length≤140737488355328):
  Calls Tryz.prog 34 #[.slice (some ⟨bk,o,none⟩) xs.length c, .string sep] w fun e w'=>e= .returned (.string ⟨(Lib.join (xs.map (·.data.toList)) sep.data.toList).toArray⟩)∧Below w.heap.size w w':=Any.strings_Join Tryz.lays156 Tryz.extra156 bk o c xs sep w hcells hbk hN hcap hlen
theorem Tryz.join0 (a:Option Addr) (c:Nat) (sep:ByteArray) (w:World):
  Calls Tryz.prog 34 #[.slice a 0 c, .string sep] w fun e w'=>e= .returned (.string ⟨#[]⟩)∧w'=w:=Any.strings_Join_none Tryz.lays156 Tryz.extra156 a c sep w
end Go.Proofs
namespace Go.L02
open Go Go.Eng Go.RowKit
open Go.Proofs hiding encI
open Go.L01 (Bs Tok encT SlT Own.same retK_c1 isName)
set_option maxRecDepth 100000
set_option maxHeartbeats 2000000
@[simp] theorem cbp34:callB Tryz.prog 34=true:=by kernel_rfl
@[simp] theorem cbp88:callB Tryz.prog 88=true:=by kernel_rfl
@[simp] theorem cbp177:callB Tryz.prog 177=true:=by kernel_rfl
theorem joinB_lib (sep:Bs):∀ss:List Bs,Lib.join ss sep=joinB sep ss
 |[]=>by simp [joinB,Lib.join_nil]
 |[x]=>by simp [joinB,Lib.join_one]
 |x::y::ys=>by
  have h:=joinB_lib sep (y::ys)
  rw [Lib.join_cons] at h
  rw [Lib.join_cons,joinB,←h]
  simp [Lib.joinTail]
theorem p_Join {w:World} {v:Value} {ss:List Bs} (sep:Bs) (h:Cells w v 1 (ss.map encT)) (hn:ss.length≤100000000000000) (hbd:(joinB sep ss).length≤100000000000000):
  Calls Tryz.prog 34 #[v, .string (mkS sep)] w fun e w'=>e= .returned (.string (mkS (joinB sep ss)))∧Ext w w':=by
 have hl:slLen v=ss.length:=by simpa using h.len.symm
 have key0:∀(a:Option Addr) (c:Nat),v= .slice a 0 c→Calls Tryz.prog 34 #[v, .string (mkS sep)] w fun e w'=>e= .returned (.string (mkS (joinB sep ss)))∧Ext w w':=by
  rintro a c rfl
  have h0:ss=[]:=by simpa [slLen] using hl.symm
  subst h0
  refine (Tryz.join0 a c (mkS sep) w).mono ?_
  rintro _ _ ⟨rfl,rfl⟩
  exact ⟨by simp [joinB,mkS],ext_refl _⟩
 rcases isSl_cases h.is with ⟨b,o,n,c,hv,hc⟩|hv|⟨b,o,sp,hv⟩
 ·by_cases h0:ss=[]
  ·have:n=0:=by rw [hv] at hl;simpa [slLen,h0] using hl
   subst this
   exact key0 _ _ hv
  ·have h1:0<ss.length:=List.length_pos_iff.2 h0
   have hnn:n=ss.length:=by rw [hv] at hl;simpa [slLen] using hl
   have hcell:∀(j:Nat) x,(ss.map mkS)[j]? =some x→w.cell? ⟨b,o+j,none⟩=some (.string x):=fun j x hx=>by
    obtain ⟨hj,hx⟩:=List.getElem?_eq_some_iff.1 hx
    have:=h.cell j (by simpa using hj)
    rw [hv] at this
    simp [slAddr,encT] at this hx
    rw [this,hx]
   have hbk:b<w.heap.size:=by
    have:=hcell 0 (mkS ss[0]) (by simp [h1])
    refine Nat.lt_of_not_le fun hc=> ?_
    unfold World.cell? at this
    simp only [Array.getElem?_eq_none hc] at this
    cases this
   have e1:(ss.map mkS).map (·.data.toList)=ss:=by simp [Function.comp_def,mkS]
   have hj:=Tryz.join b o c (ss.map mkS) (mkS sep) w hcell hbk (by simp;omega) (by simp;omega) (by rw [e1];simp only [mkS];rw [joinB_lib];omega)
   rw [e1] at hj
   simp only [mkS,List.length_map] at hj
   rw [joinB_lib,←hnn,←hv] at hj
   refine hj.mono ?_
   rintro _ w' ⟨rfl,hb⟩
   exact ⟨rfl,hb⟩
 ·exact key0 _ _ hv
 ·exact key0 _ _ hv
end Go.L02
namespace Go.L02
open Go.Eng
open Go.L01 (Bs Tok right isWord isSign isName isNumber scan scanAt first Res letter digit runL digitsL first_alone run_tail signs2 words2 scanAt_tok right_bytes scanAt_nl scanAt_sp)
def glue (k:Nat) (s:Bs) (c:UInt8):Bool:=if k=4 then isSign (s++[c]) else if k=3 then digit c else L01.part c
structure At where
 k:Nat
 s:Bs
def At.ok (a:At):Prop:=if a.k=0 then a.s≠[]∧∀c∈a.s,L01.blank c=true else right a.k a.s=true
def At.then (a:At) (r:Bs):Prop:=a.k=0∨∀c x,r=c::x→glue a.k a.s c=false
theorem At.ok.ne {a:At} (h:a.ok):a.s≠[]:=by
 unfold At.ok at h
 split at h
 ·exact h.1
 ·exact (first_alone h).1
end Go.L02
namespace Go.L02
open Go.Eng
open Go.L01 (Bs Tok right isWord isSign isName isNumber scan scanAt first Res letter digit runL digitsL first_alone run_tail signs2 words2 scanAt_tok right_bytes scanAt_nl scanAt_sp)
def bk (s:Bs):Nat×List At:=(0,[⟨0,s⟩])
end Go.L02
namespace Go.L02
open Go Go.Eng Go.RowKit
open Go.Proofs hiding encI
open Go.L01 (Bs Tok encT SlT Own.same retK_c1 isName)
set_option maxRecDepth 100000
set_option maxHeartbeats 2000000
def kidIx (i:Nat) (u:T) (j:Nat):Nat:=i+sizes (u.kids.take (j+1)) - u.size
structure NdR (w:World) (l:List Nd) (nv:Value) (N i:Nat) (u:T) (kv:Value):Prop where
 is:isSl nv=true
 len:slLen nv=N
 lt:i<N
 cell:∀j,j<6→w.cell? (slAddr nv (i*6+j))=[Value.int .u8 (u.d.kind:Int), .string (mkS u.d.name), .string (mkS u.d.vr), .string (mkS u.d.typ), .int .i64 u.d.n,kv][j]?
 kis:isSl kv=true
 klen:slLen kv=u.kids.length
 kids:Cells w kv 1 ((roots (i+1 - u.size) u.kids).map encI)
 kcell:∀j (h:j<u.kids.length),w.cell? (slAddr kv j)=some (.int .i64 (kidIx i u j:Int))∧AtT l (kidIx i u j) u.kids[j]∧u.kids[j].size<u.size
theorem NdR.ext {w w':World} {l:List Nd} {nv:Value} {N i:Nat} {u:T} {kv:Value} (h:NdR w l nv N i u kv) (hE:Ext w w'):NdR w' l nv N i u kv where
 is:=h.is
 len:=h.len
 lt:=h.lt
 cell j hj:=by
  have:=h.cell j hj
  have h2:j<[Value.int .u8 (u.d.kind:Int), .string (mkS u.d.name), .string (mkS u.d.vr), .string (mkS u.d.typ), .int .i64 u.d.n,kv].length:=by simpa using hj
  rw [List.getElem?_eq_getElem h2] at this⊢
  exact hE.cell this
 kis:=h.kis
 klen:=h.klen
 kids:=h.kids.ext hE
 kcell j hj:=⟨hE.cell (h.kcell j hj).1,(h.kcell j hj).2⟩
theorem NdR.row {w:World} {l:List Nd} {nv:Value} {N i:Nat} {u:T} {kv:Value} (h:NdR w l nv N i u kv):Eng.rowAt w (slAddr nv (i*6)) 0 6=some [Value.int .u8 (u.d.kind:Int), .string (mkS u.d.name), .string (mkS u.d.vr), .string (mkS u.d.typ), .int .i64 u.d.n,kv]:=by
 have:=rowAt_of (w:=w) (a:=slAddr nv (i*6)) (l:=[Value.int .u8 (u.d.kind:Int), .string (mkS u.d.name), .string (mkS u.d.vr), .string (mkS u.d.typ), .int .i64 u.d.n,kv]) (i:=0) fun j hj=>by
  have hj6:j<6:=by simpa using hj
  rw [slAddr_add,Nat.zero_add,h.cell j hj6,List.getElem?_eq_getElem hj]
 exact this
theorem strAddW {x y:Bs} (h:x.length+y.length≤1000000000000000000):strBin .add (mkS x) (mkS y)=some (.string (mkS (x++y))):=by
 simp only [strBin,mkS_size,mkS_app]
 rw [if_pos (by unfold maxLen;omega)]
theorem litS (l:Bs):ByteArray.mk l.toArray=mkS l:=rfl
section
variable {w:World} {b:Nat} {nv:Value} {xs:List NV}
end
end Go.L02
namespace Go.L02
open Go Go.Eng Go.RowKit
open Go.Proofs hiding encI
open Go.L01 (Bs Tok encT SlT Own.same retK_c1 isName)
set_option maxRecDepth 100000
set_option maxHeartbeats 2000000
noncomputable def ir90_body:Code:=((Tryz.f90.body).getD .skip)
noncomputable def ir90_k0:IR:= .ret
noncomputable def ir90:IR:=zq [za 2 (.const (zs #[]))] <| .seq (.raw (rawReg ir90_body 1)) (ir90_k0)
def ir90_V:List Nat:=[0,2,3,4,5,6,7,8,9,10,11,12,13]
theorem ir90_calls {v0:Value} {w:World} {R:Ending→World→Prop} (h:∀ρ:Env,ρ 0=v0→ir90.wp ⟨Tryz.prog,14,ir90_V,[]⟩ (retK [.tmp 2] R) (ksOf [.tmp 2] R) ρ w):Calls Tryz.prog 90 #[v0] w R:=
 calls_irX (raws:=[1]) (ir:=ir90) Tryz.func90 rfl (by kernel_rfl) (by kernel_rfl) (by kernel_rfl) (Nat.le_of_ble_eq_true rfl) (h _ rfl)
noncomputable def ir90_o1:OT:=zy 3 (zv 0)<|zy 4 (zN (zv 3))<|zy 5 (zf 1 (zv 4))<|zy 6 (zl (zv 5))<|zy 8 (zv 0)<|zy 9 (zN (zv 8))<|zy 10 (zf 1 (zv 9))<|zy 11 (zl (zv 10))<|zy 12 (zL (zv 11))<| .step (zE 7 (.call {callee:= .builtin .unsafeSliceData,args:= #[zt 6],argTypes:= #[112]}) 196) true<| .step (zE 13 (.call {callee:= .builtin .unsafeString,args:= #[zt 7,zt 12],argTypes:= #[196,3]}) 9) false<| .step (za 2 (zv 13)) false<| .done
theorem ir90_o1_ok:ordOf Tryz.prog 14 ir90_V 10 (rawReg ir90_body 1)=some ir90_o1:=by kernel_rfl
def Pr (B b:Nat) (nv:Value) (op:Bool) (bs:Bs) (w:World):Prop:=B≤b∧∃p v,Blk w b #[p,v,nv, .bool op] 116∧(p= .pointer none∨p= .pointer (some ⟨b,0,none⟩))∧w.ownsRow B 5 1 v bs.length (bs.map encB)∧v.ownBlock≠some b
def prP:Nat→TypeId→Prop:=fun _ T=>T≠116∧T≠5
theorem sh116 {w:World} {b:Nat} {p v nv o:Value} (h:Blk w b #[p,v,nv,o] 116):w.shape? b=some (116,4):=by simp [World.shape?,h.heap]
theorem lies116:liesAt Tryz.prog Tryz.prog.depth 116 (4 / Tryz.prog.cellsOf 116) 0 114 1=true:=by kernel_rfl
theorem pr_used (b:Nat) (w:World) (h0:w.cell? ⟨b,0,none⟩=some (.pointer (some ⟨b,0,none⟩))):
  Calls Tryz.prog 177 #[.pointer (some ⟨b,0,none⟩)] w fun e w'=>e= .returned (.tuple #[])∧w'=w:=L01.b_used b w h0
theorem pr_fresh (b:Nat) (w:World) {v nv o:Value} (h:Blk w b #[.pointer none,v,nv,o] 116):
  Calls Tryz.prog 177 #[.pointer (some ⟨b,0,none⟩)] w fun e w'=>e= .returned (.tuple #[])∧w'=w.setCell ⟨b,0,none⟩ (.pointer (some ⟨b,0,none⟩)):=by
 obtain ⟨j,hj,hjs⟩:=L01.info69
 have h0:w.cell? ⟨b,0,none⟩=some (.pointer none):=by rw [h.cell];rfl
 have hsh:=sh116 h
 have hfz:w.frozen? ⟨b,0,none⟩=false:=by simp [World.frozen?,h.heap]
 go_enter Tryz.func177,Tryz.ntmps177
 go_wp2
 rw [Lib.run_to_unsafe w ⟨b,0,none⟩ Tryz.underlying111 Tryz.underlying254 hj (by rw [hjs];decide) hsh (Nat.zero_lt_succ 3)]
 simp only [Result.andThen]
 rw [Oper.upon_value]
 go_wp2
 rw [run_callFunc_extern Tryz.func247 (by kernel_rfl) (by kernel_rfl) (by kernel_rfl) (e:=Extern.AbiNoEscape.same) (by kernel_rfl),Lib.run_noEscape]
 simp only [Result.andThen]
 rw [Oper.upon_value]
 go_wp2
 rw [Lib.run_from_unsafe w ⟨b,0,none⟩ Tryz.underlying254 Tryz.underlying111 hj hsh lies116]
 simp only [Result.andThen]
 rw [Oper.upon_value]
 go_wp2
 go_end0
 exact ⟨rfl,rfl⟩
theorem pr_check {w:World} {b:Nat} {p v nv o:Value} (h:Blk w b #[p,v,nv,o] 116) (hp:p= .pointer none∨p= .pointer (some ⟨b,0,none⟩)):
  Calls Tryz.prog 177 #[.pointer (some ⟨b,0,none⟩)] w fun e w'=>e= .returned (.tuple #[])∧Blk w' b #[.pointer (some ⟨b,0,none⟩),v,nv,o] 116∧Only b w w':=by
 rcases hp with rfl|rfl
 ·refine (pr_fresh b w h).mono ?_
  rintro _ _ ⟨rfl,rfl⟩
  exact ⟨rfl,by simpa using blk_setCell h 0 (.pointer (some ⟨b,0,none⟩)),only_setCell _ _ _ _⟩
 ·refine (pr_used b w (by rw [h.cell];rfl)).mono ?_
  rintro _ _ ⟨rfl,rfl⟩
  exact ⟨rfl,h,Only.refl _ _⟩
theorem ownsRow_keep {w w':World} {B:Nat} {v:Value} {n:Nat} {xs:List Value} (h:w.ownsRow B 5 1 v n xs) (hk:∀k,v.ownBlock=some k→w'.heap[k]? =w.heap[k]?):w'.ownsRow B 5 1 v n xs:=by
 refine ⟨h.1, ?_⟩
 rcases h.2 with h2|⟨g,cap,cur,rfl,hg,hh,r⟩
 ·exact .inl h2
 ·exact .inr ⟨g,cap,cur,rfl,hg,(hk g rfl).trans hh,r⟩
theorem row_blk5 {w:World} {B:Nat} {v:Value} {n:Nat} {xs:List Value} (h:w.ownsRow B 5 1 v n xs) {k:Nat} (hk:v.ownBlock=some k):∃cur,w.heap[k]? =some (.cells cur 5 (0,0)):=by
 rcases h.2 with ⟨rfl,_⟩|⟨g,cap,cur,rfl,hg,hh,r⟩
 ·simp at hk
 ·simp at hk;subst hk;exact ⟨cur,hh⟩
theorem Pr.ext {w w':World} {B b:Nat} {nv:Value} {op:Bool} {bs:Bs} (h:Pr B b nv op bs w) (hE:Ext w w'):Pr B b nv op bs w':=by
 obtain ⟨hB,p,v,hb,hp,hr,hne⟩:=h
 exact ⟨hB,p,v,hb.ext hE,hp,ownsRow_keep hr (fun k hk=>by obtain ⟨cur,hc⟩:=row_blk5 hr hk;exact hE.block k (Array.getElem?_eq_some_iff.1 hc).1),hne⟩
theorem Pr.at' {p:Nat→TypeId→Prop} {w w':World} {B b:Nat} {nv:Value} {op:Bool} {bs:Bs} (h:Pr B b nv op bs w) (hs:SameAt p w w') (h1:∀k,p k 116) (h2:∀k,p k 5):Pr B b nv op bs w':=by
 obtain ⟨hB,q,v,hb,hp,hr,hne⟩:=h
 exact ⟨hB,q,v,hb.at' hs (h1 _),hp,ownsRow_keep hr (fun k hk=>by obtain ⟨cur,hc⟩:=row_blk5 hr hk;exact hs k _ _ _ hc (h2 _)),hne⟩
theorem Pr.nodes {w:World} {B b:Nat} {nv:Value} {op:Bool} {bs:Bs} (h:Pr B b nv op bs w):w.cell? ⟨b,2,none⟩=some nv:=by
 obtain ⟨hB,q,v,hb,hp,hr,hne⟩:=h
 rw [hb.cell];rfl
structure Chg (w0 w w':World):Prop where
 ext:Ext w0 w'
 same:SameAt prP w w'
 size:w.heap.size≤w'.heap.size
theorem Chg.trans {w0 a b c:World} (h:Chg w0 a b) (k:Chg w0 b c):Chg w0 a c:=⟨k.ext,h.same.trans k.same,Nat.le_trans h.size k.size⟩
theorem effW_b {P:Program} {Q:Ks} {d:Option Nat} {b:Builtin} {args:Array Operand} {ats:Array TypeId} {ty:TypeId} {K:Env→World→Prop} {ρ:Env} {w:World} (h:effE P Q d (.call {callee:= .builtin b,args:=args,argTypes:=ats}) ty K ρ w):effW P Q d (.call {callee:= .builtin b,args:=args,argTypes:=ats}) ty K ρ w:=h
end Go.L02
namespace Go.L02
open Go Go.Eng Go.RowKit
open Go.Proofs hiding encI
open Go.L01 (Bs Tok encT SlT Own.same retK_c1 isName)
set_option maxRecDepth 100000
set_option maxHeartbeats 2000000
def ndC (t:T) (kv:Value):List Value:=[Value.int .u8 (t.d.kind:Int), .string (mkS t.d.name), .string (mkS t.d.vr), .string (mkS t.d.typ), .int .i64 t.d.n,kv]
structure StC (w0 W:World) (b:Nat) (nv:Value) (bs ind:Bs) (t:T) (kv:Value) (P I X:Nat):Prop where
 ext:Ext w0 W
 pr:Pr w0.heap.size b nv true bs W
 bP:Blk W P #[.pointer (some ⟨b,0,none⟩)] 110
 bI:Blk W I #[.string (mkS ind)] 9
 bX:Blk W X (ndC t kv).toArray 44
section
variable {w0 W:World} {b:Nat} {nv:Value} {bs ind:Bs} {t:T} {kv:Value} {P I X:Nat}
theorem StC.cs (h:StC w0 W b nv bs ind t kv P I X):W.cell? ⟨P,0,none⟩=some (.pointer (some ⟨b,0,none⟩))∧W.cell? ⟨I,0,none⟩=some (.string (mkS ind))∧W.cell? ⟨X,0,none⟩=some (.int .u8 (t.d.kind:Int))∧W.cell? ⟨X,1,none⟩=some (.string (mkS t.d.name))∧W.cell? ⟨X,3,none⟩=some (.string (mkS t.d.typ))∧W.cell? ⟨X,5,none⟩=some kv:=
 ⟨by rw [h.bP.cell];rfl,by rw [h.bI.cell];rfl,by rw [h.bX.cell];rfl,by rw [h.bX.cell];rfl,by rw [h.bX.cell];rfl,by rw [h.bX.cell];rfl⟩
end
end Go.L02
namespace Go.L02
open Go Go.Eng Go.RowKit
open Go.Proofs hiding encI
open Go.L01 (Bs Tok encT SlT toksV toksV_len toksV_get SlK retT Own.same ownMono retK_c1 retTT isStr leaves_fn scan fV ScanR)
set_option maxRecDepth 100000
set_option maxHeartbeats 2000000
theorem NodeC.rd {q:Nat→Prop} {w:World} {v:Value} {l:List Nd} (h:NodeC q w v l):RdN w v l:=by
 obtain ⟨xs,e,h1,h2⟩:=h
 exact ⟨xs,e,rd_own h1 fun x hx=>(h2 x hx).1⟩
theorem SlC.rd {α:Type} {b T sz:Nat} {C C':List Value→α→Prop} {w:World} {v:Value} {l:List α} (h:SlC b T sz C w v l) (hC:∀c a,C c a→C' c a):RSl sz C' w v l:=by
 obtain ⟨css,h1,h2⟩:=h
 exact ⟨css,L01.own_cells h1,h2.imp hC⟩
theorem SigC.rd {w:World} {cs:List Value} {s:Sig} (h:SigC w cs s):RSig w cs s:=by
 obtain ⟨av,sv,e,h1,h2⟩:=h
 exact ⟨av,sv,e,L01.own_cells h1,L01.own_cells h2⟩
theorem ModC.rd {q:Nat→Prop} {w:World} {cs:List Value} {m:Mod} (h:ModC (NodeC q w) w cs m):RMod w cs m:=by
 obtain ⟨a,b,c,e,h1,h2,h3⟩:=h
 refine ⟨a,b,c,e,h1.rd ?_,h2.rd ?_,h3.rd ?_⟩
 ·rintro _ _ ⟨c,e,h⟩;exact ⟨c,e,h.rd⟩
 ·rintro _ _ ⟨c,e,h⟩;exact ⟨c,e,h.rd⟩
 ·rintro _ _ ⟨c,pv,ndv,e,h1,h2,h3⟩;exact ⟨c,pv,ndv,e,h1.rd,L01.own_cells h2,h3.rd⟩
def RdM (w:World) (v:Value) (l:List Mod):Prop:=RSl 7 (RMod w) w v l
theorem RdM.ext {w w':World} {v:Value} {l:List Mod} (h:RdM w v l) (hE:Ext w w'):RdM w' v l:=RSl.ext h hE fun _ _ h=>h.ext hE
end Go.L02
namespace Go.L02
open Go Go.Eng Go.RowKit
open Go.Proofs hiding encI
open Go.L01 (Bs Tok encT SlT Own.same retK_c1 isName Bd cb177 si67 sz67 info5 put_at strCells_enc b_check)
set_option maxRecDepth 100000
set_option maxHeartbeats 2000000
theorem append_fresh {w W:World} {base:Nat} {v v':Value} {n:Nat} {xs:List Value} (s:ByteArray) (hown:w.ownsRow base 5 1 v n xs) (hlen:n+s.size≤140737488355328) (hr:(Builtin.append_ #[112,9] 112 #[v, .string s]).run Tryz.prog w= .ok v' W) (hnil:v'= .slice none 0 0↔v= .slice none 0 0∧s.size=0):v'.ownBlock=v.ownBlock∨v'.ownBlock=some w.heap.size:=by
 obtain ⟨i,hi,hz,hs,hby⟩:=info5
 have hxl:xs.length=n:=by simpa using hown.1
 rcases hown.2 with ⟨rfl,rfl⟩|⟨g,cap,cur,rfl,hbg,hg,hnc,hcm,hcs,htake⟩
 ·by_cases hm:s.size=0
  ·left;rw [hnil.2 ⟨rfl,hm⟩]
  ·have h2:=run_append_nil_string (P:=Tryz.prog) w 112 9 112 5 i (.int .u8 0) Tryz.underlying112 Tryz.underlying9 hi hz s (by omega) (by omega) (by rw [hby];omega)
   rw [hr] at h2
   cases h2
   right;rfl
 ·have hcs':cur.size=cap:=by simpa using hcs
  by_cases hroom:n+s.size≤cap
  ·have h2:=Lib.run_append_room_string (P:=Tryz.prog) w 112 9 112 5 i Tryz.underlying112 Tryz.underlying9 hi hs g n cap cur hg s hroom (by omega)
   rw [hr] at h2
   cases h2
   left;rfl
  ·have h2:=Lib.run_append_grow_string (P:=Tryz.prog) w 112 9 112 5 i (.int .u8 0) Tryz.underlying112 Tryz.underlying9 hi hz ⟨g,0,none⟩ n cap xs (by rw [hs];simpa using hxl) (hown.cells (g:=g) rfl) s (by omega) (by omega) (by rw [hby];exact growslice_fits (by omega) (by omega))
   rw [hr] at h2
   cases h2
   right;rfl
def BdV (B O:Nat) (v:Value) (bs:Bs) (w:World):Prop:=B≤O∧(∃p,(p= .pointer none∨p= .pointer (some ⟨O,0,none⟩))∧Blk w O #[p,v] 114)∧w.ownsRow B 5 1 v bs.length (bs.map encB)∧v.ownBlock≠some O
theorem BdV.bd {B O:Nat} {v:Value} {bs:Bs} {w:World} (h:BdV B O v bs w):Bd B O bs w:=by
 obtain ⟨hB,⟨p,hp,hb⟩,hr,hne⟩:=h
 rcases hp with rfl|rfl
 ·exact .inl ⟨hB,v,hb.heap,by simpa using hr,hne⟩
 ·exact .inr ⟨hB,v,hb.heap,by simpa using hr,hne⟩
theorem BdV.keep {B O:Nat} {v:Value} {bs:Bs} {w w':World} (h:BdV B O v bs w) (hO:w'.heap[O]? =w.heap[O]?) (hv:∀k,v.ownBlock=some k→w'.heap[k]? =w.heap[k]?):BdV B O v bs w':=by
 obtain ⟨hB,⟨p,hp,hb⟩,hr,hne⟩:=h
 exact ⟨hB,⟨p,hp,⟨hO.trans hb.heap⟩⟩,ownsRow_keep hr hv,hne⟩
theorem BdV.lt {B O:Nat} {v:Value} {bs:Bs} {w:World} (h:BdV B O v bs w):O<w.heap.size∧∀k,v.ownBlock=some k→k<w.heap.size:=by
 obtain ⟨hB,⟨p,hp,hb⟩,hr,hne⟩:=h
 exact ⟨hb.lt,fun k hk=>(hr.lt k hk).2⟩
theorem BdV.ext {B O:Nat} {v:Value} {bs:Bs} {w w':World} (h:BdV B O v bs w) (hE:Ext w w'):BdV B O v bs w':=h.keep (hE.block O h.lt.1) fun k hk=>hE.block k (h.lt.2 k hk)
theorem b_strV {w:World} {B b:Nat} {v:Value} {bs:Bs} (s:Bs) (h:BdV B b v bs w) (hlen:bs.length+s.length≤100000000000000) (hBw:B≤w.heap.size):
  Calls Tryz.prog 89 #[.pointer (some ⟨b,0,none⟩), .string (mkS s)] w fun e w'=>e= .returned (.tuple #[.int .i64 s.length, .nilIface])∧∃v',BdV B b v' (bs++s) w'∧Below B w w'∧(∀k,k<w.heap.size→k≠b→v.ownBlock≠some k→w'.heap[k]? =w.heap[k]?)∧(v'.ownBlock=v.ownBlock∨v'.ownBlock=some w.heap.size):=by
 obtain ⟨hB,⟨p,hp,hbk⟩,hown0,hne⟩:=h
 refine L01.ir89_calls fun ρ h0 h1=> ?_
 simp [L01.ir89,h0]
 have hchk:Calls Tryz.prog 177 #[.pointer (some ⟨b,0,none⟩)] w fun e w'=>e= .returned (.tuple #[])∧Blk w' b #[.pointer (some ⟨b,0,none⟩),v] 114∧Only b w w':=by
  rcases hp with rfl|rfl
  ·refine (L01.b_fresh b w (by rw [hbk.cell];rfl) (by simp [World.shape?,hbk.heap]) (by simp [World.frozen?,hbk.heap])).mono ?_
   rintro _ _ ⟨rfl,rfl⟩
   exact ⟨rfl,by simpa using blk_setCell hbk 0 (.pointer (some ⟨b,0,none⟩)),only_setCell _ _ _ _⟩
  ·refine (L01.b_used b w (by rw [hbk.cell];rfl)).mono ?_
   rintro _ _ ⟨rfl,rfl⟩
   exact ⟨rfl,hbk,Only.refl _ _⟩
 refine hchk.mono ?_
 rintro _ w1 ⟨rfl,hb,hO1⟩
 simp [h0,h1,hb.cell]
 obtain ⟨i,hi,hz,hs,hby⟩:=info5
 have hBs:=hO1.size
 have hlt:=hb.lt
 have hsz:(mkS s).size=s.length:=rfl
 have hown:w1.ownsRow B 5 1 v bs.length (bs.map encB):=ownsRow_keep hown0 fun k hk=>hO1.block k fun e=>hne (by rw [hk,e])
 obtain ⟨v',W3,hr,hown3,hg3,hnil⟩:=Lib.run_append_own_string (P:=Tryz.prog) w1 B 112 9 112 5 i Tryz.underlying112 Tryz.underlying9 hi hz hs hby v bs.length (bs.map encB) (by simpa using hown) (mkS s) (by rw [hsz];simp only [maxLen];omega) (by rw [hsz];omega) (by omega)
 have hfr:=append_fresh (mkS s) hown (by rw [hsz];omega) hr hnil
 rw [hBs] at hfr
 have hown3':W3.ownsRow B 5 1 v' (bs++s).length ((bs++s).map encB):=by simpa [strCells_enc] using hown3
 have hb3:Blk W3 b #[.pointer (some ⟨b,0,none⟩),v] 114:=⟨(hg3.block b hlt (fun e=>hne e.symm)).trans hb.heap⟩
 refine effE_ok (v:=v') (w':=W3) (by simp [execOp,effOp,resolve,invoke,builtin,hr]) ?_
 have hv1:v'.cells= #[v']∧v'.oneCell=true:=by
  rcases hown3'.2 with ⟨rfl,_⟩|⟨g,cap,cur,rfl,_⟩<;>exact ⟨rfl,rfl⟩
 simp
 refine eff_store1 (B:=b) (i:=1) (by simp) hb3 (by simp) (by simp;exact hv1.1) (by simp;exact hv1.2) sz67 fun W4 hO4 hb4=> ?_
 simp [h1] at hb4⊢
 have hne4:v'.ownBlock≠some b:=by
  rcases hfr with h|h
  ·rw [h];exact hne
  ·rw [h];simp;omega
 have h3:Below B w W3:=(only_below hO1 hB).grown hg3 (by omega) fun k hk=>(hown.lt k hk).1
 refine ⟨v',⟨hB,⟨_, .inr rfl,hb4⟩,by simpa using ownsRow_keep hown3' (fun k hk=>hO4.block k fun e=>hne4 (by rw [hk,e])),hne4⟩,Below.trans h3 (only_below hO4 hB),fun k hk1 hk2 hk3=> ?_,hfr⟩
 exact (hO4.block k hk2).trans ((hg3.block k (by omega) (fun e=>hk3 e.symm)).trans (hO1.block k hk2))
end Go.L02
namespace Go.L02
open Go Go.Eng
open Go.L01 (Bs Tok)
set_option maxRecDepth 100000
set_option maxHeartbeats 2000000
def exB:Bs:=[112,114,111,99,32,112,40,41,32,105,115,32,120,32,58,61,32,97,91,105,110,116,93,59,32,112,117,116,32,49,32,101,110,100]
def exC:Bs:=[112,114,111,99,32,112,40,41,32,115,105,103,110,97,108,115,40,98,44,32,97,41,32,105,115,32,101,110,100]
theorem op1:isOp [103,101,116,95,102]=true:=by decide+kernel
theorem op2:isOp [103,101,116,95]=false:=by decide+kernel
end Go.L02
namespace Go.L02
open Go Go.Eng Go.Proofs
set_option maxRecDepth 100000
set_option maxHeartbeats 2000000
variable {v0 v1 v2 v3 v4:Value} {w:World} {R:Ending→World→Prop}
noncomputable def ir11_k0:IR:= .reg [za 44 (zI .add (zv 44) (.const (zk 1)))]
noncomputable def ir11_k1:IR:= .seq (.block 3 (.reg [za 11 (zv 44),za 53 (zx 1 (zo 5 (zx 6 (zv 8) (zv 10))) (zv 11)), .eff none none (.store 3 (zt 53) (.const (.int .i64 (-5)))) 0])) (ir11_k0)
noncomputable def ir11_l2:IR:=zq [za 45 (zI .lss (zv 44) (zv 43))] <| .seq (.cond (zv 45) (.skip) (.exit 2)) (ir11_k1)
noncomputable def ir11_k3:IR:= .reg [za 55 (zv 8),za 56 (zv 10),zE 57 (.build 44 #[]) 44,za 58 (zx 6 (zv 55) (zv 56)),zw 44 (zt 58) (zt 57)]
noncomputable def ir11_k4:IR:= .reg [za 35 (zI .add (zv 35) (.const (zk 1)))]
noncomputable def ir11_k5:IR:= .seq (.block 1 (zq [za 10 (zv 35),za 43 (zL (zo 5 (zx 6 (zv 8) (zv 10)))),za 44 (.const (zk 0))] <| .seq (.block 2 (.loop ir11_l2)) (ir11_k3))) (ir11_k4)
noncomputable def ir11_l6:IR:=zq [za 36 (zI .lss (zv 35) (zv 34))] <| .seq (.cond (zv 36) (.skip) (.exit 0)) (ir11_k5)
noncomputable def ir11_k7:IR:=zq [za 61 (zv 0),za 62 (zv 1),zc 63 43 #[zt 61,zt 62] #[29,3] 68,za 60 (zv 63),za 64 (ze 0 (zv 60)),za 65 (ze 1 (zv 60)),za 12 (zv 64),za 13 (zv 65),zc 66 14 #[] #[] 4,za 67 (zv 66),zg 67 true 68 (zv 0),zh 67 true 69 44 #[zt 68] #[29] 9,za 78 (.ite (.ite (zv 67) (zS .eql (zv 69) (zv 5)) (.const (zb false))) (zI .eql (zv 7) (zv 13)) (.const (zb false))),zg 78 true 79 (zv 6),zg 78 true 80 (zv 12),zh 78 true 81 20 #[zt 79,zt 80] #[29,29] 4,za 4 (.ite (.ite (zv 78) (zv 81) (.const (zb false))) (.ite (zI .neq (zv 7) (.const (zk 0))) (.const (zb true)) (zI .eql (zv 9) (.const (zk 0)))) (.const (zb false)))] <| .ret
noncomputable def ir11_k8:IR:=zq [za 18 (zv 0),zc 19 44 #[zt 18] #[29] 9,za 5 (zv 19),za 21 (zv 0),za 22 (zv 1),zc 23 43 #[zt 21,zt 22] #[29,3] 68,za 20 (zv 23),za 24 (ze 0 (zv 20)),za 25 (ze 1 (zv 20)),za 6 (zv 24),za 7 (zv 25),za 27 (zv 0),za 28 (zv 1),za 29 (zv 6),zc 30 41 #[zt 27,zt 28,zt 29] #[29,3,29] 68,za 26 (zv 30),za 31 (ze 0 (zv 26)),za 32 (ze 1 (zv 26)),za 8 (zv 31),za 9 (zv 32),za 34 (zL (zv 8)),za 35 (.const (zk 0))] <| .seq (.block 0 (.loop ir11_l6)) (ir11_k7)
noncomputable def ir11:IR:=zq [za 4 (.const (zb false)),za 14 (zv 0),zc 15 21 #[zt 14] #[29] 4,za 16 (zn (zv 15))] <| .seq (.cond (zv 16) (zq [zc 17 14 #[] #[] 4,za 4 (zv 17)] <| .ret) (.skip)) (ir11_k8)
def ir11_V:List Nat:=[0,1,4,5,6,7,8,9,10,11,12,13,14,15,16,17,18,19,20,21,22,23,24,25,26,27,28,29,30,31,32,34,35,36,43,44,45,53,55,56,57,58,60,61,62,63,64,65,66,67,68,69,78,79,80,81]
theorem ir11_calls (h:∀ρ:Env,ρ 0=v0→ρ 1=v1→ir11.wp ⟨Tryz.prog,91,ir11_V,[]⟩ (retK [.tmp 4] R) (ksOf [.tmp 4] R) ρ w):Calls Tryz.prog 11 #[v0,v1] w R:=
 calls_irX (raws:=[]) (ir:=ir11) Tryz.func11 rfl (by kernel_rfl) (by kernel_rfl) (by kernel_rfl) (Nat.le_of_ble_eq_true rfl) (h _ rfl rfl)
noncomputable def ir21_k0:IR:= .reg [za 11 (zI .add (zv 11) (.const (zk 1)))]
noncomputable def ir21_k1:IR:= .seq (.block 1 (zq [za 14 (zM 6 (zx 6 (zv 9) (zv 11))),zE 4 (.alloc 44) 0,zw 44 (zt 4) (zt 14),za 36 (.ite (.ite (.ite (zI .gtr (zT (zo 1 (zv 4))) (.const (zk 40))) (.const (zb true)) (zI .gtr (zT (zo 2 (zv 4))) (.const (zk 110)))) (.const (zb true)) (zI .gtr (zT (zo 3 (zv 4))) (.const (zk 110)))) (.const (zb true)) (zI .gtr (zL (zo 5 (zv 4))) (.const (zk 420))))] <| .cond (zv 36) (zq [za 2 (.const (zb false))] <| .ret) (.skip))) (ir21_k0)
noncomputable def ir21_l2:IR:=zq [za 12 (zI .lss (zv 11) (zv 10))] <| .seq (.cond (zv 12) (.skip) (.exit 0)) (ir21_k1)
noncomputable def ir21_k3:IR:=zq [za 2 (.ite (zI .leq (zL (zv 0)) (.const (zk 120))) (.const (zb true)) (.ite (zI .gtr (zL (zv 0)) (.const (zk 400))) (zI .leq (zL (zv 0)) (.const (zk 410))) (.const (zb false))))] <| .ret
noncomputable def ir21:IR:=zq [za 2 (.const (zb false)),za 5 (zv 0),za 7 (zL (zv 0)),zE 8 (.call {callee:= .builtin .min,args:= #[zt 7,(.const (zk 420))],argTypes:= #[3,3]}) 3,za 9 (.op3 (.slLoHi 6) (zv 5) (.const (zk 0)) (zv 8)),za 10 (zL (zv 9)),za 11 (.const (zk 0))] <| .seq (.block 0 (.loop ir21_l2)) (ir21_k3)
def ir21_V:List Nat:=[0,2,4,5,7,8,9,10,11,12,14,36]
theorem ir21_calls (h:∀ρ:Env,ρ 0=v0→ir21.wp ⟨Tryz.prog,51,ir21_V,[]⟩ (retK [.tmp 2] R) (ksOf [.tmp 2] R) ρ w):Calls Tryz.prog 21 #[v0] w R:=
 calls_irX (raws:=[]) (ir:=ir21) Tryz.func21 rfl (by kernel_rfl) (by kernel_rfl) (by kernel_rfl) (Nat.le_of_ble_eq_true rfl) (h _ rfl)
noncomputable def ir44_k0:IR:= .reg [za 6 (zI .quo (zv 6) (.const (zk 16)))]
noncomputable def ir44_k1:IR:= .seq (.block 3 (.reg [za 41 (zB .add (.op1 (.conv .u8) (zI .and (zv 6) (.const (zk 15)))) (.const (zu 97))),zc 42 106 #[zt 3,zt 41] #[114,5] 126])) (ir44_k0)
noncomputable def ir44_l2:IR:=zq [za 35 (zI .neq (zv 6) (.const (zk 0)))] <| .seq (.cond (zv 35) (.skip) (.exit 2)) (ir44_k1)
noncomputable def ir44_k3:IR:= .reg [za 46 (zI .add (zv 46) (.const (zk 1)))]
noncomputable def ir44_k4:IR:= .seq (.block 5 (.reg [za 8 (zl (zx 1 (zv 44) (zv 46))),za 53 (.op1 (.conv .i32) (zI .add (zI .and (zv 8) (.const (zk 16383))) (.const (zk 64)))),zE 54 (.convert 21 9 (zt 53)) 9,za 55 (zS .add (.const (zs #[44])) (zv 54)),zc 56 89 #[zt 3,zt 55] #[114,9] 127])) (ir44_k3)
noncomputable def ir44_l5:IR:=zq [za 47 (zI .lss (zv 46) (zv 45))] <| .seq (.cond (zv 47) (.skip) (.exit 4)) (ir44_k4)
noncomputable def ir44_k6:IR:= .reg [zc 58 106 #[zt 3,(.const (zu 10))] #[114,5] 126]
noncomputable def ir44_k7:IR:=zq [za 44 (zo 5 (zv 5)),za 45 (zL (zv 44)),za 46 (.const (zk 0))] <| .seq (.block 4 (.loop ir44_l5)) (ir44_k6)
noncomputable def ir44_k8:IR:= .reg [za 11 (zI .add (zv 11) (.const (zk 1)))]
noncomputable def ir44_k9:IR:= .seq (.block 1 (zq [za 14 (zM 6 (zx 6 (zv 9) (zv 11))),zE 5 (.alloc 44) 0,zw 44 (zt 5) (zt 14),za 16 (zo 0 (zv 5)),zE 17 (.buildSlice 112 1 #[(0,(zt 16))]) 112,za 30 (zS .add (zS .add (zS .add (zS .add (zS .add (zS .add (.op1 .b2s (zv 17)) (zo 1 (zv 5))) (.const (zs #[124]))) (zo 2 (zv 5))) (.const (zs #[124]))) (zo 3 (zv 5))) (.const (zs #[124]))),zc 31 89 #[zt 3,zt 30] #[114,9] 127,za 6 (zo 4 (zv 5))] <| .seq (.block 2 (.loop ir44_l2)) (ir44_k7))) (ir44_k8)
noncomputable def ir44_l10:IR:=zq [za 12 (zI .lss (zv 11) (zv 10))] <| .seq (.cond (zv 12) (.skip) (.exit 0)) (ir44_k9)
noncomputable def ir44_k11:IR:=zq [zc 60 90 #[zt 3] #[114] 9,za 2 (zv 60)] <| .ret
noncomputable def ir44:IR:=zq [za 2 (.const (zs #[])),zE 3 (.alloc 114) 0,za 9 (zv 0),za 10 (zL (zv 9)),za 11 (.const (zk 0))] <| .seq (.block 0 (.loop ir44_l10)) (ir44_k11)
def ir44_V:List Nat:=[0,2,3,5,6,8,9,10,11,12,14,16,17,30,31,35,41,42,44,45,46,47,53,54,55,56,58,60]
theorem ir44_calls (h:∀ρ:Env,ρ 0=v0→ir44.wp ⟨Tryz.prog,61,ir44_V,[]⟩ (retK [.tmp 2] R) (ksOf [.tmp 2] R) ρ w):Calls Tryz.prog 44 #[v0] w R:=
 calls_irX (raws:=[]) (ir:=ir44) Tryz.func44 rfl (by kernel_rfl) (by kernel_rfl) (by kernel_rfl) (Nat.le_of_ble_eq_true rfl) (h _ rfl)
end Go.L02
namespace Go.L02
open Go Go.Eng Go.RowKit
open Go.Proofs hiding encI
open Go.L01 (Bs Tok encT)
set_option maxRecDepth 100000
set_option maxHeartbeats 2000000
theorem g26:Tryz.prog.eqGuardType Tryz.prog.depth 26=false:=by kernel_rfl
theorem flds26 : ((Tryz.prog.fieldsOf 26).toList.map fun f => (f.name == "_", f.type, f.offset)) = [(false, 24, 0), (false, 3, 1)] := by kernel_rfl
theorem stru26:Tryz.prog.underlying 26=some (.struct (Tryz.prog.fieldsOf 26)):=by kernel_rfl
theorem held26:Tryz.prog.stoodInHeld 26=false:=by kernel_rfl
theorem eqFlt (a b c d:Int) (w:World):(Op.equalIn 10000 26 (.agg #[.int .i64 a, .int .i64 b]) (.agg #[.int .i64 c, .int .i64 d])).run Tryz.prog w= .ok (decide (a=c)&&decide (b=d)) w:=by
 have hf:=flds26
 obtain ⟨f1,f2,hfl⟩:∃f1 f2,(Tryz.prog.fieldsOf 26).toList=[f1,f2]:=by
  match h:(Tryz.prog.fieldsOf 26).toList with
  |[f1,f2]=>exact ⟨f1,f2,rfl⟩
  |[] |[_] |_::_::_::_=>rw [h] at hf;simp at hf
 rw [hfl] at hf
 simp at hf
 obtain ⟨⟨n1,t1,o1⟩,n2,t2,o2⟩:=hf
 have e:=run_equalIn_agg (P:=Tryz.prog) w 9999 26 #[.int .i64 a, .int .i64 b] #[.int .i64 c, .int .i64 d] stru26 held26
 have p1:∀(cs:Array Value) (v:Value) (off t:Nat),isAggT Tryz.prog t=some false→cs[off]? =some v→(Go.part t cs off).run Tryz.prog w= .ok v w:=fun cs v off t h1 h2=>run_part1 h1 h2
 have i24:isAggT Tryz.prog 24=some false:=by kernel_rfl
 have i3:isAggT Tryz.prog 3=some false:=by kernel_rfl
 have q1:=run_equalIn_int (P:=Tryz.prog) w 9998 24 .i64 .i64 a c (by kernel_rfl)
 have q3:=run_equalIn_int (P:=Tryz.prog) w 9998 3 .i64 .i64 b d (by kernel_rfl)
 refine e.trans ?_
 rw [hfl]
 have a1:=p1 #[.int .i64 a, .int .i64 b] (.int .i64 a) 0 24 i24 rfl
 have a2:=p1 #[.int .i64 a, .int .i64 b] (.int .i64 b) 1 3 i3 rfl
 have b1:=p1 #[.int .i64 c, .int .i64 d] (.int .i64 c) 0 24 i24 rfl
 have b2:=p1 #[.int .i64 c, .int .i64 d] (.int .i64 d) 1 3 i3 rfl
 have hki:(a==c)=decide (a=c):=by rw [Bool.eq_iff_iff];simp
 have hli:(b==d)=decide (b=d):=by rw [Bool.eq_iff_iff];simp
 rw [hki] at q1
 rw [hli] at q3
 generalize decide (a=c)=x at q1
 generalize decide (b=d)=z at q3
 simp only [Nat.reduceAdd] at q1 q3
 cases x<;>cases z<;>simp [Op.eqFields,n1,n2,t1,t2,o1,o2,a1,a2,b1,b2,q1,q3]
@[simp] theorem cbr14:callB Tryz.prog 14=true:=by kernel_rfl
@[simp] theorem cbr21:callB Tryz.prog 21=true:=by kernel_rfl
def goV (b:Bool) (o:Option Value) (d:Nat) (K:Env→World→Prop) (ρ:Env) (w:World):Prop:=if b then onV o (fun v=>K (upd ρ d v) w) else K (upd ρ d undef) w
def goE (P:Program) (Q:Ks) (b:Bool) (d:Option Nat) (op:Op) (ty:TypeId) (K:Env→World→Prop) (ρ:Env) (w:World):Prop:=if b then effW P Q d op ty K ρ w else K (updO ρ d undef) w
section
variable {P:Program} {Q:Ks} {K:Env→World→Prop} {ρ:Env} {w:World} {r:List St}
theorem wa2 {g:Option (Nat×Bool)} {d:Nat} {e:Ex}:wps P Q (.asg g d e::r) K ρ w=goV (gd ρ g) (e.ev ρ w) d (wps P Q r K) ρ w:=rfl
theorem we2 {g:Option (Nat×Bool)} {d:Option Nat} {op:Op} {ty:TypeId}:wps P Q (.eff g d op ty::r) K ρ w=goE P Q (gd ρ g) d op ty (wps P Q r K) ρ w:=rfl
@[simp] theorem goV_t {d:Nat} {v:Value}:goV true (some v) d K ρ w=K (upd ρ d v) w:=rfl
@[simp] theorem goV_f {o:Option Value} {d:Nat}:goV false o d K ρ w=K (upd ρ d undef) w:=rfl
@[simp] theorem goE_t {d:Option Nat} {op:Op} {ty:TypeId}:goE P Q true d op ty K ρ w=effW P Q d op ty K ρ w:=rfl
@[simp] theorem goE_f {d:Option Nat} {op:Op} {ty:TypeId}:goE P Q false d op ty K ρ w=K (updO ρ d undef) w:=rfl
end
def okR (w:World):Ending→World→Prop:=fun e w'=>e= .returned (.bool true)∧Ext w w'
end Go.L02
namespace Go.L02
open Go Go.Eng Go.RowKit
open Go.Proofs hiding encI
open Go.L01 (Bs Tok encT)
set_option maxRecDepth 100000
set_option maxHeartbeats 2000000
def ndSm (x:Nd):Bool:=decide (x.d.name.length≤40)&&decide (x.d.vr.length≤110)&&decide (x.d.typ.length≤110)&&decide (x.kids.length≤420)
def fewB (l:List Nd):Bool:=(l.take 420).all ndSm&&(decide (l.length≤120)||(decide (400<l.length)&&decide (l.length≤410)))
theorem few_len {l:List Nd} (h:fewB l=true):l.length≤410:=by
 simp only [fewB,Bool.and_eq_true,Bool.or_eq_true,decide_eq_true_eq] at h
 omega
theorem few_all {l:List Nd} (h:fewB l=true):∀x∈l,ndSm x=true:=by
 have hl:=few_len h
 simp only [fewB,Bool.and_eq_true] at h
 have:=h.1
 rw [List.take_of_length_le (by omega)] at this
 exact List.all_eq_true.1 this
theorem few_nok {l:List Nd} (h:fewB l=true) (hk:∀x∈l,x.d.kind<256):NOk l:=by
 have h':=few_all h
 refine ⟨fun x hx=> ?_,fun x hx=> ?_⟩
 ·have:=h' x hx
  simp only [ndSm,Bool.and_eq_true,decide_eq_true_eq] at this
  exact ⟨hk x hx,by omega,by omega,by omega⟩
 ·have:=h' x hx
  simp only [ndSm,Bool.and_eq_true,decide_eq_true_eq] at this
  omega
theorem p_few {w:World} {lv:Value} {xs:List NV} (hR:Rd w lv xs) (hlen:xs.length<4611686018427387904) (hkl:∀x∈xs,x.nd.kids.length<4611686018427387904):Calls Tryz.prog 21 #[lv] w fun e w'=>e= .returned (.bool (fewB (xs.map (·.nd))))∧Ext w w':=by
 have hl:=hR.len
 have his:=hR.cells.is
 have hcap:=isSl_le his
 generalize hRR:(fun (e:Ending) (w':World)=>e= .returned (.bool (fewB (xs.map (·.nd))))∧Ext w w')=R
 refine ir21_calls fun ρ r0=> ?_
 simp -implicitDefEqProofs [ir21,r0,his,hl]
 refine eff_min (x:=(xs.length:Int)) (y:=420) (k:= .i64) (by simp) (by simp) ?_
 obtain ⟨m,hm,hmm⟩:∃m:Nat,(if (420:Int)<(xs.length:Int) then 420 else (xs.length:Int))=(m:Int)∧m=min xs.length 420:=by
  refine ⟨min xs.length 420, ?_,rfl⟩
  split<;>omega
 rw [hm]
 have hml:m≤slCap lv:=by omega
 have hml':(m:Int)≤(slCap lv:Int):=by omega
 have hs1:=isSl_sub his 6 0 m (slCap lv) (Nat.zero_le _) hml (Nat.le_refl _)
 have hs2:slLen (slSub lv 6 0 m (slCap lv))=m:=by rw [slLen_sub _ _ _ _ his];omega
 have hsa:∀j,0<m→slAddr (slSub lv 6 0 m (slCap lv)) j=slAddr lv j:=fun j h0=>by rw [slAddr_sub 6 0 m _ j his (by omega) (by omega)];simp
 generalize hsv:slSub lv 6 0 m (slCap lv)=sv at hs1 hs2 hsa
 simp -implicitDefEqProofs [his,hml,hml',hsv,hs1,hs2]
 have hfe:fewB (xs.map (·.nd))=((xs.take m).all (fun x=>ndSm x.nd)&&(decide (xs.length≤120)||(decide (400<xs.length)&&decide (xs.length≤410)))):=by
  unfold fewB
  rw [List.length_map,←List.map_take,List.all_map]
  congr 2
  rw [hmm]
  by_cases h:xs.length≤420
  ·rw [List.take_of_length_le (by omega),List.take_of_length_le (by omega)]
  ·rw [show min xs.length 420=420 by omega]
 obtain ⟨J,hJ⟩:∃J:Nat→Env→World→Prop,∀j ρ' w',J j ρ' w'↔(ρ' 0=lv∧ρ' 9=sv∧ρ' 10= .int .i64 (m:Int)∧(xs.take j).all (fun x=>ndSm x.nd)=true∧Ext w w'):=⟨_,fun _ _ _=>Iff.rfl⟩
 refine loopC 11 m J (by simp) ((hJ _ _ _).2 ⟨by simp [r0],by simp,by simp,by simp,ext_refl _⟩) ?_
 clear r0
 rintro j ρ' w' hj rj hJw
 obtain ⟨r0,r9,r10,hall,hE⟩:=(hJ _ _ _).1 hJw
 have hwj:IntKind.i64.wrap ((j:Int)+1)=(j:Int)+1:=i64w (by omega)
 by_cases hlt:j<m
 ·have hltj:(j:Int)<(m:Int):=by omega
  have hjx:j<xs.length:=by omega
  have hR':=hR.ext hE
  have hrow:=hR'.row hjx
  rw [←hsa (j*6) (by omega)] at hrow
  have hk:=hR'.kids xs[j] (List.getElem_mem _)
  have hkL:slLen xs[j].kv=xs[j].nd.kids.length:=by simpa using hk.len.symm
  have hkc:=isSl_cells hk.is
  have hko:=isSl_one hk.is
  have htk:(xs.take (j+1)).all (fun x=>ndSm x.nd)=ndSm xs[j].nd:=by rw [List.take_succ_eq_append_getElem hjx,List.all_append,hall];simp
  have hno:ndSm xs[j].nd=false→fewB (xs.map (·.nd))=false:=fun h=>by
   rw [hfe]
   have:(xs.take m).all (fun x=>ndSm x.nd)=false:=by
    rw [List.all_eq_false]
    exact ⟨xs[j],List.mem_iff_getElem.2 ⟨j,by rw [List.length_take];omega,by simp⟩,by simp [h]⟩
   rw [this];rfl
  generalize xs[j]=x at hrow hk hkL hkc hko htk hno
  simp -implicitDefEqProofs [ir21_l2,rj,r10,hltj,hlt,ir21_k1,r9,hs1,hs2,hrow]
  refine eff_alloc z44' fun X w1 hX hE1 hb1 _=> ?_
  simp -implicitDefEqProofs
  refine eff_storeN (B:=X) (by simp) hb1 (by simp [Value.cells,ndV,hkc]) (by simp [Value.cells,ndV,hkc,hko]) (by simpa [Value.cells,ndV,hkc] using sz44) fun w2 hO2 hb2=> ?_
  simp -implicitDefEqProofs [Value.cells,ndV,hkc] at hb2
  have hE2:Ext w' w2:=hO2.ext hE1 hX
  have c1:w2.cell? ⟨X,1,none⟩=some (.string (mkS x.nd.d.name)):=by rw [hb2.cell];rfl
  have c2:w2.cell? ⟨X,2,none⟩=some (.string (mkS x.nd.d.vr)):=by rw [hb2.cell];rfl
  have c3:w2.cell? ⟨X,3,none⟩=some (.string (mkS x.nd.d.typ)):=by rw [hb2.cell];rfl
  have c5:w2.cell? ⟨X,5,none⟩=some x.kv:=by rw [hb2.cell];rfl
  have bad:ndSm x.nd=false→R (.returned (.bool false)) w2:=fun h=>by rw [←hRR];exact ⟨by rw [hno h],hE.trans' hE2⟩
  have nd0:ndSm x.nd=(decide (x.nd.d.name.length≤40)&&decide (x.nd.d.vr.length≤110)&&decide (x.nd.d.typ.length≤110)&&decide (x.nd.kids.length≤420)):=rfl
  by_cases q1:40<x.nd.d.name.length
  ·have q1':(40:Int)<(x.nd.d.name.length:Int):=by omega
   simp -implicitDefEqProofs [c1,q1,q1']
   exact bad (by rw [nd0];simp;omega)
  have q1':¬(40:Int)<(x.nd.d.name.length:Int):=by omega
  by_cases q2:110<x.nd.d.vr.length
  ·have q2':(110:Int)<(x.nd.d.vr.length:Int):=by omega
   simp -implicitDefEqProofs [c1,q1,q1',c2,q2,q2']
   exact bad (by rw [nd0];simp;omega)
  have q2':¬(110:Int)<(x.nd.d.vr.length:Int):=by omega
  by_cases q3:110<x.nd.d.typ.length
  ·have q3':(110:Int)<(x.nd.d.typ.length:Int):=by omega
   simp -implicitDefEqProofs [c1,q1,q1',c2,q2,q2',c3,q3,q3']
   exact bad (by rw [nd0];simp;omega)
  have q3':¬(110:Int)<(x.nd.d.typ.length:Int):=by omega
  by_cases q4:420<x.nd.kids.length
  ·have q4':(420:Int)<(x.nd.kids.length:Int):=by omega
   simp -implicitDefEqProofs [c1,q1,q1',c2,q2,q2',c3,q3,q3',c5,hk.is,hkL,q4,q4']
   exact bad (by rw [nd0];simp;omega)
  have q4':¬(420:Int)<(x.nd.kids.length:Int):=by omega
  simp -implicitDefEqProofs [c1,q1,q1',c2,q2,q2',c3,q3,q3',c5,hk.is,hkL,q4,q4',ir21_k0,rj,hwj]
  refine (hJ _ _ _).2 ⟨by simp [r0],by simp [r9],by simp [r10], ?_,hE.trans' hE2⟩
  rw [htk,nd0]
  simp;omega
 ·have hltj:¬(j:Int)<(m:Int):=by omega
  have hjm:j=m:=by omega
  subst hjm
  rw [hall,Bool.true_and] at hfe
  simp -implicitDefEqProofs [ir21_l2,rj,r10,ir21_k3,r0,his,hl]
  rw [←hRR]
  by_cases p1:xs.length≤120
  ·have p1':(xs.length:Int)≤120:=by omega
   simp [p1,p1']
   exact ⟨by rw [hfe];simp [p1],hE⟩
  ·have p1':¬(xs.length:Int)≤120:=by omega
   by_cases p2:400<xs.length
   ·have p2':(400:Int)<(xs.length:Int):=by omega
    by_cases p3:xs.length≤410
    ·have p3':(xs.length:Int)≤410:=by omega
     simp [p1,p1',p2,p2',p3,p3']
     exact ⟨by rw [hfe];simp [p1,p2,p3],hE⟩
    ·have p3':¬(xs.length:Int)≤410:=by omega
     simp [p1,p1',p2,p2',p3,p3']
     exact ⟨by rw [hfe];simp [p1,p2,p3],hE⟩
   ·have p2':¬(400:Int)<(xs.length:Int):=by omega
    simp [p1,p1',p2,p2']
    exact ⟨by rw [hfe];simp [p1,p2],hE⟩
end Go.L02
namespace Go.L02
open Go Go.Eng Go.RowKit
open Go.Proofs hiding encI
open Go.L01 (Bs Tok encT toksV scan fV isName)
set_option maxRecDepth 100000
set_option maxHeartbeats 2000000
noncomputable section
theorem mk_of (b:ByteArray):mkS b.data.toList=b:=by cases b;simp [mkS]
section
variable {σ:Sg} {w0 w W:World} {s s':Sx}
theorem own_obj (hI:Iv σ w0 s w) (hE:Ext w W) {v':Value} {t sz n i:Nat} {cs cs':List Value} (hc:VRs σ cs cs') (ho:Own w.heap.size t sz W v' cs') (hl:cs.length=n*sz) (h1:1≤cs.length) (hsz:sz≠0) {k:Option Nat} (h:newX s k ⟨cs,t,sz,false,false⟩=some (i,s')):
  ∃τ,σ.le τ∧Iv τ w0 s' W∧VR τ (.slice (some ⟨i,0,none⟩) n n) v':=by
 have hll:=hc.len
 rcases ho with ⟨_,hnil⟩|⟨g,off,n',cap,cur,rfl,hgb,hgh,hl2,hnc,hcm,hroom,htake⟩
 ·rw [hnil,List.length_nil] at hll;omega
 ·have hn:n'=n:=Nat.eq_of_mul_eq_mul_right (Nat.pos_of_ne_zero hsz) (by rw [←hl,hll,←hl2])
  subst hn
  obtain ⟨τ,hle,hi,hI'⟩:=new_ok hI h (b:=g) (f:=off) (x:=cap - n') (hI.mr.ext hE) (hI.ext.trans' hE) (Nat.le_trans hI.ext.size hgb) (fun j oj pj hj hp he=>by
   obtain ⟨p,hp',hlt⟩:=hI.mr.at' hj
   rw [hp] at hp';cases hp'
   omega) fun τ hle hi=>⟨fun hz=>absurd hz hsz,fun _=>⟨cur,hi,hgh,by
    dsimp only
    rw [hl,htake];exact hc.mono hle,by
    dsimp only
    rw [hl]
    have:n'*sz+(cap - n')*sz=cap*sz:=by rw [←Nat.add_mul];congr 1;omega
    omega,(fun hx=>by cases hx),fun _=>⟨n',hl,by omega⟩,(fun hx=>by cases hx)⟩⟩
  refine ⟨τ,hle,hI', ?_⟩
  have:=VR.slc (σ:=τ) (o:=0) (n:=n') (c:=n') hi (Nat.le_refl _)
  rwa [show n'+(cap - n')=cap by omega] at this
theorem tup2 {a b a' b':Value} (h1:VR σ a a') (h2:VR σ b b'):VR σ (.tuple #[a,b]) (.tuple #[a',b']):=by
 obtain ⟨h3,h4⟩:=VRs.arr (cs:= #[a,b]) (ds:= #[a',b']) ⟨h1,h2,trivial⟩
 exact .tup h3 h4
theorem plain_call {P:Program} {f:FuncId} {args:Array Value} {v:Value} (hI:Iv σ w0 s w) (hv:constB v=true) (h:Calls P f args w fun e w'=>e= .returned v∧Ext w w'):Calls P f args w (CallAfter σ w0 (.ret v s)):=
 h.mono fun _ w' hh=>⟨σ,v,Sg.le_refl σ,hI.toExt hh.2,constB_ok hv,hh.1⟩
theorem str1 {b:ByteArray} {args':List Value} (h:VRs σ [.string b] args'):args'=[.string (mkS b.data.toList)]:=by
 rw [mk_of]
 match args',h with
 |[x],h=>rw [h.1.uniq (.pln (v:= .string b) rfl)]
def strsX:List Value→Option (List Bs)
 |[]=>some []
 | .string b::l=>match strsX l with|some r=>some (b.data.toList::r)|none=>none
 |_=>none
theorem strsX_ok:∀{l l':List Value} {ss:List Bs},VRs σ l l'→strsX l=some ss→l'=ss.map encT
 |[],[],ss,_,h=>by cases h;rfl
 |a::l,b::m,ss,hv,h=>by
  unfold strsX at h
  split at h
  ·rename_i he;cases he
  ·rename_i b1 l1 he
   cases he
   split at h
   ·rename_i r hr
    cases h
    rw [strsX_ok hv.2 hr,hv.1.uniq (.pln (v:= .string b1) rfl)]
    simp [encT,mk_of]
   ·cases h
  ·cases h
def intsX:List Value→Option (List Int)
 |[]=>some []
 | .int .i64 n::l=>match intsX l with|some r=>some (n::r)|none=>none
 |_=>none
theorem intsX_ok:∀{l l':List Value} {ns:List Int},VRs σ l l'→intsX l=some ns→l'=ns.map encI
 |[],[],ns,_,h=>by cases h;rfl
 |a::l,b::m,ns,hv,h=>by
  unfold intsX at h
  split at h
  ·rename_i he;cases he
  ·rename_i b1 l1 he
   cases he
   split at h
   ·rename_i r hr
    cases h
    rw [intsX_ok hv.2 hr,hv.1.uniq (.pln (v:= .int .i64 b1) rfl)]
    rfl
   ·cases h
  ·cases h
def nodeX (H:Mem) (k:Int) (a b c:ByteArray) (n:Int) (kv:Value):Option Nd:=
 match sliceX H 1 kv with
 |some ks=>match intsX ks with
  |some is=>bif decide (0≤k) then some ⟨⟨k.toNat,a.data.toList,b.data.toList,c.data.toList,n⟩,is⟩ else none
  |none=>none
 |none=>none
def nodesX (H:Mem):List Value→Option (List Nd)
 |[]=>some []
 | .int .u8 k:: .string a:: .string b:: .string c:: .int .i64 n::kv::l=>match nodeX H k a b c n kv,nodesX H l with
  |some x,some r=>some (x::r)
  |_,_=>none
 |_=>none
theorem nodesX_ok (hI:Iv σ w0 s w):∀(n:Nat) {l l':List Value} {ns:List Nd},l.length≤n→VRs σ l l'→nodesX s.H l=some ns→∃xs:List NV,nvV xs=l'∧xs.map (·.nd)=ns∧∀x∈xs,Cells w x.kv 1 (x.nd.kids.map encI)
 |0,l,l',ns,hn,hv,h=>by
  obtain rfl:=List.length_eq_zero_iff.1 (Nat.le_zero.1 hn)
  cases h
  cases l' with
  |nil=>exact ⟨[],rfl,rfl,fun x hx=>by simp at hx⟩
  |cons _ _=>exact hv.elim
 |n'+1,l,l',ns,hn,hv,h=>by
  unfold nodesX at h
  split at h
  ·cases h
   cases l' with
   |nil=>exact ⟨[],rfl,rfl,fun x hx=>by simp at hx⟩
   |cons _ _=>exact hv.elim
  ·rename_i k a b c n kv l1
   have hn1:l1.length≤n':=by simp at hn;omega
   obtain ⟨u1,u2,u3,u4,u5,u6,m,rfl⟩:∃u1 u2 u3 u4 u5 u6 m,l'=u1::u2::u3::u4::u5::u6::m:=by
    have:=hv.len
    match l',this with
    |u1::u2::u3::u4::u5::u6::m,_=>exact ⟨u1,u2,u3,u4,u5,u6,m,rfl⟩
    |[],e|[_],e|[_,_],e|[_,_,_],e|[_,_,_,_],e|[_,_,_,_,_],e=>simp at e
   obtain ⟨h1,h2,h3,h4,h5,h6,hv⟩:=hv
   split at h
   ·rename_i x r hx hr
    cases h
    obtain ⟨xs,e1,e2,e3⟩:=nodesX_ok hI n' hn1 hv hr
    unfold nodeX at hx
    split at hx
    ·rename_i ks hks
     split at hx
     ·rename_i is his
      obtain ⟨hk,hx⟩:=bifP hx
      have hk:0≤k:=by simpa using hk
      cases hx
      obtain ⟨ks',g1,g2⟩:=sliceX_ok hI h6 hks
      refine ⟨⟨⟨⟨k.toNat,a.data.toList,b.data.toList,c.data.toList,n⟩,is⟩,u6⟩::xs, ?_,by simp [e2],fun y hy=> ?_⟩
      ·show ndV _++nvV xs=_
       rw [e1]
       have ek:((k.toNat:Nat):Int)=k:=Int.toNat_of_nonneg hk
       rw [h1.uniq (.pln (v:= .int .u8 k) rfl),h2.uniq (.pln (v:= .string a) rfl),h3.uniq (.pln (v:= .string b) rfl),h4.uniq (.pln (v:= .string c) rfl),h5.uniq (.pln (v:= .int .i64 n) rfl)]
       simp [ndV,mk_of,ek]
      ·rcases List.mem_cons.1 hy with rfl|hy
       ·rw [←intsX_ok g2 his];exact g1
       ·exact e3 y hy
     ·cases hx
    ·cases hx
   ·cases h
  ·cases h
end
def p53 (s:Sx):List Value→Option (Value×Sx)
 |[.string b]=>bif Nat.blt b.size 4611686018427387904&&Nat.ble 1 (toksV (scan b.data.toList).toks).length&&(toksV (scan b.data.toList).toks).all plainV then
   (match newX s none ⟨toksV (scan b.data.toList).toks,53,3,false,false⟩ with
   |some (i,s')=>some (.tuple #[.slice (some ⟨i,0,none⟩) (scan b.data.toList).toks.length (scan b.data.toList).toks.length,fV b.data.toList],s')
   |none=>none) else none
 |_=>none
def p77 (s:Sx):List Value→Option (Value×Sx)
 |[.string b]=>some (.bool (isName b.data.toList),s)
 |_=>none
def p22 (s:Sx):List Value→Option (Value×Sx)
 |[.string b]=>bif Nat.blt b.size 4611686018427387904 then some (.bool (isType b.data.toList),s) else none
 |_=>none
def p24 (s:Sx):List Value→Option (Value×Sx)
 |[.string b]=>bif Nat.blt b.size 4294967281 then some (.bool (isOp b.data.toList),s) else none
 |_=>none
def p34 (s:Sx):List Value→Option (Value×Sx)
 |[v, .string b]=>match sliceX s.H 1 v with
  |some l=>match strsX l with
   |some ss=>bif Nat.ble ss.length 100000000000000&&Nat.ble (joinB b.data.toList ss).length 100000000000000 then some (.string (mkS (joinB b.data.toList ss)),s) else none
   |none=>none
  |none=>none
 |_=>none
def rootX (g:FuncId):Option (Nat→Bool):=bif Nat.beq g 65 then some isExprK else bif Nat.beq g 80 then some (isK1 20) else none
def dokB (x:Nd):Bool:=decide (x.d.kind<256)&&decide (x.d.name.length<4294967281)&&decide (x.d.vr.length<4294967281)&&decide (x.d.typ.length<4294967281)&&decide (x.kids.length≤1000000)
def p64 (s:Sx):List Value→Option (Value×Sx)
 |[v, .func (.func g) fs cs]=>match sliceX s.H 6 v with
  |some l=>match nodesX s.H l,rootX g with
   |some ns,some root=>bif fs.isEmpty&&cs.isEmpty&&ns.all dokB then some (.bool (whole ns root),s) else none
   |_,_=>none
  |none=>none
 |_=>none
def atoiV (b:Bs):Option Int:=match Lib.atoiAll b with| .ok n=>some n|_=>none
def p273 (s:Sx):List Value→Option (Value×Sx)
 |[.string b]=>bif Nat.ble b.size 20 then (match atoiV b.data.toList with|some n=>some (.tuple #[.int .i64 n, .nilIface],s)|none=>none) else none
 |_=>none
def GM (w:World):Prop:=L01.G w∧MaxL w
section
variable {σ:Sg} {w0 w:World} {s s':Sx} {args args':List Value} {v:Value}
theorem gm (hg:GM w0) (hI:Iv σ w0 s w):L01.G w∧MaxL w:=⟨hg.1.ext hI.ext,hg.2.ext hI.ext⟩
theorem p53_ok (hg:GM w0) (hI:Iv σ w0 s w) (hv:VRs σ args args') (h:p53 s args=some (v,s')):Calls Tryz.prog 53 args'.toArray w (CallAfter σ w0 (.ret v s')):=by
 unfold p53 at h
 split at h
 ·rename_i b
  obtain ⟨hc,h⟩:=bifP h
  simp only [Bool.and_eq_true,Nat.ble_eq,Nat.blt_eq] at hc
  rw [str1 hv]
  split at h
  ·rename_i i s1 hn
   cases h
   refine (L01.t_Scan (gm hg hI).1 b.data.toList hc.1.1).mono ?_
   rintro _ W ⟨u,rfl,ho,hE⟩
   obtain ⟨τ,hl,hI',hu⟩:=own_obj (n:=(scan b.data.toList).toks.length) hI hE (plainsV_ok hc.2) ho (L01.toksV_len _) hc.1.2 (by decide) hn
   exact ⟨τ,_,hl,hI',tup2 hu (constB_ok rfl),rfl⟩
  ·cases h
 ·cases h
theorem p77_ok (hg:GM w0) (hI:Iv σ w0 s w) (hv:VRs σ args args') (h:p77 s args=some (v,s')):Calls Tryz.prog 77 args'.toArray w (CallAfter σ w0 (.ret v s')):=by
 unfold p77 at h
 split at h
 ·rename_i b
  cases h
  rw [str1 hv]
  exact plain_call hI rfl (L01.t_isName (gm hg hI).1 b.data.toList)
 ·cases h
theorem p22_ok (hg:GM w0) (hI:Iv σ w0 s w) (hv:VRs σ args args') (h:p22 s args=some (v,s')):Calls Tryz.prog 22 args'.toArray w (CallAfter σ w0 (.ret v s')):=by
 unfold p22 at h
 split at h
 ·rename_i b
  obtain ⟨hc,h⟩:=bifP h
  cases h
  rw [str1 hv]
  exact plain_call hI rfl (p_IsType (gm hg hI).1 b.data.toList (by simpa [Nat.blt_eq] using hc))
 ·cases h
theorem p24_ok (hg:GM w0) (hI:Iv σ w0 s w) (hv:VRs σ args args') (h:p24 s args=some (v,s')):Calls Tryz.prog 24 args'.toArray w (CallAfter σ w0 (.ret v s')):=by
 unfold p24 at h
 split at h
 ·rename_i b
  obtain ⟨hc,h⟩:=bifP h
  cases h
  rw [str1 hv]
  exact plain_call hI rfl (p_IsOp (gm hg hI).1 (gm hg hI).2 b.data.toList (by simpa [Nat.blt_eq] using hc))
 ·cases h
theorem p34_ok (hI:Iv σ w0 s w) (hv:VRs σ args args') (h:p34 s args=some (v,s')):Calls Tryz.prog 34 args'.toArray w (CallAfter σ w0 (.ret v s')):=by
 unfold p34 at h
 split at h
 ·rename_i u b
  split at h
  ·rename_i l hl
   split at h
   ·rename_i ss hss
    obtain ⟨hc,h⟩:=bifP h
    cases h
    simp only [Bool.and_eq_true,Nat.ble_eq] at hc
    match args',hv with
    |[x,y],hv=>
     obtain ⟨l',h1,h2⟩:=sliceX_ok hI hv.1 hl
     rw [strsX_ok h2 hss] at h1
     have hy:y= .string (mkS b.data.toList):=by rw [mk_of];exact hv.2.1.uniq (.pln (v:= .string b) rfl)
     subst hy
     exact plain_call hI rfl (p_Join b.data.toList h1 hc.1 hc.2)
   ·cases h
  ·cases h
 ·cases h
theorem p64_ok (hg:GM w0) (hI:Iv σ w0 s w) (hv:VRs σ args args') (h:p64 s args=some (v,s')):Calls Tryz.prog 64 args'.toArray w (CallAfter σ w0 (.ret v s')):=by
 unfold p64 at h
 split at h
 ·rename_i u g fs cs
  split at h
  ·rename_i l hl
   split at h
   ·rename_i ns root hns hroot
    obtain ⟨hc,h⟩:=bifP h
    cases h
    simp only [Bool.and_eq_true,Array.isEmpty_iff] at hc
    obtain ⟨⟨rfl,rfl⟩,hd⟩:=hc
    match args',hv with
    |[x,y],hv=>
     obtain ⟨l',h1,h2⟩:=sliceX_ok hI hv.1 hl
     obtain ⟨xs,e1,e2,e3⟩:=nodesX_ok hI l.length (Nat.le_refl _) h2 hns
     have hy:y=FnV g #[]:=hv.2.1.uniq (constB_ok (v:= .func (.func g) #[] #[]) rfl)
     subst hy
     have hk:KndF w (FnV g #[]) root:=by
      unfold rootX at hroot
      cases h65:Nat.beq g 65 with
      |true=>
       rw [h65] at hroot
       cases hroot
       rw [Nat.eq_of_beq_eq_true h65]
       exact kf_expr
      |false=>
       rw [h65] at hroot
       obtain ⟨h80,hroot⟩:=bifP (b:=Nat.beq g 80) hroot
       cases hroot
       rw [Nat.eq_of_beq_eq_true h80]
       exact kf_block
     have hall:∀x∈xs,dokB x.nd=true:=fun x hx=>List.all_eq_true.1 hd x.nd (by rw [←e2];exact List.mem_map.2 ⟨x,hx,rfl⟩)
     have:=p_whole (gm hg hI).1 (gm hg hI).2 (xs:=xs) ⟨by rw [e1];exact h1,e3⟩ (fun x hx=>by
      have:=hall x hx
      simp only [dokB,Bool.and_eq_true,decide_eq_true_eq] at this
      exact ⟨this.1.1.1.1,this.1.1.1.2,this.1.1.2,this.1.2⟩) (fun x hx=>by
      have:=hall x hx
      simp only [dokB,Bool.and_eq_true,decide_eq_true_eq] at this
      exact this.2) hk
     rw [e2] at this
     exact plain_call hI rfl this
   ·cases h
  ·cases h
 ·cases h
theorem p273_ok (hI:Iv σ w0 s w) (hv:VRs σ args args') (h:p273 s args=some (v,s')):Calls Tryz.prog 273 args'.toArray w (CallAfter σ w0 (.ret v s')):=by
 unfold p273 at h
 split at h
 ·rename_i b
  obtain ⟨hc,h⟩:=bifP h
  split at h
  ·rename_i n hn
   cases h
   rw [str1 hv]
   unfold atoiV at hn
   split at hn
   ·rename_i m hm
    cases hn
    refine plain_call hI rfl ((p_atoi (by simpa [Nat.ble_eq] using hc) hm).mono ?_)
    rintro _ W ⟨hE,rfl⟩
    exact ⟨rfl,hE⟩
   ·cases hn
  ·cases h
 ·cases h
end
end
end Go.L02
namespace Go.L02
open Go Go.Eng Go.RowKit
open Go.Proofs hiding encI
open Go.L01 (Bs Tok encT ifc20 leaves_fn)
set_option maxRecDepth 100000
set_option maxHeartbeats 2000000
theorem ob_is {s:Sx} {i:Nat} {o:Ob} (h:isOb s i o=true):s.H.get i=some o:=by
 unfold isOb at h
 split at h
 ·rename_i p hp;rw [hp,obeq_ok h]
 ·cases h
def q54:TrP:=⟨54,83,4,3,85,153⟩
theorem chain_is {c:List PanicEntry} (h:chainB q54 c=true):c=strayC:=by
 unfold chainB at h
 split at h
 ·rename_i p
  obtain ⟨v,re,ge⟩:=p
  simp only [Bool.and_eq_true,Bool.not_eq_true'] at h
  obtain ⟨⟨h1,rfl⟩,rfl⟩:=h
  split at h1
  ·rename_i t cs
   simp only [Bool.and_eq_true,beq_iff_eq,Array.isEmpty_iff] at h1
   obtain ⟨rfl,rfl⟩:=h1
   rfl
  ·cases h1
 ·cases h
theorem one_blk {σ:Sg} {w0 w:World} {s:Sx} (hI:Iv σ w0 s w) {i b:Nat} {v:Value} {t:TypeId} (h:s.H.get i=some ⟨[v],t,1,true,false⟩) (hp:plainV v=true) (hσ:σ i=some (b,0,0)):Blk w b #[v] t:=by
 obtain ⟨b',cs',h1,h2,h3⟩:=blk_of hI h rfl (show (1:Nat)≠0 by decide)
 rw [hσ] at h1
 cases h1
 match cs',h2,h3 with
 |[x],h2,h3=>
  rw [h2.1.uniq (.pln hp)] at h3
  exact h3
theorem try_body {r:Sx→Tk→Option Ou} (hr:Sound Tryz.prog GM r) {s:Sx} {o:Ou} {σ:Sg} {w0 w:World} (hg:GM w0) (hI:Iv σ w0 s w) {b B g i f n:Nat} {cs:List Value} {ds:Array Value} {tv' nv':Value} (hσB:σ b=some (B,0,0)) (hB:Blk w B #[tv', .int .i64 (i:Int), .int .i64 (f:Int),nv'] 85)
  (hsl:isSl nv'=true) (hln:slLen nv'=n) (hcs:VRs σ cs ds.toList) (hcb:callB Tryz.prog g=true) (h:tryB r s q54 b g cs (i:Int) n=some o):
  Calls Tryz.prog 54 #[.pointer (some ⟨B,0,none⟩), .func (.func g) #[] ds] w (CallAfter σ w0 o):=by
 unfold tryB at h
 split at h
 ·cases h
 rename_i iA s1 n1
 split at h
 ·cases h
 rename_i iY s2 n2
 split at h
 ·cases h
 rename_i iN s3 n3
 split at h
 ·cases h
 rename_i iM s4 n4
 generalize hR:CallAfter σ w0 o=R
 refine ir54_calls fun ρ r0 r1 rg=> ?_
 simp [ir54,r0]
 refine eff_box fun A W1 hA hE1 hbA hA1=> ?_
 simp [Value.cells,r0] at hbA
 simp
 refine eff_alloc z4 fun Y W2 hY hE2 hbY hY1=> ?_
 simp
 have hB2:=hB.ext (hE1.trans' hE2)
 have hA2:=hbA.ext hE2
 refine raw_ord (hpn:=tr_hpn (by decide)) ir54_o1_ok (fun W=>Blk W A #[.pointer (some ⟨B,0,none⟩)] 83∧Blk W B #[tv', .int .i64 (i:Int), .int .i64 (f:Int),nv'] 85) fun W3 hE3 _=> ?_
 have hB3:=hB2.ext hE3
 have hA3:=hA2.ext hE3
 have hY3:=hbY.ext hE3
 have hJ:Blk W3 A #[.pointer (some ⟨B,0,none⟩)] 83∧Blk W3 B #[tv', .int .i64 (i:Int), .int .i64 (f:Int),nv'] 85:=⟨hA3,hB3⟩
 refine ⟨hJ, ?_⟩
 have cA:∀W,(Blk W A #[.pointer (some ⟨B,0,none⟩)] 83∧Blk W B #[tv', .int .i64 (i:Int), .int .i64 (f:Int),nv'] 85)→W.cell? ⟨A,0,none⟩=some (.pointer (some ⟨B,0,none⟩))∧W.cell? ⟨B,1,none⟩=some (.int .i64 (i:Int))∧W.cell? ⟨B,3,none⟩=some nv':=fun W h=>⟨by rw [h.1.cell];rfl,by rw [h.2.cell];rfl,by rw [h.2.cell];rfl⟩
 simp+contextual -implicitDefEqProofs [ir54_o1,cA,hJ,hsl]
 have rest:∀(ρ2:Env) (W4:World) (X5 X6:Nat),Ext W3 W4→W3.heap.size≤X5→W3.heap.size≤X6→X5≠X6→Blk W4 X5 #[.int .i64 (i:Int)] 3→Blk W4 X6 #[.int .i64 (n:Int)] 3→ρ2 1=ρ 1→ρ2 2= .pointer (some ⟨A,0,none⟩)→ρ2 4= .pointer (some ⟨Y,0,none⟩)→ρ2 5= .pointer (some ⟨X5,0,none⟩)→ρ2 6= .pointer (some ⟨X6,0,none⟩)→ρ2 gS= .tuple #[]→
   ir54_k0.wp ⟨Tryz.prog,19,ir54_V,dAny⟩ (endK Tryz.prog [.cell1 4] R .returning) (ksD Tryz.prog [.cell1 4] R) ρ2 W4:=by
  intro ρ2 W4 X5 X6 hE4 q5 q6 q56 hb5 hb6 e1 e2 e4 e5 e6 eg
  have hA4:=hA3.ext hE4
  have hY4:=hY3.ext hE4
  have hE04:Ext w W4:=((hE1.trans' hE2).trans' hE3).trans' hE4
  have z1:=hE1.size
  have z2:=hE2.size
  have z3:=hE3.size
  have hI4:=hI.toExt hE04
  have wle:=hI.ext.size
  have low:∀j o p,s.H.get j=some o→σ j=some p→p.1<w.heap.size:=fun j o p hj hp=>by
   obtain ⟨q,hq,hlt⟩:=hI.mr.at' hj
   rw [hp] at hq;cases hq;exact hlt
  obtain ⟨τ1,l1,i1,I1,d1⟩:=push_ok (cs':=[.pointer (some ⟨B,0,none⟩)]) hI4 n1 (b:=A) (by omega) (fun j oj pj hj hp=>by have:=low j oj pj hj hp;omega) hA4 ⟨ptr0 hσB,trivial⟩
  obtain ⟨τ2,l2,i2,I2,d2⟩:=push_ok (cs':=[.bool false]) I1 n2 (b:=Y) (by omega) (fun j oj pj hj hp=>by
   rcases d1 j oj pj hj hp with e|⟨a1,a2⟩
   ·omega
   ·have:=low j oj pj a1 a2;omega) hY4 ⟨.pln rfl,trivial⟩
  have d2':∀j o p,s2.H.get j=some o→τ2 j=some p→p.1<W2.heap.size:=fun j o p hj hp=>by
   rcases d2 j o p hj hp with e|⟨a1,a2⟩
   ·omega
   ·rcases d1 j o p a1 a2 with e|⟨b1,b2⟩
    ·omega
    ·have:=low j o p b1 b2;omega
  obtain ⟨τ3,l3,i3,I3,d3⟩:=push_ok (cs':=[.int .i64 (i:Int)]) I2 n3 (b:=X5) (by omega) (fun j oj pj hj hp=>by have:=d2' j oj pj hj hp;omega) hb5 ⟨.pln rfl,trivial⟩
  obtain ⟨τ4,l4,i4,I4,d4⟩:=push_ok (cs':=[.int .i64 (n:Int)]) I3 n4 (b:=X6) (by omega) (fun j oj pj hj hp=>by
   rcases d3 j oj pj hj hp with e|⟨a1,a2⟩
   ·omega
   ·have:=d2' j oj pj a1 a2;omega) hb6 ⟨.pln rfl,trivial⟩
  have l04:σ.le τ4:=Sg.le_trans l1 (Sg.le_trans l2 (Sg.le_trans l3 l4))
  simp [ir54_k0]
  refine eff_defer (f:=116) (caps:= #[.pointer (some ⟨X5,0,none⟩), .pointer (some ⟨A,0,none⟩), .pointer (some ⟨X6,0,none⟩), .pointer (some ⟨Y,0,none⟩)]) (by simp [e2,e4,e5,e6]) trivial ?_
  have eg':ρ2 1000000000= .tuple #[]:=eg
  simp [gS,e1,r1,eg']
  refine eff_callv (f:=g) hcb (fs:= #[]) (caps:=ds) (by simp) ?_
  simp
  cases ho:r s4 (.call g cs) with
  |none=>rw [ho] at h;cases h
  |some o1=>
   rw [ho] at h
   have hcall:=hr.call _ _ _ _ ho τ4 w0 W4 ds.toList hg I4 (hcs.mono l04)
   rw [Array.toArray_toList] at hcall
   refine hcall.mono ?_
   cases o1 with
   |ret v s'=>
    rintro e w5 ⟨τ,v',hl,hI5,hv',rfl⟩
    obtain ⟨hc,h⟩:=bifP h
    simp only [Bool.and_eq_true] at hc
    obtain ⟨⟨c1,c2⟩,c3⟩:=hc
    cases h
    have hYo:=ob_is c1
    have iY5:=hl _ _ (l4 _ _ (l3 _ _ i2))
    have hY5:=one_blk hI5 hYo rfl iY5
    simp
    refine eff_store1 (B:=Y) (i:=0) (by simp [e4]) hY5 (by simp) (by simp [Value.cells]) (by simp) sz4 fun W6 hO6 hb6=> ?_
    simp at hb6
    simp [ksD,endK,gS,e4]
    refine leaves_fn (by simp) cb116 (d116_none.mono ?_)
    rintro e u' w' ⟨⟨v,rfl⟩,rfl,rfl⟩
    refine leaves_ret ?_
    have cY:w'.cell? ⟨Y,0,none⟩=some (.bool true):=by rw [hb6.cell];rfl
    simp [retK,resVals,RV.val,e4,cY,tupled,←hR]
    exact ⟨τ, .bool true,Sg.le_trans l04 hl,del_ok hI5 hYo (blt_lim c2) iY5 hO6, .pln rfl,rfl⟩
   |pn c s'=>
    rintro e w5 ⟨τ,hl,hI5,rfl⟩
    obtain ⟨hc,h9⟩:=bifP h
    simp only [Bool.and_eq_true,Bool.not_eq_true'] at hc
    obtain ⟨⟨⟨⟨⟨c1,c2⟩,c3⟩,c4⟩,c5⟩,c6⟩:=hc
    obtain rfl:=chain_is c1
    have hYo:=ob_is c3
    have iY5:=hl _ _ (l4 _ _ (l3 _ _ i2))
    have hY5:=one_blk hI5 hYo rfl iY5
    have h55:=one_blk hI5 (ob_is c4) rfl (hl _ _ (l4 _ _ i3))
    have h56:=one_blk hI5 (ob_is c5) rfl (hl _ _ i4)
    have hσB5:τ b=some (B,0,0):=hl _ _ (l04 _ _ hσB)
    have hA5:Blk w5 A #[.pointer (some ⟨B,0,none⟩)] 83:=by
     obtain ⟨b',cs',g1,g2,g3⟩:=blk_of hI5 (ob_is c2) rfl (show (1:Nat)≠0 by decide)
     rw [hl _ _ (l4 _ _ (l3 _ _ (l2 _ _ i1)))] at g1
     cases g1
     match cs',g2,g3 with
     |[x],g2,g3=>
      rw [g2.1.uniq (ptr0 hσB5)] at g3
      exact g3
    unfold backX at h9
    split at h9
    ·rename_i ob hob
     split at h9
     ·rename_i tv i' far a m c hcl
      split at h9
      ·rename_i nv2 hsub
       obtain ⟨hc,h8⟩:=bifP h9
       cases h8
       simp only [Bool.and_eq_true,decide_eq_true_eq,Nat.ble_eq] at hc
       obtain ⟨⟨⟨⟨⟨g1,g2⟩,g3⟩,g4⟩,g5⟩,g6⟩:=hc
       have hobe:=obeq_ok g6
       subst hobe
       obtain ⟨b',cs',k1,k2,k3⟩:=blk_of hI5 hob rfl (show (1:Nat)≠0 by decide)
       rw [hσB5] at k1
       cases k1
       match cs',k2,k3 with
       |[tx,x1,x2,nx],k2,k3=>
        obtain ⟨v1,v2,v3,v4,_⟩:=k2
        obtain ⟨j,rfl⟩:=Int.eq_ofNat_of_zero_le g1
        obtain ⟨f2,rfl⟩:=Int.eq_ofNat_of_zero_le g2
        have u2:=v2.uniq (.pln (v:= .int .i64 (j:Int)) rfl)
        have u3:=v3.uniq (.pln (v:= .int .i64 (f2:Int)) rfl)
        subst u2
        subst u3
        obtain ⟨hsx,hlx⟩:=sl_is v4
        obtain ⟨m1,m2,m3,m4,nv2',m5,m6⟩:=subX_ok v4 hsub
        simp [ksD,endK,gS,e4]
        refine leaves_fn (by simp) cb116 ((d116_stray (n:=n) h55 hA5 h56 (.inr hY5) k3 hsx (by rw [hlx];exact g3)).mono ?_)
        rintro e u' w' ⟨⟨v,rfl⟩,hu,W6,W7,hE6,hO7,hb7,hO8,hb8⟩
        show LeavesV _ _ _ _ [] (settle u') w'
        rw [hu]
        refine leaves_ret ?_
        have cY:w'.cell? ⟨Y,0,none⟩=some (.bool false):=by rw [hb8.cell];rfl
        simp [retK,resVals,RV.val,e4,cY,tupled,←hR]
        have hI6:=hI5.toExt hE6
        have hm5:slSub nx 6 0 n (slCap nx)=nv2':=by simpa using m5
        rw [hm5] at hb7
        have hI7:Iv τ w0 ⟨s'.H.set b ⟨[tv, .int .i64 (i:Int), .int .i64 (f2:Int),nv2],q54.tt,1,true,false⟩,s'.nx,s'.rs⟩ W7:=by
         refine cells_set hI6 hob (blt_lim g4) hσB5 hO7 ⟨(fun hz=>by cases hz),fun _=>⟨_,hσB5,hb7.heap, ?_,by simp,fun _=>⟨rfl,rfl,by simp⟩,(fun hw=>by cases hw),(fun hx=>by cases hx)⟩⟩
         exact ⟨v1, .pln rfl, .pln rfl,m6,trivial⟩
        have hYo2:(s'.H.set b ⟨[tv, .int .i64 (i:Int), .int .i64 (f2:Int),nv2],q54.tt,1,true,false⟩).get iY=some ⟨[.bool false],q54.tb,1,true,false⟩:=by
         rw [Tr.get_set _ _ (blt_lim g4),if_neg (fun e=>by rw [e] at c6;simp at c6)]
         exact hYo
        exact ⟨τ, .bool false,Sg.le_trans l04 hl,del_ok hI7 hYo2 (blt_lim g5) iY5 hO8, .pln rfl,rfl⟩
      ·cases h9
     ·cases h9
    ·cases h9
   |go e s'=>exact fun e w h=>h.elim
   |ex j e s'=>exact fun e w h=>h.elim
   |rt e s'=>exact fun e w h=>h.elim
 refine ⟨?_, ?_⟩
 ·refine eff_alloc z3 fun X5 W4 hX5 hE4 hb4 hs4=>⟨⟨hA3.ext hE4,hB3.ext hE4⟩, ?_⟩
  refine eff_alloc z3 fun X6 W5 hX6 hE5 hb5 hs5=>⟨⟨(hA3.ext hE4).ext hE5,(hB3.ext hE4).ext hE5⟩, ?_⟩
  have l5:W3.heap.size≤X5:=hX5
  have l56:X5≠X6:=by omega
  have z4:=hE4.size
  refine eff_store1 (B:=X5) (i:=0) (by simp) (hb4.ext hE5) (by simp) (by simp [Value.cells]) (by simp) sz3 fun W6 hO6 hb6=> ?_
  simp at hb6
  have hA6:=hO6.blk ((hA3.ext hE4).ext hE5) (by have:=hA3.lt;omega)
  have hB6:=hO6.blk ((hB3.ext hE4).ext hE5) (by have:=hB3.lt;omega)
  refine ⟨⟨hA6,hB6⟩, ?_⟩
  refine eff_store1 (B:=X6) (i:=0) (by simp) (hO6.blk hb5 (Ne.symm l56)) (by simp) (by simp [Value.cells]) (by simp) sz3 fun W7 hO7 hb7=> ?_
  simp [hln] at hb7
  exact rest _ W7 X5 X6 (hO7.ext (hO6.ext (hE4.trans' hE5) l5) (by omega)) l5 (by omega) l56 (hO7.blk hb6 l56) hb7 (by simp) (by simp) (by simp) (by simp) (by simp) (by simp [gS] at rg⊢;exact rg)
 ·refine eff_alloc z3 fun X6 W4 hX6 hE4 hb4 hs4=>⟨⟨hA3.ext hE4,hB3.ext hE4⟩, ?_⟩
  refine eff_alloc z3 fun X5 W5 hX5 hE5 hb5 hs5=>⟨⟨(hA3.ext hE4).ext hE5,(hB3.ext hE4).ext hE5⟩, ?_⟩
  have z4:=hE4.size
  have l5:W3.heap.size≤X5:=by omega
  have l56:X6≠X5:=by omega
  refine eff_store1 (B:=X5) (i:=0) (by simp) hb5 (by simp) (by simp [Value.cells]) (by simp) sz3 fun W6 hO6 hb6=> ?_
  simp at hb6
  have hA6:=hO6.blk ((hA3.ext hE4).ext hE5) (by have:=hA3.lt;omega)
  have hB6:=hO6.blk ((hB3.ext hE4).ext hE5) (by have:=hB3.lt;omega)
  refine ⟨⟨hA6,hB6⟩, ?_⟩
  refine eff_store1 (B:=X6) (i:=0) (by simp) (hO6.blk (hb4.ext hE5) l56) (by simp) (by simp [Value.cells]) (by simp) sz3 fun W7 hO7 hb7=> ?_
  simp [hln] at hb7
  exact rest _ W7 X5 X6 (hO7.ext (hO6.ext (hE4.trans' hE5) l5) hX6) l5 hX6 (Ne.symm l56) (hO7.blk hb6 (Ne.symm l56)) hb7 (by simp) (by simp) (by simp) (by simp) (by simp) (by simp [gS] at rg⊢;exact rg)
theorem t54:TrOk Tryz.prog GM (some q54):=by
 intro q hq r hr s args o h σ w0 w args' hg hI hv
 cases hq
 unfold tryX at h
 split at h
 ·rename_i b g fs cs
  split at h
  ·rename_i ob hob
   unfold tryA at h
   split at h
   ·rename_i tv at0 far a n c hcells
    obtain ⟨hc,h9⟩:=bifP h
    simp only [Bool.and_eq_true,Array.isEmpty_iff,decide_eq_true_eq] at hc
    obtain ⟨⟨⟨⟨rfl,h0⟩,h1⟩,hcb⟩,hobe⟩:=hc
    have hobe:=obeq_ok hobe
    subst hobe
    obtain ⟨B,bs',hσB,hvB,hBlk⟩:=blk_of hI hob rfl (show (1:Nat)≠0 by decide)
    match bs',hvB,hBlk with
    |[tv',x1,x2,nv'],hvB,hBlk=>
     obtain ⟨ht,e1,e2,e3,_⟩:=hvB
     obtain ⟨i,rfl⟩:=Int.eq_ofNat_of_zero_le h0
     obtain ⟨f,rfl⟩:=Int.eq_ofNat_of_zero_le h1
     have u1:=e1.uniq (.pln (v:= .int .i64 (i:Int)) rfl)
     have u2:=e2.uniq (.pln (v:= .int .i64 (f:Int)) rfl)
     subst u1
     subst u2
     obtain ⟨hsl,hln⟩:=sl_is e3
     match args',hv with
     |[y1,y2],hv=>
      obtain ⟨hv1,hv2,_⟩:=hv
      have u3:=hv1.uniq (ptr0 hσB)
      subst u3
      cases hv2 with
      |pln h'=>cases h'
      |fnc k1 k2 k3 k4=>
       rename_i gs ds
       have:gs= #[]:=Array.eq_empty_of_size_eq_zero (by simpa using k1.symm)
       subst this
       exact try_body (cs:=cs.toList) hr hg hI hσB hBlk hsl hln (VRs.of (by simpa using k3) fun j x y hx hy=>k4 j x y (by simpa using hx) (by simpa using hy)) hcb h9
   ·cases h
  ·cases h
 ·cases h
end Go.L02
namespace Go.L02
open Go Go.Eng Go.RowKit
open Go.Proofs hiding encI
open Go.L01 (Bs Tok encT info5)
set_option maxRecDepth 100000
set_option maxHeartbeats 2000000
theorem chk114 {w:World} {b:Nat} {p v:Value} (hp:p= .pointer none∨p= .pointer (some ⟨b,0,none⟩)) (hbk:Blk w b #[p,v] 114):
  Calls Tryz.prog 177 #[.pointer (some ⟨b,0,none⟩)] w fun e w'=>e= .returned (.tuple #[])∧Blk w' b #[.pointer (some ⟨b,0,none⟩),v] 114∧Only b w w':=by
 rcases hp with rfl|rfl
 ·refine (L01.b_fresh b w (by rw [hbk.cell];rfl) (by simp [World.shape?,hbk.heap]) (by simp [World.frozen?,hbk.heap])).mono ?_
  rintro _ _ ⟨rfl,rfl⟩
  exact ⟨rfl,by simpa using blk_setCell hbk 0 (.pointer (some ⟨b,0,none⟩)),only_setCell _ _ _ _⟩
 ·refine (L01.b_used b w (by rw [hbk.cell];rfl)).mono ?_
  rintro _ _ ⟨rfl,rfl⟩
  exact ⟨rfl,hbk,Only.refl _ _⟩
theorem wr89 {w:World} {B b:Nat} {v:Value} {bs:Bs} {rest:List Value} {T:TypeId} (s:Bs) (hB:B≤b) (hblt:b<w.heap.size) (hown0:w.ownsRow B 5 1 v bs.length (bs.map encB)) (hne:v.ownBlock≠some b)
  (hchk:Calls Tryz.prog 177 #[.pointer (some ⟨b,0,none⟩)] w fun e w'=>e= .returned (.tuple #[])∧Blk w' b (.pointer (some ⟨b,0,none⟩)::v::rest).toArray T∧Only b w w') (hlen:bs.length+s.length≤100000000000000) (hBw:B≤w.heap.size):
  Calls Tryz.prog 89 #[.pointer (some ⟨b,0,none⟩), .string (mkS s)] w fun e w'=>e= .returned (.tuple #[.int .i64 s.length, .nilIface])∧∃v',Blk w' b (.pointer (some ⟨b,0,none⟩)::v'::rest).toArray T∧w'.ownsRow B 5 1 v' (bs++s).length ((bs++s).map encB)∧v'.ownBlock≠some b∧Below B w w'∧
   (∀k,k<w.heap.size→k≠b→v.ownBlock≠some k→w'.heap[k]? =w.heap[k]?)∧(v'.ownBlock=v.ownBlock∨v'.ownBlock=some w.heap.size):=by
 refine L01.ir89_calls fun ρ h0 h1=> ?_
 simp [L01.ir89,h0]
 refine hchk.mono ?_
 rintro _ w1 ⟨rfl,hb,hO1⟩
 have hc1:w1.cell? ⟨b,1,none⟩=some v:=by rw [hb.cell];rfl
 simp [h0,h1,hc1]
 obtain ⟨i,hi,hz,hs,hby⟩:=info5
 have hBs:=hO1.size
 have hlt:=hb.lt
 have hsz:(mkS s).size=s.length:=rfl
 have hown:w1.ownsRow B 5 1 v bs.length (bs.map encB):=ownsRow_keep hown0 fun k hk=>hO1.block k fun e=>hne (by rw [hk,e])
 obtain ⟨v',W3,hr,hown3,hg3,hnil⟩:=Lib.run_append_own_string (P:=Tryz.prog) w1 B 112 9 112 5 i Tryz.underlying112 Tryz.underlying9 hi hz hs hby v bs.length (bs.map encB) (by simpa using hown) (mkS s) (by rw [hsz];simp only [maxLen];omega) (by rw [hsz];omega) (by omega)
 have hfr:=append_fresh (mkS s) hown (by rw [hsz];omega) hr hnil
 rw [hBs] at hfr
 have hown3':W3.ownsRow B 5 1 v' (bs++s).length ((bs++s).map encB):=by simpa [L01.strCells_enc] using hown3
 have hb3:Blk W3 b (.pointer (some ⟨b,0,none⟩)::v::rest).toArray T:=⟨(hg3.block b hlt (fun e=>hne e.symm)).trans hb.heap⟩
 refine effE_ok (v:=v') (w':=W3) (by simp [execOp,effOp,resolve,invoke,builtin,hr]) ?_
 have hv1:v'.cells= #[v']∧v'.oneCell=true:=by
  rcases hown3'.2 with ⟨rfl,_⟩|⟨g,cap,cur,rfl,_⟩<;>exact ⟨rfl,rfl⟩
 simp
 refine eff_store1 (B:=b) (i:=1) (by simp) hb3 (by simp) (by simp;exact hv1.1) (by simp;exact hv1.2) L01.sz67 fun W4 hO4 hb4=> ?_
 simp [h1] at hb4⊢
 have hne4:v'.ownBlock≠some b:=by
  rcases hfr with h|h
  ·rw [h];exact hne
  ·rw [h];simp;omega
 have h3:Below B w W3:=(only_below hO1 hB).grown hg3 (by omega) fun k hk=>(hown.lt k hk).1
 refine ⟨v',hb4,by simpa using ownsRow_keep hown3' (fun k hk=>hO4.block k fun e=>hne4 (by rw [hk,e])),hne4,Below.trans h3 (only_below hO4 hB),fun k hk1 hk2 hk3=> ?_,hfr⟩
 exact (hO4.block k hk2).trans ((hg3.block k (by omega) (fun e=>hk3 e.symm)).trans (hO1.block k hk2))
theorem str90 {b g cap:Nat} {cur:Array Value} {bs:Bs} {w:World} (hcell:w.cell? ⟨b,1,none⟩=some (.slice (some ⟨g,0,none⟩) bs.length cap)) (hg':w.heap[g]? =some (.cells cur 5 (0,0))) (h0:bs≠[]) (hnc:bs.length≤cap) (hcm:cap≤maxLen) (hcs:cur.size=cap*1) (htake:cur.toList.take (bs.length*1)=bs.map encB):
  Calls Tryz.prog 90 #[.pointer (some ⟨b,0,none⟩)] w fun e w'=>e= .returned (.string (mkS bs))∧Below g w w'∧∀k,k≠g→w'.heap[k]? =w.heap[k]? :=by
 have hl0:0<bs.length:=List.length_pos_iff.2 h0
 refine ir90_calls fun ρ r0=> ?_
 simp -implicitDefEqProofs [ir90]
 refine raw_ord ir90_o1_ok (fun W=>W.heap=w.heap) fun w1 hE1 hh1=>⟨hh1, ?_⟩
 have hc:∀W:World,W.heap=w.heap→W.cell? ⟨b,1,none⟩=some (.slice (some ⟨g,0,none⟩) bs.length cap):=fun W e=>by
  rw [←hcell];simp only [World.cell?,e]
 have his:isSl (.slice (some ⟨g,0,none⟩) bs.length cap)=true:=by simp [isSl,hnc]
 have hln:slLen (.slice (some ⟨g,0,none⟩) bs.length cap)=bs.length:=rfl
 simp+contextual -implicitDefEqProofs [ir90_o1,r0,hc,hc w1 hh1,his,hln]
 have hSD:(Builtin.unsafeSliceData_ #[112] 196 #[.slice (some ⟨g,0,none⟩) bs.length cap]).run Tryz.prog w1= .ok (.pointer (some ⟨g,0,none⟩)) w1:=
  Lib.run_unsafeSliceData_row _ _ _ _ _ _ (by omega)
 refine effW_b ?_
 refine effE_ok (v:= .pointer (some ⟨g,0,none⟩)) (w':=w1) (by simp [execOp,effOp,resolve,invoke,builtin,hSD]) ?_
 refine ⟨hh1, ?_⟩
 have hg1:w1.heap[g]? =some (.cells cur 5 (0,0)):=by rw [hh1];exact hg'
 have hUS:(Builtin.unsafeString_ #[196,3] 9 #[.pointer (some ⟨g,0,none⟩), .int .i64 bs.length]).run Tryz.prog w1= .ok (.string ⟨bs.toArray⟩) (w1.freeze ⟨g,0,none⟩ bs.length):=by
  refine Lib.run_unsafeString_row w1 196 3 9 5 Tryz.underlying196 (by kernel_rfl) g cur.size (by simp [World.shape?,hg1]) bs h0 (by omega) (by unfold maxLen at hcm;omega) ?_
  intro j x hx
  have hcell:cur.toList[j]? =some (encB x):=by
   have h1:(bs.map encB)[j]? =some (encB x):=by simp [hx]
   rw [←htake,List.getElem?_take] at h1
   split at h1
   ·exact h1
   ·cases h1
  simp only [World.cell?,add_lit,Nat.zero_add,hg1]
  simpa [encB] using hcell
 refine effW_b ?_
 refine effE_ok (v:= .string ⟨bs.toArray⟩) (w':=w1.freeze ⟨g,0,none⟩ bs.length) (by simp [execOp,effOp,resolve,invoke,builtin,hUS]) ?_
 simp -implicitDefEqProofs [ir90_k0]
 refine ⟨rfl,Lib.below_freeze (⟨hE1.os,hE1.tape,hE1.output,hE1.size,fun k _=>by rw [hh1]⟩:Below g w w1) (p:=⟨g,0,none⟩) (Nat.le_refl _) _,fun k hk'=> ?_⟩
 rw [←hh1]
 unfold World.freeze
 split
 ·rfl
 ·simp only [Array.getElem?_modify]
  rw [if_neg (by simpa using fun e=>hk' e.symm)]
section
variable {σ:Sg} {w0 w:World} {s s':Sx} {args args':List Value} {v:Value}
def byteX:Value→Option UInt8
 | .int .u8 k=>bif decide (0≤k)&&decide (k<256) then some (UInt8.ofNat k.toNat) else none
 |_=>none
def bytesX:List Value→Option Bs
 |[]=>some []
 |a::l=>match byteX a,bytesX l with|some c,some r=>some (c::r)|_,_=>none
theorem byteX_ok {a:Value} {c:UInt8} (h:byteX a=some c):a=encB c:=by
 unfold byteX at h
 split at h
 ·rename_i k
  obtain ⟨hc,h⟩:=bifP h
  simp only [Bool.and_eq_true,decide_eq_true_eq] at hc
  cases h
  have:k.toNat<256:=by omega
  simp only [encB,Value.int.injEq,true_and]
  rw [UInt8.toNat_ofNat',Nat.mod_eq_of_lt (by simpa using this),Int.toNat_of_nonneg hc.1]
 ·cases h
theorem bytesX_ok:∀{l l':List Value} {bs:Bs},VRs σ l l'→bytesX l=some bs→l'=bs.map encB
 |[],[],bs,_,h=>by cases h;rfl
 |a::l,b::m,bs,hv,h=>by
  unfold bytesX at h
  split at h
  ·rename_i c r hc hr
   cases h
   have ha:=byteX_ok hc
   subst ha
   rw [bytesX_ok hv.2 hr,hv.1.uniq (.pln (v:=encB c) rfl)]
   rfl
  ·cases h
noncomputable def bufX (s:Sx):Value→Option (Bs×Mem)
 | .slice none 0 0=>some ([],s.H)
 | .slice (some ⟨j,0,none⟩) n c=>match s.H.get j with
  |some ob=>bif ob.ex&&Nat.beq ob.ty 5&&Nat.beq ob.sz 1&& !ob.whole&&Nat.beq n ob.cells.length&&Nat.beq c n&&Nat.blt j lim then
    (match bytesX ob.cells with|some bs=>some (bs,s.H.del j)|none=>none) else none
  |none=>none
 |_=>none
theorem bufX_ok (hI:Iv σ w0 s w) {u u':Value} (hv:VR σ u u') {bs:Bs} {H:Mem} (h:bufX s u=some (bs,H)):
  w.ownsRow w0.heap.size 5 1 u' bs.length (bs.map encB)∧(∀j o,H.get j=some o→s.H.get j=some o)∧(∀j o p,H.get j=some o→σ j=some p→some p.1≠u'.ownBlock)∧(∀b i o,s.H.get i=some o→σ i=some (b,0,0)→o.ty≠5→u'.ownBlock≠some b∧(∃o',H.get i=some o'∧o'=o)):=by
 unfold bufX at h
 split at h
 ·cases h
  cases hv with
  |pln _=>exact ⟨⟨by simp, .inl ⟨rfl,rfl⟩⟩,fun _ _ h=>h,fun _ _ _ _ _=>by simp [Value.ownBlock],fun b i o hi hs ht=>⟨by simp [Value.ownBlock],o,hi,rfl⟩⟩
 ·rename_i j n c
  split at h
  ·rename_i ob hob
   obtain ⟨hc,h9⟩:=bifP h
   simp only [Bool.and_eq_true,Bool.not_eq_true'] at hc
   obtain ⟨⟨⟨⟨⟨⟨c1,c2⟩,c3⟩,c4⟩,c5⟩,c6⟩,c7⟩:=hc
   have c2:=Nat.eq_of_beq_eq_true c2
   have c3:=Nat.eq_of_beq_eq_true c3
   have c5:=Nat.eq_of_beq_eq_true c5
   have c6:=Nat.eq_of_beq_eq_true c6
   have c7:=blt_lim c7
   subst c6
   split at h9
   ·rename_i bs1 hbs
    cases h9
    cases hv with
    |pln h'=>cases h'
    |slc hs hn=>
     rename_i b f x
     obtain ⟨b1,f1,x1,cur,hr⟩:=(hI.mr j ob hob).2 (by rw [c3];decide)
     have hat:=hr.at'
     rw [hs] at hat;cases hat
     obtain ⟨hf0,hsz⟩:=hr.exact c1
     subst hf0
     rw [c3,Nat.mul_one] at hsz
     obtain ⟨n0,hn0,hm0⟩:=hr.most c4
     rw [c3,Nat.mul_one] at hn0
     have hcs:=hr.cs
     simp only [List.drop_zero] at hcs
     have hbl:=bytesX_ok hcs hbs
     have hlb:bs.length=ob.cells.length:=by
      have:=congrArg List.length hbl
      rw [List.length_take,Array.length_toList,List.length_map] at this
      omega
     refine ⟨⟨by simp, .inr ⟨b,c+x,cur,by rw [c5,hlb],hI.own j ob _ hob hs,by rw [←c2];exact hr.heap,by omega,by omega,by omega, ?_⟩⟩,fun i o hi=>(get_del c7 hi).2,fun i o p hi hp he=> ?_,fun b' i o hi hp ht=> ?_⟩
     ·rw [Nat.mul_one,hlb];exact hbl
     ·obtain ⟨hne,hi'⟩:=get_del c7 hi
      refine hne (hI.ap i j o ob p _ hi' hob hp hs ?_)
      simpa [Value.ownBlock] using he
     ·have hij:i≠j:=fun e=>by subst e;rw [hob] at hi;cases hi;exact ht c2
      refine ⟨fun e=>hij (hI.ap i j o ob _ _ hi hob hp hs ?_),o, ?_,rfl⟩
      ·simp [Value.ownBlock] at e;exact e.symm
      ·rw [Tr.get_del _ c7,if_neg hij];exact hi
   ·cases h9
  ·cases h
 ·cases h
theorem readd_ok (hI:Iv σ w0 s w) {i:Nat} (hlim:i<lim) {b f x:Nat} (hσ:σ i=some (b,f,x)) (hap:∀j o p,s.H.get j=some o→σ j=some p→j≠i→p.1≠b) (hb0:w0.heap.size≤b) {ob:Ob} (hz:ob.sz≠0) {cur:Array Value} (ho:RO σ w i ob b f x cur):
  Iv σ w0 ⟨s.H.set i ob,s.nx,s.rs⟩ w:=by
 have hg:∀j,(s.H.set i ob).get j=if j=i then some ob else s.H.get j:=fun j=>Tr.get_set _ _ hlim j
 refine ⟨fun j oj hj=> ?_,hI.dom,hI.res,fun j l oj ol pj pl hj hl hpj hpl he=> ?_,hI.ext,fun j oj pj hj hpj=> ?_⟩
 ·dsimp only at hj
  rw [hg] at hj
  split at hj
  ·rename_i e
   cases hj
   subst e
   exact ⟨fun h=>absurd h hz,fun _=>⟨b,f,x,cur,ho⟩⟩
  ·exact hI.mr j oj hj
 ·dsimp only at hj hl
  rw [hg] at hj hl
  split at hj
  ·rename_i e1
   subst e1
   rw [hσ] at hpj;cases hpj
   split at hl
   ·rename_i e2;exact e2.symm
   ·rename_i e2;exact absurd he.symm (hap l ol pl hl hpl e2)
  ·rename_i e1
   split at hl
   ·rename_i e2
    subst e2
    rw [hσ] at hpl;cases hpl
    exact absurd he (hap j oj pj hj hpj e1)
   ·exact hI.ap j l oj ol pj pl hj hl hpj hpl he
 ·dsimp only at hj
  rw [hg] at hj
  split at hj
  ·rename_i e1
   subst e1
   rw [hσ] at hpj;cases hpj
   exact hb0
  ·exact hI.own j oj pj hj hpj
def bldT (t:TypeId) (n:Nat):Bool:=(Nat.beq t 114&&Nat.beq n 0)||(Nat.beq t 116&&Nat.beq n 2)
def adrX (i:Nat):Value→Bool
 | .pointer none=>true
 | .pointer (some ⟨j,0,none⟩)=>Nat.beq j i
 |_=>false
noncomputable def wrX (s:Sx) (i:Nat) (ob:Ob) (b:ByteArray) (rest:List Value) (bs:Bs) (H:Mem):Option (Value×Sx):=
 bif Nat.ble (bs.length+b.size) 100000000000000&&Nat.ble 1 (bs.length+b.size) then
  match newX ⟨H.del i,s.nx,s.rs⟩ none ⟨(bs++b.data.toList).map encB,5,1,false,true⟩ with
  |some (k,s1)=>some (.tuple #[.int .i64 b.size, .nilIface],⟨s1.H.set i ⟨.pointer (some ⟨i,0,none⟩):: .slice (some ⟨k,0,none⟩) (bs.length+b.size) (bs.length+b.size)::rest,ob.ty,1,true,false⟩,s1.nx,s1.rs⟩)
  |none=>none
 else none
noncomputable def wrA (s:Sx) (i:Nat) (ob:Ob) (b:ByteArray):Option (Value×Sx):=
 match ob.cells with
 |p::bv::rest=>bif adrX i p&&bldT ob.ty rest.length&&Nat.blt i lim&&obeq ob ⟨p::bv::rest,ob.ty,1,true,false⟩ then
   (match bufX s bv with|some (bs,H)=>wrX s i ob b rest bs H|none=>none) else none
 |_=>none
noncomputable def p89 (s:Sx):List Value→Option (Value×Sx)
 |[.pointer (some ⟨i,0,none⟩), .string b]=>match s.H.get i with
  |some ob=>wrA s i ob b
  |none=>none
 |_=>none
theorem p89_ok (hI:Iv σ w0 s w) (hv:VRs σ args args') (h:p89 s args=some (v,s')):Calls Tryz.prog 89 args'.toArray w (CallAfter σ w0 (.ret v s')):=by
 unfold p89 at h
 split at h
 ·rename_i i b
  split at h
  ·rename_i ob hob
   unfold wrA at h
   split at h
   ·rename_i p bv rest hcells
    obtain ⟨hc,h9⟩:=bifP h
    simp only [Bool.and_eq_true] at hc
    obtain ⟨⟨⟨c1,c2⟩,c3⟩,c4⟩:=hc
    have hobe:=obeq_ok c4
    generalize hty:ob.ty=T at*
    subst hobe
    split at h9
    ·rename_i bs H hbuf
     unfold wrX at h9
     obtain ⟨hc,h8⟩:=bifP h9
     simp only [Bool.and_eq_true,Nat.ble_eq] at hc
     split at h8
     ·rename_i k s1 hnew
      cases h8
      have hlim:=blt_lim c3
      obtain ⟨B,bs',hσ,hvB,hBlk⟩:=blk_of hI hob rfl (show (1:Nat)≠0 by decide)
      match bs',hvB,hBlk with
      |p'::bv'::rest',hvB,hBlk=>
       obtain ⟨v1,v2,v3⟩:=hvB
       have hT5:T≠5:=fun e=>by subst e;simp [bldT] at c2
       obtain ⟨b1,b2,b3,b4⟩:=bufX_ok hI v2 hbuf
       obtain ⟨b5,_⟩:=b4 B i _ hob hσ hT5
       have hB0:w0.heap.size≤B:=hI.own i _ _ hob hσ
       have hp':p'= .pointer none∨p'= .pointer (some ⟨B,0,none⟩):=by
        unfold adrX at c1
        split at c1
        ·exact .inl (v1.uniq (.pln rfl))
        ·rename_i j
         have:=Nat.eq_of_beq_eq_true c1
         subst this
         exact .inr (v1.uniq (ptr0 hσ))
        ·cases c1
       have hchk:Calls Tryz.prog 177 #[.pointer (some ⟨B,0,none⟩)] w fun e w'=>e= .returned (.tuple #[])∧Blk w' B (.pointer (some ⟨B,0,none⟩)::bv'::rest').toArray T∧Only B w w':=by
        simp only [bldT,Bool.or_eq_true,Bool.and_eq_true] at c2
        have hrl:=v3.len
        rcases c2 with ⟨d1,d2⟩|⟨d1,d2⟩
        ·have d1:=Nat.eq_of_beq_eq_true d1
         have d2:=Nat.eq_of_beq_eq_true d2
         subst d1
         match rest',hrl,hBlk with
         |[],_,hBlk=>exact chk114 hp' hBlk
         |_::_,e,_=>exact absurd (e.symm.trans d2) (by simp)
        ·have d1:=Nat.eq_of_beq_eq_true d1
         have d2:=Nat.eq_of_beq_eq_true d2
         subst d1
         match rest',hrl,hBlk with
         |[nv,o],_,hBlk=>exact pr_check hBlk hp'
         |[],e,_=>exact absurd (e.symm.trans d2) (by simp)
         |[_],e,_=>exact absurd (e.symm.trans d2) (by simp)
         |_::_::_::_,e,_=>exact absurd (e.symm.trans d2) (by simp)
       have hbsz:b.data.toList.length=b.size:=rfl
       match args',hv with
       |[y1,y2],hv=>
        obtain ⟨g1,g2,_⟩:=hv
        have u1:=g1.uniq (ptr0 hσ)
        have u2:y2= .string (mkS b.data.toList):=by rw [mk_of];exact g2.uniq (.pln (v:= .string b) rfl)
        subst u1
        subst u2
        refine (wr89 b.data.toList hB0 hBlk.lt b1 b5 hchk (by rw [hbsz];exact hc.1) hI.ext.size).mono ?_
        rintro _ W ⟨rfl,v',k1,k2,k3,k4,k5,k6⟩
        have hll:(bs++b.data.toList).length=bs.length+b.size:=by rw [List.length_append,hbsz]
        have hIH:Iv σ w0 ⟨H.del i,s.nx,s.rs⟩ w:=by
         have sub:∀j o,(H.del i).get j=some o→j≠i∧s.H.get j=some o:=fun j o hj=>⟨(get_del hlim hj).1,b2 j o (get_del hlim hj).2⟩
         exact ⟨hI.mr.keep (fun j o hj=>(sub j o hj).2) fun _ _ _ _ _=>rfl,hI.dom,hI.res,fun j l oj ol pj pl hj hl=>hI.ap j l oj ol pj pl (sub j oj hj).2 (sub l ol hl).2,hI.ext,fun j o p hj=>hI.own j o p (sub j o hj).2⟩
        have hdi:∀j o q,(H.del i).get j=some o→σ j=some q→q.1<w.heap.size∧q.1≠B∧some q.1≠bv'.ownBlock:=fun j o q hj hq=>by
         obtain ⟨r,hr,hlt⟩:=hIH.mr.at' hj
         rw [hq] at hr;cases hr
         obtain ⟨hne,hj2⟩:=get_del hlim hj
         exact ⟨hlt,fun e=>hne (hI.ap j i o _ q _ (b2 j o hj2) hob hq hσ e),b3 j o q hj2 hq⟩
        rcases k2.2 with ⟨_,hz⟩|⟨g,cap,cur,hv',hg0,hgh,hnc,hcm,hcs,htake⟩
        ·rw [hll] at hz;omega
        ·subst hv'
         rw [hll] at hnc htake
         have hMW:MR σ (H.del i) W:=hIH.mr.keep (fun _ _ h=>h) fun j o q hj hq=>by
          obtain ⟨e1,e2,e3⟩:=hdi j o q hj hq
          exact k5 q.1 e1 e2 fun e=>e3 e.symm
         have hEW:Ext w0 W:=⟨k4.os.trans hI.ext.os,k4.tape.trans hI.ext.tape,k4.output.trans hI.ext.output,Nat.le_trans hI.ext.size k4.size,fun q hq=>(k4.block q hq).trans (hI.ext.block q hq)⟩
         have hgB:g≠B:=fun e=>k3 (by simp [Value.ownBlock,e])
         obtain ⟨τ,hle,hi,hI',e4,e5,e6⟩:=new_ok4 hIH hnew (b:=g) (f:=0) (x:=cap - (bs.length+b.size)) (W:=W) hMW hEW hg0 (fun j oj pj hj hp e=>by
          obtain ⟨e1,e2,e3⟩:=hdi j oj pj hj hp
          rcases k6 with k6|k6
          ·exact e3 (by rw [←k6,e];rfl)
          ·simp [Value.ownBlock] at k6
           omega) fun τ hle hi=>⟨(fun hz=>by cases hz),fun _=>⟨cur,hi,hgh,by
          dsimp only
          rw [List.length_map,hll,List.drop_zero]
          rw [Nat.mul_one] at htake
          rw [htake]
          exact plainsV_ok (by rw [List.all_eq_true];intro x hx;obtain ⟨c,_,rfl⟩:=List.mem_map.1 hx;rfl),by
          dsimp only
          rw [List.length_map,hll];omega,(fun hw=>by cases hw),fun _=>⟨bs.length+b.size,by rw [List.length_map,hll,Nat.mul_one],by omega⟩,fun _=>⟨rfl,by
          dsimp only
          rw [List.length_map,hll];omega⟩⟩⟩
         have hσ':τ i=some (B,0,0):=hle _ _ hσ
         have hki:k≠i:=fun e=>by
          subst e
          rw [hi] at hσ'
          exact hgB (congrArg Prod.fst (Option.some.inj hσ'))
         have hsl:VR τ (.slice (some ⟨k,0,none⟩) (bs.length+b.size) (bs.length+b.size)) (.slice (some ⟨g,0,none⟩) (bs++b.data.toList).length cap):=by
          have:=VR.slc (σ:=τ) (o:=0) (n:=bs.length+b.size) (c:=bs.length+b.size) hi (Nat.le_refl _)
          rw [show bs.length+b.size+(cap - (bs.length+b.size))=cap by omega] at this
          rw [hll]
          exact this
         refine ⟨τ,_,hle,readd_ok hI' hlim hσ' (fun j o q hj hq hne e=> ?_) hB0 (show (1:Nat)≠0 by decide) (ob:=⟨.pointer (some ⟨i,0,none⟩):: .slice (some ⟨k,0,none⟩) (bs.length+b.size) (bs.length+b.size)::rest,T,1,true,false⟩) (cur:=(.pointer (some ⟨B,0,none⟩):: .slice (some ⟨g,0,none⟩) (bs++b.data.toList).length cap::rest').toArray) ?_, ?_,rfl⟩
         ·rw [e4,Tr.get_set _ _ e5] at hj
          split at hj
          ·rename_i e7;subst e7;rw [hi] at hq;cases hq;exact hgB e
          ·rename_i e7
           exact (hdi j o q hj (e6 j q hq e7)).2.1 e
         ·have hr3:=v3.len
          refine ⟨hσ',k1.heap, ?_,by simp [hr3],fun _=>⟨rfl,rfl,by simp [hr3]⟩,(fun hw=>by cases hw),(fun hx=>by cases hx)⟩
          simp only [List.drop_zero]
          rw [List.take_of_length_le (by simp [hr3])]
          exact ⟨ptr0 hσ',hsl,v3.mono hle⟩
         ·rw [hbsz]
          exact constB_ok (v:= .tuple #[.int .i64 (b.size:Int), .nilIface]) rfl
     ·cases h8
    ·cases h9
   ·cases h
  ·cases h
 ·cases h
noncomputable def strA (s:Sx) (j:Nat) (bs:Bs):Option (Value×Sx):=bif Nat.ble 1 bs.length&&Nat.blt j lim then some (.string (mkS bs),⟨s.H.del j,s.nx,s.rs⟩) else none
def rowX90:Value→Option Nat
 | .slice (some ⟨j,0,none⟩) _ _=>some j
 |_=>none
noncomputable def p90 (s:Sx):List Value→Option (Value×Sx)
 |[.pointer (some ⟨i,0,none⟩)]=>match s.H.get i with
  |some ob=>bif ob.whole&&Nat.beq ob.sz 1 then (match cellX s.H ⟨i,1,none⟩ with
   |some bv=>match bufX s bv,rowX90 bv with
    |some (bs,_),some j=>strA s j bs
    |_,_=>none
   |none=>none) else none
  |none=>none
 |_=>none
theorem p90_ok (hI:Iv σ w0 s w) (hv:VRs σ args args') (h:p90 s args=some (v,s')):Calls Tryz.prog 90 args'.toArray w (CallAfter σ w0 (.ret v s')):=by
 unfold p90 at h
 split at h
 ·rename_i i
  split at h
  rotate_left
  ·cases h
  rename_i ob hob
  obtain ⟨hw,h⟩:=bifP h
  simp only [Bool.and_eq_true] at hw
  have hz1:=Nat.eq_of_beq_eq_true hw.2
  split at h
  ·rename_i bv hbv
   split at h
   ·rename_i bs H j hbuf hrow
    unfold strA at h
    obtain ⟨hc,h9⟩:=bifP h
    cases h9
    simp only [Bool.and_eq_true,Nat.ble_eq] at hc
    have hj:=blt_lim hc.2
    match args',hv with
    |[y1],hv=>
     obtain ⟨g1,_⟩:=hv
     cases g1 with
     |pln h'=>cases h'
     |ptr hσ=>
      rename_i B f x
      obtain ⟨u,hu,hur⟩:=cellX_ok hI.mr (.ptr (o:=1) hσ) hbv
      have hcell:w.cell? ⟨B,f+1,none⟩=some u:=hu
      obtain ⟨b1,b2,b3,b4⟩:=bufX_ok hI hur hbuf
      unfold rowX90 at hrow
      split at hrow
      ·rename_i j' n c
       cases hrow
       rcases b1.2 with ⟨_,hz⟩|⟨g,cap,cur,hv',hg0,hgh,hnc,hcm,hcs,htake⟩
       ·omega
       ·subst hv'
        have hσj:∃q,σ j=some q∧q.1=g:=by
         cases hur with
         |pln h'=>cases h'
         |slc hs hn=>exact ⟨_,hs,rfl⟩
        obtain ⟨q,hq,hqg⟩:=hσj
        have hf:f=0:=by
         obtain ⟨b5,f5,x5,cur5,hr5⟩:=(hI.mr i ob hob).2 (by rw [hz1];decide)
         have hat:=hr5.at'
         rw [hσ] at hat;cases hat
         exact (hr5.whole hw.1).1
        subst hf
        refine (str90 hcell hgh (by intro e;rw [e] at hc;simp at hc) hnc hcm hcs htake).mono ?_
        rintro _ W ⟨rfl,hB,hk⟩
        have hEW:Ext w0 W:=⟨hB.os.trans hI.ext.os,hB.tape.trans hI.ext.tape,hB.output.trans hI.ext.output,Nat.le_trans hI.ext.size hB.size,fun r hr=>(hB.block r (by omega)).trans (hI.ext.block r hr)⟩
        refine ⟨σ,_,Sg.le_refl σ,⟨?_,hI.dom,hI.res,fun j1 l oj ol pj pl h1 h2=>hI.ap j1 l oj ol pj pl (get_del hj h1).2 (get_del hj h2).2,hEW,fun j1 o p h1=>hI.own j1 o p (get_del hj h1).2⟩, .pln rfl,rfl⟩
        obtain ⟨oj,hoj⟩:∃oj,s.H.get j=some oj:=by
         cases hj2:s.H.get j with
         |some oj=>exact ⟨oj,rfl⟩
         |none=>unfold bufX at hbuf;simp only [hj2] at hbuf;cases hbuf
        exact hI.mr.keep (fun j1 o h1=>(get_del hj h1).2) fun j1 o p h1 hp=>hk p.1 fun e=>(get_del hj h1).1 (hI.ap j1 j o oj p q (get_del hj h1).2 hoj hp hq (by rw [e,hqg]))
      ·cases hrow
   ·cases h
  ·cases h
 ·cases h
end
end Go.L02
namespace Go.L02
open Go Go.Eng Go.RowKit
open Go.Proofs hiding encI
open Go.L01 (Bs Tok encT)
set_option maxRecDepth 100000
set_option maxHeartbeats 2000000
noncomputable def primZ:Prim:=fun f args s=>
 bif Nat.beq f 89 then p89 s args else bif Nat.beq f 90 then p90 s args else bif Nat.beq f 53 then p53 s args else bif Nat.beq f 77 then p77 s args else bif Nat.beq f 22 then p22 s args else bif Nat.beq f 24 then p24 s args else
 bif Nat.beq f 34 then p34 s args else bif Nat.beq f 64 then p64 s args else bif Nat.beq f 273 then p273 s args else none
theorem bifN {α:Type} {f n:Nat} {x y:Option α} {v:α} (h:(bif Nat.beq f n then x else y)=some v):(f=n∧x=some v)∨y=some v:=by
 cases hb:Nat.beq f n with
 |true=>rw [hb] at h;exact .inl ⟨Nat.eq_of_beq_eq_true hb,h⟩
 |false=>rw [hb] at h;exact .inr h
theorem prim_ok:PrimOk Tryz.prog GM primZ:=by
 intro f args s v s' h σ w0 w args' hg hI hv
 unfold primZ at h
 rcases bifN h with ⟨rfl,h⟩|h
 ·exact p89_ok hI hv h
 rcases bifN h with ⟨rfl,h⟩|h
 ·exact p90_ok hI hv h
 rcases bifN h with ⟨rfl,h⟩|h
 ·exact p53_ok hg hI hv h
 rcases bifN h with ⟨rfl,h⟩|h
 ·exact p77_ok hg hI hv h
 rcases bifN h with ⟨rfl,h⟩|h
 ·exact p22_ok hg hI hv h
 rcases bifN h with ⟨rfl,h⟩|h
 ·exact p24_ok hg hI hv h
 rcases bifN h with ⟨rfl,h⟩|h
 ·exact p34_ok hI hv h
 rcases bifN h with ⟨rfl,h⟩|h
 ·exact p64_ok hg hI hv h
 rcases bifN h with ⟨rfl,h⟩|h
 ·exact p273_ok hI hv h
 ·cases h
def prZ (t:TypeId):Bool:=Nat.beq t 26
theorem pr_ok:PrOk Tryz.prog prZ:=fun t ht=>by
 have:=Nat.eq_of_beq_eq_true ht
 subst this
 exact ⟨g26,fun a b c d w=>eqFlt a b c d w⟩
def skZ (f:FuncId) (i:Nat):List Nat:=bif Nat.beq f 122&&Nat.beq i 4 then [5] else []
noncomputable def runZ (f:FuncId) (args:List Value):Option Ou:=runX Tryz.prog primZ (some q54) skZ prZ 3000 ⟨.lf,0,[]⟩ (.call f args)
theorem iv0 (w:World):Iv (fun _=>none) w ⟨.lf,0,[]⟩ w:=⟨mr_lf,(fun i p h=>by cases h),(fun i h=>by cases h),(fun i j oi oj pi pj h=>by cases h),ext_refl w,(fun i o p h=>by cases h)⟩
def trueB:Option Ou→Bool
 |some (.ret (.bool true) _)=>true
 |_=>false
end Go.L02
namespace Go.L02
open Go Go.Eng Go.RowKit
open Go.Proofs hiding encI
open Go.L01 (Bs Tok encT)
set_option maxRecDepth 100000
set_option maxHeartbeats 2000000
def faultV (a b:Int):Value:= .tuple #[.slice none 0 0, .agg #[.int .i64 a, .int .i64 b]]
def retB (v:Value):Option Ou→Bool
 |some (.ret u _)=>veq 4 u v
 |_=>false
theorem fault_vr {σ:Sg} (a b:Int):VR σ (faultV a b) (faultV a b):=tup2 (.pln rfl) (constB_ok (v:= .agg #[.int .i64 a, .int .i64 b]) rfl)
theorem runB:retB (faultV 20 1) (runZ 15 [.string (mkS exB)])=true:=by kernel_rfl
theorem runC:retB (faultV 21 1) (runZ 15 [.string (mkS exC)])=true:=by kernel_rfl
theorem fault_call {b:ByteArray} {x y:Int} (h:retB (faultV x y) (runZ 15 [.string b])=true) {w:World} (hg:GM w):Calls Tryz.prog 15 #[.string b] w fun e w'=>e= .returned (faultV x y)∧Ext w w':=by
 unfold retB at h
 split at h
 ·rename_i u s hs
  have hu:=veq_ok 4 _ _ h
  subst hu
  refine ((run_sound pr_ok prim_ok t54 3000).call 15 [.string b] _ _ hs (fun _=>none) w w [.string b] hg (iv0 w) ⟨.pln rfl,trivial⟩).mono ?_
  rintro e w' ⟨τ,v',hl,hI,hv,rfl⟩
  exact ⟨by rw [hv.uniq (fault_vr x y)],hI.ext⟩
 ·cases h
noncomputable def p15 (s:Sx):List Value→Option (Value×Sx)
 |[.string b]=>bif strB b (mkS exB) then some (faultV 20 1,s) else bif strB b (mkS exC) then some (faultV 21 1,s) else none
 |_=>none
noncomputable def primY:Prim:=fun f args s=>bif Nat.beq f 15 then p15 s args else primZ f args s
theorem primY_ok:PrimOk Tryz.prog GM primY:=by
 intro f args s v s' h σ w0 w args' hg hI hv
 unfold primY at h
 rcases bifN h with ⟨rfl,h1⟩|h1
 ·clear h
  unfold p15 at h1
  split at h1
  ·rename_i b
   have key:∀{c:Bs} {x y:Int},retB (faultV x y) (runZ 15 [.string (mkS c)])=true→b=mkS c→Calls Tryz.prog 15 args'.toArray w (CallAfter σ w0 (.ret (faultV x y) s)):=by
    intro c x y hr hb
    subst hb
    have ha:args'=[.string (mkS c)]:=by
     match args',hv with
     |[z],hv=>rw [hv.1.uniq (.pln (v:= .string (mkS c)) rfl)]
    rw [ha]
    refine (fault_call hr (gm hg hI)).mono ?_
    rintro e W ⟨rfl,hE⟩
    exact ⟨σ,_,Sg.le_refl σ,hI.toExt hE,fault_vr x y,rfl⟩
   cases hb:strB b (mkS exB) with
   |true=>
    rw [hb] at h1
    cases h1
    exact key runB (strB_iff.1 hb)
   |false=>
    rw [hb] at h1
    obtain ⟨hc,h2⟩:=bifP (b:=strB b (mkS exC)) h1
    cases h2
    exact key runC (strB_iff.1 hc)
  ·cases h1
 ·exact prim_ok f args s v s' h1 σ w0 w args' hg hI hv
noncomputable def runY (f:FuncId) (args:List Value):Option Ou:=runX Tryz.prog primY (some q54) skZ prZ 3000 ⟨.lf,0,[]⟩ (.call f args)
theorem runA:trueB (runY 14 [])=true:=by kernel_rfl
theorem x_read {w:World} (hG:L01.G w) (hM:MaxL w):Calls Tryz.prog 14 #[] w (okR w):=by
 have h:=runA
 unfold trueB at h
 split at h
 ·rename_i s hs
  refine ((run_sound pr_ok primY_ok t54 3000).call 14 [] _ _ hs (fun _=>none) w w [] ⟨hG,hM⟩ (iv0 w) trivial).mono ?_
  rintro e w' ⟨τ,v',hl,hI,hv,rfl⟩
  exact ⟨by rw [hv.uniq (.pln (v:= .bool true) rfl)],hI.ext⟩
 ·cases h
end Go.L02
