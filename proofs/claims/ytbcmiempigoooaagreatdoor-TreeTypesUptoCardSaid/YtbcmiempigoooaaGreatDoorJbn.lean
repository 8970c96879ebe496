/- Texts of mine for the claims about layer 2 (tree), joined: L02Vi, L02Qa, L02Qb, L02Vj, L02Vk, L02Vl, L02Kb, L02Vr, L02Vs, L02Ig, L02Vt, L02Vu, L02Xp, L02Xt, L02Xq, L02Xr, L02Xs, L02Ie, L02Ra, L02Rb, L02Rc, L02If, L02Na, L02Nb, L02Nd, L02Rd, L02Re, L02Rf, L02L4. -/
import Derived.Test.YtbcmiempigoooaaGreatDoorJbm
import Derived.Shelf.Strings.OnBuilder
import Derived.Test.YtbcmiempigoooaaGreatDoorProg
import Derived.KernelRfl
set_option linter.all false
set_option linter.unusedSimpArgs false
set_option linter.unusedVariables false
namespace Go.Proofs
open Go.Shelf
def Tryz.lays156_ren:Go.Shelf.Ren:=⟨fun|156=>34|165=>88|166=>89|169=>90|240=>177|241=>178|276=>247|277=>248|n=>n,fun|31=>51|9=>9|3=>3|4=>4|0=>0|20=>20|72=>114|76=>127|70=>111|37=>112|75=>126|127=>196|164=>254|5=>5|80=>129|n=>n,fun|n=>n⟩
theorem Tryz.lays156:Go.Proofs.Lays.n156 Tryz.prog Tryz.lays156_ren:={
 mixed:=by kernel_rfl
 f156:=Tryz.func34.trans (congrArg some (by kernel_rfl))
 f165:=Tryz.func88.trans (congrArg some (by kernel_rfl))
 f166:=Tryz.func89.trans (congrArg some (by kernel_rfl))
 f169:=Tryz.func90.trans (congrArg some (by kernel_rfl))
 f240:=Tryz.func177.trans (congrArg some (by kernel_rfl))
 f241:=Tryz.func178.trans (congrArg some (by kernel_rfl))
 f276:=Tryz.func247.trans (congrArg some (by kernel_rfl))
 f277:=Tryz.func248.trans (congrArg some (by kernel_rfl))
 t0:=Tryz.underlying0
 a0:=Tryz.isAgg0
 z0:=Tryz.sizeOf0
 v0:=Tryz.zeroValue0
 t3:=Tryz.underlying3
 a3:=Tryz.isAgg3
 z3:=Tryz.sizeOf3
 v3:=Tryz.zeroValue3
 t4:=Tryz.underlying4
 a4:=Tryz.isAgg4
 z4:=Tryz.sizeOf4
 v4:=Tryz.zeroValue4
 t9:=Tryz.underlying9
 a9:=Tryz.isAgg9
 z9:=Tryz.sizeOf9
 v9:=Tryz.zeroValue9
 t20:=Tryz.underlying20
 a20:=Tryz.isAgg20
 z20:=Tryz.sizeOf20
 v20:=Tryz.zeroValue20
 t31:=Tryz.underlying51
 a31:=Tryz.isAgg51
 z31:=Tryz.sizeOf51
 v31:=Tryz.zeroValue51
 t37:=Tryz.underlying112
 a37:=Tryz.isAgg112
 z37:=Tryz.sizeOf112
 v37:=Tryz.zeroValue112
 t70:=Tryz.underlying111
 a70:=Tryz.isAgg111
 z70:=Tryz.sizeOf111
 v70:=Tryz.zeroValue111
 t72:=Tryz.underlying114
 a72:=Tryz.isAgg114
 z72:=Tryz.sizeOf114
 v72:=Tryz.zeroValue114
 t75:=Tryz.underlying126
 a75:=Tryz.isAgg126
 z75:=Tryz.sizeOf126
 v75:=Tryz.zeroValue126
 t76:=Tryz.underlying127
 a76:=Tryz.isAgg127
 z76:=Tryz.sizeOf127
 v76:=Tryz.zeroValue127
 t127:=Tryz.underlying196
 a127:=Tryz.isAgg196
 z127:=Tryz.sizeOf196
 v127:=Tryz.zeroValue196
 t164:=Tryz.underlying254
 a164:=Tryz.isAgg254
 z164:=Tryz.sizeOf254
 v164:=Tryz.zeroValue254}
theorem Tryz.extra156:Builder.Extra Tryz.prog Tryz.lays156_ren where
 sizeBuilder:=by kernel_rfl
 liesBuilder:=by kernel_rfl
 t5:=Tryz.underlying5
 a5:=Tryz.isAgg5
 z5:=Tryz.sizeOf5
 v5:=Tryz.zeroValue5
 infoByte:=by kernel_rfl
 cellsByte:=by kernel_rfl
 sizeByte:=by kernel_rfl
 neB5:=by decide
open Go.RowKit in
theorem Tryz.join (bk o c:Nat) (xs:List ByteArray) (sep:ByteArray) (w:World)
  (hcells:∀(j:Nat) x,xs[j]? =some x→w.cell? ⟨bk,o+j,none⟩=some (.string x))
  (hbk:bk<w.heap.size) (hN:xs.length≤140737488355328) (hcap:xs.length≤c)
  (hlen:(Lib.join (xs.map (·.data.toList)) sep.data.toList).length≤140737488355328):
  Calls Tryz.prog 34 #[.slice (some ⟨bk,o,none⟩) xs.length c, .string sep] w fun e w'=>e= .returned (.string ⟨(Lib.join (xs.map (·.data.toList)) sep.data.toList).toArray⟩)∧Below w.heap.size w w':=Any.strings_Join Tryz.lays156 Tryz.extra156 bk o c xs sep w hcells hbk hN hcap hlen
theorem Tryz.join0 (a:Option Addr) (c:Nat) (sep:ByteArray) (w:World):
  Calls Tryz.prog 34 #[.slice a 0 c, .string sep] w fun e w'=>e= .returned (.string ⟨#[]⟩)∧w'=w:=Any.strings_Join_none Tryz.lays156 Tryz.extra156 a c sep w
end Go.Proofs
namespace Go.L02
open Go Go.Eng Go.RowKit
open Go.Proofs hiding encI
open Go.L01 (Bs Tok encT SlT Own.same retK_c1 isName)
set_option maxRecDepth 100000
set_option maxHeartbeats 2000000
@[simp] theorem cbp34:callB Tryz.prog 34=true:=by kernel_rfl
@[simp] theorem cbp88:callB Tryz.prog 88=true:=by kernel_rfl
@[simp] theorem cbp177:callB Tryz.prog 177=true:=by kernel_rfl
theorem joinB_lib (sep:Bs):∀ss:List Bs,Lib.join ss sep=joinB sep ss
 |[]=>by simp [joinB,Lib.join_nil]
 |[x]=>by simp [joinB,Lib.join_one]
 |x::y::ys=>by
  have h:=joinB_lib sep (y::ys)
  rw [Lib.join_cons] at h
  rw [Lib.join_cons,joinB,←h]
  simp [Lib.joinTail]
theorem p_Join {w:World} {v:Value} {ss:List Bs} (sep:Bs) (h:Cells w v 1 (ss.map encT)) (hn:ss.length≤100000000000000) (hbd:(joinB sep ss).length≤100000000000000):
  Calls Tryz.prog 34 #[v, .string (mkS sep)] w fun e w'=>e= .returned (.string (mkS (joinB sep ss)))∧Ext w w':=by
 have hl:slLen v=ss.length:=by simpa using h.len.symm
 have key0:∀(a:Option Addr) (c:Nat),v= .slice a 0 c→Calls Tryz.prog 34 #[v, .string (mkS sep)] w fun e w'=>e= .returned (.string (mkS (joinB sep ss)))∧Ext w w':=by
  rintro a c rfl
  have h0:ss=[]:=by simpa [slLen] using hl.symm
  subst h0
  refine (Tryz.join0 a c (mkS sep) w).mono ?_
  rintro _ _ ⟨rfl,rfl⟩
  exact ⟨by simp [joinB,mkS],ext_refl _⟩
 rcases isSl_cases h.is with ⟨b,o,n,c,hv,hc⟩|hv|⟨b,o,sp,hv⟩
 ·by_cases h0:ss=[]
  ·have:n=0:=by rw [hv] at hl;simpa [slLen,h0] using hl
   subst this
   exact key0 _ _ hv
  ·have h1:0<ss.length:=List.length_pos_iff.2 h0
   have hnn:n=ss.length:=by rw [hv] at hl;simpa [slLen] using hl
   have hcell:∀(j:Nat) x,(ss.map mkS)[j]? =some x→w.cell? ⟨b,o+j,none⟩=some (.string x):=fun j x hx=>by
    obtain ⟨hj,hx⟩:=List.getElem?_eq_some_iff.1 hx
    have:=h.cell j (by simpa using hj)
    rw [hv] at this
    simp [slAddr,encT] at this hx
    rw [this,hx]
   have hbk:b<w.heap.size:=by
    have:=hcell 0 (mkS ss[0]) (by simp [h1])
    refine Nat.lt_of_not_le fun hc=> ?_
    unfold World.cell? at this
    simp only [Array.getElem?_eq_none hc] at this
    cases this
   have e1:(ss.map mkS).map (·.data.toList)=ss:=by simp [Function.comp_def,mkS]
   have hj:=Tryz.join b o c (ss.map mkS) (mkS sep) w hcell hbk (by simp;omega) (by simp;omega) (by rw [e1];simp only [mkS];rw [joinB_lib];omega)
   rw [e1] at hj
   simp only [mkS,List.length_map] at hj
   rw [joinB_lib,←hnn,←hv] at hj
   refine hj.mono ?_
   rintro _ w' ⟨rfl,hb⟩
   exact ⟨rfl,hb⟩
 ·exact key0 _ _ hv
 ·exact key0 _ _ hv
end Go.L02
namespace Go.L02
open Go.Eng
open Go.L01 (Bs Tok right isWord isSign isName isNumber scan scanAt first Res letter digit runL digitsL first_alone run_tail signs2 words2 scanAt_tok right_bytes scanAt_nl scanAt_sp)
def glue (k:Nat) (s:Bs) (c:UInt8):Bool:=if k=4 then isSign (s++[c]) else if k=3 then digit c else L01.part c
structure At where
 k:Nat
 s:Bs
def At.ok (a:At):Prop:=if a.k=0 then a.s≠[]∧∀c∈a.s,L01.blank c=true else right a.k a.s=true
def At.then (a:At) (r:Bs):Prop:=a.k=0∨∀c x,r=c::x→glue a.k a.s c=false
theorem At.ok.ne {a:At} (h:a.ok):a.s≠[]:=by
 unfold At.ok at h
 split at h
 ·exact h.1
 ·exact (first_alone h).1
end Go.L02
namespace Go.L02
open Go.Eng
open Go.L01 (Bs Tok right isWord isSign isName isNumber scan scanAt first Res letter digit runL digitsL first_alone run_tail signs2 words2 scanAt_tok right_bytes scanAt_nl scanAt_sp)
def bk (s:Bs):Nat×List At:=(0,[⟨0,s⟩])
end Go.L02
namespace Go.L02
open Go Go.Eng Go.RowKit
open Go.Proofs hiding encI
open Go.L01 (Bs Tok encT SlT Own.same retK_c1 isName)
set_option maxRecDepth 100000
set_option maxHeartbeats 2000000
def kidIx (i:Nat) (u:T) (j:Nat):Nat:=i+sizes (u.kids.take (j+1)) - u.size
structure NdR (w:World) (l:List Nd) (nv:Value) (N i:Nat) (u:T) (kv:Value):Prop where
 is:isSl nv=true
 len:slLen nv=N
 lt:i<N
 cell:∀j,j<6→w.cell? (slAddr nv (i*6+j))=[Value.int .u8 (u.d.kind:Int), .string (mkS u.d.name), .string (mkS u.d.vr), .string (mkS u.d.typ), .int .i64 u.d.n,kv][j]?
 kis:isSl kv=true
 klen:slLen kv=u.kids.length
 kids:Cells w kv 1 ((roots (i+1 - u.size) u.kids).map encI)
 kcell:∀j (h:j<u.kids.length),w.cell? (slAddr kv j)=some (.int .i64 (kidIx i u j:Int))∧AtT l (kidIx i u j) u.kids[j]∧u.kids[j].size<u.size
theorem NdR.ext {w w':World} {l:List Nd} {nv:Value} {N i:Nat} {u:T} {kv:Value} (h:NdR w l nv N i u kv) (hE:Ext w w'):NdR w' l nv N i u kv where
 is:=h.is
 len:=h.len
 lt:=h.lt
 cell j hj:=by
  have:=h.cell j hj
  have h2:j<[Value.int .u8 (u.d.kind:Int), .string (mkS u.d.name), .string (mkS u.d.vr), .string (mkS u.d.typ), .int .i64 u.d.n,kv].length:=by simpa using hj
  rw [List.getElem?_eq_getElem h2] at this⊢
  exact hE.cell this
 kis:=h.kis
 klen:=h.klen
 kids:=h.kids.ext hE
 kcell j hj:=⟨hE.cell (h.kcell j hj).1,(h.kcell j hj).2⟩
theorem NdR.row {w:World} {l:List Nd} {nv:Value} {N i:Nat} {u:T} {kv:Value} (h:NdR w l nv N i u kv):Eng.rowAt w (slAddr nv (i*6)) 0 6=some [Value.int .u8 (u.d.kind:Int), .string (mkS u.d.name), .string (mkS u.d.vr), .string (mkS u.d.typ), .int .i64 u.d.n,kv]:=by
 have:=rowAt_of (w:=w) (a:=slAddr nv (i*6)) (l:=[Value.int .u8 (u.d.kind:Int), .string (mkS u.d.name), .string (mkS u.d.vr), .string (mkS u.d.typ), .int .i64 u.d.n,kv]) (i:=0) fun j hj=>by
  have hj6:j<6:=by simpa using hj
  rw [slAddr_add,Nat.zero_add,h.cell j hj6,List.getElem?_eq_getElem hj]
 exact this
theorem strAddW {x y:Bs} (h:x.length+y.length≤1000000000000000000):strBin .add (mkS x) (mkS y)=some (.string (mkS (x++y))):=by
 simp only [strBin,mkS_size,mkS_app]
 rw [if_pos (by unfold maxLen;omega)]
theorem litS (l:Bs):ByteArray.mk l.toArray=mkS l:=rfl
section
variable {w:World} {b:Nat} {nv:Value} {xs:List NV}
end
end Go.L02
namespace Go.L02
open Go Go.Eng Go.RowKit
open Go.Proofs hiding encI
open Go.L01 (Bs Tok encT SlT Own.same retK_c1 isName)
set_option maxRecDepth 100000
set_option maxHeartbeats 2000000
noncomputable def ir90_body:Code:=((Tryz.f90.body).getD .skip)
noncomputable def ir90_k0:IR:= .ret
noncomputable def ir90:IR:=zq [za 2 (.const (zs #[]))] <| .seq (.raw (rawReg ir90_body 1)) (ir90_k0)
def ir90_V:List Nat:=[0,2,3,4,5,6,7,8,9,10,11,12,13]
theorem ir90_calls:C1 90 14 ir90_V ir90 [.tmp 2]:=c1 [1] Tryz.func90
noncomputable def ir90_o1:OT:=zy 3 (zv 0)<|zy 4 (zN (zv 3))<|zy 5 (zf 1 (zv 4))<|zy 6 (zl (zv 5))<|zy 8 (zv 0)<|zy 9 (zN (zv 8))<|zy 10 (zf 1 (zv 9))<|zy 11 (zl (zv 10))<|zy 12 (zL (zv 11))<| .step (zE 7 (.call {callee:= .builtin .unsafeSliceData,args:= #[zt 6],argTypes:= #[112]}) 196) true<| .step (zE 13 (.call {callee:= .builtin .unsafeString,args:= #[zt 7,zt 12],argTypes:= #[196,3]}) 9) false<| .step (za 2 (zv 13)) false<| .done
theorem ir90_o1_ok:ordOf Tryz.prog 14 ir90_V 10 (rawReg ir90_body 1)=some ir90_o1:=by kernel_rfl
def Pr (B b:Nat) (nv:Value) (op:Bool) (bs:Bs) (w:World):Prop:=B≤b∧∃p v,Blk w b #[p,v,nv, .bool op] 116∧(p= .pointer none∨p= .pointer (some ⟨b,0,none⟩))∧w.ownsRow B 5 1 v bs.length (bs.map encB)∧v.ownBlock≠some b
def prP:Nat→TypeId→Prop:=fun _ T=>T≠116∧T≠5
theorem sh116 {w:World} {b:Nat} {p v nv o:Value} (h:Blk w b #[p,v,nv,o] 116):w.shape? b=some (116,4):=by simp [World.shape?,h.heap]
theorem lies116:liesAt Tryz.prog Tryz.prog.depth 116 (4 / Tryz.prog.cellsOf 116) 0 114 1=true:=by kernel_rfl
theorem pr_used (b:Nat) (w:World) (h0:w.cell? ⟨b,0,none⟩=some (.pointer (some ⟨b,0,none⟩))):
  Calls Tryz.prog 177 #[.pointer (some ⟨b,0,none⟩)] w fun e w'=>e= .returned (.tuple #[])∧w'=w:=L01.b_used b w h0
theorem pr_fresh (b:Nat) (w:World) {v nv o:Value} (h:Blk w b #[.pointer none,v,nv,o] 116):
  Calls Tryz.prog 177 #[.pointer (some ⟨b,0,none⟩)] w fun e w'=>e= .returned (.tuple #[])∧w'=w.setCell ⟨b,0,none⟩ (.pointer (some ⟨b,0,none⟩)):=by
 obtain ⟨j,hj,hjs⟩:=L01.info69
 have h0:w.cell? ⟨b,0,none⟩=some (.pointer none):=by rw [h.cell];rfl
 have hsh:=sh116 h
 have hfz:w.frozen? ⟨b,0,none⟩=false:=by simp [World.frozen?,h.heap]
 go_enter Tryz.func177,Tryz.ntmps177
 go_wp2
 rw [Lib.run_to_unsafe w ⟨b,0,none⟩ Tryz.underlying111 Tryz.underlying254 hj (by rw [hjs];decide) hsh (Nat.zero_lt_succ 3)]
 simp only [Result.andThen]
 rw [Oper.upon_value]
 go_wp2
 rw [run_callFunc_extern Tryz.func247 (by kernel_rfl) (by kernel_rfl) (by kernel_rfl) (e:=Extern.AbiNoEscape.same) (by kernel_rfl),Lib.run_noEscape]
 simp only [Result.andThen]
 rw [Oper.upon_value]
 go_wp2
 rw [Lib.run_from_unsafe w ⟨b,0,none⟩ Tryz.underlying254 Tryz.underlying111 hj hsh lies116]
 simp only [Result.andThen]
 rw [Oper.upon_value]
 go_wp2
 go_end0
 exact ⟨rfl,rfl⟩
theorem pr_check {w:World} {b:Nat} {p v nv o:Value} (h:Blk w b #[p,v,nv,o] 116) (hp:p= .pointer none∨p= .pointer (some ⟨b,0,none⟩)):
  Calls Tryz.prog 177 #[.pointer (some ⟨b,0,none⟩)] w fun e w'=>e= .returned (.tuple #[])∧Blk w' b #[.pointer (some ⟨b,0,none⟩),v,nv,o] 116∧Only b w w':=by
 rcases hp with rfl|rfl
 ·refine (pr_fresh b w h).mono ?_
  rintro _ _ ⟨rfl,rfl⟩
  exact ⟨rfl,by simpa using blk_setCell h 0 (.pointer (some ⟨b,0,none⟩)),only_setCell _ _ _ _⟩
 ·refine (pr_used b w (by rw [h.cell];rfl)).mono ?_
  rintro _ _ ⟨rfl,rfl⟩
  exact ⟨rfl,h,Only.refl _ _⟩
theorem ownsRow_keep {w w':World} {B:Nat} {v:Value} {n:Nat} {xs:List Value} (h:w.ownsRow B 5 1 v n xs) (hk:∀k,v.ownBlock=some k→w'.heap[k]? =w.heap[k]?):w'.ownsRow B 5 1 v n xs:=by
 refine ⟨h.1, ?_⟩
 rcases h.2 with h2|⟨g,cap,cur,rfl,hg,hh,r⟩
 ·exact .inl h2
 ·exact .inr ⟨g,cap,cur,rfl,hg,(hk g rfl).trans hh,r⟩
theorem row_blk5 {w:World} {B:Nat} {v:Value} {n:Nat} {xs:List Value} (h:w.ownsRow B 5 1 v n xs) {k:Nat} (hk:v.ownBlock=some k):∃cur,w.heap[k]? =some (.cells cur 5 (0,0)):=by
 rcases h.2 with ⟨rfl,_⟩|⟨g,cap,cur,rfl,hg,hh,r⟩
 ·simp at hk
 ·simp at hk;subst hk;exact ⟨cur,hh⟩
theorem Pr.ext {w w':World} {B b:Nat} {nv:Value} {op:Bool} {bs:Bs} (h:Pr B b nv op bs w) (hE:Ext w w'):Pr B b nv op bs w':=by
 obtain ⟨hB,p,v,hb,hp,hr,hne⟩:=h
 exact ⟨hB,p,v,hb.ext hE,hp,ownsRow_keep hr (fun k hk=>by obtain ⟨cur,hc⟩:=row_blk5 hr hk;exact hE.block k (Array.getElem?_eq_some_iff.1 hc).1),hne⟩
theorem Pr.at' {p:Nat→TypeId→Prop} {w w':World} {B b:Nat} {nv:Value} {op:Bool} {bs:Bs} (h:Pr B b nv op bs w) (hs:SameAt p w w') (h1:∀k,p k 116) (h2:∀k,p k 5):Pr B b nv op bs w':=by
 obtain ⟨hB,q,v,hb,hp,hr,hne⟩:=h
 exact ⟨hB,q,v,hb.at' hs (h1 _),hp,ownsRow_keep hr (fun k hk=>by obtain ⟨cur,hc⟩:=row_blk5 hr hk;exact hs k _ _ _ hc (h2 _)),hne⟩
theorem Pr.nodes {w:World} {B b:Nat} {nv:Value} {op:Bool} {bs:Bs} (h:Pr B b nv op bs w):w.cell? ⟨b,2,none⟩=some nv:=by
 obtain ⟨hB,q,v,hb,hp,hr,hne⟩:=h
 rw [hb.cell];rfl
structure Chg (w0 w w':World):Prop where
 ext:Ext w0 w'
 same:SameAt prP w w'
 size:w.heap.size≤w'.heap.size
theorem Chg.trans {w0 a b c:World} (h:Chg w0 a b) (k:Chg w0 b c):Chg w0 a c:=⟨k.ext,h.same.trans k.same,Nat.le_trans h.size k.size⟩
theorem effW_b {P:Program} {Q:Ks} {d:Option Nat} {b:Builtin} {args:Array Operand} {ats:Array TypeId} {ty:TypeId} {K:Env→World→Prop} {ρ:Env} {w:World} (h:effE P Q d (.call {callee:= .builtin b,args:=args,argTypes:=ats}) ty K ρ w):effW P Q d (.call {callee:= .builtin b,args:=args,argTypes:=ats}) ty K ρ w:=h
end Go.L02
namespace Go.L02
open Go Go.Eng Go.RowKit
open Go.Proofs hiding encI
open Go.L01 (Bs Tok encT SlT Own.same retK_c1 isName)
set_option maxRecDepth 100000
set_option maxHeartbeats 2000000
def ndC (t:T) (kv:Value):List Value:=[Value.int .u8 (t.d.kind:Int), .string (mkS t.d.name), .string (mkS t.d.vr), .string (mkS t.d.typ), .int .i64 t.d.n,kv]
structure StC (w0 W:World) (b:Nat) (nv:Value) (bs ind:Bs) (t:T) (kv:Value) (P I X:Nat):Prop where
 ext:Ext w0 W
 pr:Pr w0.heap.size b nv true bs W
 bP:Blk W P #[.pointer (some ⟨b,0,none⟩)] 110
 bI:Blk W I #[.string (mkS ind)] 9
 bX:Blk W X (ndC t kv).toArray 44
section
variable {w0 W:World} {b:Nat} {nv:Value} {bs ind:Bs} {t:T} {kv:Value} {P I X:Nat}
theorem StC.cs (h:StC w0 W b nv bs ind t kv P I X):W.cell? ⟨P,0,none⟩=some (.pointer (some ⟨b,0,none⟩))∧W.cell? ⟨I,0,none⟩=some (.string (mkS ind))∧W.cell? ⟨X,0,none⟩=some (.int .u8 (t.d.kind:Int))∧W.cell? ⟨X,1,none⟩=some (.string (mkS t.d.name))∧W.cell? ⟨X,3,none⟩=some (.string (mkS t.d.typ))∧W.cell? ⟨X,5,none⟩=some kv:=
 ⟨by rw [h.bP.cell];rfl,by rw [h.bI.cell];rfl,by rw [h.bX.cell];rfl,by rw [h.bX.cell];rfl,by rw [h.bX.cell];rfl,by rw [h.bX.cell];rfl⟩
end
end Go.L02
namespace Go.L02
open Go Go.Eng Go.RowKit
open Go.Proofs hiding encI
open Go.L01 (Bs Tok encT SlT toksV toksV_len toksV_get SlK retT Own.same ownMono retK_c1 retTT isStr leaves_fn scan fV ScanR)
set_option maxRecDepth 100000
set_option maxHeartbeats 2000000
theorem NodeC.rd {q:Nat→Prop} {w:World} {v:Value} {l:List Nd} (h:NodeC q w v l):RdN w v l:=by
 obtain ⟨xs,e,h1,h2⟩:=h
 exact ⟨xs,e,rd_own h1 fun x hx=>(h2 x hx).1⟩
theorem SlC.rd {α:Type} {b T sz:Nat} {C C':List Value→α→Prop} {w:World} {v:Value} {l:List α} (h:SlC b T sz C w v l) (hC:∀c a,C c a→C' c a):RSl sz C' w v l:=by
 obtain ⟨css,h1,h2⟩:=h
 exact ⟨css,L01.own_cells h1,h2.imp hC⟩
theorem SigC.rd {w:World} {cs:List Value} {s:Sig} (h:SigC w cs s):RSig w cs s:=by
 obtain ⟨av,sv,e,h1,h2⟩:=h
 exact ⟨av,sv,e,L01.own_cells h1,L01.own_cells h2⟩
theorem ModC.rd {q:Nat→Prop} {w:World} {cs:List Value} {m:Mod} (h:ModC (NodeC q w) w cs m):RMod w cs m:=by
 obtain ⟨a,b,c,e,h1,h2,h3⟩:=h
 refine ⟨a,b,c,e,h1.rd ?_,h2.rd ?_,h3.rd ?_⟩
 ·rintro _ _ ⟨c,e,h⟩;exact ⟨c,e,h.rd⟩
 ·rintro _ _ ⟨c,e,h⟩;exact ⟨c,e,h.rd⟩
 ·rintro _ _ ⟨c,pv,ndv,e,h1,h2,h3⟩;exact ⟨c,pv,ndv,e,h1.rd,L01.own_cells h2,h3.rd⟩
def RdM (w:World) (v:Value) (l:List Mod):Prop:=RSl 7 (RMod w) w v l
theorem RdM.ext {w w':World} {v:Value} {l:List Mod} (h:RdM w v l) (hE:Ext w w'):RdM w' v l:=RSl.ext h hE fun _ _ h=>h.ext hE
end Go.L02
namespace Go.L02
open Go Go.Eng Go.RowKit
open Go.Proofs hiding encI
open Go.L01 (Bs Tok encT SlT Own.same retK_c1 isName Bd cb177 si67 sz67 info5 put_at strCells_enc b_check)
set_option maxRecDepth 100000
set_option maxHeartbeats 2000000
theorem append_fresh {w W:World} {base:Nat} {v v':Value} {n:Nat} {xs:List Value} (s:ByteArray) (hown:w.ownsRow base 5 1 v n xs) (hlen:n+s.size≤140737488355328) (hr:(Builtin.append_ #[112,9] 112 #[v, .string s]).run Tryz.prog w= .ok v' W) (hnil:v'= .slice none 0 0↔v= .slice none 0 0∧s.size=0):v'.ownBlock=v.ownBlock∨v'.ownBlock=some w.heap.size:=by
 obtain ⟨i,hi,hz,hs,hby⟩:=info5
 have hxl:xs.length=n:=by simpa using hown.1
 rcases hown.2 with ⟨rfl,rfl⟩|⟨g,cap,cur,rfl,hbg,hg,hnc,hcm,hcs,htake⟩
 ·by_cases hm:s.size=0
  ·left;rw [hnil.2 ⟨rfl,hm⟩]
  ·have h2:=run_append_nil_string (P:=Tryz.prog) w 112 9 112 5 i (.int .u8 0) Tryz.underlying112 Tryz.underlying9 hi hz s (by omega) (by omega) (by rw [hby];omega)
   rw [hr] at h2
   cases h2
   right;rfl
 ·have hcs':cur.size=cap:=by simpa using hcs
  by_cases hroom:n+s.size≤cap
  ·have h2:=Lib.run_append_room_string (P:=Tryz.prog) w 112 9 112 5 i Tryz.underlying112 Tryz.underlying9 hi hs g n cap cur hg s hroom (by omega)
   rw [hr] at h2
   cases h2
   left;rfl
  ·have h2:=Lib.run_append_grow_string (P:=Tryz.prog) w 112 9 112 5 i (.int .u8 0) Tryz.underlying112 Tryz.underlying9 hi hz ⟨g,0,none⟩ n cap xs (by rw [hs];simpa using hxl) (hown.cells (g:=g) rfl) s (by omega) (by omega) (by rw [hby];exact growslice_fits (by omega) (by omega))
   rw [hr] at h2
   cases h2
   right;rfl
def BdV (B O:Nat) (v:Value) (bs:Bs) (w:World):Prop:=B≤O∧(∃p,(p= .pointer none∨p= .pointer (some ⟨O,0,none⟩))∧Blk w O #[p,v] 114)∧w.ownsRow B 5 1 v bs.length (bs.map encB)∧v.ownBlock≠some O
theorem BdV.bd {B O:Nat} {v:Value} {bs:Bs} {w:World} (h:BdV B O v bs w):Bd B O bs w:=by
 obtain ⟨hB,⟨p,hp,hb⟩,hr,hne⟩:=h
 rcases hp with rfl|rfl
 ·exact .inl ⟨hB,v,hb.heap,by simpa using hr,hne⟩
 ·exact .inr ⟨hB,v,hb.heap,by simpa using hr,hne⟩
theorem BdV.keep {B O:Nat} {v:Value} {bs:Bs} {w w':World} (h:BdV B O v bs w) (hO:w'.heap[O]? =w.heap[O]?) (hv:∀k,v.ownBlock=some k→w'.heap[k]? =w.heap[k]?):BdV B O v bs w':=by
 obtain ⟨hB,⟨p,hp,hb⟩,hr,hne⟩:=h
 exact ⟨hB,⟨p,hp,⟨hO.trans hb.heap⟩⟩,ownsRow_keep hr hv,hne⟩
theorem BdV.lt {B O:Nat} {v:Value} {bs:Bs} {w:World} (h:BdV B O v bs w):O<w.heap.size∧∀k,v.ownBlock=some k→k<w.heap.size:=by
 obtain ⟨hB,⟨p,hp,hb⟩,hr,hne⟩:=h
 exact ⟨hb.lt,fun k hk=>(hr.lt k hk).2⟩
theorem BdV.ext {B O:Nat} {v:Value} {bs:Bs} {w w':World} (h:BdV B O v bs w) (hE:Ext w w'):BdV B O v bs w':=h.keep (hE.block O h.lt.1) fun k hk=>hE.block k (h.lt.2 k hk)
end Go.L02
namespace Go.L02
open Go Go.Eng
open Go.L01 (Bs Tok)
set_option maxRecDepth 100000
set_option maxHeartbeats 2000000
def exB:Bs:=[112,114,111,99,32,112,40,41,32,105,115,32,120,32,58,61,32,97,91,105,110,116,93,59,32,112,117,116,32,49,32,101,110,100]
def exC:Bs:=[112,114,111,99,32,112,40,41,32,115,105,103,110,97,108,115,40,98,44,32,97,41,32,105,115,32,101,110,100]
theorem op1:isOp [103,101,116,95,102]=true:=by decide+kernel
theorem op2:isOp [103,101,116,95]=false:=by decide+kernel
end Go.L02
namespace Go.L02
open Go Go.Eng Go.Proofs
set_option maxRecDepth 100000
set_option maxHeartbeats 2000000
noncomputable def ir4_k0:IR:=zq [zc 14 14 #[] #[] 4,za 15 (zv 14),zg 15 true 16 (zv 0),zh 15 true 17 22 #[zt 16] #[9] 4,zg 15 true 18 (zv 0),zh 15 true 19 23 #[zt 18] #[9] 4,za 22 (.ite (zv 15) (.op2 (.bbin .eql) (zv 17) (zv 19)) (.const (zb false))),zg 22 true 23 (zv 0),zh 22 true 24 24 #[zt 23] #[9] 4,zg 22 true 25 (zv 0),zh 22 true 26 25 #[zt 25] #[9] 4,za 29 (.ite (zv 22) (.op2 (.bbin .eql) (zv 24) (zv 26)) (.const (zb false))),zg 29 true 30 (zv 1),zh 29 true 31 26 #[zt 30] #[29] 24,zg 29 true 32 (zv 1),zh 29 true 33 27 #[zt 32] #[29] 24,za 4 (.ite (zv 29) (zI .eql (zv 31) (zv 33)) (.const (zb false)))] <| .ret
noncomputable def ir4:IR:=zq [za 4 (.const (zb false)),za 8 (zI .gtr (zT (zv 0)) (.const (zk 200))),zg 8 false 9 (zv 1),zh 8 false 10 21 #[zt 9] #[29] 4,za 12 (.ite (zv 8) (.const (zb true)) (zn (zv 10)))] <| .seq (.cond (zv 12) (zq [zc 13 14 #[] #[] 4,za 4 (zv 13)] <| .ret) (.skip)) (ir4_k0)
def ir4_V:List Nat:=[0,1,4,8,9,10,12,13,14,15,16,17,18,19,22,23,24,25,26,29,30,31,32,33]
theorem ir4_calls:C2 4 36 ir4_V ir4 [.tmp 4]:=c2 [] Tryz.func4
noncomputable def ir21_k0:IR:= .reg [za 11 (zI .add (zv 11) (.const (zk 1)))]
noncomputable def ir21_k1:IR:= .seq (.block 1 (zq [za 14 (zM 6 (zx 6 (zv 9) (zv 11))),zE 4 (.alloc 44) 0,zw 44 (zt 4) (zt 14),za 36 (.ite (.ite (.ite (zI .gtr (zT (zo 1 (zv 4))) (.const (zk 40))) (.const (zb true)) (zI .gtr (zT (zo 2 (zv 4))) (.const (zk 110)))) (.const (zb true)) (zI .gtr (zT (zo 3 (zv 4))) (.const (zk 110)))) (.const (zb true)) (zI .gtr (zL (zo 5 (zv 4))) (.const (zk 420))))] <| .cond (zv 36) (zq [za 2 (.const (zb false))] <| .ret) (.skip))) (ir21_k0)
noncomputable def ir21_l2:IR:=zq [za 12 (zI .lss (zv 11) (zv 10))] <| .seq (.cond (zv 12) (.skip) (.exit 0)) (ir21_k1)
noncomputable def ir21_k3:IR:=zq [za 2 (.ite (zI .leq (zL (zv 0)) (.const (zk 120))) (.const (zb true)) (.ite (zI .gtr (zL (zv 0)) (.const (zk 400))) (zI .leq (zL (zv 0)) (.const (zk 410))) (.const (zb false))))] <| .ret
noncomputable def ir21:IR:=zq [za 2 (.const (zb false)),za 5 (zv 0),za 7 (zL (zv 0)),zE 8 (.call {callee:= .builtin .min,args:= #[zt 7,(.const (zk 420))],argTypes:= #[3,3]}) 3,za 9 (.op3 (.slLoHi 6) (zv 5) (.const (zk 0)) (zv 8)),za 10 (zL (zv 9)),za 11 (.const (zk 0))] <| .seq (.block 0 (.loop ir21_l2)) (ir21_k3)
def ir21_V:List Nat:=[0,2,4,5,7,8,9,10,11,12,14,36]
theorem ir21_calls:C1 21 51 ir21_V ir21 [.tmp 2]:=c1 [] Tryz.func21
end Go.L02
namespace Go.L02
open Go Go.Eng Go.RowKit
open Go.Proofs hiding encI
open Go.L01 (Bs Tok encT)
set_option maxRecDepth 100000
set_option maxHeartbeats 2000000
theorem g26:Tryz.prog.eqGuardType Tryz.prog.depth 26=false:=by kernel_rfl
theorem flds26 : ((Tryz.prog.fieldsOf 26).toList.map fun f => (f.name == "_", f.type, f.offset)) = [(false, 24, 0), (false, 3, 1)] := by kernel_rfl
theorem stru26:Tryz.prog.underlying 26=some (.struct (Tryz.prog.fieldsOf 26)):=by kernel_rfl
theorem held26:Tryz.prog.stoodInHeld 26=false:=by kernel_rfl
theorem eqFlt (a b c d:Int) (w:World):(Op.equalIn 10000 26 (.agg #[.int .i64 a, .int .i64 b]) (.agg #[.int .i64 c, .int .i64 d])).run Tryz.prog w= .ok (decide (a=c)&&decide (b=d)) w:=by
 have hf:=flds26
 obtain ⟨f1,f2,hfl⟩:∃f1 f2,(Tryz.prog.fieldsOf 26).toList=[f1,f2]:=by
  match h:(Tryz.prog.fieldsOf 26).toList with
  |[f1,f2]=>exact ⟨f1,f2,rfl⟩
  |[] |[_] |_::_::_::_=>rw [h] at hf;simp at hf
 rw [hfl] at hf
 simp at hf
 obtain ⟨⟨n1,t1,o1⟩,n2,t2,o2⟩:=hf
 have e:=run_equalIn_agg (P:=Tryz.prog) w 9999 26 #[.int .i64 a, .int .i64 b] #[.int .i64 c, .int .i64 d] stru26 held26
 have p1:∀(cs:Array Value) (v:Value) (off t:Nat),isAggT Tryz.prog t=some false→cs[off]? =some v→(Go.part t cs off).run Tryz.prog w= .ok v w:=fun cs v off t h1 h2=>run_part1 h1 h2
 have i24:isAggT Tryz.prog 24=some false:=by kernel_rfl
 have i3:isAggT Tryz.prog 3=some false:=by kernel_rfl
 have q1:=run_equalIn_int (P:=Tryz.prog) w 9998 24 .i64 .i64 a c (by kernel_rfl)
 have q3:=run_equalIn_int (P:=Tryz.prog) w 9998 3 .i64 .i64 b d (by kernel_rfl)
 refine e.trans ?_
 rw [hfl]
 have a1:=p1 #[.int .i64 a, .int .i64 b] (.int .i64 a) 0 24 i24 rfl
 have a2:=p1 #[.int .i64 a, .int .i64 b] (.int .i64 b) 1 3 i3 rfl
 have b1:=p1 #[.int .i64 c, .int .i64 d] (.int .i64 c) 0 24 i24 rfl
 have b2:=p1 #[.int .i64 c, .int .i64 d] (.int .i64 d) 1 3 i3 rfl
 have hki:(a==c)=decide (a=c):=by rw [Bool.eq_iff_iff];simp
 have hli:(b==d)=decide (b=d):=by rw [Bool.eq_iff_iff];simp
 rw [hki] at q1
 rw [hli] at q3
 generalize decide (a=c)=x at q1
 generalize decide (b=d)=z at q3
 simp only [Nat.reduceAdd] at q1 q3
 cases x<;>cases z<;>simp [Op.eqFields,n1,n2,t1,t2,o1,o2,a1,a2,b1,b2,q1,q3]
@[simp] theorem cbr14:callB Tryz.prog 14=true:=by kernel_rfl
@[simp] theorem cbr21:callB Tryz.prog 21=true:=by kernel_rfl
def goV (b:Bool) (o:Option Value) (d:Nat) (K:Env→World→Prop) (ρ:Env) (w:World):Prop:=if b then onV o (fun v=>K (upd ρ d v) w) else K (upd ρ d undef) w
def goE (P:Program) (Q:Ks) (b:Bool) (d:Option Nat) (op:Op) (ty:TypeId) (K:Env→World→Prop) (ρ:Env) (w:World):Prop:=if b then effW P Q d op ty K ρ w else K (updO ρ d undef) w
section
variable {P:Program} {Q:Ks} {K:Env→World→Prop} {ρ:Env} {w:World} {r:List St}
@[simp] theorem goV_t {d:Nat} {v:Value}:goV true (some v) d K ρ w=K (upd ρ d v) w:=rfl
@[simp] theorem goV_f {o:Option Value} {d:Nat}:goV false o d K ρ w=K (upd ρ d undef) w:=rfl
@[simp] theorem goE_t {d:Option Nat} {op:Op} {ty:TypeId}:goE P Q true d op ty K ρ w=effW P Q d op ty K ρ w:=rfl
@[simp] theorem goE_f {d:Option Nat} {op:Op} {ty:TypeId}:goE P Q false d op ty K ρ w=K (updO ρ d undef) w:=rfl
end
def okR (w:World):Ending→World→Prop:=fun e w'=>e= .returned (.bool true)∧Ext w w'
end Go.L02
namespace Go.L02
open Go Go.Eng Go.RowKit
open Go.Proofs hiding encI
open Go.L01 (Bs Tok encT)
set_option maxRecDepth 100000
set_option maxHeartbeats 2000000
def ndSm (x:Nd):Bool:=decide (x.d.name.length≤40)&&decide (x.d.vr.length≤110)&&decide (x.d.typ.length≤110)&&decide (x.kids.length≤420)
def fewB (l:List Nd):Bool:=(l.take 420).all ndSm&&(decide (l.length≤120)||(decide (400<l.length)&&decide (l.length≤410)))
theorem few_len {l:List Nd} (h:fewB l=true):l.length≤410:=by
 simp only [fewB,Bool.and_eq_true,Bool.or_eq_true,decide_eq_true_eq] at h
 omega
theorem few_all {l:List Nd} (h:fewB l=true):∀x∈l,ndSm x=true:=by
 have hl:=few_len h
 simp only [fewB,Bool.and_eq_true] at h
 have:=h.1
 rw [List.take_of_length_le (by omega)] at this
 exact List.all_eq_true.1 this
theorem few_nok {l:List Nd} (h:fewB l=true) (hk:∀x∈l,x.d.kind<256):NOk l:=by
 have h':=few_all h
 refine ⟨fun x hx=> ?_,fun x hx=> ?_⟩
 ·have:=h' x hx
  simp only [ndSm,Bool.and_eq_true,decide_eq_true_eq] at this
  exact ⟨hk x hx,by omega,by omega,by omega⟩
 ·have:=h' x hx
  simp only [ndSm,Bool.and_eq_true,decide_eq_true_eq] at this
  omega
theorem p_few {w:World} {lv:Value} {xs:List NV} (hR:Rd w lv xs) (hlen:xs.length<4611686018427387904) (hkl:∀x∈xs,x.nd.kids.length<4611686018427387904):Calls Tryz.prog 21 #[lv] w fun e w'=>e= .returned (.bool (fewB (xs.map (·.nd))))∧Ext w w':=by
 have hl:=hR.len
 have his:=hR.cells.is
 have hcap:=isSl_le his
 generalize hRR:(fun (e:Ending) (w':World)=>e= .returned (.bool (fewB (xs.map (·.nd))))∧Ext w w')=R
 refine ir21_calls fun ρ r0=> ?_
 simp -implicitDefEqProofs [ir21,r0,his,hl]
 refine eff_min (x:=(xs.length:Int)) (y:=420) (k:= .i64) (by simp) (by simp) ?_
 obtain ⟨m,hm,hmm⟩:∃m:Nat,(if (420:Int)<(xs.length:Int) then 420 else (xs.length:Int))=(m:Int)∧m=min xs.length 420:=by
  refine ⟨min xs.length 420, ?_,rfl⟩
  split<;>omega
 rw [hm]
 have hml:m≤slCap lv:=by omega
 have hml':(m:Int)≤(slCap lv:Int):=by omega
 have hs1:=isSl_sub his 6 0 m (slCap lv) (Nat.zero_le _) hml (Nat.le_refl _)
 have hs2:slLen (slSub lv 6 0 m (slCap lv))=m:=by rw [slLen_sub _ _ _ _ his];omega
 have hsa:∀j,0<m→slAddr (slSub lv 6 0 m (slCap lv)) j=slAddr lv j:=fun j h0=>by rw [slAddr_sub 6 0 m _ j his (by omega) (by omega)];simp
 generalize hsv:slSub lv 6 0 m (slCap lv)=sv at hs1 hs2 hsa
 simp -implicitDefEqProofs [his,hml,hml',hsv,hs1,hs2]
 have hfe:fewB (xs.map (·.nd))=((xs.take m).all (fun x=>ndSm x.nd)&&(decide (xs.length≤120)||(decide (400<xs.length)&&decide (xs.length≤410)))):=by
  unfold fewB
  rw [List.length_map,←List.map_take,List.all_map]
  congr 2
  rw [hmm]
  by_cases h:xs.length≤420
  ·rw [List.take_of_length_le (by omega),List.take_of_length_le (by omega)]
  ·rw [show min xs.length 420=420 by omega]
 obtain ⟨J,hJ⟩:∃J:Nat→Env→World→Prop,∀j ρ' w',J j ρ' w'↔(ρ' 0=lv∧ρ' 9=sv∧ρ' 10= .int .i64 (m:Int)∧(xs.take j).all (fun x=>ndSm x.nd)=true∧Ext w w'):=⟨_,fun _ _ _=>Iff.rfl⟩
 refine loopC 11 m J (by simp) ((hJ _ _ _).2 ⟨by simp [r0],by simp,by simp,by simp,ext_refl _⟩) ?_
 clear r0
 rintro j ρ' w' hj rj hJw
 obtain ⟨r0,r9,r10,hall,hE⟩:=(hJ _ _ _).1 hJw
 have hwj:IntKind.i64.wrap ((j:Int)+1)=(j:Int)+1:=i64w (by omega)
 by_cases hlt:j<m
 ·have hltj:(j:Int)<(m:Int):=by omega
  have hjx:j<xs.length:=by omega
  have hR':=hR.ext hE
  have hrow:=hR'.row hjx
  rw [←hsa (j*6) (by omega)] at hrow
  have hk:=hR'.kids xs[j] (List.getElem_mem _)
  have hkL:slLen xs[j].kv=xs[j].nd.kids.length:=by simpa using hk.len.symm
  have hkc:=isSl_cells hk.is
  have hko:=isSl_one hk.is
  have htk:(xs.take (j+1)).all (fun x=>ndSm x.nd)=ndSm xs[j].nd:=by rw [List.take_succ_eq_append_getElem hjx,List.all_append,hall];simp
  have hno:ndSm xs[j].nd=false→fewB (xs.map (·.nd))=false:=fun h=>by
   rw [hfe]
   have:(xs.take m).all (fun x=>ndSm x.nd)=false:=by
    rw [List.all_eq_false]
    exact ⟨xs[j],List.mem_iff_getElem.2 ⟨j,by rw [List.length_take];omega,by simp⟩,by simp [h]⟩
   rw [this];rfl
  generalize xs[j]=x at hrow hk hkL hkc hko htk hno
  simp -implicitDefEqProofs [ir21_l2,rj,r10,hltj,hlt,ir21_k1,r9,hs1,hs2,hrow]
  refine eff_alloc z44' fun X w1 hX hE1 hb1 _=> ?_
  simp -implicitDefEqProofs
  refine eff_storeN (B:=X) (by simp) hb1 (by simp [Value.cells,ndV,hkc]) (by simp [Value.cells,ndV,hkc,hko]) (by simpa [Value.cells,ndV,hkc] using sz44) fun w2 hO2 hb2=> ?_
  simp -implicitDefEqProofs [Value.cells,ndV,hkc] at hb2
  have hE2:Ext w' w2:=hO2.ext hE1 hX
  have c1:w2.cell? ⟨X,1,none⟩=some (.string (mkS x.nd.d.name)):=by rw [hb2.cell];rfl
  have c2:w2.cell? ⟨X,2,none⟩=some (.string (mkS x.nd.d.vr)):=by rw [hb2.cell];rfl
  have c3:w2.cell? ⟨X,3,none⟩=some (.string (mkS x.nd.d.typ)):=by rw [hb2.cell];rfl
  have c5:w2.cell? ⟨X,5,none⟩=some x.kv:=by rw [hb2.cell];rfl
  have bad:ndSm x.nd=false→R (.returned (.bool false)) w2:=fun h=>by rw [←hRR];exact ⟨by rw [hno h],hE.trans' hE2⟩
  have nd0:ndSm x.nd=(decide (x.nd.d.name.length≤40)&&decide (x.nd.d.vr.length≤110)&&decide (x.nd.d.typ.length≤110)&&decide (x.nd.kids.length≤420)):=rfl
  by_cases q1:40<x.nd.d.name.length
  ·have q1':(40:Int)<(x.nd.d.name.length:Int):=by omega
   simp -implicitDefEqProofs [c1,q1,q1']
   exact bad (by rw [nd0];simp;omega)
  have q1':¬(40:Int)<(x.nd.d.name.length:Int):=by omega
  by_cases q2:110<x.nd.d.vr.length
  ·have q2':(110:Int)<(x.nd.d.vr.length:Int):=by omega
   simp -implicitDefEqProofs [c1,q1,q1',c2,q2,q2']
   exact bad (by rw [nd0];simp;omega)
  have q2':¬(110:Int)<(x.nd.d.vr.length:Int):=by omega
  by_cases q3:110<x.nd.d.typ.length
  ·have q3':(110:Int)<(x.nd.d.typ.length:Int):=by omega
   simp -implicitDefEqProofs [c1,q1,q1',c2,q2,q2',c3,q3,q3']
   exact bad (by rw [nd0];simp;omega)
  have q3':¬(110:Int)<(x.nd.d.typ.length:Int):=by omega
  by_cases q4:420<x.nd.kids.length
  ·have q4':(420:Int)<(x.nd.kids.length:Int):=by omega
   simp -implicitDefEqProofs [c1,q1,q1',c2,q2,q2',c3,q3,q3',c5,hk.is,hkL,q4,q4']
   exact bad (by rw [nd0];simp;omega)
  have q4':¬(420:Int)<(x.nd.kids.length:Int):=by omega
  simp -implicitDefEqProofs [c1,q1,q1',c2,q2,q2',c3,q3,q3',c5,hk.is,hkL,q4,q4',ir21_k0,rj,hwj]
  refine (hJ _ _ _).2 ⟨by simp [r0],by simp [r9],by simp [r10], ?_,hE.trans' hE2⟩
  rw [htk,nd0]
  simp;omega
 ·have hltj:¬(j:Int)<(m:Int):=by omega
  have hjm:j=m:=by omega
  subst hjm
  rw [hall,Bool.true_and] at hfe
  simp -implicitDefEqProofs [ir21_l2,rj,r10,ir21_k3,r0,his,hl]
  rw [←hRR]
  by_cases p1:xs.length≤120
  ·have p1':(xs.length:Int)≤120:=by omega
   simp [p1,p1']
   exact ⟨by rw [hfe];simp [p1],hE⟩
  ·have p1':¬(xs.length:Int)≤120:=by omega
   by_cases p2:400<xs.length
   ·have p2':(400:Int)<(xs.length:Int):=by omega
    by_cases p3:xs.length≤410
    ·have p3':(xs.length:Int)≤410:=by omega
     simp [p1,p1',p2,p2',p3,p3']
     exact ⟨by rw [hfe];simp [p1,p2,p3],hE⟩
    ·have p3':¬(xs.length:Int)≤410:=by omega
     simp [p1,p1',p2,p2',p3,p3']
     exact ⟨by rw [hfe];simp [p1,p2,p3],hE⟩
   ·have p2':¬(400:Int)<(xs.length:Int):=by omega
    simp [p1,p1',p2,p2']
    exact ⟨by rw [hfe];simp [p1,p2],hE⟩
end Go.L02
namespace Go.L02
open Go Go.Eng Go.RowKit
open Go.Proofs hiding encI
open Go.L01 (Bs Tok encT toksV scan fV isName)
set_option maxRecDepth 100000
set_option maxHeartbeats 2000000
noncomputable section
theorem mk_of (b:ByteArray):mkS b.data.toList=b:=by cases b;simp [mkS]
section
variable {σ:Sg} {w0 w W:World} {s s':Sx}
theorem own_obj (hI:Iv σ w0 s w) (hE:Ext w W) {v':Value} {t sz n i:Nat} {cs cs':List Value} (hc:VRs σ cs cs') (ho:Own w.heap.size t sz W v' cs') (hl:cs.length=n*sz) (h1:1≤cs.length) (hsz:sz≠0) {k:Option Nat} (h:newX s k ⟨cs,t,sz,false,false⟩=some (i,s')):
  ∃τ,σ.le τ∧Iv τ w0 s' W∧VR τ (.slice (some ⟨i,0,none⟩) n n) v':=by
 have hll:=hc.len
 rcases ho with ⟨_,hnil⟩|⟨g,off,n',cap,cur,rfl,hgb,hgh,hl2,hnc,hcm,hroom,htake⟩
 ·rw [hnil,List.length_nil] at hll;omega
 ·have hn:n'=n:=Nat.eq_of_mul_eq_mul_right (Nat.pos_of_ne_zero hsz) (by rw [←hl,hll,←hl2])
  subst hn
  obtain ⟨τ,hle,hi,hI'⟩:=new_ok hI h (b:=g) (f:=off) (x:=cap - n') (hI.mr.ext hE) (hI.ext.trans' hE) (Nat.le_trans hI.ext.size hgb) (fun j oj pj hj hp he=>by
   obtain ⟨p,hp',hlt⟩:=hI.mr.at' hj
   rw [hp] at hp';cases hp'
   omega) fun τ hle hi=>⟨fun hz=>absurd hz hsz,fun _=>⟨cur,hi,hgh,by
    dsimp only
    rw [hl,htake];exact hc.mono hle,by
    dsimp only
    rw [hl]
    have:n'*sz+(cap - n')*sz=cap*sz:=by rw [←Nat.add_mul];congr 1;omega
    omega,(fun hx=>by cases hx),fun _=>⟨n',hl,by omega⟩,(fun hx=>by cases hx)⟩⟩
  refine ⟨τ,hle,hI', ?_⟩
  have:=VR.slc (σ:=τ) (o:=0) (n:=n') (c:=n') hi (Nat.le_refl _)
  rwa [show n'+(cap - n')=cap by omega] at this
theorem tup2 {a b a' b':Value} (h1:VR σ a a') (h2:VR σ b b'):VR σ (.tuple #[a,b]) (.tuple #[a',b']):=by
 obtain ⟨h3,h4⟩:=VRs.arr (cs:= #[a,b]) (ds:= #[a',b']) ⟨h1,h2,trivial⟩
 exact .tup h3 h4
theorem plain_call {P:Program} {f:FuncId} {args:Array Value} {v:Value} (hI:Iv σ w0 s w) (hv:constB v=true) (h:Calls P f args w fun e w'=>e= .returned v∧Ext w w'):Calls P f args w (CallAfter σ w0 (.ret v s)):=
 h.mono fun _ w' hh=>⟨σ,v,Sg.le_refl σ,hI.toExt hh.2,constB_ok hv,hh.1⟩
theorem str1 {b:ByteArray} {args':List Value} (h:VRs σ [.string b] args'):args'=[.string (mkS b.data.toList)]:=by
 rw [mk_of]
 match args',h with
 |[x],h=>rw [h.1.uniq (.pln (v:= .string b) rfl)]
def strsX:List Value→Option (List Bs)
 |[]=>some []
 | .string b::l=>match strsX l with|some r=>some (b.data.toList::r)|none=>none
 |_=>none
theorem strsX_ok:∀{l l':List Value} {ss:List Bs},VRs σ l l'→strsX l=some ss→l'=ss.map encT
 |[],[],ss,_,h=>by cases h;rfl
 |a::l,b::m,ss,hv,h=>by
  unfold strsX at h
  split at h
  ·rename_i he;cases he
  ·rename_i b1 l1 he
   cases he
   split at h
   ·rename_i r hr
    cases h
    rw [strsX_ok hv.2 hr,hv.1.uniq (.pln (v:= .string b1) rfl)]
    simp [encT,mk_of]
   ·cases h
  ·cases h
def intsX:List Value→Option (List Int)
 |[]=>some []
 | .int .i64 n::l=>match intsX l with|some r=>some (n::r)|none=>none
 |_=>none
theorem intsX_ok:∀{l l':List Value} {ns:List Int},VRs σ l l'→intsX l=some ns→l'=ns.map encI
 |[],[],ns,_,h=>by cases h;rfl
 |a::l,b::m,ns,hv,h=>by
  unfold intsX at h
  split at h
  ·rename_i he;cases he
  ·rename_i b1 l1 he
   cases he
   split at h
   ·rename_i r hr
    cases h
    rw [intsX_ok hv.2 hr,hv.1.uniq (.pln (v:= .int .i64 b1) rfl)]
    rfl
   ·cases h
  ·cases h
def nodeX (H:Mem) (k:Int) (a b c:ByteArray) (n:Int) (kv:Value):Option Nd:=
 match sliceX H 1 kv with
 |some ks=>match intsX ks with
  |some is=>bif decide (0≤k) then some ⟨⟨k.toNat,a.data.toList,b.data.toList,c.data.toList,n⟩,is⟩ else none
  |none=>none
 |none=>none
def nodesX (H:Mem):List Value→Option (List Nd)
 |[]=>some []
 | .int .u8 k:: .string a:: .string b:: .string c:: .int .i64 n::kv::l=>match nodeX H k a b c n kv,nodesX H l with
  |some x,some r=>some (x::r)
  |_,_=>none
 |_=>none
theorem nodesX_ok (hI:Iv σ w0 s w):∀(n:Nat) {l l':List Value} {ns:List Nd},l.length≤n→VRs σ l l'→nodesX s.H l=some ns→∃xs:List NV,nvV xs=l'∧xs.map (·.nd)=ns∧∀x∈xs,Cells w x.kv 1 (x.nd.kids.map encI)
 |0,l,l',ns,hn,hv,h=>by
  obtain rfl:=List.length_eq_zero_iff.1 (Nat.le_zero.1 hn)
  cases h
  cases l' with
  |nil=>exact ⟨[],rfl,rfl,fun x hx=>by simp at hx⟩
  |cons _ _=>exact hv.elim
 |n'+1,l,l',ns,hn,hv,h=>by
  unfold nodesX at h
  split at h
  ·cases h
   cases l' with
   |nil=>exact ⟨[],rfl,rfl,fun x hx=>by simp at hx⟩
   |cons _ _=>exact hv.elim
  ·rename_i k a b c n kv l1
   have hn1:l1.length≤n':=by simp at hn;omega
   obtain ⟨u1,u2,u3,u4,u5,u6,m,rfl⟩:∃u1 u2 u3 u4 u5 u6 m,l'=u1::u2::u3::u4::u5::u6::m:=by
    have:=hv.len
    match l',this with
    |u1::u2::u3::u4::u5::u6::m,_=>exact ⟨u1,u2,u3,u4,u5,u6,m,rfl⟩
    |[],e|[_],e|[_,_],e|[_,_,_],e|[_,_,_,_],e|[_,_,_,_,_],e=>simp at e
   obtain ⟨h1,h2,h3,h4,h5,h6,hv⟩:=hv
   split at h
   ·rename_i x r hx hr
    cases h
    obtain ⟨xs,e1,e2,e3⟩:=nodesX_ok hI n' hn1 hv hr
    unfold nodeX at hx
    split at hx
    ·rename_i ks hks
     split at hx
     ·rename_i is his
      obtain ⟨hk,hx⟩:=bifP hx
      have hk:0≤k:=by simpa using hk
      cases hx
      obtain ⟨ks',g1,g2⟩:=sliceX_ok hI h6 hks
      refine ⟨⟨⟨⟨k.toNat,a.data.toList,b.data.toList,c.data.toList,n⟩,is⟩,u6⟩::xs, ?_,by simp [e2],fun y hy=> ?_⟩
      ·show ndV _++nvV xs=_
       rw [e1]
       have ek:((k.toNat:Nat):Int)=k:=Int.toNat_of_nonneg hk
       rw [h1.uniq (.pln (v:= .int .u8 k) rfl),h2.uniq (.pln (v:= .string a) rfl),h3.uniq (.pln (v:= .string b) rfl),h4.uniq (.pln (v:= .string c) rfl),h5.uniq (.pln (v:= .int .i64 n) rfl)]
       simp [ndV,mk_of,ek]
      ·rcases List.mem_cons.1 hy with rfl|hy
       ·rw [←intsX_ok g2 his];exact g1
       ·exact e3 y hy
     ·cases hx
    ·cases hx
   ·cases h
  ·cases h
end
def p53 (s:Sx):List Value→Option (Value×Sx)
 |[.string b]=>bif Nat.blt b.size 4611686018427387904&&Nat.ble 1 (toksV (scan b.data.toList).toks).length&&(toksV (scan b.data.toList).toks).all plainV then
   (match newX s none ⟨toksV (scan b.data.toList).toks,53,3,false,false⟩ with
   |some (i,s')=>some (.tuple #[.slice (some ⟨i,0,none⟩) (scan b.data.toList).toks.length (scan b.data.toList).toks.length,fV b.data.toList],s')
   |none=>none) else none
 |_=>none
def p77 (s:Sx):List Value→Option (Value×Sx)
 |[.string b]=>some (.bool (isName b.data.toList),s)
 |_=>none
def p22 (s:Sx):List Value→Option (Value×Sx)
 |[.string b]=>bif Nat.blt b.size 4611686018427387904 then some (.bool (isType b.data.toList),s) else none
 |_=>none
def p24 (s:Sx):List Value→Option (Value×Sx)
 |[.string b]=>bif Nat.blt b.size 4294967281 then some (.bool (isOp b.data.toList),s) else none
 |_=>none
def p34 (s:Sx):List Value→Option (Value×Sx)
 |[v, .string b]=>match sliceX s.H 1 v with
  |some l=>match strsX l with
   |some ss=>bif Nat.ble ss.length 100000000000000&&Nat.ble (joinB b.data.toList ss).length 100000000000000 then some (.string (mkS (joinB b.data.toList ss)),s) else none
   |none=>none
  |none=>none
 |_=>none
def rootX (g:FuncId):Option (Nat→Bool):=bif Nat.beq g 65 then some isExprK else bif Nat.beq g 80 then some (isK1 20) else none
def dokB (x:Nd):Bool:=decide (x.d.kind<256)&&decide (x.d.name.length<4294967281)&&decide (x.d.vr.length<4294967281)&&decide (x.d.typ.length<4294967281)&&decide (x.kids.length≤1000000)
def p64 (s:Sx):List Value→Option (Value×Sx)
 |[v, .func (.func g) fs cs]=>match sliceX s.H 6 v with
  |some l=>match nodesX s.H l,rootX g with
   |some ns,some root=>bif fs.isEmpty&&cs.isEmpty&&ns.all dokB then some (.bool (whole ns root),s) else none
   |_,_=>none
  |none=>none
 |_=>none
def atoiV (b:Bs):Option Int:=match Lib.atoiAll b with| .ok n=>some n|_=>none
def p273 (s:Sx):List Value→Option (Value×Sx)
 |[.string b]=>bif Nat.ble b.size 20 then (match atoiV b.data.toList with|some n=>some (.tuple #[.int .i64 n, .nilIface],s)|none=>none) else none
 |_=>none
def GM (w:World):Prop:=L01.G w∧MaxL w
section
variable {σ:Sg} {w0 w:World} {s s':Sx} {args args':List Value} {v:Value}
theorem gm (hg:GM w0) (hI:Iv σ w0 s w):L01.G w∧MaxL w:=⟨hg.1.ext hI.ext,hg.2.ext hI.ext⟩
theorem p53_ok (hg:GM w0) (hI:Iv σ w0 s w) (hv:VRs σ args args') (h:p53 s args=some (v,s')):Calls Tryz.prog 53 args'.toArray w (CallAfter σ w0 (.ret v s')):=by
 unfold p53 at h
 split at h
 ·rename_i b
  obtain ⟨hc,h⟩:=bifP h
  simp only [Bool.and_eq_true,Nat.ble_eq,Nat.blt_eq] at hc
  rw [str1 hv]
  split at h
  ·rename_i i s1 hn
   cases h
   refine (L01.t_Scan (gm hg hI).1 b.data.toList hc.1.1).mono ?_
   rintro _ W ⟨u,rfl,ho,hE⟩
   obtain ⟨τ,hl,hI',hu⟩:=own_obj (n:=(scan b.data.toList).toks.length) hI hE (plainsV_ok hc.2) ho (L01.toksV_len _) hc.1.2 (by decide) hn
   exact ⟨τ,_,hl,hI',tup2 hu (constB_ok rfl),rfl⟩
  ·cases h
 ·cases h
theorem p77_ok (hg:GM w0) (hI:Iv σ w0 s w) (hv:VRs σ args args') (h:p77 s args=some (v,s')):Calls Tryz.prog 77 args'.toArray w (CallAfter σ w0 (.ret v s')):=by
 unfold p77 at h
 split at h
 ·rename_i b
  cases h
  rw [str1 hv]
  exact plain_call hI rfl (L01.t_isName (gm hg hI).1 b.data.toList)
 ·cases h
theorem p22_ok (hg:GM w0) (hI:Iv σ w0 s w) (hv:VRs σ args args') (h:p22 s args=some (v,s')):Calls Tryz.prog 22 args'.toArray w (CallAfter σ w0 (.ret v s')):=by
 unfold p22 at h
 split at h
 ·rename_i b
  obtain ⟨hc,h⟩:=bifP h
  cases h
  rw [str1 hv]
  exact plain_call hI rfl (p_IsType (gm hg hI).1 b.data.toList (by simpa [Nat.blt_eq] using hc))
 ·cases h
theorem p24_ok (hg:GM w0) (hI:Iv σ w0 s w) (hv:VRs σ args args') (h:p24 s args=some (v,s')):Calls Tryz.prog 24 args'.toArray w (CallAfter σ w0 (.ret v s')):=by
 unfold p24 at h
 split at h
 ·rename_i b
  obtain ⟨hc,h⟩:=bifP h
  cases h
  rw [str1 hv]
  exact plain_call hI rfl (p_IsOp (gm hg hI).1 (gm hg hI).2 b.data.toList (by simpa [Nat.blt_eq] using hc))
 ·cases h
theorem p34_ok (hI:Iv σ w0 s w) (hv:VRs σ args args') (h:p34 s args=some (v,s')):Calls Tryz.prog 34 args'.toArray w (CallAfter σ w0 (.ret v s')):=by
 unfold p34 at h
 split at h
 ·rename_i u b
  split at h
  ·rename_i l hl
   split at h
   ·rename_i ss hss
    obtain ⟨hc,h⟩:=bifP h
    cases h
    simp only [Bool.and_eq_true,Nat.ble_eq] at hc
    match args',hv with
    |[x,y],hv=>
     obtain ⟨l',h1,h2⟩:=sliceX_ok hI hv.1 hl
     rw [strsX_ok h2 hss] at h1
     have hy:y= .string (mkS b.data.toList):=by rw [mk_of];exact hv.2.1.uniq (.pln (v:= .string b) rfl)
     subst hy
     exact plain_call hI rfl (p_Join b.data.toList h1 hc.1 hc.2)
   ·cases h
  ·cases h
 ·cases h
theorem p64_ok (hg:GM w0) (hI:Iv σ w0 s w) (hv:VRs σ args args') (h:p64 s args=some (v,s')):Calls Tryz.prog 64 args'.toArray w (CallAfter σ w0 (.ret v s')):=by
 unfold p64 at h
 split at h
 ·rename_i u g fs cs
  split at h
  ·rename_i l hl
   split at h
   ·rename_i ns root hns hroot
    obtain ⟨hc,h⟩:=bifP h
    cases h
    simp only [Bool.and_eq_true,Array.isEmpty_iff] at hc
    obtain ⟨⟨rfl,rfl⟩,hd⟩:=hc
    match args',hv with
    |[x,y],hv=>
     obtain ⟨l',h1,h2⟩:=sliceX_ok hI hv.1 hl
     obtain ⟨xs,e1,e2,e3⟩:=nodesX_ok hI l.length (Nat.le_refl _) h2 hns
     have hy:y=FnV g #[]:=hv.2.1.uniq (constB_ok (v:= .func (.func g) #[] #[]) rfl)
     subst hy
     have hk:KndF w (FnV g #[]) root:=by
      unfold rootX at hroot
      cases h65:Nat.beq g 65 with
      |true=>
       rw [h65] at hroot
       cases hroot
       rw [Nat.eq_of_beq_eq_true h65]
       exact kf_expr
      |false=>
       rw [h65] at hroot
       obtain ⟨h80,hroot⟩:=bifP (b:=Nat.beq g 80) hroot
       cases hroot
       rw [Nat.eq_of_beq_eq_true h80]
       exact kf_block
     have hall:∀x∈xs,dokB x.nd=true:=fun x hx=>List.all_eq_true.1 hd x.nd (by rw [←e2];exact List.mem_map.2 ⟨x,hx,rfl⟩)
     have:=p_whole (gm hg hI).1 (gm hg hI).2 (xs:=xs) ⟨by rw [e1];exact h1,e3⟩ (fun x hx=>by
      have:=hall x hx
      simp only [dokB,Bool.and_eq_true,decide_eq_true_eq] at this
      exact ⟨this.1.1.1.1,this.1.1.1.2,this.1.1.2,this.1.2⟩) (fun x hx=>by
      have:=hall x hx
      simp only [dokB,Bool.and_eq_true,decide_eq_true_eq] at this
      exact this.2) hk
     rw [e2] at this
     exact plain_call hI rfl this
   ·cases h
  ·cases h
 ·cases h
theorem p273_ok (hI:Iv σ w0 s w) (hv:VRs σ args args') (h:p273 s args=some (v,s')):Calls Tryz.prog 273 args'.toArray w (CallAfter σ w0 (.ret v s')):=by
 unfold p273 at h
 split at h
 ·rename_i b
  obtain ⟨hc,h⟩:=bifP h
  split at h
  ·rename_i n hn
   cases h
   rw [str1 hv]
   unfold atoiV at hn
   split at hn
   ·rename_i m hm
    cases hn
    refine plain_call hI rfl ((p_atoi (by simpa [Nat.ble_eq] using hc) hm).mono ?_)
    rintro _ W ⟨hE,rfl⟩
    exact ⟨rfl,hE⟩
   ·cases hn
  ·cases h
 ·cases h
end
end
end Go.L02
namespace Go.L02
open Go Go.Eng Go.RowKit
open Go.Proofs hiding encI
open Go.L01 (Bs Tok encT ifc20 leaves_fn)
set_option maxRecDepth 100000
set_option maxHeartbeats 2000000
theorem ob_is {s:Sx} {i:Nat} {o:Ob} (h:isOb s i o=true):s.H.get i=some o:=by
 unfold isOb at h
 split at h
 ·rename_i p hp;rw [hp,obeq_ok h]
 ·cases h
def q54:TrP:=⟨54,83,4,3,85,153⟩
theorem chain_is {c:List PanicEntry} (h:chainB q54 c=true):c=strayC:=by
 unfold chainB at h
 split at h
 ·rename_i p
  obtain ⟨v,re,ge⟩:=p
  simp only [Bool.and_eq_true,Bool.not_eq_true'] at h
  obtain ⟨⟨h1,rfl⟩,rfl⟩:=h
  split at h1
  ·rename_i t cs
   simp only [Bool.and_eq_true,beq_iff_eq,Array.isEmpty_iff] at h1
   obtain ⟨rfl,rfl⟩:=h1
   rfl
  ·cases h1
 ·cases h
theorem one_blk {σ:Sg} {w0 w:World} {s:Sx} (hI:Iv σ w0 s w) {i b:Nat} {v:Value} {t:TypeId} (h:s.H.get i=some ⟨[v],t,1,true,false⟩) (hp:plainV v=true) (hσ:σ i=some (b,0,0)):Blk w b #[v] t:=by
 obtain ⟨b',cs',h1,h2,h3⟩:=blk_of hI h rfl (show (1:Nat)≠0 by decide)
 rw [hσ] at h1
 cases h1
 match cs',h2,h3 with
 |[x],h2,h3=>
  rw [h2.1.uniq (.pln hp)] at h3
  exact h3
theorem try_body {r:Sx→Tk→Option Ou} (hr:Sound Tryz.prog GM r) {s:Sx} {o:Ou} {σ:Sg} {w0 w:World} (hg:GM w0) (hI:Iv σ w0 s w) {b B g i f n:Nat} {cs:List Value} {ds:Array Value} {tv' nv':Value} (hσB:σ b=some (B,0,0)) (hB:Blk w B #[tv', .int .i64 (i:Int), .int .i64 (f:Int),nv'] 85)
  (hsl:isSl nv'=true) (hln:slLen nv'=n) (hcs:VRs σ cs ds.toList) (hcb:callB Tryz.prog g=true) (h:tryB r s q54 b g cs (i:Int) n=some o):
  Calls Tryz.prog 54 #[.pointer (some ⟨B,0,none⟩), .func (.func g) #[] ds] w (CallAfter σ w0 o):=by
 unfold tryB at h
 split at h
 ·cases h
 rename_i iA s1 n1
 split at h
 ·cases h
 rename_i iY s2 n2
 split at h
 ·cases h
 rename_i iN s3 n3
 split at h
 ·cases h
 rename_i iM s4 n4
 generalize hR:CallAfter σ w0 o=R
 refine ir54_calls fun ρ r0 r1 rg=> ?_
 simp [ir54,r0]
 refine eff_box fun A W1 hA hE1 hbA hA1=> ?_
 simp [Value.cells,r0] at hbA
 simp
 refine eff_alloc z4 fun Y W2 hY hE2 hbY hY1=> ?_
 simp
 have hB2:=hB.ext (hE1.trans' hE2)
 have hA2:=hbA.ext hE2
 refine raw_ord (hpn:=tr_hpn (by decide)) ir54_o1_ok (fun W=>Blk W A #[.pointer (some ⟨B,0,none⟩)] 83∧Blk W B #[tv', .int .i64 (i:Int), .int .i64 (f:Int),nv'] 85) fun W3 hE3 _=> ?_
 have hB3:=hB2.ext hE3
 have hA3:=hA2.ext hE3
 have hY3:=hbY.ext hE3
 have hJ:Blk W3 A #[.pointer (some ⟨B,0,none⟩)] 83∧Blk W3 B #[tv', .int .i64 (i:Int), .int .i64 (f:Int),nv'] 85:=⟨hA3,hB3⟩
 refine ⟨hJ, ?_⟩
 have cA:∀W,(Blk W A #[.pointer (some ⟨B,0,none⟩)] 83∧Blk W B #[tv', .int .i64 (i:Int), .int .i64 (f:Int),nv'] 85)→W.cell? ⟨A,0,none⟩=some (.pointer (some ⟨B,0,none⟩))∧W.cell? ⟨B,1,none⟩=some (.int .i64 (i:Int))∧W.cell? ⟨B,3,none⟩=some nv':=fun W h=>⟨by rw [h.1.cell];rfl,by rw [h.2.cell];rfl,by rw [h.2.cell];rfl⟩
 simp+contextual -implicitDefEqProofs [ir54_o1,cA,hJ,hsl]
 have rest:∀(ρ2:Env) (W4:World) (X5 X6:Nat),Ext W3 W4→W3.heap.size≤X5→W3.heap.size≤X6→X5≠X6→Blk W4 X5 #[.int .i64 (i:Int)] 3→Blk W4 X6 #[.int .i64 (n:Int)] 3→ρ2 1=ρ 1→ρ2 2= .pointer (some ⟨A,0,none⟩)→ρ2 4= .pointer (some ⟨Y,0,none⟩)→ρ2 5= .pointer (some ⟨X5,0,none⟩)→ρ2 6= .pointer (some ⟨X6,0,none⟩)→ρ2 gS= .tuple #[]→
   ir54_k0.wp ⟨Tryz.prog,19,ir54_V,dAny⟩ (endK Tryz.prog [.cell1 4] R .returning) (ksD Tryz.prog [.cell1 4] R) ρ2 W4:=by
  intro ρ2 W4 X5 X6 hE4 q5 q6 q56 hb5 hb6 e1 e2 e4 e5 e6 eg
  have hA4:=hA3.ext hE4
  have hY4:=hY3.ext hE4
  have hE04:Ext w W4:=((hE1.trans' hE2).trans' hE3).trans' hE4
  have z1:=hE1.size
  have z2:=hE2.size
  have z3:=hE3.size
  have hI4:=hI.toExt hE04
  have wle:=hI.ext.size
  have low:∀j o p,s.H.get j=some o→σ j=some p→p.1<w.heap.size:=fun j o p hj hp=>by
   obtain ⟨q,hq,hlt⟩:=hI.mr.at' hj
   rw [hp] at hq;cases hq;exact hlt
  obtain ⟨τ1,l1,i1,I1,d1⟩:=push_ok (cs':=[.pointer (some ⟨B,0,none⟩)]) hI4 n1 (b:=A) (by omega) (fun j oj pj hj hp=>by have:=low j oj pj hj hp;omega) hA4 ⟨ptr0 hσB,trivial⟩
  obtain ⟨τ2,l2,i2,I2,d2⟩:=push_ok (cs':=[.bool false]) I1 n2 (b:=Y) (by omega) (fun j oj pj hj hp=>by
   rcases d1 j oj pj hj hp with e|⟨a1,a2⟩
   ·omega
   ·have:=low j oj pj a1 a2;omega) hY4 ⟨.pln rfl,trivial⟩
  have d2':∀j o p,s2.H.get j=some o→τ2 j=some p→p.1<W2.heap.size:=fun j o p hj hp=>by
   rcases d2 j o p hj hp with e|⟨a1,a2⟩
   ·omega
   ·rcases d1 j o p a1 a2 with e|⟨b1,b2⟩
    ·omega
    ·have:=low j o p b1 b2;omega
  obtain ⟨τ3,l3,i3,I3,d3⟩:=push_ok (cs':=[.int .i64 (i:Int)]) I2 n3 (b:=X5) (by omega) (fun j oj pj hj hp=>by have:=d2' j oj pj hj hp;omega) hb5 ⟨.pln rfl,trivial⟩
  obtain ⟨τ4,l4,i4,I4,d4⟩:=push_ok (cs':=[.int .i64 (n:Int)]) I3 n4 (b:=X6) (by omega) (fun j oj pj hj hp=>by
   rcases d3 j oj pj hj hp with e|⟨a1,a2⟩
   ·omega
   ·have:=d2' j oj pj a1 a2;omega) hb6 ⟨.pln rfl,trivial⟩
  have l04:σ.le τ4:=Sg.le_trans l1 (Sg.le_trans l2 (Sg.le_trans l3 l4))
  simp [ir54_k0]
  refine eff_defer (f:=116) (caps:= #[.pointer (some ⟨X5,0,none⟩), .pointer (some ⟨A,0,none⟩), .pointer (some ⟨X6,0,none⟩), .pointer (some ⟨Y,0,none⟩)]) (by simp [e2,e4,e5,e6]) trivial ?_
  have eg':ρ2 1000000000= .tuple #[]:=eg
  simp [gS,e1,r1,eg']
  refine eff_callv (f:=g) hcb (fs:= #[]) (caps:=ds) (by simp) ?_
  simp
  cases ho:r s4 (.call g cs) with
  |none=>rw [ho] at h;cases h
  |some o1=>
   rw [ho] at h
   have hcall:=hr.call _ _ _ _ ho τ4 w0 W4 ds.toList hg I4 (hcs.mono l04)
   rw [Array.toArray_toList] at hcall
   refine hcall.mono ?_
   cases o1 with
   |ret v s'=>
    rintro e w5 ⟨τ,v',hl,hI5,hv',rfl⟩
    obtain ⟨hc,h⟩:=bifP h
    simp only [Bool.and_eq_true] at hc
    obtain ⟨⟨c1,c2⟩,c3⟩:=hc
    cases h
    have hYo:=ob_is c1
    have iY5:=hl _ _ (l4 _ _ (l3 _ _ i2))
    have hY5:=one_blk hI5 hYo rfl iY5
    simp
    refine eff_store1 (B:=Y) (i:=0) (by simp [e4]) hY5 (by simp) (by simp [Value.cells]) (by simp) sz4 fun W6 hO6 hb6=> ?_
    simp at hb6
    simp [ksD,endK,gS,e4]
    refine leaves_fn (by simp) cb116 (d116_none.mono ?_)
    rintro e u' w' ⟨⟨v,rfl⟩,rfl,rfl⟩
    refine leaves_ret ?_
    have cY:w'.cell? ⟨Y,0,none⟩=some (.bool true):=by rw [hb6.cell];rfl
    simp [retK,resVals,RV.val,e4,cY,tupled,←hR]
    exact ⟨τ, .bool true,Sg.le_trans l04 hl,del_ok hI5 hYo (blt_lim c2) iY5 hO6, .pln rfl,rfl⟩
   |pn c s'=>
    rintro e w5 ⟨τ,hl,hI5,rfl⟩
    obtain ⟨hc,h9⟩:=bifP h
    simp only [Bool.and_eq_true,Bool.not_eq_true'] at hc
    obtain ⟨⟨⟨⟨⟨c1,c2⟩,c3⟩,c4⟩,c5⟩,c6⟩:=hc
    obtain rfl:=chain_is c1
    have hYo:=ob_is c3
    have iY5:=hl _ _ (l4 _ _ (l3 _ _ i2))
    have hY5:=one_blk hI5 hYo rfl iY5
    have h55:=one_blk hI5 (ob_is c4) rfl (hl _ _ (l4 _ _ i3))
    have h56:=one_blk hI5 (ob_is c5) rfl (hl _ _ i4)
    have hσB5:τ b=some (B,0,0):=hl _ _ (l04 _ _ hσB)
    have hA5:Blk w5 A #[.pointer (some ⟨B,0,none⟩)] 83:=by
     obtain ⟨b',cs',g1,g2,g3⟩:=blk_of hI5 (ob_is c2) rfl (show (1:Nat)≠0 by decide)
     rw [hl _ _ (l4 _ _ (l3 _ _ (l2 _ _ i1)))] at g1
     cases g1
     match cs',g2,g3 with
     |[x],g2,g3=>
      rw [g2.1.uniq (ptr0 hσB5)] at g3
      exact g3
    unfold backX at h9
    split at h9
    ·rename_i ob hob
     split at h9
     ·rename_i tv i' far a m c hcl
      split at h9
      ·rename_i nv2 hsub
       obtain ⟨hc,h8⟩:=bifP h9
       cases h8
       simp only [Bool.and_eq_true,decide_eq_true_eq,Nat.ble_eq] at hc
       obtain ⟨⟨⟨⟨⟨g1,g2⟩,g3⟩,g4⟩,g5⟩,g6⟩:=hc
       have hobe:=obeq_ok g6
       subst hobe
       obtain ⟨b',cs',k1,k2,k3⟩:=blk_of hI5 hob rfl (show (1:Nat)≠0 by decide)
       rw [hσB5] at k1
       cases k1
       match cs',k2,k3 with
       |[tx,x1,x2,nx],k2,k3=>
        obtain ⟨v1,v2,v3,v4,_⟩:=k2
        obtain ⟨j,rfl⟩:=Int.eq_ofNat_of_zero_le g1
        obtain ⟨f2,rfl⟩:=Int.eq_ofNat_of_zero_le g2
        have u2:=v2.uniq (.pln (v:= .int .i64 (j:Int)) rfl)
        have u3:=v3.uniq (.pln (v:= .int .i64 (f2:Int)) rfl)
        subst u2
        subst u3
        obtain ⟨hsx,hlx⟩:=sl_is v4
        obtain ⟨m1,m2,m3,m4,nv2',m5,m6⟩:=subX_ok v4 hsub
        simp [ksD,endK,gS,e4]
        refine leaves_fn (by simp) cb116 ((d116_stray (n:=n) h55 hA5 h56 (.inr hY5) k3 hsx (by rw [hlx];exact g3)).mono ?_)
        rintro e u' w' ⟨⟨v,rfl⟩,hu,W6,W7,hE6,hO7,hb7,hO8,hb8⟩
        show LeavesV _ _ _ _ [] (settle u') w'
        rw [hu]
        refine leaves_ret ?_
        have cY:w'.cell? ⟨Y,0,none⟩=some (.bool false):=by rw [hb8.cell];rfl
        simp [retK,resVals,RV.val,e4,cY,tupled,←hR]
        have hI6:=hI5.toExt hE6
        have hm5:slSub nx 6 0 n (slCap nx)=nv2':=by simpa using m5
        rw [hm5] at hb7
        have hI7:Iv τ w0 ⟨s'.H.set b ⟨[tv, .int .i64 (i:Int), .int .i64 (f2:Int),nv2],q54.tt,1,true,false⟩,s'.nx,s'.rs⟩ W7:=by
         refine cells_set hI6 hob (blt_lim g4) hσB5 hO7 ⟨(fun hz=>by cases hz),fun _=>⟨_,hσB5,hb7.heap, ?_,by simp,fun _=>⟨rfl,rfl,by simp⟩,(fun hw=>by cases hw),(fun hx=>by cases hx)⟩⟩
         exact ⟨v1, .pln rfl, .pln rfl,m6,trivial⟩
        have hYo2:(s'.H.set b ⟨[tv, .int .i64 (i:Int), .int .i64 (f2:Int),nv2],q54.tt,1,true,false⟩).get iY=some ⟨[.bool false],q54.tb,1,true,false⟩:=by
         rw [Tr.get_set _ _ (blt_lim g4),if_neg (fun e=>by rw [e] at c6;simp at c6)]
         exact hYo
        exact ⟨τ, .bool false,Sg.le_trans l04 hl,del_ok hI7 hYo2 (blt_lim g5) iY5 hO8, .pln rfl,rfl⟩
      ·cases h9
     ·cases h9
    ·cases h9
   |go e s'=>exact fun e w h=>h.elim
   |ex j e s'=>exact fun e w h=>h.elim
   |rt e s'=>exact fun e w h=>h.elim
 refine ⟨?_, ?_⟩
 ·refine eff_alloc z3 fun X5 W4 hX5 hE4 hb4 hs4=>⟨⟨hA3.ext hE4,hB3.ext hE4⟩, ?_⟩
  refine eff_alloc z3 fun X6 W5 hX6 hE5 hb5 hs5=>⟨⟨(hA3.ext hE4).ext hE5,(hB3.ext hE4).ext hE5⟩, ?_⟩
  have l5:W3.heap.size≤X5:=hX5
  have l56:X5≠X6:=by omega
  have z4:=hE4.size
  refine eff_store1 (B:=X5) (i:=0) (by simp) (hb4.ext hE5) (by simp) (by simp [Value.cells]) (by simp) sz3 fun W6 hO6 hb6=> ?_
  simp at hb6
  have hA6:=hO6.blk ((hA3.ext hE4).ext hE5) (by have:=hA3.lt;omega)
  have hB6:=hO6.blk ((hB3.ext hE4).ext hE5) (by have:=hB3.lt;omega)
  refine ⟨⟨hA6,hB6⟩, ?_⟩
  refine eff_store1 (B:=X6) (i:=0) (by simp) (hO6.blk hb5 (Ne.symm l56)) (by simp) (by simp [Value.cells]) (by simp) sz3 fun W7 hO7 hb7=> ?_
  simp [hln] at hb7
  exact rest _ W7 X5 X6 (hO7.ext (hO6.ext (hE4.trans' hE5) l5) (by omega)) l5 (by omega) l56 (hO7.blk hb6 l56) hb7 (by simp) (by simp) (by simp) (by simp) (by simp) (by simp [gS] at rg⊢;exact rg)
 ·refine eff_alloc z3 fun X6 W4 hX6 hE4 hb4 hs4=>⟨⟨hA3.ext hE4,hB3.ext hE4⟩, ?_⟩
  refine eff_alloc z3 fun X5 W5 hX5 hE5 hb5 hs5=>⟨⟨(hA3.ext hE4).ext hE5,(hB3.ext hE4).ext hE5⟩, ?_⟩
  have z4:=hE4.size
  have l5:W3.heap.size≤X5:=by omega
  have l56:X6≠X5:=by omega
  refine eff_store1 (B:=X5) (i:=0) (by simp) hb5 (by simp) (by simp [Value.cells]) (by simp) sz3 fun W6 hO6 hb6=> ?_
  simp at hb6
  have hA6:=hO6.blk ((hA3.ext hE4).ext hE5) (by have:=hA3.lt;omega)
  have hB6:=hO6.blk ((hB3.ext hE4).ext hE5) (by have:=hB3.lt;omega)
  refine ⟨⟨hA6,hB6⟩, ?_⟩
  refine eff_store1 (B:=X6) (i:=0) (by simp) (hO6.blk (hb4.ext hE5) l56) (by simp) (by simp [Value.cells]) (by simp) sz3 fun W7 hO7 hb7=> ?_
  simp [hln] at hb7
  exact rest _ W7 X5 X6 (hO7.ext (hO6.ext (hE4.trans' hE5) l5) hX6) l5 hX6 (Ne.symm l56) (hO7.blk hb6 (Ne.symm l56)) hb7 (by simp) (by simp) (by simp) (by simp) (by simp) (by simp [gS] at rg⊢;exact rg)
theorem t54:TrOk Tryz.prog GM (some q54):=by
 intro q hq r hr s args o h σ w0 w args' hg hI hv
 cases hq
 unfold tryX at h
 split at h
 ·rename_i b g fs cs
  split at h
  ·rename_i ob hob
   unfold tryA at h
   split at h
   ·rename_i tv at0 far a n c hcells
    obtain ⟨hc,h9⟩:=bifP h
    simp only [Bool.and_eq_true,Array.isEmpty_iff,decide_eq_true_eq] at hc
    obtain ⟨⟨⟨⟨rfl,h0⟩,h1⟩,hcb⟩,hobe⟩:=hc
    have hobe:=obeq_ok hobe
    subst hobe
    obtain ⟨B,bs',hσB,hvB,hBlk⟩:=blk_of hI hob rfl (show (1:Nat)≠0 by decide)
    match bs',hvB,hBlk with
    |[tv',x1,x2,nv'],hvB,hBlk=>
     obtain ⟨ht,e1,e2,e3,_⟩:=hvB
     obtain ⟨i,rfl⟩:=Int.eq_ofNat_of_zero_le h0
     obtain ⟨f,rfl⟩:=Int.eq_ofNat_of_zero_le h1
     have u1:=e1.uniq (.pln (v:= .int .i64 (i:Int)) rfl)
     have u2:=e2.uniq (.pln (v:= .int .i64 (f:Int)) rfl)
     subst u1
     subst u2
     obtain ⟨hsl,hln⟩:=sl_is e3
     match args',hv with
     |[y1,y2],hv=>
      obtain ⟨hv1,hv2,_⟩:=hv
      have u3:=hv1.uniq (ptr0 hσB)
      subst u3
      cases hv2 with
      |pln h'=>cases h'
      |fnc k1 k2 k3 k4=>
       rename_i gs ds
       have:gs= #[]:=Array.eq_empty_of_size_eq_zero (by simpa using k1.symm)
       subst this
       exact try_body (cs:=cs.toList) hr hg hI hσB hBlk hsl hln (VRs.of (by simpa using k3) fun j x y hx hy=>k4 j x y (by simpa using hx) (by simpa using hy)) hcb h9
   ·cases h
  ·cases h
 ·cases h
end Go.L02
namespace Go.L02
open Go Go.Eng Go.RowKit
open Go.Proofs hiding encI
open Go.L01 (Bs Tok encT info5)
set_option maxRecDepth 100000
set_option maxHeartbeats 2000000
theorem chk114 {w:World} {b:Nat} {p v:Value} (hp:p= .pointer none∨p= .pointer (some ⟨b,0,none⟩)) (hbk:Blk w b #[p,v] 114):
  Calls Tryz.prog 177 #[.pointer (some ⟨b,0,none⟩)] w fun e w'=>e= .returned (.tuple #[])∧Blk w' b #[.pointer (some ⟨b,0,none⟩),v] 114∧Only b w w':=by
 rcases hp with rfl|rfl
 ·refine (L01.b_fresh b w (by rw [hbk.cell];rfl) (by simp [World.shape?,hbk.heap]) (by simp [World.frozen?,hbk.heap])).mono ?_
  rintro _ _ ⟨rfl,rfl⟩
  exact ⟨rfl,by simpa using blk_setCell hbk 0 (.pointer (some ⟨b,0,none⟩)),only_setCell _ _ _ _⟩
 ·refine (L01.b_used b w (by rw [hbk.cell];rfl)).mono ?_
  rintro _ _ ⟨rfl,rfl⟩
  exact ⟨rfl,hbk,Only.refl _ _⟩
theorem wr89 {w:World} {B b:Nat} {v:Value} {bs:Bs} {rest:List Value} {T:TypeId} (s:Bs) (hB:B≤b) (hblt:b<w.heap.size) (hown0:w.ownsRow B 5 1 v bs.length (bs.map encB)) (hne:v.ownBlock≠some b)
  (hchk:Calls Tryz.prog 177 #[.pointer (some ⟨b,0,none⟩)] w fun e w'=>e= .returned (.tuple #[])∧Blk w' b (.pointer (some ⟨b,0,none⟩)::v::rest).toArray T∧Only b w w') (hlen:bs.length+s.length≤100000000000000) (hBw:B≤w.heap.size):
  Calls Tryz.prog 89 #[.pointer (some ⟨b,0,none⟩), .string (mkS s)] w fun e w'=>e= .returned (.tuple #[.int .i64 s.length, .nilIface])∧∃v',Blk w' b (.pointer (some ⟨b,0,none⟩)::v'::rest).toArray T∧w'.ownsRow B 5 1 v' (bs++s).length ((bs++s).map encB)∧v'.ownBlock≠some b∧Below B w w'∧
   (∀k,k<w.heap.size→k≠b→v.ownBlock≠some k→w'.heap[k]? =w.heap[k]?)∧(v'.ownBlock=v.ownBlock∨v'.ownBlock=some w.heap.size):=by
 refine L01.ir89_calls fun ρ h0 h1=> ?_
 simp [L01.ir89,h0]
 refine hchk.mono ?_
 rintro _ w1 ⟨rfl,hb,hO1⟩
 have hc1:w1.cell? ⟨b,1,none⟩=some v:=by rw [hb.cell];rfl
 simp [h0,h1,hc1]
 obtain ⟨i,hi,hz,hs,hby⟩:=info5
 have hBs:=hO1.size
 have hlt:=hb.lt
 have hsz:(mkS s).size=s.length:=rfl
 have hown:w1.ownsRow B 5 1 v bs.length (bs.map encB):=ownsRow_keep hown0 fun k hk=>hO1.block k fun e=>hne (by rw [hk,e])
 obtain ⟨v',W3,hr,hown3,hg3,hnil⟩:=Lib.run_append_own_string (P:=Tryz.prog) w1 B 112 9 112 5 i Tryz.underlying112 Tryz.underlying9 hi hz hs hby v bs.length (bs.map encB) (by simpa using hown) (mkS s) (by rw [hsz];simp only [maxLen];omega) (by rw [hsz];omega) (by omega)
 have hfr:=append_fresh (mkS s) hown (by rw [hsz];omega) hr hnil
 rw [hBs] at hfr
 have hown3':W3.ownsRow B 5 1 v' (bs++s).length ((bs++s).map encB):=by simpa [L01.strCells_enc] using hown3
 have hb3:Blk W3 b (.pointer (some ⟨b,0,none⟩)::v::rest).toArray T:=⟨(hg3.block b hlt (fun e=>hne e.symm)).trans hb.heap⟩
 refine effE_ok (v:=v') (w':=W3) (by simp [execOp,effOp,resolve,invoke,builtin,hr]) ?_
 have hv1:v'.cells= #[v']∧v'.oneCell=true:=by
  rcases hown3'.2 with ⟨rfl,_⟩|⟨g,cap,cur,rfl,_⟩<;>exact ⟨rfl,rfl⟩
 simp
 refine eff_store1 (B:=b) (i:=1) (by simp) hb3 (by simp) (by simp;exact hv1.1) (by simp;exact hv1.2) L01.sz67 fun W4 hO4 hb4=> ?_
 simp [h1] at hb4⊢
 have hne4:v'.ownBlock≠some b:=by
  rcases hfr with h|h
  ·rw [h];exact hne
  ·rw [h];simp;omega
 have h3:Below B w W3:=(only_below hO1 hB).grown hg3 (by omega) fun k hk=>(hown.lt k hk).1
 refine ⟨v',hb4,by simpa using ownsRow_keep hown3' (fun k hk=>hO4.block k fun e=>hne4 (by rw [hk,e])),hne4,Below.trans h3 (only_below hO4 hB),fun k hk1 hk2 hk3=> ?_,hfr⟩
 exact (hO4.block k hk2).trans ((hg3.block k (by omega) (fun e=>hk3 e.symm)).trans (hO1.block k hk2))
theorem str90 {b g cap:Nat} {cur:Array Value} {bs:Bs} {w:World} (hcell:w.cell? ⟨b,1,none⟩=some (.slice (some ⟨g,0,none⟩) bs.length cap)) (hg':w.heap[g]? =some (.cells cur 5 (0,0))) (h0:bs≠[]) (hnc:bs.length≤cap) (hcm:cap≤maxLen) (hcs:cur.size=cap*1) (htake:cur.toList.take (bs.length*1)=bs.map encB):
  Calls Tryz.prog 90 #[.pointer (some ⟨b,0,none⟩)] w fun e w'=>e= .returned (.string (mkS bs))∧Below g w w'∧∀k,k≠g→w'.heap[k]? =w.heap[k]? :=by
 have hl0:0<bs.length:=List.length_pos_iff.2 h0
 refine ir90_calls fun ρ r0=> ?_
 simp -implicitDefEqProofs [ir90]
 refine raw_ord ir90_o1_ok (fun W=>W.heap=w.heap) fun w1 hE1 hh1=>⟨hh1, ?_⟩
 have hc:∀W:World,W.heap=w.heap→W.cell? ⟨b,1,none⟩=some (.slice (some ⟨g,0,none⟩) bs.length cap):=fun W e=>by
  rw [←hcell];simp only [World.cell?,e]
 have his:isSl (.slice (some ⟨g,0,none⟩) bs.length cap)=true:=by simp [isSl,hnc]
 have hln:slLen (.slice (some ⟨g,0,none⟩) bs.length cap)=bs.length:=rfl
 simp+contextual -implicitDefEqProofs [ir90_o1,r0,hc,hc w1 hh1,his,hln]
 have hSD:(Builtin.unsafeSliceData_ #[112] 196 #[.slice (some ⟨g,0,none⟩) bs.length cap]).run Tryz.prog w1= .ok (.pointer (some ⟨g,0,none⟩)) w1:=
  Lib.run_unsafeSliceData_row _ _ _ _ _ _ (by omega)
 refine effW_b ?_
 refine effE_ok (v:= .pointer (some ⟨g,0,none⟩)) (w':=w1) (by simp [execOp,effOp,resolve,invoke,builtin,hSD]) ?_
 refine ⟨hh1, ?_⟩
 have hg1:w1.heap[g]? =some (.cells cur 5 (0,0)):=by rw [hh1];exact hg'
 have hUS:(Builtin.unsafeString_ #[196,3] 9 #[.pointer (some ⟨g,0,none⟩), .int .i64 bs.length]).run Tryz.prog w1= .ok (.string ⟨bs.toArray⟩) (w1.freeze ⟨g,0,none⟩ bs.length):=by
  refine Lib.run_unsafeString_row w1 196 3 9 5 Tryz.underlying196 (by kernel_rfl) g cur.size (by simp [World.shape?,hg1]) bs h0 (by omega) (by unfold maxLen at hcm;omega) ?_
  intro j x hx
  have hcell:cur.toList[j]? =some (encB x):=by
   have h1:(bs.map encB)[j]? =some (encB x):=by simp [hx]
   rw [←htake,List.getElem?_take] at h1
   split at h1
   ·exact h1
   ·cases h1
  simp only [World.cell?,add_lit,Nat.zero_add,hg1]
  simpa [encB] using hcell
 refine effW_b ?_
 refine effE_ok (v:= .string ⟨bs.toArray⟩) (w':=w1.freeze ⟨g,0,none⟩ bs.length) (by simp [execOp,effOp,resolve,invoke,builtin,hUS]) ?_
 simp -implicitDefEqProofs [ir90_k0]
 refine ⟨rfl,Lib.below_freeze (⟨hE1.os,hE1.tape,hE1.output,hE1.size,fun k _=>by rw [hh1]⟩:Below g w w1) (p:=⟨g,0,none⟩) (Nat.le_refl _) _,fun k hk'=> ?_⟩
 rw [←hh1]
 unfold World.freeze
 split
 ·rfl
 ·simp only [Array.getElem?_modify]
  rw [if_neg (by simpa using fun e=>hk' e.symm)]
section
variable {σ:Sg} {w0 w:World} {s s':Sx} {args args':List Value} {v:Value}
def byteX:Value→Option UInt8
 | .int .u8 k=>bif decide (0≤k)&&decide (k<256) then some (UInt8.ofNat k.toNat) else none
 |_=>none
def bytesX:List Value→Option Bs
 |[]=>some []
 |a::l=>match byteX a,bytesX l with|some c,some r=>some (c::r)|_,_=>none
theorem byteX_ok {a:Value} {c:UInt8} (h:byteX a=some c):a=encB c:=by
 unfold byteX at h
 split at h
 ·rename_i k
  obtain ⟨hc,h⟩:=bifP h
  simp only [Bool.and_eq_true,decide_eq_true_eq] at hc
  cases h
  have:k.toNat<256:=by omega
  simp only [encB,Value.int.injEq,true_and]
  rw [UInt8.toNat_ofNat',Nat.mod_eq_of_lt (by simpa using this),Int.toNat_of_nonneg hc.1]
 ·cases h
theorem bytesX_ok:∀{l l':List Value} {bs:Bs},VRs σ l l'→bytesX l=some bs→l'=bs.map encB
 |[],[],bs,_,h=>by cases h;rfl
 |a::l,b::m,bs,hv,h=>by
  unfold bytesX at h
  split at h
  ·rename_i c r hc hr
   cases h
   have ha:=byteX_ok hc
   subst ha
   rw [bytesX_ok hv.2 hr,hv.1.uniq (.pln (v:=encB c) rfl)]
   rfl
  ·cases h
noncomputable def bufX (s:Sx):Value→Option (Bs×Mem)
 | .slice none 0 0=>some ([],s.H)
 | .slice (some ⟨j,0,none⟩) n c=>match s.H.get j with
  |some ob=>bif ob.ex&&Nat.beq ob.ty 5&&Nat.beq ob.sz 1&& !ob.whole&&Nat.beq n ob.cells.length&&Nat.beq c n&&Nat.blt j lim then
    (match bytesX ob.cells with|some bs=>some (bs,s.H.del j)|none=>none) else none
  |none=>none
 |_=>none
theorem bufX_ok (hI:Iv σ w0 s w) {u u':Value} (hv:VR σ u u') {bs:Bs} {H:Mem} (h:bufX s u=some (bs,H)):
  w.ownsRow w0.heap.size 5 1 u' bs.length (bs.map encB)∧(∀j o,H.get j=some o→s.H.get j=some o)∧(∀j o p,H.get j=some o→σ j=some p→some p.1≠u'.ownBlock)∧(∀b i o,s.H.get i=some o→σ i=some (b,0,0)→o.ty≠5→u'.ownBlock≠some b∧(∃o',H.get i=some o'∧o'=o)):=by
 unfold bufX at h
 split at h
 ·cases h
  cases hv with
  |pln _=>exact ⟨⟨by simp, .inl ⟨rfl,rfl⟩⟩,fun _ _ h=>h,fun _ _ _ _ _=>by simp [Value.ownBlock],fun b i o hi hs ht=>⟨by simp [Value.ownBlock],o,hi,rfl⟩⟩
 ·rename_i j n c
  split at h
  ·rename_i ob hob
   obtain ⟨hc,h9⟩:=bifP h
   simp only [Bool.and_eq_true,Bool.not_eq_true'] at hc
   obtain ⟨⟨⟨⟨⟨⟨c1,c2⟩,c3⟩,c4⟩,c5⟩,c6⟩,c7⟩:=hc
   have c2:=Nat.eq_of_beq_eq_true c2
   have c3:=Nat.eq_of_beq_eq_true c3
   have c5:=Nat.eq_of_beq_eq_true c5
   have c6:=Nat.eq_of_beq_eq_true c6
   have c7:=blt_lim c7
   subst c6
   split at h9
   ·rename_i bs1 hbs
    cases h9
    cases hv with
    |pln h'=>cases h'
    |slc hs hn=>
     rename_i b f x
     obtain ⟨b1,f1,x1,cur,hr⟩:=(hI.mr j ob hob).2 (by rw [c3];decide)
     have hat:=hr.at'
     rw [hs] at hat;cases hat
     obtain ⟨hf0,hsz⟩:=hr.exact c1
     subst hf0
     rw [c3,Nat.mul_one] at hsz
     obtain ⟨n0,hn0,hm0⟩:=hr.most c4
     rw [c3,Nat.mul_one] at hn0
     have hcs:=hr.cs
     simp only [List.drop_zero] at hcs
     have hbl:=bytesX_ok hcs hbs
     have hlb:bs.length=ob.cells.length:=by
      have:=congrArg List.length hbl
      rw [List.length_take,Array.length_toList,List.length_map] at this
      omega
     refine ⟨⟨by simp, .inr ⟨b,c+x,cur,by rw [c5,hlb],hI.own j ob _ hob hs,by rw [←c2];exact hr.heap,by omega,by omega,by omega, ?_⟩⟩,fun i o hi=>(get_del c7 hi).2,fun i o p hi hp he=> ?_,fun b' i o hi hp ht=> ?_⟩
     ·rw [Nat.mul_one,hlb];exact hbl
     ·obtain ⟨hne,hi'⟩:=get_del c7 hi
      refine hne (hI.ap i j o ob p _ hi' hob hp hs ?_)
      simpa [Value.ownBlock] using he
     ·have hij:i≠j:=fun e=>by subst e;rw [hob] at hi;cases hi;exact ht c2
      refine ⟨fun e=>hij (hI.ap i j o ob _ _ hi hob hp hs ?_),o, ?_,rfl⟩
      ·simp [Value.ownBlock] at e;exact e.symm
      ·rw [Tr.get_del _ c7,if_neg hij];exact hi
   ·cases h9
  ·cases h
 ·cases h
theorem readd_ok (hI:Iv σ w0 s w) {i:Nat} (hlim:i<lim) {b f x:Nat} (hσ:σ i=some (b,f,x)) (hap:∀j o p,s.H.get j=some o→σ j=some p→j≠i→p.1≠b) (hb0:w0.heap.size≤b) {ob:Ob} (hz:ob.sz≠0) {cur:Array Value} (ho:RO σ w i ob b f x cur):
  Iv σ w0 ⟨s.H.set i ob,s.nx,s.rs⟩ w:=by
 have hg:∀j,(s.H.set i ob).get j=if j=i then some ob else s.H.get j:=fun j=>Tr.get_set _ _ hlim j
 refine ⟨fun j oj hj=> ?_,hI.dom,hI.res,fun j l oj ol pj pl hj hl hpj hpl he=> ?_,hI.ext,fun j oj pj hj hpj=> ?_⟩
 ·dsimp only at hj
  rw [hg] at hj
  split at hj
  ·rename_i e
   cases hj
   subst e
   exact ⟨fun h=>absurd h hz,fun _=>⟨b,f,x,cur,ho⟩⟩
  ·exact hI.mr j oj hj
 ·dsimp only at hj hl
  rw [hg] at hj hl
  split at hj
  ·rename_i e1
   subst e1
   rw [hσ] at hpj;cases hpj
   split at hl
   ·rename_i e2;exact e2.symm
   ·rename_i e2;exact absurd he.symm (hap l ol pl hl hpl e2)
  ·rename_i e1
   split at hl
   ·rename_i e2
    subst e2
    rw [hσ] at hpl;cases hpl
    exact absurd he (hap j oj pj hj hpj e1)
   ·exact hI.ap j l oj ol pj pl hj hl hpj hpl he
 ·dsimp only at hj
  rw [hg] at hj
  split at hj
  ·rename_i e1
   subst e1
   rw [hσ] at hpj;cases hpj
   exact hb0
  ·exact hI.own j oj pj hj hpj
def bldT (t:TypeId) (n:Nat):Bool:=(Nat.beq t 114&&Nat.beq n 0)||(Nat.beq t 116&&Nat.beq n 2)
def adrX (i:Nat):Value→Bool
 | .pointer none=>true
 | .pointer (some ⟨j,0,none⟩)=>Nat.beq j i
 |_=>false
noncomputable def wrX (s:Sx) (i:Nat) (ob:Ob) (b:ByteArray) (rest:List Value) (bs:Bs) (H:Mem):Option (Value×Sx):=
 bif Nat.ble (bs.length+b.size) 100000000000000&&Nat.ble 1 (bs.length+b.size) then
  match newX ⟨H.del i,s.nx,s.rs⟩ none ⟨(bs++b.data.toList).map encB,5,1,false,true⟩ with
  |some (k,s1)=>some (.tuple #[.int .i64 b.size, .nilIface],⟨s1.H.set i ⟨.pointer (some ⟨i,0,none⟩):: .slice (some ⟨k,0,none⟩) (bs.length+b.size) (bs.length+b.size)::rest,ob.ty,1,true,false⟩,s1.nx,s1.rs⟩)
  |none=>none
 else none
noncomputable def wrA (s:Sx) (i:Nat) (ob:Ob) (b:ByteArray):Option (Value×Sx):=
 match ob.cells with
 |p::bv::rest=>bif adrX i p&&bldT ob.ty rest.length&&Nat.blt i lim&&obeq ob ⟨p::bv::rest,ob.ty,1,true,false⟩ then
   (match bufX s bv with|some (bs,H)=>wrX s i ob b rest bs H|none=>none) else none
 |_=>none
noncomputable def p89 (s:Sx):List Value→Option (Value×Sx)
 |[.pointer (some ⟨i,0,none⟩), .string b]=>match s.H.get i with
  |some ob=>wrA s i ob b
  |none=>none
 |_=>none
theorem p89_ok (hI:Iv σ w0 s w) (hv:VRs σ args args') (h:p89 s args=some (v,s')):Calls Tryz.prog 89 args'.toArray w (CallAfter σ w0 (.ret v s')):=by
 unfold p89 at h
 split at h
 ·rename_i i b
  split at h
  ·rename_i ob hob
   unfold wrA at h
   split at h
   ·rename_i p bv rest hcells
    obtain ⟨hc,h9⟩:=bifP h
    simp only [Bool.and_eq_true] at hc
    obtain ⟨⟨⟨c1,c2⟩,c3⟩,c4⟩:=hc
    have hobe:=obeq_ok c4
    generalize hty:ob.ty=T at*
    subst hobe
    split at h9
    ·rename_i bs H hbuf
     unfold wrX at h9
     obtain ⟨hc,h8⟩:=bifP h9
     simp only [Bool.and_eq_true,Nat.ble_eq] at hc
     split at h8
     ·rename_i k s1 hnew
      cases h8
      have hlim:=blt_lim c3
      obtain ⟨B,bs',hσ,hvB,hBlk⟩:=blk_of hI hob rfl (show (1:Nat)≠0 by decide)
      match bs',hvB,hBlk with
      |p'::bv'::rest',hvB,hBlk=>
       obtain ⟨v1,v2,v3⟩:=hvB
       have hT5:T≠5:=fun e=>by subst e;simp [bldT] at c2
       obtain ⟨b1,b2,b3,b4⟩:=bufX_ok hI v2 hbuf
       obtain ⟨b5,_⟩:=b4 B i _ hob hσ hT5
       have hB0:w0.heap.size≤B:=hI.own i _ _ hob hσ
       have hp':p'= .pointer none∨p'= .pointer (some ⟨B,0,none⟩):=by
        unfold adrX at c1
        split at c1
        ·exact .inl (v1.uniq (.pln rfl))
        ·rename_i j
         have:=Nat.eq_of_beq_eq_true c1
         subst this
         exact .inr (v1.uniq (ptr0 hσ))
        ·cases c1
       have hchk:Calls Tryz.prog 177 #[.pointer (some ⟨B,0,none⟩)] w fun e w'=>e= .returned (.tuple #[])∧Blk w' B (.pointer (some ⟨B,0,none⟩)::bv'::rest').toArray T∧Only B w w':=by
        simp only [bldT,Bool.or_eq_true,Bool.and_eq_true] at c2
        have hrl:=v3.len
        rcases c2 with ⟨d1,d2⟩|⟨d1,d2⟩
        ·have d1:=Nat.eq_of_beq_eq_true d1
         have d2:=Nat.eq_of_beq_eq_true d2
         subst d1
         match rest',hrl,hBlk with
         |[],_,hBlk=>exact chk114 hp' hBlk
         |_::_,e,_=>exact absurd (e.symm.trans d2) (by simp)
        ·have d1:=Nat.eq_of_beq_eq_true d1
         have d2:=Nat.eq_of_beq_eq_true d2
         subst d1
         match rest',hrl,hBlk with
         |[nv,o],_,hBlk=>exact pr_check hBlk hp'
         |[],e,_=>exact absurd (e.symm.trans d2) (by simp)
         |[_],e,_=>exact absurd (e.symm.trans d2) (by simp)
         |_::_::_::_,e,_=>exact absurd (e.symm.trans d2) (by simp)
       have hbsz:b.data.toList.length=b.size:=rfl
       match args',hv with
       |[y1,y2],hv=>
        obtain ⟨g1,g2,_⟩:=hv
        have u1:=g1.uniq (ptr0 hσ)
        have u2:y2= .string (mkS b.data.toList):=by rw [mk_of];exact g2.uniq (.pln (v:= .string b) rfl)
        subst u1
        subst u2
        refine (wr89 b.data.toList hB0 hBlk.lt b1 b5 hchk (by rw [hbsz];exact hc.1) hI.ext.size).mono ?_
        rintro _ W ⟨rfl,v',k1,k2,k3,k4,k5,k6⟩
        have hll:(bs++b.data.toList).length=bs.length+b.size:=by rw [List.length_append,hbsz]
        have hIH:Iv σ w0 ⟨H.del i,s.nx,s.rs⟩ w:=by
         have sub:∀j o,(H.del i).get j=some o→j≠i∧s.H.get j=some o:=fun j o hj=>⟨(get_del hlim hj).1,b2 j o (get_del hlim hj).2⟩
         exact ⟨hI.mr.keep (fun j o hj=>(sub j o hj).2) fun _ _ _ _ _=>rfl,hI.dom,hI.res,fun j l oj ol pj pl hj hl=>hI.ap j l oj ol pj pl (sub j oj hj).2 (sub l ol hl).2,hI.ext,fun j o p hj=>hI.own j o p (sub j o hj).2⟩
        have hdi:∀j o q,(H.del i).get j=some o→σ j=some q→q.1<w.heap.size∧q.1≠B∧some q.1≠bv'.ownBlock:=fun j o q hj hq=>by
         obtain ⟨r,hr,hlt⟩:=hIH.mr.at' hj
         rw [hq] at hr;cases hr
         obtain ⟨hne,hj2⟩:=get_del hlim hj
         exact ⟨hlt,fun e=>hne (hI.ap j i o _ q _ (b2 j o hj2) hob hq hσ e),b3 j o q hj2 hq⟩
        rcases k2.2 with ⟨_,hz⟩|⟨g,cap,cur,hv',hg0,hgh,hnc,hcm,hcs,htake⟩
        ·rw [hll] at hz;omega
        ·subst hv'
         rw [hll] at hnc htake
         have hMW:MR σ (H.del i) W:=hIH.mr.keep (fun _ _ h=>h) fun j o q hj hq=>by
          obtain ⟨e1,e2,e3⟩:=hdi j o q hj hq
          exact k5 q.1 e1 e2 fun e=>e3 e.symm
         have hEW:Ext w0 W:=⟨k4.os.trans hI.ext.os,k4.tape.trans hI.ext.tape,k4.output.trans hI.ext.output,Nat.le_trans hI.ext.size k4.size,fun q hq=>(k4.block q hq).trans (hI.ext.block q hq)⟩
         have hgB:g≠B:=fun e=>k3 (by simp [Value.ownBlock,e])
         obtain ⟨τ,hle,hi,hI',e4,e5,e6⟩:=new_ok4 hIH hnew (b:=g) (f:=0) (x:=cap - (bs.length+b.size)) (W:=W) hMW hEW hg0 (fun j oj pj hj hp e=>by
          obtain ⟨e1,e2,e3⟩:=hdi j oj pj hj hp
          rcases k6 with k6|k6
          ·exact e3 (by rw [←k6,e];rfl)
          ·simp [Value.ownBlock] at k6
           omega) fun τ hle hi=>⟨(fun hz=>by cases hz),fun _=>⟨cur,hi,hgh,by
          dsimp only
          rw [List.length_map,hll,List.drop_zero]
          rw [Nat.mul_one] at htake
          rw [htake]
          exact plainsV_ok (by rw [List.all_eq_true];intro x hx;obtain ⟨c,_,rfl⟩:=List.mem_map.1 hx;rfl),by
          dsimp only
          rw [List.length_map,hll];omega,(fun hw=>by cases hw),fun _=>⟨bs.length+b.size,by rw [List.length_map,hll,Nat.mul_one],by omega⟩,fun _=>⟨rfl,by
          dsimp only
          rw [List.length_map,hll];omega⟩⟩⟩
         have hσ':τ i=some (B,0,0):=hle _ _ hσ
         have hki:k≠i:=fun e=>by
          subst e
          rw [hi] at hσ'
          exact hgB (congrArg Prod.fst (Option.some.inj hσ'))
         have hsl:VR τ (.slice (some ⟨k,0,none⟩) (bs.length+b.size) (bs.length+b.size)) (.slice (some ⟨g,0,none⟩) (bs++b.data.toList).length cap):=by
          have:=VR.slc (σ:=τ) (o:=0) (n:=bs.length+b.size) (c:=bs.length+b.size) hi (Nat.le_refl _)
          rw [show bs.length+b.size+(cap - (bs.length+b.size))=cap by omega] at this
          rw [hll]
          exact this
         refine ⟨τ,_,hle,readd_ok hI' hlim hσ' (fun j o q hj hq hne e=> ?_) hB0 (show (1:Nat)≠0 by decide) (ob:=⟨.pointer (some ⟨i,0,none⟩):: .slice (some ⟨k,0,none⟩) (bs.length+b.size) (bs.length+b.size)::rest,T,1,true,false⟩) (cur:=(.pointer (some ⟨B,0,none⟩):: .slice (some ⟨g,0,none⟩) (bs++b.data.toList).length cap::rest').toArray) ?_, ?_,rfl⟩
         ·rw [e4,Tr.get_set _ _ e5] at hj
          split at hj
          ·rename_i e7;subst e7;rw [hi] at hq;cases hq;exact hgB e
          ·rename_i e7
           exact (hdi j o q hj (e6 j q hq e7)).2.1 e
         ·have hr3:=v3.len
          refine ⟨hσ',k1.heap, ?_,by simp [hr3],fun _=>⟨rfl,rfl,by simp [hr3]⟩,(fun hw=>by cases hw),(fun hx=>by cases hx)⟩
          simp only [List.drop_zero]
          rw [List.take_of_length_le (by simp [hr3])]
          exact ⟨ptr0 hσ',hsl,v3.mono hle⟩
         ·rw [hbsz]
          exact constB_ok (v:= .tuple #[.int .i64 (b.size:Int), .nilIface]) rfl
     ·cases h8
    ·cases h9
   ·cases h
  ·cases h
 ·cases h
noncomputable def strA (s:Sx) (j:Nat) (bs:Bs):Option (Value×Sx):=bif Nat.ble 1 bs.length&&Nat.blt j lim then some (.string (mkS bs),⟨s.H.del j,s.nx,s.rs⟩) else none
def rowX90:Value→Option Nat
 | .slice (some ⟨j,0,none⟩) _ _=>some j
 |_=>none
noncomputable def p90 (s:Sx):List Value→Option (Value×Sx)
 |[.pointer (some ⟨i,0,none⟩)]=>match s.H.get i with
  |some ob=>bif ob.whole&&Nat.beq ob.sz 1 then (match cellX s.H ⟨i,1,none⟩ with
   |some bv=>match bufX s bv,rowX90 bv with
    |some (bs,_),some j=>strA s j bs
    |_,_=>none
   |none=>none) else none
  |none=>none
 |_=>none
theorem p90_ok (hI:Iv σ w0 s w) (hv:VRs σ args args') (h:p90 s args=some (v,s')):Calls Tryz.prog 90 args'.toArray w (CallAfter σ w0 (.ret v s')):=by
 unfold p90 at h
 split at h
 ·rename_i i
  split at h
  rotate_left
  ·cases h
  rename_i ob hob
  obtain ⟨hw,h⟩:=bifP h
  simp only [Bool.and_eq_true] at hw
  have hz1:=Nat.eq_of_beq_eq_true hw.2
  split at h
  ·rename_i bv hbv
   split at h
   ·rename_i bs H j hbuf hrow
    unfold strA at h
    obtain ⟨hc,h9⟩:=bifP h
    cases h9
    simp only [Bool.and_eq_true,Nat.ble_eq] at hc
    have hj:=blt_lim hc.2
    match args',hv with
    |[y1],hv=>
     obtain ⟨g1,_⟩:=hv
     cases g1 with
     |pln h'=>cases h'
     |ptr hσ=>
      rename_i B f x
      obtain ⟨u,hu,hur⟩:=cellX_ok hI.mr (.ptr (o:=1) hσ) hbv
      have hcell:w.cell? ⟨B,f+1,none⟩=some u:=hu
      obtain ⟨b1,b2,b3,b4⟩:=bufX_ok hI hur hbuf
      unfold rowX90 at hrow
      split at hrow
      ·rename_i j' n c
       cases hrow
       rcases b1.2 with ⟨_,hz⟩|⟨g,cap,cur,hv',hg0,hgh,hnc,hcm,hcs,htake⟩
       ·omega
       ·subst hv'
        have hσj:∃q,σ j=some q∧q.1=g:=by
         cases hur with
         |pln h'=>cases h'
         |slc hs hn=>exact ⟨_,hs,rfl⟩
        obtain ⟨q,hq,hqg⟩:=hσj
        have hf:f=0:=by
         obtain ⟨b5,f5,x5,cur5,hr5⟩:=(hI.mr i ob hob).2 (by rw [hz1];decide)
         have hat:=hr5.at'
         rw [hσ] at hat;cases hat
         exact (hr5.whole hw.1).1
        subst hf
        refine (str90 hcell hgh (by intro e;rw [e] at hc;simp at hc) hnc hcm hcs htake).mono ?_
        rintro _ W ⟨rfl,hB,hk⟩
        have hEW:Ext w0 W:=⟨hB.os.trans hI.ext.os,hB.tape.trans hI.ext.tape,hB.output.trans hI.ext.output,Nat.le_trans hI.ext.size hB.size,fun r hr=>(hB.block r (by omega)).trans (hI.ext.block r hr)⟩
        refine ⟨σ,_,Sg.le_refl σ,⟨?_,hI.dom,hI.res,fun j1 l oj ol pj pl h1 h2=>hI.ap j1 l oj ol pj pl (get_del hj h1).2 (get_del hj h2).2,hEW,fun j1 o p h1=>hI.own j1 o p (get_del hj h1).2⟩, .pln rfl,rfl⟩
        obtain ⟨oj,hoj⟩:∃oj,s.H.get j=some oj:=by
         cases hj2:s.H.get j with
         |some oj=>exact ⟨oj,rfl⟩
         |none=>unfold bufX at hbuf;simp only [hj2] at hbuf;cases hbuf
        exact hI.mr.keep (fun j1 o h1=>(get_del hj h1).2) fun j1 o p h1 hp=>hk p.1 fun e=>(get_del hj h1).1 (hI.ap j1 j o oj p q (get_del hj h1).2 hoj hp hq (by rw [e,hqg]))
      ·cases hrow
   ·cases h
  ·cases h
 ·cases h
end
end Go.L02
namespace Go.L02
open Go Go.Eng Go.RowKit
open Go.Proofs hiding encI
open Go.L01 (Bs Tok encT)
set_option maxRecDepth 100000
set_option maxHeartbeats 2000000
noncomputable def primZ:Prim:=fun f args s=>
 bif Nat.beq f 89 then p89 s args else bif Nat.beq f 90 then p90 s args else bif Nat.beq f 53 then p53 s args else bif Nat.beq f 77 then p77 s args else bif Nat.beq f 22 then p22 s args else bif Nat.beq f 24 then p24 s args else
 bif Nat.beq f 34 then p34 s args else bif Nat.beq f 64 then p64 s args else bif Nat.beq f 273 then p273 s args else none
theorem bifN {α:Type} {f n:Nat} {x y:Option α} {v:α} (h:(bif Nat.beq f n then x else y)=some v):(f=n∧x=some v)∨y=some v:=by
 cases hb:Nat.beq f n with
 |true=>rw [hb] at h;exact .inl ⟨Nat.eq_of_beq_eq_true hb,h⟩
 |false=>rw [hb] at h;exact .inr h
theorem prim_ok:PrimOk Tryz.prog GM primZ:=by
 intro f args s v s' h σ w0 w args' hg hI hv
 unfold primZ at h
 rcases bifN h with ⟨rfl,h⟩|h
 ·exact p89_ok hI hv h
 rcases bifN h with ⟨rfl,h⟩|h
 ·exact p90_ok hI hv h
 rcases bifN h with ⟨rfl,h⟩|h
 ·exact p53_ok hg hI hv h
 rcases bifN h with ⟨rfl,h⟩|h
 ·exact p77_ok hg hI hv h
 rcases bifN h with ⟨rfl,h⟩|h
 ·exact p22_ok hg hI hv h
 rcases bifN h with ⟨rfl,h⟩|h
 ·exact p24_ok hg hI hv h
 rcases bifN h with ⟨rfl,h⟩|h
 ·exact p34_ok hI hv h
 rcases bifN h with ⟨rfl,h⟩|h
 ·exact p64_ok hg hI hv h
 rcases bifN h with ⟨rfl,h⟩|h
 ·exact p273_ok hI hv h
 ·cases h
def prZ (t:TypeId):Bool:=Nat.beq t 26
theorem pr_ok:PrOk Tryz.prog prZ:=fun t ht=>by
 have:=Nat.eq_of_beq_eq_true ht
 subst this
 exact ⟨g26,fun a b c d w=>eqFlt a b c d w⟩
def skZ (f:FuncId) (i:Nat):List Nat:=bif Nat.beq f 122&&Nat.beq i 4 then [5] else []
noncomputable def runZ (f:FuncId) (args:List Value):Option Ou:=runX Tryz.prog primZ (some q54) skZ prZ 3000 ⟨.lf,0,[]⟩ (.call f args)
theorem iv0 (w:World):Iv (fun _=>none) w ⟨.lf,0,[]⟩ w:=⟨mr_lf,(fun i p h=>by cases h),(fun i h=>by cases h),(fun i j oi oj pi pj h=>by cases h),ext_refl w,(fun i o p h=>by cases h)⟩
def trueB:Option Ou→Bool
 |some (.ret (.bool true) _)=>true
 |_=>false
end Go.L02
namespace Go.L02
open Go Go.Eng Go.RowKit
open Go.Proofs hiding encI
open Go.L01 (Bs Tok encT)
set_option maxRecDepth 100000
set_option maxHeartbeats 2000000
def faultV (a b:Int):Value:= .tuple #[.slice none 0 0, .agg #[.int .i64 a, .int .i64 b]]
def retB (v:Value):Option Ou→Bool
 |some (.ret u _)=>veq 4 u v
 |_=>false
theorem fault_vr {σ:Sg} (a b:Int):VR σ (faultV a b) (faultV a b):=tup2 (.pln rfl) (constB_ok (v:= .agg #[.int .i64 a, .int .i64 b]) rfl)
theorem runB:retB (faultV 20 1) (runZ 15 [.string (mkS exB)])=true:=by kernel_rfl
theorem runC:retB (faultV 21 1) (runZ 15 [.string (mkS exC)])=true:=by kernel_rfl
theorem fault_call {b:ByteArray} {x y:Int} (h:retB (faultV x y) (runZ 15 [.string b])=true) {w:World} (hg:GM w):Calls Tryz.prog 15 #[.string b] w fun e w'=>e= .returned (faultV x y)∧Ext w w':=by
 unfold retB at h
 split at h
 ·rename_i u s hs
  have hu:=veq_ok 4 _ _ h
  subst hu
  refine ((run_sound pr_ok prim_ok t54 3000).call 15 [.string b] _ _ hs (fun _=>none) w w [.string b] hg (iv0 w) ⟨.pln rfl,trivial⟩).mono ?_
  rintro e w' ⟨τ,v',hl,hI,hv,rfl⟩
  exact ⟨by rw [hv.uniq (fault_vr x y)],hI.ext⟩
 ·cases h
noncomputable def p15 (s:Sx):List Value→Option (Value×Sx)
 |[.string b]=>bif strB b (mkS exB) then some (faultV 20 1,s) else bif strB b (mkS exC) then some (faultV 21 1,s) else none
 |_=>none
noncomputable def primY:Prim:=fun f args s=>bif Nat.beq f 15 then p15 s args else primZ f args s
theorem primY_ok:PrimOk Tryz.prog GM primY:=by
 intro f args s v s' h σ w0 w args' hg hI hv
 unfold primY at h
 rcases bifN h with ⟨rfl,h1⟩|h1
 ·clear h
  unfold p15 at h1
  split at h1
  ·rename_i b
   have key:∀{c:Bs} {x y:Int},retB (faultV x y) (runZ 15 [.string (mkS c)])=true→b=mkS c→Calls Tryz.prog 15 args'.toArray w (CallAfter σ w0 (.ret (faultV x y) s)):=by
    intro c x y hr hb
    subst hb
    have ha:args'=[.string (mkS c)]:=by
     match args',hv with
     |[z],hv=>rw [hv.1.uniq (.pln (v:= .string (mkS c)) rfl)]
    rw [ha]
    refine (fault_call hr (gm hg hI)).mono ?_
    rintro e W ⟨rfl,hE⟩
    exact ⟨σ,_,Sg.le_refl σ,hI.toExt hE,fault_vr x y,rfl⟩
   cases hb:strB b (mkS exB) with
   |true=>
    rw [hb] at h1
    cases h1
    exact key runB (strB_iff.1 hb)
   |false=>
    rw [hb] at h1
    obtain ⟨hc,h2⟩:=bifP (b:=strB b (mkS exC)) h1
    cases h2
    exact key runC (strB_iff.1 hc)
  ·cases h1
 ·exact prim_ok f args s v s' h1 σ w0 w args' hg hI hv
noncomputable def runY (f:FuncId) (args:List Value):Option Ou:=runX Tryz.prog primY (some q54) skZ prZ 3000 ⟨.lf,0,[]⟩ (.call f args)
theorem runA:trueB (runY 14 [])=true:=by kernel_rfl
theorem x_read {w:World} (hG:L01.G w) (hM:MaxL w):Calls Tryz.prog 14 #[] w (okR w):=by
 have h:=runA
 unfold trueB at h
 split at h
 ·rename_i s hs
  refine ((run_sound pr_ok primY_ok t54 3000).call 14 [] _ _ hs (fun _=>none) w w [] ⟨hG,hM⟩ (iv0 w) trivial).mono ?_
  rintro e w' ⟨τ,v',hl,hI,hv,rfl⟩
  exact ⟨by rw [hv.uniq (.pln (v:= .bool true) rfl)],hI.ext⟩
 ·cases h
end Go.L02
namespace Go.L02
open Go Go.Eng Go.Proofs
set_option maxRecDepth 100000
set_option maxHeartbeats 2000000
noncomputable def ir228_body:Code:=((Tryz.f228.body).getD .skip)
noncomputable def ir228_k0:IR:=zq [za 6 (.const (zb false))] <| .ret
noncomputable def ir228_k1:IR:= .seq (.raw (rawReg ir228_body 3)) (ir228_k0)
noncomputable def ir228_k2:IR:= .seq (.cond (zv 50) (zq [za 6 (.const (zb true))] <| .ret) (.skip)) (ir228_k1)
noncomputable def ir228:IR:=zq [za 6 (.const (zb false))] <| .seq (.drw [za 50 (.ite (.ite (zI .lss (zo 1 (zN (zv 0))) (zL (zo 0 (zN (zv 0))))) (zB .eql (zo 0 (zx 3 (zo 0 (zN (zv 0))) (zo 1 (zN (zv 0))))) (zv 1)) (.const (zb false))) (.ite (zS .eql (zv 2) (.const (zs #[]))) (.const (zb true)) (zS .eql (zo 1 (zx 3 (zo 0 (zN (zv 0))) (zo 1 (zN (zv 0))))) (zv 2))) (.const (zb false)))]) (ir228_k2)
def ir228_V:List Nat:=[0,1,2,6,50,51,52,53,54,55,56,57,58,59,60,61,62]
theorem ir228_calls:C3 228 63 ir228_V ir228 [.tmp 6]:=c3 [3] Tryz.func228
noncomputable def ir228_o3:OT:=zy 51 (zv 0)<|zy 52 (zv 0)<|zy 53 (zN (zv 52))<|zy 54 (zf 2 (zv 53))<|zy 55 (zl (zv 54))<|zy 56 (zv 0)<|zy 57 (zN (zv 56))<|zy 58 (zf 1 (zv 57))<|zy 59 (zl (zv 58))<| .step (zE 60 (.call {callee:= .builtin .max,args:= #[zt 55,zt 59],argTypes:= #[3,3]}) 3) true<| .step (za 61 (zN (zv 51))) false<| .step (za 62 (zf 2 (zv 61))) false<| .step (zw 3 (zt 62) (zt 60)) false<| .done
theorem ir228_o3_ok:ordOf Tryz.prog 63 ir228_V 10 (rawReg ir228_body 3)=some ir228_o3:=by kernel_rfl
noncomputable def ir159_k0:IR:=zq [za 6 (zv 7)] <| .ret
noncomputable def ir159:IR:=zq [za 6 (.const (zb false)),za 8 (zv 0),za 9 (zv 1),za 10 (zv 2),zc 11 228 #[zt 8,zt 9,zt 10] #[90,5,9] 4,za 7 (zv 11),za 12 (zv 7)] <| .seq (.cond (zv 12) (.reg [za 13 (zv 0),za 17 (zI .add (zo 1 (zN (zv 13))) (.const (zk 1))),za 19 (zf 1 (zN (zv 13))),zw 3 (zt 19) (zt 17)]) (.skip)) (ir159_k0)
def ir159_V:List Nat:=[0,1,2,6,7,8,9,10,11,12,13,17,19]
theorem ir159_calls:C3 159 21 ir159_V ir159 [.tmp 6]:=c3 [] Tryz.func159
noncomputable def ir157:IR:=zq [za 4 (.const (zb false)),za 5 (zv 0),za 6 (zv 1),zc 7 159 #[zt 5,(.const (zu 4)),zt 6] #[90,5,9] 4,za 4 (zv 7)] <| .ret
def ir157_V:List Nat:=[0,1,4,5,6,7]
theorem ir157_calls:C2 157 8 ir157_V ir157 [.tmp 4]:=c2 [] Tryz.func157
noncomputable def ir132:IR:=zq [za 4 (.const (zb false)),za 5 (zv 0),za 6 (zv 1),zc 7 159 #[zt 5,(.const (zu 2)),zt 6] #[90,5,9] 4,za 4 (zv 7)] <| .ret
def ir132_V:List Nat:=[0,1,4,5,6,7]
theorem ir132_calls:C2 132 8 ir132_V ir132 [.tmp 4]:=c2 [] Tryz.func132
noncomputable def ir134_k0:IR:= .ret
noncomputable def ir134_k1:IR:= .seq (.drw [za 2 (zo 1 (zx 3 (zo 0 (zN (zv 0))) (zI .sub (zo 1 (zN (zv 0))) (.const (zk 1))))),za 3 (.const (zb true))]) (ir134_k0)
noncomputable def ir134:IR:=zq [za 2 (.const (zs #[])),za 3 (.const (zb false)),za 5 (zv 0),zE 6 (.call {callee:= .value (.func 159),args:= #[zt 5,(.const (zu 1)),(.const (zs #[]))],argTypes:= #[90,5,9]}) 4,za 4 (zv 6),za 8 (zn (zv 4))] <| .seq (.cond (zv 8) (zq [za 2 (.const (zs #[])),za 3 (.const (zb false))] <| .ret) (.skip)) (ir134_k1)
def ir134_V:List Nat:=[0,2,3,4,5,6,8]
theorem ir134_calls:C1 134 21 ir134_V ir134 [.tmp 2, .tmp 3]:=c1 [] Tryz.func134
noncomputable def ir131_k0:IR:= .reg [za 8 (zI .add (zv 8) (.const (zk 1)))]
noncomputable def ir131_k1:IR:= .seq (.block 1 (zq [za 16 (zv 0),za 17 (zv 2),za 21 (zl (zx 1 (zv 1) (zv 8))),zc 22 159 #[zt 16,zt 17,zt 21] #[90,5,9] 4,za 9 (zv 22),za 23 (zv 9)] <| .cond (zv 23) (zq [za 6 (zl (zx 1 (zv 1) (zv 8))),za 7 (.const (zb true))] <| .ret) (.skip))) (ir131_k0)
noncomputable def ir131_l2:IR:=zq [za 13 (zI .lss (zv 8) (zL (zv 1)))] <| .seq (.cond (zv 13) (.skip) (.exit 0)) (ir131_k1)
noncomputable def ir131_k3:IR:=zq [za 6 (.const (zs #[])),za 7 (.const (zb false))] <| .ret
noncomputable def ir131:IR:=zq [za 6 (.const (zs #[])),za 7 (.const (zb false)),za 8 (.const (zk 0))] <| .seq (.block 0 (.loop ir131_l2)) (ir131_k3)
def ir131_V:List Nat:=[0,1,2,6,7,8,9,13,16,17,21,22,23]
theorem ir131_calls:C3 131 28 ir131_V ir131 [.tmp 6, .tmp 7]:=c3 [] Tryz.func131
noncomputable def ir158_k0:IR:= .reg [za 4 (zS .add (zv 4) (.const (zs #[44])))]
noncomputable def ir158_k1:IR:=zq [za 4 (zS .add (zS .add (zS .add (zv 4) (zv 5)) (.const (zs #[58]))) (zv 7)),za 34 (zv 0),zE 35 (.call {callee:= .value (.func 157),args:= #[zt 34,(.const (zs #[44]))],argTypes:= #[90,9]}) 4,za 36 (zn (zv 35))] <| .seq (.cond (zv 36) (zq [za 2 (zv 4),za 3 (.const (zb true))] <| .ret) (.skip)) (ir158_k0)
noncomputable def ir158_k2:IR:=zq [za 22 (zv 0),zc 23 74 #[zt 22] #[90] 105,za 21 (zv 23),za 24 (ze 0 (zv 21)),za 25 (ze 1 (zv 21)),za 7 (zv 24),za 8 (zv 25),za 27 (zn (zv 8))] <| .seq (.cond (zv 27) (zq [za 2 (.const (zs #[])),za 3 (.const (zb false))] <| .ret) (.skip)) (ir158_k1)
noncomputable def ir158_l3:IR:= .block 1 (zq [za 10 (zv 0),zc 11 134 #[zt 10] #[90] 105,za 9 (zv 11),za 12 (ze 0 (zv 9)),za 13 (ze 1 (zv 9)),za 5 (zv 12),za 6 (zv 13),za 16 (zn (zv 6)),zg 16 false 17 (zv 0), .eff (some (16,false)) (some 18) (.call {callee:= .value (.func 157),args:= #[zt 17,(.const (zs #[58]))],argTypes:= #[90,9]}) 4,za 20 (.ite (zv 16) (.const (zb true)) (zn (zv 18)))] <| .seq (.cond (zv 20) (zq [za 2 (.const (zs #[])),za 3 (.const (zb false))] <| .ret) (.skip)) (ir158_k2))
noncomputable def ir158:IR:=zq [za 2 (.const (zs #[])),za 3 (.const (zb false)),za 4 (.const (zs #[]))] <| .block 0 (.loop ir158_l3)
def ir158_V:List Nat:=[0,2,3,4,5,6,7,8,9,10,11,12,13,16,17,18,20,21,22,23,24,25,27,34,35,36]
theorem ir158_calls:C1 158 40 ir158_V ir158 [.tmp 2, .tmp 3]:=c1 [] Tryz.func158
noncomputable def ir74_k0:IR:=zq [za 2 (zS .add (zS .add (.const (zs #[97,114,114,97,121,91])) (zv 6)) (.const (zs #[93]))),za 3 (.const (zb true))] <| .ret
noncomputable def ir74_k1:IR:=zq [za 28 (zv 0),zc 29 74 #[zt 28] #[90] 105,za 27 (zv 29),za 30 (ze 0 (zv 27)),za 31 (ze 1 (zv 27)),za 6 (zv 30),za 7 (zv 31),za 34 (zn (zv 7)),zg 34 false 35 (zv 0), .eff (some (34,false)) (some 36) (.call {callee:= .value (.func 157),args:= #[zt 35,(.const (zs #[93]))],argTypes:= #[90,9]}) 4,za 38 (.ite (zv 34) (.const (zb true)) (zn (zv 36)))] <| .seq (.cond (zv 38) (zq [za 2 (.const (zs #[])),za 3 (.const (zb false))] <| .ret) (.skip)) (ir74_k0)
noncomputable def ir74_k2:IR:=zq [za 2 (zS .add (zS .add (zS .add (zv 8) (.const (zs #[91]))) (zv 9)) (.const (zs #[93]))),za 3 (.const (zb true))] <| .ret
noncomputable def ir74_k3:IR:=zq [za 53 (zv 0),zc 54 158 #[zt 53] #[90] 105,za 52 (zv 54),za 55 (ze 0 (zv 52)),za 56 (ze 1 (zv 52)),za 9 (zv 55),za 10 (zv 56),za 59 (zn (zv 10)),zg 59 false 60 (zv 0), .eff (some (59,false)) (some 61) (.call {callee:= .value (.func 157),args:= #[zt 60,(.const (zs #[93]))],argTypes:= #[90,9]}) 4,za 63 (.ite (zv 59) (.const (zb true)) (zn (zv 61)))] <| .seq (.cond (zv 63) (zq [za 2 (.const (zs #[])),za 3 (.const (zb false))] <| .ret) (.skip)) (ir74_k2)
noncomputable def ir74_k4:IR:=zq [za 2 (zS .add (zS .add (zS .add (zv 11) (.const (zs #[91]))) (zv 12)) (.const (zs #[93]))),za 3 (.const (zb true))] <| .ret
noncomputable def ir74_k5:IR:=zq [za 85 (zv 0),zc 86 74 #[zt 85] #[90] 105,za 84 (zv 86),za 87 (ze 0 (zv 84)),za 88 (ze 1 (zv 84)),za 12 (zv 87),za 13 (zv 88),za 91 (zn (zv 13)),zg 91 false 92 (zv 0), .eff (some (91,false)) (some 93) (.call {callee:= .value (.func 157),args:= #[zt 92,(.const (zs #[93]))],argTypes:= #[90,9]}) 4,za 95 (.ite (zv 91) (.const (zb true)) (zn (zv 93)))] <| .seq (.cond (zv 95) (zq [za 2 (.const (zs #[])),za 3 (.const (zb false))] <| .ret) (.skip)) (ir74_k4)
noncomputable def ir74_k6:IR:=zq [za 80 (zv 0),zE 81 (.call {callee:= .value (.func 157),args:= #[zt 80,(.const (zs #[91]))],argTypes:= #[90,9]}) 4,za 82 (zn (zv 81))] <| .seq (.cond (zv 82) (zq [za 2 (zv 11),za 3 (.const (zb true))] <| .ret) (.skip)) (ir74_k5)
noncomputable def ir74_k7:IR:=zq [za 74 (zv 0),zc 75 134 #[zt 74] #[90] 105,za 73 (zv 75),za 76 (ze 0 (zv 73)),za 77 (ze 1 (zv 73)),za 11 (zv 76),za 5 (zv 77),za 79 (zn (zv 5))] <| .seq (.cond (zv 79) (zq [za 2 (.const (zs #[])),za 3 (.const (zb false))] <| .ret) (.skip)) (ir74_k6)
noncomputable def ir74_k8:IR:=zq [za 69 (zv 0),zE 70 (.call {callee:= .value (.func 157),args:= #[zt 69,(.const (zs #[63]))],argTypes:= #[90,9]}) 4] <| .seq (.cond (zv 70) (zq [za 71 (zv 0),zE 72 (.call {callee:= .value (.func 159),args:= #[zt 71,(.const (zu 1)),(.const (zs #[116]))],argTypes:= #[90,5,9]}) 4,za 2 (.const (zs #[63,116])),za 3 (zv 72)] <| .ret) (.skip)) (ir74_k7)
noncomputable def ir74_k9:IR:=zq [za 43 (zv 0),zE 44 (.buildSlice 51 2 #[(0,(.const (zs #[114,101,99,111,114,100]))),(1,(.const (zs #[111,110,101,111,102])))]) 51,zc 45 131 #[zt 43,zt 44,(.const (zu 2))] #[90,51,5] 105,za 42 (zv 45),za 46 (ze 0 (zv 42)),za 47 (ze 1 (zv 42)),za 8 (zv 46),za 5 (zv 47),za 48 (zv 5)] <| .seq (.cond (zv 48) (zq [za 49 (zv 0),zE 50 (.call {callee:= .value (.func 157),args:= #[zt 49,(.const (zs #[91]))],argTypes:= #[90,9]}) 4,za 51 (zn (zv 50))] <| .seq (.cond (zv 51) (zq [za 2 (.const (zs #[])),za 3 (.const (zb false))] <| .ret) (.skip)) (ir74_k3)) (.skip)) (ir74_k8)
noncomputable def ir74_k10:IR:=zq [za 22 (zv 0),zE 23 (.call {callee:= .value (.func 132),args:= #[zt 22,(.const (zs #[97,114,114,97,121]))],argTypes:= #[90,9]}) 4] <| .seq (.cond (zv 23) (zq [za 24 (zv 0),zE 25 (.call {callee:= .value (.func 157),args:= #[zt 24,(.const (zs #[91]))],argTypes:= #[90,9]}) 4,za 26 (zn (zv 25))] <| .seq (.cond (zv 26) (zq [za 2 (.const (zs #[])),za 3 (.const (zb false))] <| .ret) (.skip)) (ir74_k1)) (.skip)) (ir74_k9)
noncomputable def ir74:IR:=zq [za 2 (.const (zs #[])),za 3 (.const (zb false)),za 15 (zv 0),zE 16 (.buildSlice 51 3 #[(0,(.const (zs #[105,110,116]))),(1,(.const (zs #[98,111,111,108]))),(2,(.const (zs #[110,117,108,108])))]) 51,zc 17 131 #[zt 15,zt 16,(.const (zu 2))] #[90,51,5] 105,za 14 (zv 17),za 18 (ze 0 (zv 14)),za 19 (ze 1 (zv 14)),za 4 (zv 18),za 5 (zv 19),za 20 (zv 5)] <| .seq (.cond (zv 20) (zq [za 2 (zv 4),za 3 (.const (zb true))] <| .ret) (.skip)) (ir74_k10)
def ir74_V:List Nat:=[0,2,3,4,5,6,7,8,9,10,11,12,13,14,15,16,17,18,19,20,22,23,24,25,26,27,28,29,30,31,34,35,36,38,42,43,44,45,46,47,48,49,50,51,52,53,54,55,56,59,60,61,63,69,70,71,72,73,74,75,76,77,79,80,81,82,84,85,86,87,88,91,92,93,95]
theorem ir74_calls:C1 74 101 ir74_V ir74 [.tmp 2, .tmp 3]:=c1 [] Tryz.func74
noncomputable def ir78:IR:=zq [za 0 (.const (.slice none 0 0)),zE 1 (.buildSlice 51 4 #[(0,(.const (zs #[109,111,100]))),(1,(.const (zs #[97,110,100]))),(2,(.const (zs #[111,114]))),(3,(.const (zs #[110,111,116])))]) 51,za 0 (zv 1)] <| .ret
def ir78_V:List Nat:=[0,1]
theorem ir78_calls:C0 78 2 ir78_V ir78 [.tmp 0]:=c0 [] Tryz.func78
noncomputable def ir150:IR:=zq [za 0 (.const (.slice none 0 0)),zE 1 (.buildSlice 51 7 #[(0,(.const (zs #[43]))),(1,(.const (zs #[45]))),(2,(.const (zs #[42]))),(3,(.const (zs #[47]))),(4,(.const (zs #[60]))),(5,(.const (zs #[60,61]))),(6,(.const (zs #[61])))]) 51,za 0 (zv 1)] <| .ret
def ir150_V:List Nat:=[0,1]
theorem ir150_calls:C0 150 2 ir150_V ir150 [.tmp 0]:=c0 [] Tryz.func150
noncomputable def ir151:IR:=zq [za 0 (.const (.slice none 0 0)),zE 1 (.buildSlice 51 3 #[(0,(.const (zs #[109,111,100]))),(1,(.const (zs #[97,110,100]))),(2,(.const (zs #[111,114])))]) 51,za 0 (zv 1)] <| .ret
def ir151_V:List Nat:=[0,1]
theorem ir151_calls:C0 151 2 ir151_V ir151 [.tmp 0]:=c0 [] Tryz.func151
noncomputable def ir23_k0:IR:=zq [za 21 (zv 3),zE 22 (.build 92 #[(0,(zt 21))]) 92,zE 23 (.box 92 (zt 22)) 90,za 5 (zv 23),za 25 (zv 5),zc 26 74 #[zt 25] #[90] 105,za 24 (zv 26),za 27 (ze 0 (zv 24)),za 28 (ze 1 (zv 24)),za 6 (zv 27),za 7 (zv 28),za 2 (.ite (.ite (zv 7) (zI .eql (zo 1 (zN (zv 5))) (zL (zv 3))) (.const (zb false))) (zS .eql (zv 6) (zv 0)) (.const (zb false)))] <| .ret
noncomputable def ir23:IR:=zq [za 2 (.const (zb false)),za 9 (zv 0),zc 10 33 #[zt 9] #[9] 49,za 8 (zv 10),za 11 (ze 0 (zv 8)),za 12 (ze 1 (zv 8)),zE 4 (.alloc 26) 0,za 3 (zv 11),zw 26 (zt 4) (zt 12),za 20 (.ite (zI .neq (zo 0 (zv 4)) (.const (zk 0))) (.const (zb true)) (zI .gtr (zT (zv 0)) (.const (zk 100))))] <| .seq (.cond (zv 20) (zq [za 2 (.const (zb false))] <| .ret) (.skip)) (ir23_k0)
def ir23_V:List Nat:=[0,2,3,4,5,6,7,8,9,10,11,12,20,21,22,23,24,25,26,27,28]
theorem ir23_calls:C1 23 44 ir23_V ir23 [.tmp 2]:=c1 [] Tryz.func23
noncomputable def ir25_k0:IR:= .reg [za 4 (zI .add (zv 4) (.const (zk 1)))]
noncomputable def ir25_k1:IR:= .seq (.block 1 (zq [za 16 (zB .eql (.op2 .ixs (zv 0) (zv 4)) (.const (zu 95)))] <| .cond (zv 16) (zq [za 3 (zv 4)] <| .exit 0) (.skip))) (ir25_k0)
noncomputable def ir25_l2:IR:=zq [za 10 (zI .lss (zv 4) (zT (zv 0)))] <| .seq (.cond (zv 10) (.skip) (.exit 0)) (ir25_k1)
noncomputable def ir25_k3:IR:= .reg [za 6 (zI .add (zv 6) (.const (zk 1)))]
noncomputable def ir25_k4:IR:= .seq (.block 3 (zq [za 32 (zS .eql (zl (zx 1 (zv 5) (zv 6))) (zv 0))] <| .cond (zv 32) (zq [za 2 (.const (zb true))] <| .ret) (.skip))) (ir25_k3)
noncomputable def ir25_l5:IR:=zq [za 24 (zI .lss (zv 6) (zL (zv 5)))] <| .seq (.cond (zv 24) (.skip) (.exit 2)) (ir25_k4)
noncomputable def ir25_k6:IR:=zq [za 33 (zv 0),zc 34 79 #[zt 33] #[9] 4,za 2 (zv 34)] <| .ret
noncomputable def ir25_k7:IR:=zq [za 37 (.op3 .stLoHi (zv 0) (.const (zk 0)) (zv 3)),zc 38 79 #[zt 37] #[9] 4,za 39 (zv 38),zg 39 true 43 (.op2 .stLo (zv 0) (zI .add (zv 3) (.const (zk 1)))),zh 39 true 44 79 #[zt 43] #[9] 4,za 2 (.ite (zv 39) (zv 44) (.const (zb false)))] <| .ret
noncomputable def ir25_k8:IR:=zq [za 19 (zI .lss (zv 3) (.const (zk 0)))] <| .seq (.cond (zv 19) (zq [zc 20 78 #[] #[] 51,za 5 (zv 20),za 6 (.const (zk 0))] <| .seq (.block 2 (.loop ir25_l5)) (ir25_k6)) (.skip)) (ir25_k7)
noncomputable def ir25:IR:=zq [za 2 (.const (zb false)),za 3 (.const (.int .i64 (-1))),za 4 (.const (zk 0))] <| .seq (.block 0 (.loop ir25_l2)) (ir25_k8)
def ir25_V:List Nat:=[0,2,3,4,5,6,10,16,19,20,24,32,33,34,37,38,39,43,44]
theorem ir25_calls:C1 25 46 ir25_V ir25 [.tmp 2]:=c1 [] Tryz.func25
end Go.L02
namespace Go.L02
open Go Go.Eng Go.RowKit
open Go.Proofs hiding encI
open Go.L01 (Bs Tok encT SlT toksV toksV_len toksV_get SlK retT Own.same ownMono retK_c1 retTT)
set_option maxRecDepth 100000
set_option maxHeartbeats 2000000
@[simp] theorem cbR228:callB Tryz.prog 228=true:=by kernel_rfl
@[simp] theorem cbR159:callB Tryz.prog 159=true:=by kernel_rfl
@[simp] theorem cbR157:callB Tryz.prog 157=true:=by kernel_rfl
@[simp] theorem cbR132:callB Tryz.prog 132=true:=by kernel_rfl
@[simp] theorem cbR134:callB Tryz.prog 134=true:=by kernel_rfl
@[simp] theorem cbR131:callB Tryz.prog 131=true:=by kernel_rfl
structure ExB (B:Nat) (w w':World):Prop where
 below:Below B w w'
 block:∀k,k<w.heap.size→k≠B→w'.heap[k]? =w.heap[k]?
theorem ExB.size {B:Nat} {w w':World} (h:ExB B w w'):w.heap.size≤w'.heap.size:=h.below.size
theorem ExB.refl (B:Nat) (w:World):ExB B w w:=⟨Below.refl _ _,fun _ _ _=>rfl⟩
theorem ExB.trans {B:Nat} {a b c:World} (h:ExB B a b) (k:ExB B b c):ExB B a c:=⟨h.below.trans k.below,fun j hj hB=>(k.block j (by have:=h.size;omega) hB).trans (h.block j hj hB)⟩
theorem ExB.ext {B:Nat} {w w':World} (h:Ext w w') (hB:B≤w.heap.size):ExB B w w':=⟨h.mono hB,fun k hk _=>h.block k hk⟩
theorem ExB.only {B:Nat} {w w':World} (h:Only B w w'):ExB B w w':=⟨only_below h (Nat.le_refl _),fun k _ hB=>h.block k hB⟩
theorem ExB.blk {B X:Nat} {w w':World} {cs:Array Value} {T:TypeId} (h:ExB B w w') (hb:Blk w X cs T) (hne:X≠B):Blk w' X cs T:=⟨(h.block X hb.lt hne).trans hb.heap⟩
structure RSt (B:Nat) (W:World) (tv:Value) (L:List Tok) (i f:Nat):Prop where
 blk:Blk W B #[tv, .int .i64 (i:Int), .int .i64 (f:Int)] 92
 tok:Own 0 53 3 W tv (toksV L)
 tl:L.length≤20000
 il:i≤L.length
 fl:f≤L.length
section
variable {B:Nat} {w w':World} {tv:Value} {L:List Tok} {i f:Nat}
theorem RSt.lt (h:RSt B w tv L i f):B≤w.heap.size:=Nat.le_of_lt h.blk.lt
theorem RSt.slk (h:RSt B w tv L i f):SlK w tv L:=SlK.own h.tok (by have:=h.tl;omega)
theorem RSt.ext (h:RSt B w tv L i f) (hE:Ext w w'):RSt B w' tv L i f:=⟨h.blk.ext hE,h.tok.ext hE,h.tl,h.il,h.fl⟩
theorem RSt.ne (h:RSt B w tv L i f) {b e sz:Nat} {v:Value} {ys:List Value} (ho:Own b e sz w v ys) (he:e≠92) {k:Nat} (hk:v.ownBlock=some k):k≠B:=fun e1=>by
 obtain ⟨cur,hc⟩:=Own.row ho hk
 rw [e1,h.blk.heap] at hc
 cases hc;exact he rfl
theorem RSt.keep (h:RSt B w tv L i f) (hE:ExB B w w') {b e sz:Nat} {v:Value} {ys:List Value} (ho:Own b e sz w v ys) (he:e≠92):Own b e sz w' v ys:=Own.same ho fun k hk=>hE.block k (ho.blk k hk).2 (h.ne ho he hk)
theorem RSt.move (h:RSt B w tv L i f) {i' f':Nat} (hO:Only B w w') (hb:Blk w' B #[tv, .int .i64 (i':Int), .int .i64 (f':Int)] 92) (hi:i'≤L.length) (hf:f'≤L.length):RSt B w' tv L i' f'∧ExB B w w':=
 ⟨⟨hb,h.keep (ExB.only hO) h.tok (by decide),h.tl,hi,hf⟩,ExB.only hO⟩
def TkR (B:Nat) (w:World) (tv:Value) (L:List Tok) (i f k:Nat) (s:Bs):Ending→World→Prop:=fun e w'=>e= .returned (.bool (isK L i k s))∧(if isK L i k s then RSt B w' tv L (i+1) f else RSt B w' tv L i (max f i))∧ExB B w w'
theorem q_next (h:RSt B w tv L i f) (k:Nat) (s:Bs) (hk:k<256):Calls Tryz.prog 228 #[.pointer (some ⟨B,0,none⟩), .int .u8 (k:Int), .string (mkS s)] w fun e w'=>e= .returned (.bool (isK L i k s))∧RSt B w' tv L i (if isK L i k s then f else max f i)∧ExB B w w':=by
 have htl:=h.tl
 have hil:=h.il
 have hfl:=h.fl
 have e0:(⟨#[]⟩:ByteArray)=mkS []:=rfl
 generalize hRR:(fun (e:Ending) (w':World)=>e= .returned (.bool (isK L i k s))∧RSt B w' tv L i (if isK L i k s then f else max f i)∧ExB B w w')=R
 refine ir228_calls fun ρ r0 r1 r2=> ?_
 simp -implicitDefEqProofs [ir228,r0,r1,r2]
 have c0:∀W,Ext w W→W.cell? ⟨B,0,none⟩=some tv:=fun W hE=>by rw [(h.blk.ext hE).cell];rfl
 have c1:∀W,Ext w W→W.cell? ⟨B,1,none⟩=some (.int .i64 (i:Int)):=fun W hE=>by rw [(h.blk.ext hE).cell];rfl
 have c2:∀W,Ext w W→W.cell? ⟨B,2,none⟩=some (.int .i64 (f:Int)):=fun W hE=>by rw [(h.blk.ext hE).cell];rfl
 have hK:=h.slk
 have step:∀w2,Ext w w2→(ir228_k2).wp ⟨Tryz.prog,63,ir228_V,[]⟩ (retK [.tmp 6] R) (ksOf [.tmp 6] R) (upd (upd ρ 6 (.bool false)) 50 (.bool (isK L i k s))) w2:=fun w2 hE2=>by
  cases hk1:isK L i k s with
  |true=>
   simp -implicitDefEqProofs [ir228_k2]
   rw [←hRR,hk1]
   exact ⟨rfl,by simpa using h.ext hE2,ExB.ext hE2 h.lt⟩
  |false=>
   simp -implicitDefEqProofs [ir228_k2,ir228_k1]
   refine raw_ord ir228_o3_ok (fun W=>RSt B W tv L i f) fun W3 hE3 _=>⟨h.ext (hE2.trans' hE3), ?_⟩
   have hS3:=h.ext (hE2.trans' hE3)
   have hcB:∀W,RSt B W tv L i f→∀j,W.cell? ⟨B,j,none⟩= #[tv,Value.int .i64 (i:Int), .int .i64 (f:Int)][j]? :=fun W h=>h.blk.cell
   simp+contextual -implicitDefEqProofs [ir228_o3,hcB,hS3,r0]
   refine eff_max (k:= .i64) (a:=(f:Int)) (b:=(i:Int)) (by simp) (by simp) ?_
   have e1:(if (i:Int)>(f:Int) then (i:Int) else (f:Int))=((max f i:Nat):Int):=by split<;>omega
   rw [e1]
   refine ⟨hS3, ?_⟩
   simp [r0]
   refine eff_store1 (B:=B) (i:=2) (by simp) hS3.blk (by simp) (by simp [Value.cells]) (by simp) sz3 fun W4 hO4 hb4=> ?_
   simp at hb4
   have hb5:Blk W4 B #[tv, .int .i64 (i:Int), .int .i64 ((max f i:Nat):Int)] 92:=by simpa using hb4
   obtain ⟨hS4,hT4⟩:=hS3.move hO4 hb5 hil (by omega)
   simp -implicitDefEqProofs [ir228_k0]
   rw [←hRR,hk1]
   exact ⟨rfl,by simpa using hS4,(ExB.ext (hE2.trans' hE3) h.lt).trans hT4⟩
 by_cases hlt:i<L.length
 ·obtain ⟨c3,c4,c5⟩:=hK.cell i hlt
  have hlt':(i:Int)<(L.length:Int):=by omega
  have hki:isK L i k s=(decide ((tk L i).kind=k)&&(decide (s=[])||decide ((tk L i).text=s))):=by unfold isK;simp [hlt]
  have htk:tk L i=L[i]:=tk_in hlt
  rw [←htk] at c3 c4
  cases hk2:decide ((tk L i).kind=k) with
  |true=>
   rw [hk2,Bool.true_and] at hki
   have:((tk L i).kind:Int)=(k:Int):=by have:=of_decide_eq_true hk2;omega
   simp -implicitDefEqProofs [c0 w (ext_refl _),c1 w (ext_refl _),hK.is,hK.len,hlt',hlt,c3,c4,e0,mkS_inj,this]
   rw [←hki];exact step
  |false=>
   rw [hk2,Bool.false_and] at hki
   have:¬((tk L i).kind:Int)=(k:Int):=by have:=of_decide_eq_false hk2;omega
   rw [hki] at step
   simp -implicitDefEqProofs [c0 w (ext_refl _),c1 w (ext_refl _),hK.is,hK.len,hlt',hlt,c3,c4,e0,mkS_inj,this]
   exact step
 ·have hlt':¬(i:Int)<(L.length:Int):=by omega
  have hki:isK L i k s=false:=by unfold isK;simp [hlt]
  rw [hki] at step
  simp -implicitDefEqProofs [c0 w (ext_refl _),c1 w (ext_refl _),hK.is,hK.len,hlt',hlt]
  exact step
theorem q_take (h:RSt B w tv L i f) (k:Nat) (s:Bs) (hk:k<256):Calls Tryz.prog 159 #[.pointer (some ⟨B,0,none⟩), .int .u8 (k:Int), .string (mkS s)] w (TkR B w tv L i f k s):=by
 refine ir159_calls fun ρ r0 r1 r2=> ?_
 simp -implicitDefEqProofs [ir159,r0,r1,r2]
 refine (q_next h k s hk).mono ?_
 rintro _ w2 ⟨rfl,hS,hE⟩
 cases hk1:isK L i k s with
 |false=>
  rw [hk1] at hS
  simp -implicitDefEqProofs [ir159_k0]
  unfold TkR
  rw [hk1]
  exact ⟨rfl,by simpa using hS,hE⟩
 |true=>
  rw [hk1,if_pos rfl] at hS
  have hil:=isK_lt hk1
  have htl:=h.tl
  have e1:IntKind.i64.wrap ((i:Int)+1)=((i+1:Nat):Int):=by rw [i64w (by omega)];push_cast;rfl
  simp -implicitDefEqProofs [r0,hS.blk.cell,e1]
  refine eff_store1 (B:=B) (i:=1) (by simp) hS.blk (by simp) (by simp [Value.cells]) (by simp) sz3 fun W4 hO4 hb4=> ?_
  simp at hb4
  have hb5:Blk W4 B #[tv, .int .i64 ((i+1:Nat):Int), .int .i64 (f:Int)] 92:=by simpa using hb4
  obtain ⟨hS4,hT4⟩:=hS.move hO4 hb5 (by omega) h.fl
  simp -implicitDefEqProofs [ir159_k0]
  unfold TkR
  rw [hk1,if_pos rfl]
  exact ⟨rfl,hS4,hE.trans hT4⟩
theorem q_sign (h:RSt B w tv L i f) (s:Bs):Calls Tryz.prog 157 #[.pointer (some ⟨B,0,none⟩), .string (mkS s)] w (TkR B w tv L i f 4 s):=by
 refine ir157_calls fun ρ r0 r1=> ?_
 simp -implicitDefEqProofs [ir157,r0,r1]
 refine (q_take h 4 s (by decide)).mono ?_
 rintro _ w2 ⟨rfl,hS,hE⟩
 simp -implicitDefEqProofs
 exact ⟨rfl,hS,hE⟩
theorem q_word (h:RSt B w tv L i f) (s:Bs):Calls Tryz.prog 132 #[.pointer (some ⟨B,0,none⟩), .string (mkS s)] w (TkR B w tv L i f 2 s):=by
 refine ir132_calls fun ρ r0 r1=> ?_
 simp -implicitDefEqProofs [ir132,r0,r1]
 refine (q_take h 2 s (by decide)).mono ?_
 rintro _ w2 ⟨rfl,hS,hE⟩
 simp -implicitDefEqProofs
 exact ⟨rfl,hS,hE⟩
def NmR (B:Nat) (w:World) (tv:Value) (L:List Tok) (i f:Nat):Ending→World→Prop:=fun e w'=>
 if isK L i 1 [] then e= .returned (.tuple #[.string (mkS (tk L i).text), .bool true])∧RSt B w' tv L (i+1) f∧ExB B w w' else e= .returned (.tuple #[.string (mkS []), .bool false])∧RSt B w' tv L i (max f i)∧ExB B w w'
theorem q_name (h:RSt B w tv L i f):Calls Tryz.prog 134 #[.pointer (some ⟨B,0,none⟩)] w (NmR B w tv L i f):=by
 refine ir134_calls fun ρ r0=> ?_
 simp -implicitDefEqProofs [ir134,r0]
 refine (q_take h 1 [] (by decide)).mono ?_
 rintro _ w2 ⟨rfl,hS,hE⟩
 unfold NmR
 cases hk1:isK L i 1 [] with
 |false=>
  rw [hk1] at hS
  simp -implicitDefEqProofs
  exact ⟨rfl,by simpa using hS,hE⟩
 |true=>
  rw [hk1,if_pos rfl] at hS
  have hil:=isK_lt hk1
  have htl:=h.tl
  have hK:=hS.slk
  obtain ⟨c3,c4,c5⟩:=hK.cell i hil
  have htk:tk L i=L[i]:=tk_in hil
  rw [←htk] at c4
  have e1:IntKind.i64.wrap (i:Int)=(i:Int):=by rw [i64w (by omega)]
  have hlt':(i:Int)<(L.length:Int):=by omega
  simp -implicitDefEqProofs [ir134_k1,r0,hS.blk.cell,hK.is,hK.len,e1,hlt',hil,c4]
  intro w3 hE3
  simp -implicitDefEqProofs [ir134_k0]
  exact ⟨hS.ext hE3,hE.trans (ExB.ext hE3 hS.lt)⟩
def SnR (B:Nat) (w:World) (tv:Value) (L:List Tok) (i f k:Nat) (ss:List Bs):Ending→World→Prop:=fun e w'=>ExB B w w'∧
 match ss.find? (isK L i k) with
 |some s=>e= .returned (.tuple #[.string (mkS s), .bool true])∧RSt B w' tv L (i+1) (if (ss.take 1).any (isK L i k) then f else max f i)
 |none=>e= .returned (.tuple #[.string (mkS []), .bool false])∧RSt B w' tv L i (if ss=[] then f else max f i)
theorem q_seen (h:RSt B w tv L i f) {lv:Value} {ss:List Bs} (k:Nat) (hk:k<256) (hl:Cells w lv 1 (ss.map encT)) (hown:∀W,ExB B w W→Cells W lv 1 (ss.map encT)) (hbd:ss.length≤1000000):Calls Tryz.prog 131 #[.pointer (some ⟨B,0,none⟩),lv, .int .u8 (k:Int)] w (SnR B w tv L i f k ss):=by
 have hll:slLen lv=ss.length:=by simpa using hl.len.symm
 refine ir131_calls fun ρ r0 r1 r2=> ?_
 generalize hRR:SnR B w tv L i f k ss=R
 simp -implicitDefEqProofs [ir131]
 obtain ⟨I,hI⟩:∃I:Nat→Env→World→Prop,∀j ρ' w',I j ρ' w'↔(ρ' 0= .pointer (some ⟨B,0,none⟩)∧ρ' 1=lv∧ρ' 2= .int .u8 (k:Int)∧ExB B w w'∧RSt B w' tv L i (if j=0 then f else max f i)∧(∀s∈ss.take j,isK L i k s=false)):=⟨_,fun _ _ _=>Iff.rfl⟩
 refine loopC 8 ss.length I (by simp) ((hI _ _ _).2 ⟨by simp [r0],by simp [r1],by simp [r2],ExB.refl _ _,by simpa using h,by simp⟩) ?_
 clear r0 r1 r2
 rintro j ρ' w' hj rj hIw
 obtain ⟨r0,r1,r2,hE,hS,hno⟩:=(hI _ _ _).1 hIw
 have hwj:IntKind.i64.wrap ((j:Int)+1)=(j:Int)+1:=i64w (by omega)
 by_cases hlt:j<ss.length
 ·have hlt':(j:Int)<(ss.length:Int):=by omega
  have hc:=(hown w' hE).cell j (by simpa using hlt)
  simp only [List.getElem_map,encT] at hc
  simp -implicitDefEqProofs [ir131_l2,rj,r1,hl.is,hll,hlt',hlt,ir131_k1,r0,r2,hc]
  refine (q_take hS k ss[j] hk).mono ?_
  rintro _ w2 ⟨rfl,hS2,hE2⟩
  have hE02:=hE.trans hE2
  cases hk1:isK L i k ss[j] with
  |false=>
   rw [hk1] at hS2
   have e2:max (if j=0 then f else max f i) i=max f i:=by split<;>omega
   simp [e2] at hS2
   simp -implicitDefEqProofs [ir131_k0,rj,hwj,hlt]
   refine (hI _ _ _).2 ⟨by simp [r0],by simp [r1],by simp [r2],hE02,by simpa using hS2,fun s hs=> ?_⟩
   rw [List.take_succ_eq_append_getElem hlt] at hs
   rcases List.mem_append.1 hs with hs|hs
   ·exact hno s hs
   ·rw [List.mem_singleton.1 hs];exact hk1
  |true=>
   rw [hk1,if_pos rfl] at hS2
   have hc2:=(hown w2 hE02).cell j (by simpa using hlt)
   simp only [List.getElem_map,encT] at hc2
   simp -implicitDefEqProofs [r1,rj,hl.is,hll,hlt',hlt,hc2]
   rw [←hRR]
   refine ⟨hE02, ?_⟩
   have hf:ss.find? (isK L i k)=some ss[j]:=by
    rw [List.find?_eq_some_iff_getElem]
    exact ⟨hk1,j,hlt,rfl,fun q hq=>by simpa using hno ss[q] (List.mem_take_iff_getElem.2 ⟨q,by omega,rfl⟩)⟩
   rw [hf]
   refine ⟨rfl, ?_⟩
   have hh:(if (ss.take 1).any (isK L i k) then f else max f i)=(if j=0 then f else max f i):=by
    cases ss with
    |nil=>simp at hlt
    |cons a ss=>
     by_cases hj0:j=0
     ·subst hj0
      simp only [List.getElem_cons_zero] at hk1
      simp [hk1]
     ·have:=hno a (by cases j with|zero=>exact absurd rfl hj0|succ j=>simp)
      simp [this,hj0]
   rw [hh];exact hS2
 ·have hlt':¬(j:Int)<(ss.length:Int):=by omega
  rw [List.take_of_length_le (by omega)] at hno
  simp -implicitDefEqProofs [ir131_l2,rj,r1,hl.is,hll,hlt',hlt,ir131_k3]
  rw [←hRR]
  refine ⟨hE, ?_⟩
  have hf:ss.find? (isK L i k)=none:=List.find?_eq_none.2 fun s hs=>by simp [hno s hs]
  rw [hf]
  refine ⟨rfl, ?_⟩
  have:(j=0)↔ss=[]:=by rw [←List.length_eq_zero_iff];omega
  simpa [this] using hS
theorem seen_find {α:Type} (k:Nat) (x:Bs→N α) (y:N α):∀(ss:List Bs) (f:Nat),seen L k x y ss i f=match ss.find? (isK L i k) with|some s=>x s (i+1) (if (ss.take 1).any (isK L i k) then f else max f i)|none=>y i (if ss=[] then f else max f i)
 |[],f=>rfl
 |s::ss,f=>by
  unfold seen rif
  cases hk:isK L i k s with
  |true=>simp [hk]
  |false=>
   rw [if_neg (by simp),seen_find k x y ss (max f i)]
   simp only [List.find?_cons,hk]
   cases hf:ss.find? (isK L i k) with
   |none=>cases ss<;>simp
   |some t=>simp [hk]
end
end Go.L02
namespace Go.L02
open Go Go.Eng Go.RowKit
open Go.Proofs hiding encI
open Go.L01 (Bs Tok encT SlT toksV toksV_len toksV_get SlK retT Own.same ownMono retK_c1 retTT)
set_option maxRecDepth 100000
set_option maxHeartbeats 2000000
@[simp] theorem cbR158:callB Tryz.prog 158=true:=by kernel_rfl
@[simp] theorem cbR74:callB Tryz.prog 74=true:=by kernel_rfl
theorem typ_len {L:List Tok} (hG:Good L) (hL:Shrt L) (hn:L.length≤20000) {n i g j g':Nat} {s:Bs} (h:typN L n i g= .val (some s) j g'):i≤j∧s.length≤400000:=by
 have hs:=sim_kind hG (L.length+3) n i g g rfl
 rw [h] at hs
 have hk:=tot_kind (L:=L) (L.length+3) i g (by omega)
 cases hr:kind L (L.length+3) i g with
 |oof=>exact absurd hr hk
 |no f=>rw [hr] at hs;exact absurd hs.2 (by simp [Dead,NoD])
 |ok u j f=>
  rw [hr] at hs
  obtain ⟨b,hb,e1,hij,_,hv⟩:=hs
  subst e1
  obtain rfl:=Option.some.inj hb
  refine ⟨hij, ?_⟩
  rw [hv]
  have h1:=joinT_le (shrt_cut hL i j)
  have h2:(cutT L i j).length≤L.length:=by unfold cutT;simp only [List.length_drop,List.length_take];omega
  omega
theorem fields_len {L:List Tok} (hG:Good L) (hL:Shrt L) (hn:L.length≤20000) {n:Nat}:∀{m i g j g':Nat} {s:Bs},fieldsN L (typN L n) m i g= .val (some s) j g'→i≤j∧s.length≤500000*(j - i):=by
 intro m
 induction m with
 |zero=>intro i g j g' s h;cases h
 |succ m ih=>
  intro i g j g' s h
  simp only [fieldsN,nameN] at h
  split at h
  ·rename_i hk
   have hlt:=isK_lt hk
   have hnl:(tk L i).text.length≤20:=hL _ (by rw [tk_in hlt];exact List.getElem_mem _)
   simp only [sgn,rif] at h
   split at h
   ·rw [bndN] at h
    cases ht:typN L n (i+1+1) g with
    |oof=>rw [ht] at h;cases h
    |val o j1 g1=>
     rw [ht] at h
     cases o with
     |none=>cases h
     |some u=>
      obtain ⟨h1,h2⟩:=typ_len hG hL hn ht
      simp only [Ro.andThen,rif] at h
      split at h
      ·rw [bndN] at h
       cases hf:fieldsN L (typN L n) m (j1+1) g1 with
       |oof=>rw [hf] at h;cases h
       |val o2 j2 g2=>
        rw [hf] at h
        cases o2 with
        |none=>cases h
        |some t=>
         obtain ⟨h3,h4⟩:=ih hf
         simp only [Ro.andThen,retN,Ro.val.injEq,Option.some.injEq] at h
         obtain ⟨rfl,rfl,_⟩:=h
         simp only [List.length_append,List.length_cons,List.length_nil]
         omega
      ·simp only [retN,Ro.val.injEq,Option.some.injEq] at h
       obtain ⟨rfl,rfl,_⟩:=h
       simp only [List.length_append,List.length_cons,List.length_nil]
       omega
   ·cases h
  ·cases h
def SR (B:Nat) (w:World) (tv:Value) (L:List Tok) (r:Ro Bs):Ending→World→Prop:=fun e w'=>match r with
 | .val (some s) j g=>e= .returned (.tuple #[.string (mkS s), .bool true])∧RSt B w' tv L j g∧ExB B w w'
 | .val none j g=>(∃s,e= .returned (.tuple #[.string s, .bool false]))∧RSt B w' tv L j g∧ExB B w w'
 | .oof=>False
def preS (s:Bs):Ro Bs→Ro Bs
 | .val (some t) j g=> .val (some (s++t)) j g
 | .val none j g=> .val none j g
 | .oof=> .oof
section
variable {B:Nat} {w w':World} {tv:Value} {L:List Tok} {i f:Nat}
theorem q_fields (hG:Good L) (hL:Shrt L) {n:Nat} (hT:∀{i f w},RSt B w tv L i f→typN L n i f≠ .oof→Calls Tryz.prog 74 #[.pointer (some ⟨B,0,none⟩)] w (SR B w tv L (typN L n i f)))
  {m:Nat} (h:RSt B w tv L i f) (hne:fieldsN L (typN L n) m i f≠ .oof):Calls Tryz.prog 158 #[.pointer (some ⟨B,0,none⟩)] w (SR B w tv L (fieldsN L (typN L n) m i f)):=by
 have e0:(⟨#[]⟩:ByteArray)=mkS []:=rfl
 have e58:(⟨#[58]⟩:ByteArray)=mkS [58]:=rfl
 have e44:(⟨#[44]⟩:ByteArray)=mkS [44]:=rfl
 generalize hr:fieldsN L (typN L n) m i f=r at hne
 generalize hRR:SR B w tv L r=R
 refine ir158_calls fun ρ r0=> ?_
 simp -implicitDefEqProofs [ir158]
 obtain ⟨I,hI⟩:∃I:Nat→Env→World→Prop,∀j ρ' w',I j ρ' w'↔∃i' f' s,ρ' 0= .pointer (some ⟨B,0,none⟩)∧ρ' 4= .string (mkS s)∧RSt B w' tv L i' f'∧ExB B w w'∧s.length≤i'*500000∧preS s (fieldsN L (typN L n) j i' f')=r:=⟨_,fun _ _ _=>Iff.rfl⟩
 refine loopM I m ((hI _ _ _).2 ⟨i,f,[],by simp [r0],by simp [e0],h,ExB.refl _ _,by simp,by rw [hr];cases r with|oof=>rfl|val o j g=>cases o<;>rfl⟩) ?_
 clear r0 hr h
 rintro m ρ' w' hIw
 obtain ⟨i',f',s,r0,r4,hS,hE,hsl,hr⟩:=(hI _ _ _).1 hIw
 cases m with
 |zero=>exact absurd hr.symm hne
 |succ m=>
 have htl:=hS.tl
 have hil:=hS.il
 unfold fieldsN nameN at hr
 simp -implicitDefEqProofs [ir158_l3,r0]
 refine (q_name hS).mono ?_
 rintro _ w2 hN
 unfold NmR at hN
 have fin:∀(W:World) (j g:Nat),RSt B W tv L j g→ExB B w W→r= .val none j g→R (.returned (.tuple #[.string ⟨#[]⟩, .bool false])) W:=fun W j g h1 h2 h3=>by
  rw [←hRR,h3];exact ⟨⟨_,rfl⟩,h1,h2⟩
 cases hk:isK L i' 1 [] with
 |false=>
  simp only [hk,Bool.false_eq_true,if_false] at hN hr
  obtain ⟨rfl,hS2,hE2⟩:=hN
  simp -implicitDefEqProofs
  exact fin _ _ _ hS2 (hE.trans hE2) hr.symm
 |true=>
 simp only [hk,if_true] at hN hr
 obtain ⟨rfl,hS2,hE2⟩:=hN
 have hlt:=isK_lt hk
 simp -implicitDefEqProofs [r0]
 refine (q_sign hS2 [58]).mono ?_
 rintro _ w3 ⟨rfl,hS3,hE3⟩
 have hE03:=(hE.trans hE2).trans hE3
 unfold sgn rif at hr
 cases hk2:isK L (i'+1) 4 [58] with
 |false=>
  simp only [hk2,Bool.false_eq_true,if_false,failN] at hS3 hr
  simp -implicitDefEqProofs
  exact fin _ _ _ hS3 hE03 hr.symm
 |true=>
 simp only [hk2,if_true] at hS3 hr
 simp -implicitDefEqProofs [ir158_k2,r0]
 have htn:typN L n (i'+1+1) f'≠ .oof:=fun e=>by
  rw [bndN,e] at hr
  exact hne hr.symm
 refine (hT hS3 htn).mono ?_
 intro e4 w4 hR4
 cases ht:typN L n (i'+1+1) f' with
 |oof=>exact absurd ht htn
 |val o j g=>
 rw [ht] at hR4
 rw [bndN,ht] at hr
 cases o with
 |none=>
  obtain ⟨⟨s4,rfl⟩,hS4,hE4⟩:=hR4
  simp -implicitDefEqProofs
  exact fin _ _ _ hS4 (hE03.trans hE4) hr.symm
 |some u=>
 obtain ⟨rfl,hS4,hE4⟩:=hR4
 obtain ⟨hij,hul⟩:=typ_len hG hL htl ht
 have hnl:(tk L i').text.length≤20:=hL _ (by rw [tk_in hlt];exact List.getElem_mem _)
 simp only [Ro.andThen] at hr
 have hjl:=hS4.il
 simp -implicitDefEqProofs (disch:=((try simp only [List.length_append,List.length_cons,List.length_nil]);omega)) [-strBin,strAddW,litS,ir158_k1,r0,r4]
 refine (q_sign hS4 [44]).mono ?_
 rintro _ w5 ⟨rfl,hS5,hE5⟩
 have hE05:=(hE03.trans hE4).trans hE5
 cases hk3:isK L j 4 [44] with
 |false=>
  simp only [hk3,Bool.false_eq_true,if_false,retN,preS] at hS5 hr
  simp -implicitDefEqProofs
  rw [←hRR,←hr]
  exact ⟨by simp,hS5,hE05⟩
 |true=>
 simp only [hk3,if_true] at hS5 hr
 have hjl2:=isK_lt hk3
 simp -implicitDefEqProofs (disch:=((try simp only [List.length_append,List.length_cons,List.length_nil]);omega)) [-strBin,strAddW,litS,ir158_k0]
 refine ⟨m,by omega,(hI _ _ _).2 ⟨j+1,g,s++(tk L i').text++[58]++u++[44],by simp [r0],by simp,hS5,hE05, ?_, ?_⟩⟩
 ·simp only [List.length_append,List.length_cons,List.length_nil]
  omega
 ·rw [←hr]
  cases hf:fieldsN L (typN L n) m (j+1) g with
  |oof=>simp [bndN,hf,Ro.andThen,preS]
  |val o j2 g2=>
   cases o with
   |none=>simp [bndN,hf,Ro.andThen,preS]
   |some t=>simp [bndN,hf,Ro.andThen,preS,retN]
@[simp] theorem cells_nilE:True:=trivial
theorem lit_cells {W:World} {B:Nat} {ss:List Bs} (hb:Blk W B (ss.map encT).toArray 9):Cells W (.slice (some ⟨B,0,none⟩) ss.length ss.length) 1 (ss.map encT):=hb.cells (n:=ss.length) (by simp)
theorem ExB.cells {B X:Nat} {w w':World} {ss:List Bs} (h:ExB B w w') (hb:Blk w X (ss.map encT).toArray 9) (hne:X≠B):Cells w' (.slice (some ⟨X,0,none⟩) ss.length ss.length) 1 (ss.map encT):=lit_cells (h.blk hb hne)
theorem q_typ (hG:Good L) (hL:Shrt L):∀(n:Nat) {i f:Nat} {w:World},RSt B w tv L i f→typN L n i f≠ .oof→Calls Tryz.prog 74 #[.pointer (some ⟨B,0,none⟩)] w (SR B w tv L (typN L n i f))
 |0,i,f,w,h,hne=>absurd rfl hne
 |n+1,i,f,w,h,hne=>by
  have htl:=h.tl
  have hil:=h.il
  generalize hr:typN L (n+1) i f=r at hne
  generalize hRR:SR B w tv L r=R
  have fin:∀(W:World) (s:ByteArray) (j g:Nat),RSt B W tv L j g→ExB B w W→r= .val none j g→R (.returned (.tuple #[.string s, .bool false])) W:=fun W s j g h1 h2 h3=>by
   rw [←hRR,h3];exact ⟨⟨_,rfl⟩,h1,h2⟩
  have ok:∀(W:World) (s:Bs) (j g:Nat),RSt B W tv L j g→ExB B w W→r= .val (some s) j g→R (.returned (.tuple #[.string (mkS s), .bool true])) W:=fun W s j g h1 h2 h3=>by
   rw [←hRR,h3];exact ⟨rfl,h1,h2⟩
  refine ir74_calls fun ρ r0=> ?_
  simp -implicitDefEqProofs [ir74,r0]
  refine eff_lit si51 (by decide) (by decide) (by simp [Value.cells]) fun X w1 hX hE1 hb1 _=> ?_
  simp [Value.cells] at hb1
  have hb1':Blk w1 X (([[105,110,116],[98,111,111,108],[110,117,108,108]]:List Bs).map encT).toArray 9:=blk_cast hb1 rfl
  have hXB:X≠B:=by have:=h.blk.lt;omega
  have hS1:=h.ext hE1
  have hEx1:ExB B w w1:=ExB.ext hE1 h.lt
  simp -implicitDefEqProofs [r0]
  refine (q_seen (ss:=[[105,110,116],[98,111,111,108],[110,117,108,108]]) hS1 2 (by decide) (lit_cells hb1') (fun W hW=>hW.cells hb1' hXB) (by decide)).mono ?_
  rintro e2 w2 ⟨hE2,hN2⟩
  unfold typN at hr
  rw [seen_find] at hr
  cases hf:([[105,110,116],[98,111,111,108],[110,117,108,108]]:List Bs).find? (isK L i 2) with
  |some s=>
   rw [hf] at hr hN2
   obtain ⟨rfl,hS2⟩:=hN2
   simp -implicitDefEqProofs
   exact ok _ _ _ _ hS2 (hEx1.trans hE2) hr.symm
  |none=>
  rw [hf] at hr hN2
  obtain ⟨rfl,hS2⟩:=hN2
  have hE02:=hEx1.trans hE2
  simp only [List.cons_ne_self,if_false,reduceCtorEq] at hS2 hr
  simp -implicitDefEqProofs [ir74_k10,r0]
  generalize hf0:max f i=f0 at hS2 hr
  refine (q_word hS2 [97,114,114,97,121]).mono ?_
  rintro _ w3 ⟨rfl,hS3,hE3⟩
  have hE03:=hE02.trans hE3
  rw [rif] at hr
  cases hk1:isK L i 2 [97,114,114,97,121] with
  |true=>
   simp only [hk1,if_true] at hS3 hr
   simp -implicitDefEqProofs [r0]
   refine (q_sign hS3 [91]).mono ?_
   rintro _ w4 ⟨rfl,hS4,hE4⟩
   have hE04:=hE03.trans hE4
   rw [sgn,rif] at hr
   cases hk2:isK L (i+1) 4 [91] with
   |false=>
    simp only [hk2,Bool.false_eq_true,if_false,failN] at hS4 hr
    simp -implicitDefEqProofs
    exact fin _ _ _ _ hS4 hE04 hr.symm
   |true=>
   simp only [hk2,if_true] at hS4 hr
   simp -implicitDefEqProofs [ir74_k1,r0]
   have htn:typN L n (i+1+1) f0≠ .oof:=fun e=>by
    rw [bndN,e] at hr
    exact hne hr.symm
   refine (q_typ hG hL n hS4 htn).mono ?_
   intro e5 w5 hR5
   cases ht:typN L n (i+1+1) f0 with
   |oof=>exact absurd ht htn
   |val o j g=>
   rw [ht] at hR5
   rw [bndN,ht] at hr
   cases o with
   |none=>
    obtain ⟨⟨s5,rfl⟩,hS5,hE5⟩:=hR5
    simp -implicitDefEqProofs
    exact fin _ _ _ _ hS5 (hE04.trans hE5) hr.symm
   |some u=>
   obtain ⟨rfl,hS5,hE5⟩:=hR5
   have hul:=(typ_len hG hL htl ht).2
   simp only [Ro.andThen,sgn,rif] at hr
   simp -implicitDefEqProofs [r0]
   refine (q_sign hS5 [93]).mono ?_
   rintro _ w6 ⟨rfl,hS6,hE6⟩
   have hE06:=(hE04.trans hE5).trans hE6
   cases hk3:isK L j 4 [93] with
   |false=>
    simp only [hk3,Bool.false_eq_true,if_false,failN] at hS6 hr
    simp -implicitDefEqProofs
    exact fin _ _ _ _ hS6 hE06 hr.symm
   |true=>
   simp only [hk3,if_true,retN] at hS6 hr
   simp -implicitDefEqProofs (disch:=((try simp only [List.length_append,List.length_cons,List.length_nil]);omega)) [-strBin,strAddW,litS,ir74_k0]
   exact ok _ _ _ _ hS6 hE06 hr.symm
  |false=>
  simp only [hk1,Bool.false_eq_true,if_false] at hS3 hr
  generalize hf1:max f0 i=f1 at hS3 hr
  simp -implicitDefEqProofs [ir74_k9,r0]
  refine eff_lit si51 (by decide) (by decide) (by simp [Value.cells]) fun Y w4 hY hE4 hb4 _=> ?_
  simp [Value.cells] at hb4
  have hb4':Blk w4 Y (([[114,101,99,111,114,100],[111,110,101,111,102]]:List Bs).map encT).toArray 9:=blk_cast hb4 rfl
  have hYB:Y≠B:=by have:=hS3.blk.lt;omega
  have hS4:=hS3.ext hE4
  have hE04:=hE03.trans (ExB.ext hE4 hS3.lt)
  simp -implicitDefEqProofs [r0]
  refine (q_seen (ss:=[[114,101,99,111,114,100],[111,110,101,111,102]]) hS4 2 (by decide) (lit_cells hb4') (fun W hW=>hW.cells hb4' hYB) (by decide)).mono ?_
  rintro e5 w5 ⟨hE5,hN5⟩
  have hE05:=hE04.trans hE5
  rw [seen_find] at hr
  cases hf2:([[114,101,99,111,114,100],[111,110,101,111,102]]:List Bs).find? (isK L i 2) with
  |some many=>
   rw [hf2] at hr hN5
   obtain ⟨rfl,hS5⟩:=hN5
   have hml:many.length≤6:=by
    have hm:=List.mem_of_find?_eq_some hf2
    revert hm
    exact (by decide:∀s∈([[114,101,99,111,114,100],[111,110,101,111,102]]:List Bs),s.length≤6) many
   dsimp only at hr
   generalize (if (([[114,101,99,111,114,100],[111,110,101,111,102]]:List Bs).take 1).any (isK L i 2) then f1 else max f1 i)=f2 at hS5 hr
   simp -implicitDefEqProofs [r0]
   refine (q_sign hS5 [91]).mono ?_
   rintro _ w6 ⟨rfl,hS6,hE6⟩
   have hE06:=hE05.trans hE6
   rw [sgn,rif] at hr
   cases hk2:isK L (i+1) 4 [91] with
   |false=>
    simp only [hk2,Bool.false_eq_true,if_false,failN] at hS6 hr
    simp -implicitDefEqProofs
    exact fin _ _ _ _ hS6 hE06 hr.symm
   |true=>
   simp only [hk2,if_true] at hS6 hr
   simp -implicitDefEqProofs [ir74_k3,r0]
   have htn:fieldsN L (typN L n) n (i+1+1) f2≠ .oof:=fun e=>by
    rw [bndN,e] at hr
    exact hne hr.symm
   refine (q_fields hG hL (fun h hne=>q_typ hG hL n h hne) hS6 htn).mono ?_
   intro e7 w7 hR7
   cases ht:fieldsN L (typN L n) n (i+1+1) f2 with
   |oof=>exact absurd ht htn
   |val o j g=>
   rw [ht] at hR7
   rw [bndN,ht] at hr
   cases o with
   |none=>
    obtain ⟨⟨s5,rfl⟩,hS7,hE7⟩:=hR7
    simp -implicitDefEqProofs
    exact fin _ _ _ _ hS7 (hE06.trans hE7) hr.symm
   |some u=>
   obtain ⟨rfl,hS7,hE7⟩:=hR7
   have hul:=(fields_len hG hL htl ht).2
   have hj7:=hS7.il
   simp only [Ro.andThen,sgn,rif] at hr
   simp -implicitDefEqProofs [r0]
   refine (q_sign hS7 [93]).mono ?_
   rintro _ w8 ⟨rfl,hS8,hE8⟩
   have hE08:=(hE06.trans hE7).trans hE8
   cases hk3:isK L j 4 [93] with
   |false=>
    simp only [hk3,Bool.false_eq_true,if_false,failN] at hS8 hr
    simp -implicitDefEqProofs
    exact fin _ _ _ _ hS8 hE08 hr.symm
   |true=>
   simp only [hk3,if_true,retN] at hS8 hr
   simp -implicitDefEqProofs (disch:=((try simp only [List.length_append,List.length_cons,List.length_nil]);omega)) [-strBin,strAddW,litS,ir74_k2]
   exact ok _ _ _ _ hS8 hE08 (by rw [←hr];simp)
  |none=>
  rw [hf2] at hr hN5
  obtain ⟨rfl,hS5⟩:=hN5
  simp only [reduceCtorEq,if_false] at hS5 hr
  generalize hf3:max f1 i=f3 at hS5 hr
  simp -implicitDefEqProofs [ir74_k8,r0]
  refine (q_sign hS5 [63]).mono ?_
  rintro _ w6 ⟨rfl,hS6,hE6⟩
  have hE06:=hE05.trans hE6
  rw [rif] at hr
  cases hk2:isK L i 4 [63] with
  |true=>
   simp only [hk2,if_true] at hS6 hr
   simp -implicitDefEqProofs [r0]
   refine (q_take hS6 1 [116] (by decide)).mono ?_
   rintro _ w7 ⟨rfl,hS7,hE7⟩
   have hE07:=hE06.trans hE7
   rw [rif] at hr
   cases hk3:isK L (i+1) 1 [116] with
   |false=>
    simp only [hk3,Bool.false_eq_true,if_false,failN] at hS7 hr
    simp -implicitDefEqProofs
    exact fin _ _ _ _ hS7 hE07 hr.symm
   |true=>
    simp only [hk3,if_true,retN] at hS7 hr
    simp -implicitDefEqProofs
    exact ok _ [63,116] _ _ hS7 hE07 hr.symm
  |false=>
  simp only [hk2,Bool.false_eq_true,if_false] at hS6 hr
  generalize hf4:max f3 i=f4 at hS6 hr
  simp -implicitDefEqProofs [ir74_k7,r0]
  refine (q_name hS6).mono ?_
  rintro _ w7 hN7
  unfold NmR at hN7
  rw [nameN] at hr
  cases hk3:isK L i 1 [] with
  |false=>
   simp only [hk3,Bool.false_eq_true,if_false] at hN7 hr
   obtain ⟨rfl,hS7,hE7⟩:=hN7
   simp -implicitDefEqProofs
   exact fin _ _ _ _ hS7 (hE06.trans hE7) hr.symm
  |true=>
  simp only [hk3,if_true] at hN7 hr
  obtain ⟨rfl,hS7,hE7⟩:=hN7
  have hE07:=hE06.trans hE7
  have hlt:=isK_lt hk3
  have hnl:(tk L i).text.length≤20:=hL _ (by rw [tk_in hlt];exact List.getElem_mem _)
  simp -implicitDefEqProofs [ir74_k6,r0]
  refine (q_sign hS7 [91]).mono ?_
  rintro _ w8 ⟨rfl,hS8,hE8⟩
  have hE08:=hE07.trans hE8
  rw [rif] at hr
  cases hk4:isK L (i+1) 4 [91] with
  |false=>
   simp only [hk4,Bool.false_eq_true,if_false,retN] at hS8 hr
   simp -implicitDefEqProofs
   exact ok _ _ _ _ hS8 hE08 hr.symm
  |true=>
  simp only [hk4,if_true] at hS8 hr
  simp -implicitDefEqProofs [ir74_k5,r0]
  have htn:typN L n (i+1+1) f4≠ .oof:=fun e=>by
   rw [bndN,e] at hr
   exact hne hr.symm
  refine (q_typ hG hL n hS8 htn).mono ?_
  intro e9 w9 hR9
  cases ht:typN L n (i+1+1) f4 with
  |oof=>exact absurd ht htn
  |val o j g=>
  rw [ht] at hR9
  rw [bndN,ht] at hr
  cases o with
  |none=>
   obtain ⟨⟨s5,rfl⟩,hS9,hE9⟩:=hR9
   simp -implicitDefEqProofs
   exact fin _ _ _ _ hS9 (hE08.trans hE9) hr.symm
  |some u=>
  obtain ⟨rfl,hS9,hE9⟩:=hR9
  have hul:=(typ_len hG hL htl ht).2
  simp only [Ro.andThen,sgn,rif] at hr
  simp -implicitDefEqProofs [r0]
  refine (q_sign hS9 [93]).mono ?_
  rintro _ wa ⟨rfl,hSa,hEa⟩
  have hE0a:=(hE08.trans hE9).trans hEa
  cases hk5:isK L j 4 [93] with
  |false=>
   simp only [hk5,Bool.false_eq_true,if_false,failN] at hSa hr
   simp -implicitDefEqProofs
   exact fin _ _ _ _ hSa hE0a hr.symm
  |true=>
  simp only [hk5,if_true,retN] at hSa hr
  simp -implicitDefEqProofs (disch:=((try simp only [List.length_append,List.length_cons,List.length_nil]);omega)) [-strBin,strAddW,litS,ir74_k4]
  exact ok _ _ _ _ hSa hE0a (by rw [←hr];simp)
end
end Go.L02
namespace Go.L02
open Go Go.Eng Go.RowKit
open Go.Proofs hiding encI
open Go.L01 (Bs Tok encT SlT toksV toksV_len toksV_get SlK retT Own.same ownMono retK_c1 retTT Bd ifc20 isStr leaves_fn scan fV ScanR isName)
set_option maxRecDepth 100000
set_option maxHeartbeats 2000000
@[simp] theorem cbR33:callB Tryz.prog 33=true:=by kernel_rfl
@[simp] theorem cbR23:callB Tryz.prog 23=true:=by kernel_rfl
@[simp] theorem cbR25:callB Tryz.prog 25=true:=by kernel_rfl
@[simp] theorem cbR78:callB Tryz.prog 78=true:=by kernel_rfl
theorem bu92 {v:Value} (h:isSl v=true):Tryz.prog.built 92 [(0,v)]=some #[v, .int .i64 0, .int .i64 0]:=by
 rcases isSl_cases h with ⟨b,o,n,c,rfl,_⟩|rfl|⟨b,o,s,rfl⟩<;>kernel_rfl
theorem isType_typN {s:Bs} {ts:List Tok} {cs:List Bs} (hok:scan s= .ok ts cs) (h100:s.length≤100) {o:Option Bs} {j g:Nat} (h:typN ts (ts.length+3) 0 0= .val o j g) (hj:j≤ts.length):isType s=(match o with|some b=>decide (j=ts.length)&&decide (b=s)|none=>false):=by
 have hG:=good_scan hok
 have hs:=sim_kind hG (ts.length+3) (ts.length+3) 0 0 0 rfl
 rw [h] at hs
 have hk:=kind_end (L:=ts) (Nat.le_refl _) 0
 unfold isType
 rw [hok]
 simp only [h100,decide_true,Bool.true_and]
 cases hr:kind ts (ts.length+3) 0 0 with
 |oof=>exact absurd hr hk
 |no f=>
  rw [hr] at hs
  cases o with
  |none=>rfl
  |some b=>exact absurd hs.2 (by simp [Dead,NoD])
 |ok u j' f=>
  rw [hr] at hs
  obtain ⟨b,hb,e1,hij,_,hv⟩:=hs
  subst e1;subst hb
  have hv':b=joinT (cutT ts 0 j):=hv
  by_cases hl:j=ts.length
  ·have:cutT ts 0 j=ts:=by unfold cutT;rw [List.take_of_length_le (by omega)];rfl
   rw [this] at hv'
   simp [hl,hv']
  ·have:¬ts.length≤j:=by omega
   simp [hl,this]
theorem q_IsType {w:World} (s:Bs) (hs:s.length<4611686018427387904):Calls Tryz.prog 23 #[.string (mkS s)] w fun e w'=>e= .returned (.bool (isType s))∧Ext w w':=by
 generalize hRR:(fun (e:Ending) (w':World)=>e= .returned (.bool (isType s))∧Ext w w')=R
 refine ir23_calls fun ρ r0=> ?_
 simp -implicitDefEqProofs [ir23,r0]
 refine (L01.r_Scan s hs).mono ?_
 rintro _ w1 ⟨v,rfl,hv,hE1⟩
 simp -implicitDefEqProofs [fV]
 refine eff_alloc L01.z31 fun F w2 hF hE2 hb2 _=> ?_
 simp -implicitDefEqProofs
 refine eff_storeN (B:=F) (by simp) hb2 (by simp [Value.cells]) (by simp [Value.cells]) (by simpa [Value.cells] using L01.sz31) fun w3 hO3 hb3=> ?_
 simp [Value.cells] at hb3
 have hE23:Ext w1 w3:=hO3.ext hE2 hF
 have hE3:Ext w w3:=hE1.trans' hE23
 have hc0:w3.cell? ⟨F,0,none⟩=some (.int .i64 (scan s).err):=by rw [hb3.cell];rfl
 simp -implicitDefEqProofs [hc0,r0]
 by_cases hbad:(scan s).err=0∧s.length≤100
 ·obtain ⟨he,h100⟩:=hbad
  have h100':¬(100:Int)<(s.length:Int):=by omega
  obtain ⟨ts,cs,hok⟩:∃ts cs,scan s= .ok ts cs:=by
   cases h:scan s with
   |ok ts cs=>exact ⟨ts,cs,rfl⟩
   |bad e l=>rw [h] at he;exact absurd he (scan_bad h)
  rw [hok] at hv
  have hv':Own w.heap.size 53 3 w1 v (toksV ts):=hv
  have hgood:=good_scan hok
  have htl:ts.length≤20000:=by have:=(L01.scan_le s).1;rw [hok] at this;exact this
  have his:=hv'.isl
  have hic:=isSl_cells his
  have hlt:slLen v=ts.length:=by have:=(L01.own_cells hv').len;rw [toksV_len] at this;omega
  simp -implicitDefEqProofs [he,h100',ir23_k0,bu92 his]
  refine eff_box fun B w4 hB hE4 hb4 _=> ?_
  simp -implicitDefEqProofs [Value.cells,hic] at hb4⊢
  have hS:RSt B w4 v ts 0 0:=⟨hb4,Own.down ((hv'.ext hE23).ext hE4) (Nat.zero_le _),htl,Nat.zero_le _,Nat.zero_le _⟩
  refine (q_typ hgood (shrt_good hgood) (ts.length+3) hS (typN_end (Nat.le_refl _) 0)).mono ?_
  intro e5 w5 hR5
  cases ht:typN ts (ts.length+3) 0 0 with
  |oof=>exact absurd ht (typN_end (Nat.le_refl _) 0)
  |val o j g=>
  rw [ht] at hR5
  have fin:∀(b:Bool) (W:World),ExB B w4 W→b=isType s→R (.returned (.bool b)) W:=fun b W hW hb=>by
   rw [←hRR,hb]
   refine ⟨rfl,ext_bl (hE3.trans' hE4) hW.below ?_⟩
   have:=hE3.size
   omega
  cases o with
  |none=>
   obtain ⟨⟨s5,rfl⟩,hS5,hE5⟩:=hR5
   have hty:=isType_typN hok h100 ht hS5.il
   simp -implicitDefEqProofs
   exact fin _ _ hE5 hty.symm
  |some b=>
   obtain ⟨rfl,hS5,hE5⟩:=hR5
   have hty:=isType_typN hok h100 ht hS5.il
   have c1:w5.cell? ⟨B,1,none⟩=some (.int .i64 (j:Int)):=by rw [hS5.blk.cell];rfl
   by_cases hj:j=ts.length
   ·simp -implicitDefEqProofs [c1,his,hlt,hj,mkS_inj,r0]
    exact fin _ _ hE5 (by rw [hty];simp [hj])
   ·have hj':¬(j:Int)=(ts.length:Int):=by omega
    simp -implicitDefEqProofs [c1,his,hlt,hj,hj',mkS_inj,r0]
    exact fin _ _ hE5 (by rw [hty];simp [hj])
 ·have hb:(scan s).err≠0∨100<s.length:=by
   rcases Classical.em ((scan s).err=0) with h|h
   ·exact .inr (by have:=fun h2=>hbad ⟨h,h2⟩;omega)
   ·exact .inl h
  have hty:isType s=false:=by
   unfold isType
   cases h:scan s with
   |bad e l=>rfl
   |ok ts cs=>
    rw [h] at hb
    rcases hb with hb|hb
    ·exact absurd rfl hb
    ·have:¬s.length≤100:=by omega
     simp [this]
  have fin:R (.returned (.bool false)) w3:=by rw [←hRR,hty];exact ⟨rfl,hE3⟩
  rcases hb with hb|hb
  ·simp -implicitDefEqProofs [hb]
   exact fin
  ·have hb':(100:Int)<(s.length:Int):=by omega
   by_cases he:(scan s).err=0
   ·simp -implicitDefEqProofs [he,hb']
    exact fin
   ·simp -implicitDefEqProofs [he]
    exact fin
theorem q_wordOps {w:World}:Calls Tryz.prog 78 #[] w fun e w'=>∃v,e= .returned v∧Own w.heap.size 9 1 w' v (wordOps.map encT)∧Ext w w':=by
 refine ir78_calls fun ρ=> ?_
 simp -implicitDefEqProofs [ir78]
 refine eff_lit si51 (by decide) (by decide) (by simp [Value.cells]) fun X w1 hX hE1 hb1 _=> ?_
 simp [Value.cells] at hb1
 have hb1':Blk w1 X (wordOps.map encT).toArray 9:=blk_cast hb1 rfl
 simp -implicitDefEqProofs
 exact ⟨Own.lit (n:=4) (sz:=1) hb1' (by decide) hX (by decide),hE1⟩
theorem cut_words {s:Bs} {k:Nat} (h:cutAt s=some k):wordOps.contains s=false:=by
 cases hc:wordOps.contains s with
 |false=>rfl
 |true=>
  have hm:=List.contains_iff_mem.1 hc
  have:cutAt s=none:=(by decide:∀w∈wordOps,cutAt w=none) s hm
  rw [h] at this;cases this
theorem byte95 (c:UInt8):((c.toNat:Int)=95)↔c=95:=by
 constructor
 ·intro h
  apply UInt8.toNat_inj.1
  show c.toNat=95
  omega
 ·rintro rfl;rfl
theorem q_IsOp {w:World} (s:Bs) (hs:s.length<4611686018427387904):Calls Tryz.prog 25 #[.string (mkS s)] w fun e w'=>e= .returned (.bool (isOp s))∧Ext w w':=by
 generalize hRR:(fun (e:Ending) (w':World)=>e= .returned (.bool (isOp s))∧Ext w w')=R
 refine ir25_calls fun ρ r0=> ?_
 simp -implicitDefEqProofs [ir25]
 have rest:∀(ρ2:Env) (k:Option Nat),ρ2 0= .string (mkS s)→ρ2 3= .int .i64 (match k with|some k=>(k:Int)|none=> -1)→cutAt s=k→ir25_k8.wp ⟨Tryz.prog,46,ir25_V,[]⟩ (retK [.tmp 2] R) (ksOf [.tmp 2] R) ρ2 w:=by
  intro ρ2 k r0 r3 hk
  cases k with
  |some k=>
   have e:isOp s=(isName (s.take k)&&isName (s.drop (k+1))):=by unfold isOp;rw [cut_words hk,hk];rfl
   have hkl:k<s.length:=by
    have:=hk
    unfold cutAt at this
    rw [List.findIdx?_eq_some_iff_getElem] at this
    exact this.1
   have hk0:¬((k:Int)<0):=by omega
   have hkle:(k:Int)≤(s.length:Int):=by omega
   have hkn:k≤s.length:=by omega
   have hw1:IntKind.i64.wrap ((k:Int)+1)=(k:Int)+1:=i64w (by omega)
   have hk1:(k:Int)+1≤(s.length:Int):=by omega
   have hk1n:k+1≤s.length:=by omega
   have hkt:((k:Int)+1).toNat=k+1:=by omega
   have x1:=L01.cut_ext s 0 k
   have x2:=L01.drop_ext s (k+1)
   simp at x1
   simp -implicitDefEqProofs [ir25_k8,r3,hk0,ir25_k7,r0,hkle,hkn,x1]
   refine (L01.r_isName (s.take k)).mono ?_
   rintro _ w1 ⟨rfl,hE1⟩
   cases h1:isName (s.take k) with
   |false=>
    simp -implicitDefEqProofs
    rw [←hRR,e,h1]
    exact ⟨rfl,hE1⟩
   |true=>
    simp -implicitDefEqProofs [r0,r3,hw1,hk1,hk1n,hkt,x2]
    refine (L01.r_isName (s.drop (k+1))).mono ?_
    rintro _ w2 ⟨rfl,hE2⟩
    simp -implicitDefEqProofs
    rw [←hRR,e,h1]
    exact ⟨rfl,hE1.trans' hE2⟩
  |none=>
   have e:isOp s=(wordOps.contains s||isName s):=by unfold isOp;rw [hk]
   simp -implicitDefEqProofs [ir25_k8,r3]
   refine (q_wordOps).mono ?_
   rintro _ w1 ⟨v,rfl,hv,hE1⟩
   have hvi:=hv.isl
   have hvl:slLen v=4:=by have:=(L01.own_cells hv).len;simpa [wordOps] using this.symm
   simp -implicitDefEqProofs
   obtain ⟨I,hI⟩:∃I:Nat→Env→World→Prop,∀j ρ' w',I j ρ' w'↔(ρ' 0= .string (mkS s)∧ρ' 5=v∧Ext w1 w'∧∀x∈wordOps.take j,x≠s):=⟨_,fun _ _ _=>Iff.rfl⟩
   refine loopC 6 4 I (by simp) ((hI _ _ _).2 ⟨by simp [r0],by simp,ext_refl _,by simp⟩) ?_
   clear r0 r3
   rintro j ρ' w' hj rj hIw
   obtain ⟨r0,r5,hE,hno⟩:=(hI _ _ _).1 hIw
   have hwj:IntKind.i64.wrap ((j:Int)+1)=(j:Int)+1:=i64w (by omega)
   by_cases hlt:j<4
   ·have hlt':(j:Int)<4:=by omega
    have hjw:j<wordOps.length:=hlt
    have hc:=(L01.own_cells (hv.ext hE)).cell j (by simpa using hjw)
    simp only [List.getElem_map,encT] at hc
    by_cases hx:wordOps[j]=s
    ·simp -implicitDefEqProofs [ir25_l5,rj,r5,hvi,hvl,hlt',hlt,ir25_k4,hc,r0,mkS_inj,hx]
     rw [←hRR,e]
     refine ⟨?_,hE1.trans' hE⟩
     have:wordOps.contains s=true:=List.contains_iff_mem.2 (by rw [←hx];exact List.getElem_mem _)
     rw [this];rfl
    ·simp -implicitDefEqProofs [ir25_l5,rj,r5,hvi,hvl,hlt',hlt,ir25_k4,hc,r0,mkS_inj,hx,ir25_k3,hwj]
     refine (hI _ _ _).2 ⟨by simp [r0],by simp [r5],hE,fun x hx2=> ?_⟩
     rw [List.take_succ_eq_append_getElem hjw] at hx2
     rcases List.mem_append.1 hx2 with h|h
     ·exact hno x h
     ·rw [List.mem_singleton.1 h];exact hx
   ·have hlt':¬(j:Int)<4:=by omega
    have hj4:j=4:=by omega
    subst hj4
    simp -implicitDefEqProofs [ir25_l5,rj,r5,hvi,hvl,ir25_k6,r0]
    refine (L01.r_isName s).mono ?_
    rintro _ w2 ⟨rfl,hE2⟩
    simp -implicitDefEqProofs
    rw [←hRR,e]
    refine ⟨?_,(hE1.trans' hE).trans' hE2⟩
    have:wordOps.contains s=false:=by
     cases hc:wordOps.contains s with
     |false=>rfl
     |true=>exact absurd rfl (hno s (by have:=List.contains_iff_mem.1 hc;simpa [wordOps] using this))
    rw [this];rfl
 obtain ⟨I,hI⟩:∃I:Nat→Env→World→Prop,∀j ρ' w',I j ρ' w'↔(ρ' 0= .string (mkS s)∧ρ' 3= .int .i64 (-1)∧w'=w∧∀q (hq:q<s.length),q<j→s[q]≠95):=⟨_,fun _ _ _=>Iff.rfl⟩
 refine loopC 4 s.length I (by simp) ((hI _ _ _).2 ⟨by simp [r0],by simp,rfl,fun q _ h=>by omega⟩) ?_
 clear r0
 rintro j ρ' w' hj rj hIw
 obtain ⟨r0,r3,rfl,hno⟩:=(hI _ _ _).1 hIw
 have hwj:IntKind.i64.wrap ((j:Int)+1)=(j:Int)+1:=i64w (by omega)
 by_cases hlt:j<s.length
 ·have hlt':(j:Int)<(s.length:Int):=by omega
  have hg:((mkS s)[j]'(by simpa using hlt))=s[j]:=rfl
  have hsz:j<(mkS s).size:=by simpa using hlt
  simp -implicitDefEqProofs [ir25_l2,rj,r0,hlt',hlt,ir25_k1,hg]
  split
  ·rename_i h95
   have hc:s[j]=95:=(byte95 _).1 h95
   refine rest _ (some j) (by simp [r0]) (by simp) ?_
   unfold cutAt
   rw [List.findIdx?_eq_some_iff_getElem]
   exact ⟨hlt,decide_eq_true hc,fun q hq=>fun h=>hno q (by omega) hq (of_decide_eq_true h)⟩
  ·rename_i h95
   have hc:¬s[j]=95:=fun h=>h95 ((byte95 _).2 h)
   simp -implicitDefEqProofs [ir25_k0,rj,hwj,hlt]
   refine (hI _ _ _).2 ⟨by simp [r0],by simp [r3],rfl,fun q hq hqj=> ?_⟩
   by_cases h:q=j
   ·subst h;exact hc
   ·exact hno q hq (by omega)
 ·have hlt':¬(j:Int)<(s.length:Int):=by omega
  simp -implicitDefEqProofs [ir25_l2,rj,r0,hlt',hlt]
  refine rest _ none (by simp [r0]) (by simp [r3]) ?_
  unfold cutAt
  rw [List.findIdx?_eq_none_iff]
  intro x hx
  obtain ⟨q,hq,rfl⟩:=List.mem_iff_getElem.1 hx
  simpa using hno q hq (by omega)
end Go.L02
namespace Go.L02
open Go Go.Eng Go.Proofs
set_option maxRecDepth 100000
set_option maxHeartbeats 2000000
noncomputable def ir238_k0:IR:= .reg [za 5 (zI .add (zv 5) (.const (zk 1)))]
noncomputable def ir238_k1:IR:= .seq (.block 1 (zq [za 16 (.op2 .ixs (zv 1) (zv 5))] <| .block 2 (zq [za 17 (zB .eql (zv 16) (.const (zu 110)))] <| .cond (zv 17) (.reg [za 19 (zf 1 (zv 2)),zw 9 (zt 19) (.const (zs #[]))]) (zq [za 20 (zB .eql (zv 16) (.const (zu 118)))] <| .cond (zv 20) (.reg [za 22 (zf 2 (zv 2)),zw 9 (zt 22) (.const (zs #[]))]) (zq [za 23 (zB .eql (zv 16) (.const (zu 116)))] <| .cond (zv 23) (.reg [za 25 (zf 3 (zv 2)),zw 9 (zt 25) (.const (zs #[]))]) (zq [za 26 (zB .eql (zv 16) (.const (zu 78)))] <| .cond (zv 26) (.reg [za 28 (zf 4 (zv 2)),zw 3 (zt 28) (.const (zk 0))]) (.skip))))))) (ir238_k0)
noncomputable def ir238_l2:IR:=zq [za 11 (zI .lss (zv 5) (zT (zv 1)))] <| .seq (.cond (zv 11) (.skip) (.exit 0)) (ir238_k1)
noncomputable def ir238_k3:IR:=zq [za 4 (.ite (.ite (.ite (zS .eql (zo 1 (zv 2)) (.const (zs #[]))) (zS .eql (zo 2 (zv 2)) (.const (zs #[]))) (.const (zb false))) (zS .eql (zo 3 (zv 2)) (.const (zs #[]))) (.const (zb false))) (zI .eql (zo 4 (zv 2)) (.const (zk 0))) (.const (zb false)))] <| .ret
noncomputable def ir238:IR:=zq [zE 2 (.box 44 (zt 0)) 0,za 4 (.const (zb false)),za 6 (zf 0 (zv 2)),zw 5 (zt 6) (.const (zu 0)),za 7 (zf 5 (zv 2)),zw 40 (zt 7) (.const (.slice none 0 0)),za 5 (.const (zk 0))] <| .seq (.block 0 (.loop ir238_l2)) (ir238_k3)
def ir238_V:List Nat:=[0,1,2,4,5,6,7,11,16,17,19,20,22,23,25,26,28]
theorem ir238_calls:C2 238 47 ir238_V ir238 [.tmp 4]:=c2 [] Tryz.func238
noncomputable def ir152:IR:=zq [za 2 (.const (zb false)),za 2 (.ite (zB .geq (zv 0) (.const (zu 1))) (zB .leq (zv 0) (.const (zu 10))) (.const (zb false)))] <| .ret
def ir152_V:List Nat:=[0,2]
theorem ir152_calls:C1 152 9 ir152_V ir152 [.tmp 2]:=c1 [] Tryz.func152
noncomputable def ir287:IR:=zq [za 2 (.const (zb false)),za 2 (.ite (.ite (.ite (zB .geq (zv 0) (.const (zu 21))) (zB .leq (zv 0) (.const (zu 37))) (.const (zb false))) (zB .neq (zv 0) (.const (zu 33))) (.const (zb false))) (zB .neq (zv 0) (.const (zu 36))) (.const (zb false)))] <| .ret
def ir287_V:List Nat:=[0,2]
theorem ir287_calls:C1 287 17 ir287_V ir287 [.tmp 2]:=c1 [] Tryz.func287
noncomputable def ir237_k0:IR:= .reg [za 6 (zI .add (zv 6) (.const (zk 1)))]
noncomputable def ir237_k1:IR:= .seq (.block 1 (zq [za 7 (zo 0 (zx 6 (zv 0) (zl (zx 1 (zo 5 (zv 3)) (zv 6)))))] <| .block 2 (zq [za 26 (zB .eql (zv 7) (.const (zu 20)))] <| .cond (zv 26) (.reg [za 5 (zS .add (zv 5) (.const (zs #[113])))]) (zq [za 31 (zB .eql (zv 7) (.const (zu 5)))] <| .cond (zv 31) (.reg [za 5 (zS .add (zv 5) (.const (zs #[99])))]) (zq [za 37 (zv 7),zc 38 152 #[zt 37] #[5] 4,za 36 (zv 38)] <| .cond (zv 36) (.reg [za 5 (zS .add (zv 5) (.const (zs #[101])))]) (zq [za 41 (zB .eql (zv 7) (.const (zu 33)))] <| .cond (zv 41) (.reg [za 5 (zS .add (zv 5) (.const (zs #[119])))]) (zq [za 46 (zB .eql (zv 7) (.const (zu 36)))] <| .cond (zv 46) (.reg [za 5 (zS .add (zv 5) (.const (zs #[97])))]) (zq [za 52 (zv 7),zc 53 287 #[zt 52] #[5] 4,za 51 (zv 53)] <| .cond (zv 51) (.reg [za 5 (zS .add (zv 5) (.const (zs #[115])))]) (.reg [za 5 (zS .add (zv 5) (.const (zs #[63])))]))))))))) (ir237_k0)
noncomputable def ir237_l2:IR:=zq [za 12 (zI .lss (zv 6) (zL (zo 5 (zv 3))))] <| .seq (.cond (zv 12) (.skip) (.exit 0)) (ir237_k1)
noncomputable def ir237_k3:IR:=zq [za 4 (zv 5)] <| .ret
noncomputable def ir237:IR:=zq [zE 3 (.box 44 (zt 1)) 0,za 4 (.const (zs #[])),za 5 (.const (zs #[])),za 6 (.const (zk 0))] <| .seq (.block 0 (.loop ir237_l2)) (ir237_k3)
def ir237_V:List Nat:=[0,1,3,4,5,6,7,12,26,31,36,37,38,41,46,51,52,53]
theorem ir237_calls:C2 237 57 ir237_V ir237 [.tmp 4]:=c2 [] Tryz.func237
noncomputable def ir240_k0:IR:= .cond (zv 35) (zq [za 4 (.const (zb false))] <| .ret) (.skip)
noncomputable def ir240_k1:IR:= .reg [za 5 (zI .add (zv 5) (.const (zk 1)))]
noncomputable def ir240_k2:IR:= .seq (.block 1 (.seq (.drw [za 35 (.ite (zB .neq (.op2 .ixs (zv 0) (zv 5)) (.op2 .ixs (zv 1) (zv 5))) (.ite (zB .neq (.op2 .ixs (zv 0) (zv 5)) (.const (zu 99))) (.const (zb true)) (zB .neq (.op2 .ixs (zv 1) (zv 5)) (.const (zu 101)))) (.const (zb false)))]) (ir240_k0))) (ir240_k1)
noncomputable def ir240_l3:IR:=zq [za 14 (zI .lss (zv 5) (zT (zv 0)))] <| .seq (.cond (zv 14) (.skip) (.exit 0)) (ir240_k2)
noncomputable def ir240_k4:IR:=zq [za 4 (.const (zb true))] <| .ret
noncomputable def ir240_k5:IR:=zq [za 5 (.const (zk 0))] <| .seq (.block 0 (.loop ir240_l3)) (ir240_k4)
noncomputable def ir240:IR:=zq [za 4 (.const (zb false)),za 10 (zI .neq (zT (zv 0)) (zT (zv 1)))] <| .seq (.cond (zv 10) (zq [za 4 (.const (zb false))] <| .ret) (.skip)) (ir240_k5)
def ir240_V:List Nat:=[0,1,4,5,10,14,35]
theorem ir240_calls:C2 240 36 ir240_V ir240 [.tmp 4]:=c2 [] Tryz.func240
noncomputable def ir239_k0:IR:= .reg [za 7 (zI .add (zv 7) (.const (zk 1)))]
noncomputable def ir239_k1:IR:= .seq (.block 3 (.drw [za 6 (.ite (zv 6) (.const (zb true)) (zB .eql (.op2 .ixs (zv 0) (zv 5)) (.op2 .ixs (zv 1) (zv 7))))])) (ir239_k0)
noncomputable def ir239_l2:IR:=zq [za 17 (zI .lss (zv 7) (zT (zv 1)))] <| .seq (.cond (zv 17) (.skip) (.exit 2)) (ir239_k1)
noncomputable def ir239_k3:IR:=zq [za 31 (zn (zv 6))] <| .cond (zv 31) (zq [za 4 (.const (zb false))] <| .ret) (.skip)
noncomputable def ir239_k4:IR:= .reg [za 5 (zI .add (zv 5) (.const (zk 1)))]
noncomputable def ir239_k5:IR:= .seq (.block 1 (zq [za 6 (.const (zb false)),za 7 (.const (zk 0))] <| .seq (.block 2 (.loop ir239_l2)) (ir239_k3))) (ir239_k4)
noncomputable def ir239_l6:IR:=zq [za 11 (zI .lss (zv 5) (zT (zv 0)))] <| .seq (.cond (zv 11) (.skip) (.exit 0)) (ir239_k5)
noncomputable def ir239_k7:IR:=zq [za 4 (.const (zb true))] <| .ret
noncomputable def ir239:IR:=zq [za 4 (.const (zb false)),za 5 (.const (zk 0))] <| .seq (.block 0 (.loop ir239_l6)) (ir239_k7)
def ir239_V:List Nat:=[0,1,4,5,6,7,11,17,31]
theorem ir239_calls:C2 239 32 ir239_V ir239 [.tmp 4]:=c2 [] Tryz.func239
noncomputable def ir241_k0:IR:= .reg [za 4 (zI .add (zv 4) (.const (zk 1)))]
noncomputable def ir241_k1:IR:= .seq (.block 1 (zq [za 19 (zS .eql (zl (zx 1 (zv 3) (zv 4))) (zv 0))] <| .cond (zv 19) (zq [za 2 (.const (zb true))] <| .ret) (.skip))) (ir241_k0)
noncomputable def ir241_l2:IR:=zq [za 11 (zI .lss (zv 4) (zL (zv 3)))] <| .seq (.cond (zv 11) (.skip) (.exit 0)) (ir241_k1)
noncomputable def ir241_k3:IR:=zq [za 2 (.const (zb false))] <| .ret
noncomputable def ir241:IR:=zq [za 2 (.const (zb false)),zc 5 150 #[] #[] 51,zc 6 151 #[] #[] 51,zp 7 #[zt 5,zt 6] #[51,51] 51,za 3 (zv 7),za 4 (.const (zk 0))] <| .seq (.block 0 (.loop ir241_l2)) (ir241_k3)
def ir241_V:List Nat:=[0,2,3,4,5,6,7,11,19]
theorem ir241_calls:C1 241 20 ir241_V ir241 [.tmp 2]:=c1 [] Tryz.func241
noncomputable def ir170_k0:IR:=zq [za 101 (zM 6 (zv 3)),zE 102 (.call {callee:= .value (.func 238),args:= #[zt 101,(.const (zs #[110,118]))],argTypes:= #[44,9]}) 4,za 103 (zv 102),zg 103 true 105 (zo 1 (zv 3)),zh 103 true 106 25 #[zt 105] #[9] 4,za 108 (.ite (zv 103) (zv 106) (.const (zb false))),zg 108 true 110 (zo 2 (zv 3)),zh 108 true 111 23 #[zt 110] #[9] 4,za 4 (.ite (zv 108) (zv 111) (.const (zb false)))] <| .ret
noncomputable def ir170_k1:IR:=zq [za 85 (zS .eql (zo 2 (zv 3)) (.const (zs #[])))] <| .seq (.cond (zv 85) (zq [za 86 (zM 6 (zv 3)),zE 87 (.call {callee:= .value (.func 238),args:= #[zt 86,(.const (zs #[110,116]))],argTypes:= #[44,9]}) 4,za 91 (.ite (zv 87) (zv 6) (.const (zb false))),zg 91 true 95 (zS .eql (zo 3 (zv 3)) (.const (zs #[]))),zg 95 false 97 (zo 3 (zv 3)),zh 95 false 98 23 #[zt 97] #[9] 4,za 4 (.ite (zv 91) (.ite (zv 95) (.const (zb true)) (zv 98)) (.const (zb false)))] <| .ret) (.skip)) (ir170_k0)
noncomputable def ir170_k2:IR:= .reg [za 7 (zI .add (zv 7) (.const (zk 1)))]
noncomputable def ir170_k3:IR:= .seq (.block 2 (zq [za 307 (zS .eql (zo 1 (zx 6 (zv 0) (zl (zx 1 (zo 5 (zv 3)) (zv 7))))) (.const (zs #[])))] <| .cond (zv 307) (zq [za 4 (.const (zb false))] <| .ret) (.skip))) (ir170_k2)
noncomputable def ir170_l4:IR:=zq [za 295 (zI .lss (zv 7) (zI .sub (zT (zv 5)) (.const (zk 1))))] <| .seq (.cond (zv 295) (.skip) (.exit 1)) (ir170_k3)
noncomputable def ir170_k5:IR:=zq [za 308 (zM 6 (zv 3)),zE 309 (.call {callee:= .value (.func 238),args:= #[zt 308,(.const (zs #[]))],argTypes:= #[44,9]}) 4,za 4 (zv 309)] <| .ret
noncomputable def ir170_k6:IR:=zq [za 7 (.const (zk 1))] <| .seq (.block 1 (.loop ir170_l4)) (ir170_k5)
noncomputable def ir170_k7:IR:= .cond (zv 154) (zq [za 159 (zM 6 (zv 3)),zE 160 (.call {callee:= .value (.func 238),args:= #[zt 159,(.const (zs #[]))],argTypes:= #[44,9]}) 4,za 161 (zv 160),zg 161 true 162 (zv 5), .eff (some (161,true)) (some 163) (.call {callee:= .value (.func 240),args:= #[zt 162,(.const (zs #[101]))],argTypes:= #[9,9]}) 4,za 4 (.ite (zv 161) (zv 163) (.const (zb false)))] <| .ret) (zq [za 165 (zB .eql (zv 15) (.const (zu 20)))] <| .cond (zv 165) (zq [za 167 (zM 6 (zv 3)),zE 168 (.call {callee:= .value (.func 238),args:= #[zt 167,(.const (zs #[]))],argTypes:= #[44,9]}) 4,za 169 (zv 168),zg 169 true 170 (zv 5), .eff (some (169,true)) (some 171) (.call {callee:= .value (.func 239),args:= #[zt 170,(.const (zs #[115]))],argTypes:= #[9,9]}) 4,za 4 (.ite (zv 169) (zv 171) (.const (zb false)))] <| .ret) (zq [za 173 (zB .eql (zv 15) (.const (zu 21)))] <| .cond (zv 173) (zq [za 175 (zM 6 (zv 3)),zE 176 (.call {callee:= .value (.func 238),args:= #[zt 175,(.const (zs #[110,116]))],argTypes:= #[44,9]}) 4,za 180 (.ite (zv 176) (zv 6) (.const (zb false))),zg 180 true 182 (zo 3 (zv 3)),zh 180 true 183 23 #[zt 182] #[9] 4,za 185 (.ite (zv 180) (zv 183) (.const (zb false))),zg 185 true 186 (zv 5), .eff (some (185,true)) (some 187) (.call {callee:= .value (.func 240),args:= #[zt 186,(.const (zs #[101]))],argTypes:= #[9,9]}) 4,za 4 (.ite (zv 185) (zv 187) (.const (zb false)))] <| .ret) (zq [za 189 (zB .eql (zv 15) (.const (zu 22)))] <| .cond (zv 189) (zq [za 191 (zM 6 (zv 3)),zE 192 (.call {callee:= .value (.func 238),args:= #[zt 191,(.const (zs #[110]))],argTypes:= #[44,9]}) 4,za 196 (.ite (zv 192) (zv 6) (.const (zb false))),zg 196 true 197 (zv 5), .eff (some (196,true)) (some 198) (.call {callee:= .value (.func 240),args:= #[zt 197,(.const (zs #[101]))],argTypes:= #[9,9]}) 4,za 4 (.ite (zv 196) (zv 198) (.const (zb false)))] <| .ret) (zq [za 200 (zB .eql (zv 15) (.const (zu 23)))] <| .cond (zv 200) (zq [za 202 (zM 6 (zv 3)),zE 203 (.call {callee:= .value (.func 238),args:= #[zt 202,(.const (zs #[]))],argTypes:= #[44,9]}) 4,za 204 (zv 203),zg 204 true 205 (zv 5), .eff (some (204,true)) (some 206) (.call {callee:= .value (.func 240),args:= #[zt 205,(.const (zs #[101,101,101]))],argTypes:= #[9,9]}) 4,za 4 (.ite (zv 204) (zv 206) (.const (zb false)))] <| .ret) (zq [za 208 (zB .eql (zv 15) (.const (zu 24)))] <| .cond (zv 208) (zq [za 210 (zM 6 (zv 3)),zE 211 (.call {callee:= .value (.func 238),args:= #[zt 210,(.const (zs #[110]))],argTypes:= #[44,9]}) 4,za 215 (.ite (zv 211) (zv 6) (.const (zb false))),zg 215 true 216 (zv 5), .eff (some (215,true)) (some 217) (.call {callee:= .value (.func 240),args:= #[zt 216,(.const (zs #[101,101]))],argTypes:= #[9,9]}) 4,za 4 (.ite (zv 215) (zv 217) (.const (zb false)))] <| .ret) (zq [za 219 (zB .eql (zv 15) (.const (zu 25)))] <| .cond (zv 219) (zq [za 221 (zM 6 (zv 3)),zE 222 (.call {callee:= .value (.func 238),args:= #[zt 221,(.const (zs #[]))],argTypes:= #[44,9]}) 4,za 4 (.ite (zv 222) (zS .eql (zv 5) (.const (zs #[99]))) (.const (zb false)))] <| .ret) (zq [za 227 (zB .eql (zv 15) (.const (zu 26)))] <| .cond (zv 227) (zq [za 229 (zM 6 (zv 3)),zE 230 (.call {callee:= .value (.func 238),args:= #[zt 229,(.const (zs #[]))],argTypes:= #[44,9]}) 4,za 231 (zv 230),zg 231 true 232 (zv 5), .eff (some (231,true)) (some 233) (.call {callee:= .value (.func 240),args:= #[zt 232,(.const (zs #[101,113]))],argTypes:= #[9,9]}) 4,zg 231 true 234 (zv 233),zg 234 false 235 (zv 5), .eff (some (234,false)) (some 236) (.call {callee:= .value (.func 240),args:= #[zt 235,(.const (zs #[101,113,113]))],argTypes:= #[9,9]}) 4,za 4 (.ite (zv 231) (.ite (zv 234) (.const (zb true)) (zv 236)) (.const (zb false)))] <| .ret) (zq [za 239 (zB .eql (zv 15) (.const (zu 27)))] <| .cond (zv 239) (zq [za 241 (zM 6 (zv 3)),zE 242 (.call {callee:= .value (.func 238),args:= #[zt 241,(.const (zs #[]))],argTypes:= #[44,9]}) 4,za 243 (zv 242),zg 243 true 244 (zv 5), .eff (some (243,true)) (some 245) (.call {callee:= .value (.func 240),args:= #[zt 244,(.const (zs #[101,113]))],argTypes:= #[9,9]}) 4,za 4 (.ite (zv 243) (zv 245) (.const (zb false)))] <| .ret) (zq [za 247 (zB .eql (zv 15) (.const (zu 28)))] <| .cond (zv 247) (zq [za 249 (zM 6 (zv 3)),zE 250 (.call {callee:= .value (.func 238),args:= #[zt 249,(.const (zs #[110,116]))],argTypes:= #[44,9]}) 4,za 254 (.ite (zv 250) (zv 6) (.const (zb false))),zg 254 true 256 (zo 3 (zv 3)),zh 254 true 257 23 #[zt 256] #[9] 4,za 4 (.ite (.ite (zv 254) (zv 257) (.const (zb false))) (zS .eql (zv 5) (.const (zs #[99,113]))) (.const (zb false)))] <| .ret) (zq [za 263 (zB .eql (zv 15) (.const (zu 29)))] <| .cond (zv 263) (zq [za 265 (zM 6 (zv 3)),zE 266 (.call {callee:= .value (.func 238),args:= #[zt 265,(.const (zs #[]))],argTypes:= #[44,9]}) 4,za 267 (zv 266),zg 267 true 270 (zS .eql (zv 5) (.const (zs #[]))),zg 270 false 271 (zv 5), .eff (some (270,false)) (some 272) (.call {callee:= .value (.func 240),args:= #[zt 271,(.const (zs #[101]))],argTypes:= #[9,9]}) 4,za 4 (.ite (zv 267) (.ite (zv 270) (.const (zb true)) (zv 272)) (.const (zb false)))] <| .ret) (zq [za 275 (zB .eql (zv 15) (.const (zu 32)))] <| .cond (zv 275) (zq [za 285 (.ite (zI .lss (zT (zv 5)) (.const (zk 2))) (.const (zb true)) (zB .neq (.op2 .ixs (zv 5) (.const (zk 0))) (.const (zu 113)))),zg 285 false 287 (.op2 .stLo (zv 5) (.const (zk 1))), .eff (some (285,false)) (some 288) (.call {callee:= .value (.func 239),args:= #[zt 287,(.const (zs #[119]))],argTypes:= #[9,9]}) 4,za 290 (.ite (zv 285) (.const (zb true)) (zn (zv 288)))] <| .seq (.cond (zv 290) (zq [za 4 (.const (zb false))] <| .ret) (.skip)) (ir170_k6)) (zq [za 310 (zB .eql (zv 15) (.const (zu 33)))] <| .cond (zv 310) (zq [za 312 (zM 6 (zv 3)),zE 313 (.call {callee:= .value (.func 238),args:= #[zt 312,(.const (zs #[110]))],argTypes:= #[44,9]}) 4,za 4 (.ite (.ite (zv 313) (.ite (zS .eql (zo 1 (zv 3)) (.const (zs #[]))) (.const (zb true)) (zv 6)) (.const (zb false))) (zS .eql (zv 5) (.const (zs #[113]))) (.const (zb false)))] <| .ret) (zq [za 326 (zB .eql (zv 15) (.const (zu 35)))] <| .cond (zv 326) (zq [za 328 (zM 6 (zv 3)),zE 329 (.call {callee:= .value (.func 238),args:= #[zt 328,(.const (zs #[]))],argTypes:= #[44,9]}) 4,za 335 (.ite (zv 329) (zI .gtr (zT (zv 5)) (.const (zk 1))) (.const (zb false))),zg 335 true 337 (.op3 .stLoHi (zv 5) (.const (zk 0)) (.const (zk 1))), .eff (some (335,true)) (some 338) (.call {callee:= .value (.func 240),args:= #[zt 337,(.const (zs #[101]))],argTypes:= #[9,9]}) 4,za 340 (.ite (zv 335) (zv 338) (.const (zb false))),zg 340 true 342 (.op2 .stLo (zv 5) (.const (zk 1))), .eff (some (340,true)) (some 343) (.call {callee:= .value (.func 239),args:= #[zt 342,(.const (zs #[97]))],argTypes:= #[9,9]}) 4,za 4 (.ite (zv 340) (zv 343) (.const (zb false)))] <| .ret) (zq [za 345 (zB .eql (zv 15) (.const (zu 36)))] <| .cond (zv 345) (zq [za 347 (zM 6 (zv 3)),zE 348 (.call {callee:= .value (.func 238),args:= #[zt 347,(.const (zs #[110,118,116]))],argTypes:= #[44,9]}) 4,za 352 (.ite (zv 348) (zv 6) (.const (zb false))),zg 352 true 354 (zo 2 (zv 3)),zh 352 true 355 79 #[zt 354] #[9] 4,za 357 (.ite (zv 352) (zv 355) (.const (zb false))),zg 357 true 359 (zo 3 (zv 3)),zh 357 true 360 23 #[zt 359] #[9] 4,za 4 (.ite (.ite (zv 357) (zv 360) (.const (zb false))) (zS .eql (zv 5) (.const (zs #[113]))) (.const (zb false)))] <| .ret) (.skip)))))))))))))))
noncomputable def ir170_k8:IR:= .cond (zv 61) (zq [za 64 (zM 6 (zv 3)),zE 65 (.call {callee:= .value (.func 238),args:= #[zt 64,(.const (zs #[110]))],argTypes:= #[44,9]}) 4,za 4 (.ite (.ite (zv 65) (zv 6) (.const (zb false))) (zS .eql (zv 5) (.const (zs #[]))) (.const (zb false)))] <| .ret) (zq [za 73 (zB .eql (zv 15) (.const (zu 5)))] <| .cond (zv 73) (zq [za 78 (zI .gtr (zT (zv 5)) (.const (zk 6))),zg 78 false 79 (zv 5), .eff (some (78,false)) (some 80) (.call {callee:= .value (.func 239),args:= #[zt 79,(.const (zs #[101,99]))],argTypes:= #[9,9]}) 4,za 82 (.ite (zv 78) (.const (zb true)) (zn (zv 80)))] <| .seq (.cond (zv 82) (zq [za 4 (.const (zb false))] <| .ret) (.skip)) (ir170_k1)) (zq [za 113 (zB .eql (zv 15) (.const (zu 6)))] <| .cond (zv 113) (zq [za 115 (zM 6 (zv 3)),zE 116 (.call {callee:= .value (.func 238),args:= #[zt 115,(.const (zs #[110]))],argTypes:= #[44,9]}) 4,za 117 (zv 116),zg 117 true 121 (zS .eql (zo 1 (zv 3)) (.const (zs #[110,111,116]))),zg 121 true 122 (zv 5), .eff (some (121,true)) (some 123) (.call {callee:= .value (.func 240),args:= #[zt 122,(.const (zs #[101]))],argTypes:= #[9,9]}) 4,zg 117 true 125 (.ite (zv 121) (zv 123) (.const (zb false))),zg 125 false 127 (zo 1 (zv 3)),zh 125 false 128 241 #[zt 127] #[9] 4,zg 125 false 129 (zv 128),zg 129 true 130 (zv 5), .eff (some (129,true)) (some 131) (.call {callee:= .value (.func 240),args:= #[zt 130,(.const (zs #[101,101]))],argTypes:= #[9,9]}) 4,zg 125 false 132 (.ite (zv 129) (zv 131) (.const (zb false))),za 4 (.ite (zv 117) (.ite (zv 125) (.const (zb true)) (zv 132)) (.const (zb false)))] <| .ret) (zq [za 135 (zB .eql (zv 15) (.const (zu 7)))] <| .cond (zv 135) (zq [za 137 (zM 6 (zv 3)),zE 138 (.call {callee:= .value (.func 238),args:= #[zt 137,(.const (zs #[]))],argTypes:= #[44,9]}) 4,za 139 (zv 138),zg 139 true 140 (zv 5), .eff (some (139,true)) (some 141) (.call {callee:= .value (.func 240),args:= #[zt 140,(.const (zs #[101,101]))],argTypes:= #[9,9]}) 4,za 4 (.ite (zv 139) (zv 141) (.const (zb false)))] <| .ret) (zq [za 143 (zB .eql (zv 15) (.const (zu 8)))] <| .cond (zv 143) (zq [za 145 (zM 6 (zv 3)),zE 146 (.call {callee:= .value (.func 238),args:= #[zt 145,(.const (zs #[110]))],argTypes:= #[44,9]}) 4,za 150 (.ite (zv 146) (zv 6) (.const (zb false))),zg 150 true 151 (zv 5), .eff (some (150,true)) (some 152) (.call {callee:= .value (.func 240),args:= #[zt 151,(.const (zs #[101]))],argTypes:= #[9,9]}) 4,za 4 (.ite (zv 150) (zv 152) (.const (zb false)))] <| .ret) (zq [za 154 (zB .eql (zv 15) (.const (zu 9)))] <| .seq (.cond (zv 154) (.skip) (zq [za 154 (zB .eql (zv 15) (.const (zu 10)))] <| .cond (zv 154) (.skip) (zq [za 154 (zB .eql (zv 15) (.const (zu 30)))] <| .cond (zv 154) (.skip) (.reg [za 154 (zB .eql (zv 15) (.const (zu 37)))])))) (ir170_k7))))))
noncomputable def ir170_k9:IR:= .cond (zv 52) (zq [za 55 (zM 6 (zv 3)),zE 56 (.call {callee:= .value (.func 238),args:= #[zt 55,(.const (zs #[]))],argTypes:= #[44,9]}) 4,za 4 (.ite (zv 56) (zS .eql (zv 5) (.const (zs #[]))) (.const (zb false)))] <| .ret) (zq [za 61 (zB .eql (zv 15) (.const (zu 4)))] <| .seq (.cond (zv 61) (.skip) (.reg [za 61 (zB .eql (zv 15) (.const (zu 31)))])) (ir170_k8))
noncomputable def ir170_k10:IR:=zq [za 4 (.const (zb false))] <| .ret
noncomputable def ir170:IR:=zq [zE 3 (.box 44 (zt 1)) 0,za 4 (.const (zb false)),za 8 (zv 0),za 9 (zM 6 (zv 3)),zc 10 237 #[zt 8,zt 9] #[29,44] 9,za 5 (zv 10),za 12 (zo 1 (zv 3)),zc 13 79 #[zt 12] #[9] 4,za 6 (zv 13),za 15 (zo 0 (zv 3))] <| .seq (.block 0 (zq [za 16 (zB .eql (zv 15) (.const (zu 1)))] <| .cond (zv 16) (zq [za 18 (zM 6 (zv 3)),zE 19 (.call {callee:= .value (.func 238),args:= #[zt 18,(.const (zs #[78]))],argTypes:= #[44,9]}) 4,za 4 (.ite (.ite (.ite (zv 19) (zI .geq (zo 4 (zv 3)) (.const (zk 0))) (.const (zb false))) (zI .leq (zo 4 (zv 3)) (.const (zk 1000000000))) (.const (zb false))) (zS .eql (zv 5) (.const (zs #[]))) (.const (zb false)))] <| .ret) (zq [za 34 (zB .eql (zv 15) (.const (zu 2)))] <| .cond (zv 34) (zq [za 36 (zM 6 (zv 3)),zE 37 (.call {callee:= .value (.func 238),args:= #[zt 36,(.const (zs #[78]))],argTypes:= #[44,9]}) 4,za 4 (.ite (.ite (zv 37) (.ite (zI .eql (zo 4 (zv 3)) (.const (zk 0))) (.const (zb true)) (zI .eql (zo 4 (zv 3)) (.const (zk 1)))) (.const (zb false))) (zS .eql (zv 5) (.const (zs #[]))) (.const (zb false)))] <| .ret) (zq [za 52 (zB .eql (zv 15) (.const (zu 3)))] <| .seq (.cond (zv 52) (.skip) (.reg [za 52 (zB .eql (zv 15) (.const (zu 34)))])) (ir170_k9))))) (ir170_k10)
def ir170_V:List Nat:=[0,1,3,4,5,6,7,8,9,10,12,13,15,16,18,19,34,36,37,52,55,56,61,64,65,73,78,79,80,82,85,86,87,91,95,97,98,101,102,103,105,106,108,110,111,113,115,116,117,121,122,123,125,127,128,129,130,131,132,135,137,138,139,140,141,143,145,146,150,151,152,154,159,160,161,162,163,165,167,168,169,170,171,173,175,176,180,182,183,185,186,187,189,191,192,196,197,198,200,202,203,204,205,206,208,210,211,215,216,217,219,221,222,227,229,230,231,232,233,234,235,236,239,241,242,243,244,245,247,249,250,254,256,257,263,265,266,267,270,271,272,275,285,287,288,290,295,307,308,309,310,312,313,326,328,329,335,337,338,340,342,343,345,347,348,352,354,355,357,359,360]
theorem ir170_calls:C2 170 366 ir170_V ir170 [.tmp 4]:=c2 [] Tryz.func170
noncomputable def ir81_k0:IR:= .reg [za 7 (zI .add (zv 7) (zl (zx 1 (zv 4) (zv 9))))]
noncomputable def ir81_k1:IR:= .seq (.cond (zv 57) (zq [za 2 (.const (zb false))] <| .ret) (.skip)) (ir81_k0)
noncomputable def ir81_k2:IR:= .reg [za 8 (zI .add (zv 8) (.const (zk 1)))]
noncomputable def ir81_k3:IR:= .seq (.block 3 (zq [za 9 (zI .add (zI .sub (zL (zv 3)) (zv 6)) (zv 8))] <| .seq (.drw [za 57 (zI .neq (zl (zx 1 (zo 5 (zx 6 (zv 0) (zv 5))) (zv 8))) (zl (zx 1 (zv 3) (zv 9))))]) (ir81_k1))) (ir81_k2)
noncomputable def ir81_l4:IR:=zq [za 36 (zI .lss (zv 8) (zv 6))] <| .seq (.cond (zv 36) (.skip) (.exit 2)) (ir81_k3)
noncomputable def ir81_k5:IR:= .reg [zE 71 (.buildSlice 40 0 #[]) 40,za 77 (.op3 (.slLoHi 1) (zv 3) (.const (zk 0)) (zI .sub (zL (zv 3)) (zv 6))),zp 78 #[zt 71,zt 77] #[40,40] 40,za 79 (zv 5),zE 80 (.buildSlice 40 1 #[(0,(zt 79))]) 40,zp 81 #[zt 78,zt 80] #[40,40] 40,za 3 (zv 81),zE 82 (.buildSlice 40 0 #[]) 40,za 88 (.op3 (.slLoHi 1) (zv 4) (.const (zk 0)) (zI .sub (zL (zv 4)) (zv 6))),zp 89 #[zt 82,zt 88] #[40,40] 40,za 90 (zv 7),zE 91 (.buildSlice 40 1 #[(0,(zt 90))]) 40,zp 92 #[zt 89,zt 91] #[40,40] 40,za 4 (zv 92)]
noncomputable def ir81_k6:IR:=zq [za 64 (zv 0),za 68 (zM 6 (zx 6 (zv 0) (zv 5))),zc 69 170 #[zt 64,zt 68] #[29,44] 4,za 70 (zn (zv 69))] <| .seq (.cond (zv 70) (zq [za 2 (.const (zb false))] <| .ret) (.skip)) (ir81_k5)
noncomputable def ir81_k7:IR:=zq [za 7 (.const (zk 1)),za 8 (.const (zk 0))] <| .seq (.block 2 (.loop ir81_l4)) (ir81_k6)
noncomputable def ir81_k8:IR:= .reg [za 5 (zI .add (zv 5) (.const (zk 1)))]
noncomputable def ir81_k9:IR:= .seq (.block 1 (zq [za 6 (zL (zo 5 (zx 6 (zv 0) (zv 5)))),za 33 (zI .gtr (zv 6) (zL (zv 3)))] <| .seq (.cond (zv 33) (zq [za 2 (.const (zb false))] <| .ret) (.skip)) (ir81_k7))) (ir81_k8)
noncomputable def ir81_l10:IR:=zq [za 21 (zI .lss (zv 5) (zL (zv 0)))] <| .seq (.cond (zv 21) (.skip) (.exit 0)) (ir81_k9)
noncomputable def ir81_k11:IR:=zq [za 2 (zI .eql (zL (zv 3)) (.const (zk 1)))] <| .ret
noncomputable def ir81_k12:IR:=zq [za 3 (.const (.slice none 0 0)),za 4 (.const (.slice none 0 0)),za 5 (.const (zk 0))] <| .seq (.block 0 (.loop ir81_l10)) (ir81_k11)
noncomputable def ir81:IR:=zq [za 2 (.const (zb false)),za 17 (.ite (zI .eql (zL (zv 0)) (.const (zk 0))) (.const (zb true)) (zI .gtr (zL (zv 0)) (.const (zk 400))))] <| .seq (.cond (zv 17) (zq [za 2 (.const (zb false))] <| .ret) (.skip)) (ir81_k12)
def ir81_V:List Nat:=[0,2,3,4,5,6,7,8,9,17,21,33,36,57,64,68,69,70,71,77,78,79,80,81,82,88,89,90,91,92]
theorem ir81_calls:C1 81 96 ir81_V ir81 [.tmp 2]:=c1 [] Tryz.func81
noncomputable def ir27_k0:IR:=zq [za 2 (.const (zk 0))] <| .ret
noncomputable def ir27:IR:=zq [za 2 (.const (zk 0)),za 4 (zv 0),zc 5 81 #[zt 4] #[29] 4,za 3 (zv 5),za 17 (.ite (zn (zv 3)) (.const (zb true)) (zB .neq (zo 0 (zx 6 (zv 0) (zI .sub (zL (zv 0)) (.const (zk 1))))) (.const (zu 20))))] <| .seq (.cond (zv 17) (zq [za 2 (.const (zk 21))] <| .ret) (.skip)) (ir27_k0)
def ir27_V:List Nat:=[0,2,3,4,5,17]
theorem ir27_calls:C1 27 18 ir27_V ir27 [.tmp 2]:=c1 [] Tryz.func27
end Go.L02
namespace Go.L02
open Go Go.Eng Go.RowKit
open Go.Proofs hiding encI
open Go.L01 (Bs Tok encT)
set_option maxRecDepth 100000
set_option maxHeartbeats 2000000
section
variable {P:Program} {Q:Ks} {d:Option Nat} {ty:TypeId} {K:Env→World→Prop} {ρ:Env} {w:World}
end
theorem Own.le {b c e sz:Nat} {w:World} {v:Value} {xs:List Value} (h:Own c e sz w v xs) (hb:b≤c):Own b e sz w v xs:=by
 rcases h with h|⟨g,off,n,cap,cur,e1,e2,r⟩
 ·exact .inl h
 ·exact .inr ⟨g,off,n,cap,cur,e1,Nat.le_trans hb e2,r⟩
end Go.L02
namespace Go.L02
open Go Go.Eng Go.RowKit
open Go.Proofs hiding encI
open Go.L01 (Bs Tok encT retK_c1)
set_option maxRecDepth 100000
set_option maxHeartbeats 2000000
structure OwnN (base:Nat) (W:World) (v:Value) (ys:List NV):Prop where
 own:Own base 44 6 W v (nvV ys)
 kid:∀y∈ys,Own base 3 1 W y.kv (y.nd.kids.map encI)
theorem OwnN.nil (base:Nat) (W:World):OwnN base W (.slice none 0 0) []:=⟨Own.nil _ _ _ _,fun _ h=>by cases h⟩
theorem OwnN.rd {base:Nat} {W:World} {v:Value} {ys:List NV} (h:OwnN base W v ys):Rd W v ys:=⟨L01.own_cells h.own,fun y hy=>L01.own_cells (h.kid y hy)⟩
theorem OwnN.ext {base:Nat} {W W':World} {v:Value} {ys:List NV} (h:OwnN base W v ys) (hE:Ext W W'):OwnN base W' v ys:=⟨h.own.ext hE,fun y hy=>(h.kid y hy).ext hE⟩
theorem OwnN.le {b c:Nat} {W:World} {v:Value} {ys:List NV} (h:OwnN c W v ys) (hb:b≤c):OwnN b W v ys:=⟨Own.le h.own hb,fun y hy=>Own.le (h.kid y hy) hb⟩
theorem _root_.Go.Eng.Cells.sub {w:World} {v:Value} {sz:Nat} {xs:List Value} (h:Cells w v sz xs) {l r m:Nat} (h1:l≤r) (h2:r*sz≤xs.length) (h3:r≤m) (h4:m≤slCap v):Cells w (slSub v sz l r m) sz ((xs.take (r*sz)).drop (l*sz)):=by
 have hl:((xs.take (r*sz)).drop (l*sz)).length=(r - l)*sz:=by simp only [List.length_drop,List.length_take];rw [Nat.min_eq_left h2,Nat.sub_mul]
 refine ⟨isSl_sub h.is sz l r m h1 h3 h4,by rw [slLen_sub _ _ _ _ h.is,hl],fun j hj=> ?_⟩
 have hlr:l<r:=by
  rcases Nat.lt_or_ge l r with h|h
  ·exact h
  ·rw [hl,show r - l=0 by omega] at hj;simp at hj
 have hj':=hj
 rw [hl,Nat.sub_mul] at hj'
 rw [slAddr_sub sz l r m j h.is (by omega) (by omega),h.cell (l*sz+j) (by omega)]
 simp
theorem nvV_take (xs:List NV) (r:Nat):(nvV xs).take (r*6)=nvV (xs.take r):=by
 induction xs generalizing r with
 |nil=>simp [nvV]
 |cons x xs ih=>
  have e:nvV (x::xs)=ndV x++nvV xs:=rfl
  have hl:(ndV x).length=6:=rfl
  cases r with
  |zero=>simp [nvV]
  |succ r=>
   rw [e,List.take_append,List.take_of_length_le (by omega),hl,show (r+1)*6 - 6=r*6 by omega,ih];rfl
theorem nvV_drop (xs:List NV) (l:Nat):(nvV xs).drop (l*6)=nvV (xs.drop l):=by
 induction xs generalizing l with
 |nil=>simp [nvV]
 |cons x xs ih=>
  have e:nvV (x::xs)=ndV x++nvV xs:=rfl
  have hl:(ndV x).length=6:=rfl
  cases l with
  |zero=>simp [nvV]
  |succ l=>
   rw [e,List.drop_append,List.drop_eq_nil_of_le (by omega),hl,show (l+1)*6 - 6=l*6 by omega,ih];rfl
theorem Rd.sub {w:World} {v:Value} {xs:List NV} (h:Rd w v xs) {l r m:Nat} (h1:l≤r) (h2:r≤xs.length) (h3:r≤m) (h4:m≤slCap v):Rd w (slSub v 6 l r m) ((xs.take r).drop l):=by
 refine ⟨?_,fun x hx=>h.kids x (List.mem_of_mem_take (List.mem_of_mem_drop hx))⟩
 have:=h.cells.sub h1 (by rw [nvV_len];omega) h3 h4
 rwa [nvV_take,nvV_drop] at this
section
variable {w:World} {lv:Value} {xs:List NV}
end
end Go.L02
namespace Go.L02
open Go Go.Eng Go.RowKit
open Go.Proofs hiding encI
open Go.L01 (Bs Tok encT retK_c1)
set_option maxRecDepth 100000
set_option maxHeartbeats 4000000
instance:Inhabited T:=⟨.mk {kind:=0} []⟩
section
variable {w:World} {lv bv:Value} {xs bs:List NV}
end
end Go.L02
namespace Go.L02
open Go Go.Eng Go.RowKit
open Go.Proofs hiding encI
open Go.L01 (Bs Tok encT isName)
set_option maxRecDepth 100000
set_option maxHeartbeats 2000000
@[simp] theorem cbR238:callB Tryz.prog 238=true:=by kernel_rfl
@[simp] theorem cbR152:callB Tryz.prog 152=true:=by kernel_rfl
@[simp] theorem cbR287:callB Tryz.prog 287=true:=by kernel_rfl
@[simp] theorem cbR237:callB Tryz.prog 237=true:=by kernel_rfl
@[simp] theorem cbR240:callB Tryz.prog 240=true:=by kernel_rfl
@[simp] theorem cbR239:callB Tryz.prog 239=true:=by kernel_rfl
@[simp] theorem cbR241:callB Tryz.prog 241=true:=by kernel_rfl
@[simp] theorem cbR150:callB Tryz.prog 150=true:=by kernel_rfl
@[simp] theorem cbR151:callB Tryz.prog 151=true:=by kernel_rfl
section
variable {w:World}
theorem q_isExpr (k:Nat):Calls Tryz.prog 152 #[.int .u8 (k:Int)] w fun e w'=>e= .returned (.bool (isExprK k))∧Ext w w':=by
 refine ir152_calls fun ρ r0=> ?_
 have e1:isExprK k=(decide (1≤k)&&decide (k≤10)):=rfl
 have h1:(1:Int)≤(k:Int)↔1≤k:=by omega
 have h2:(k:Int)≤10↔k≤10:=by omega
 by_cases h:1≤k
 ·have h':(1:Int)≤(k:Int):=by omega
  simp -implicitDefEqProofs [ir152,r0,h,h',e1,h2]
  exact ext_refl _
 ·have h':¬(1:Int)≤(k:Int):=by omega
  simp -implicitDefEqProofs [ir152,r0,h,h',e1]
  exact ext_refl _
theorem q_isStatement (k:Nat):Calls Tryz.prog 287 #[.int .u8 (k:Int)] w fun e w'=>e= .returned (.bool (decide (21≤k)&&decide (k≤37)&&decide (k≠33)&&decide (k≠36)))∧Ext w w':=by
 refine ir287_calls fun ρ r0=> ?_
 have h2:(k:Int)≤37↔k≤37:=by omega
 have h3:(k:Int)=33↔k=33:=by omega
 have h4:(k:Int)=36↔k=36:=by omega
 have h5:(21:Int)≤(k:Int)↔21≤k:=by omega
 by_cases g1:21≤k<;>by_cases g2:k≤37<;>by_cases g3:k=33<;>by_cases g4:k=36<;>(simp -implicitDefEqProofs [ir287,r0,h5,h2,h3,h4,g1,g2,g3,g4];try exact ext_refl _)
theorem u8_eq (a b:UInt8):((a.toNat:Int)=(b.toNat:Int))↔a=b:=by
 constructor
 ·intro h
  apply UInt8.toNat_inj.1
  omega
 ·rintro rfl;rfl
theorem u8_lit (a:UInt8) (n:Nat) (hn:n<256):((a.toNat:Int)=(n:Int))↔a=UInt8.ofNat n:=by
 have:=u8_eq a (UInt8.ofNat n)
 rw [←this]
 simp
 omega
theorem q_rest {x:NV} (hx:isSl x.kv=true) (fs:Bs) (hfs:fs.length≤1000000):Calls Tryz.prog 238 #[ndA x, .string (mkS fs)] w fun e w'=>e= .returned (.bool (restR x.nd.d (fs.contains 110) (fs.contains 118) (fs.contains 116) (fs.contains 78)))∧Ext w w':=by
 have hkc:=isSl_cells hx
 have e0:(⟨#[]⟩:ByteArray)=mkS []:=rfl
 generalize hRR:(fun (e:Ending) (w':World)=>e= .returned (.bool (restR x.nd.d (fs.contains 110) (fs.contains 118) (fs.contains 116) (fs.contains 78)))∧Ext w w')=R
 refine ir238_calls fun ρ r0 r1=> ?_
 simp -implicitDefEqProofs [ir238]
 refine eff_box fun X w1 hX hE1 hb1 _=> ?_
 rw [show evE ρ (.tmp 0)=ndA x by simp [r0],ndA_cells hx] at hb1
 simp -implicitDefEqProofs
 refine eff_store1 (B:=X) (i:=0) (by simp) hb1 (by simp [ndV]) (by simp [Value.cells]) (by simp) (by kernel_rfl) fun w2 hO2 hb2=> ?_
 simp -implicitDefEqProofs
 refine eff_store1 (B:=X) (i:=5) (by simp) hb2 (by simp [ndV]) (by simp [Value.cells]) (by simp) (by kernel_rfl) fun w3 hO3 hb3=> ?_
 simp -implicitDefEqProofs [ndV,r1] at hb3⊢
 have hE3:Ext w w3:=(hO2.trans hO3).ext hE1 hX
 obtain ⟨I,hI⟩:∃I:Nat→Env→World→Prop,∀j ρ' w',I j ρ' w'↔(ρ' 1= .string (mkS fs)∧ρ' 2= .pointer (some ⟨X,0,none⟩)∧Ext w w'∧Blk w' X #[.int .u8 0, .string (mkS (if (fs.take j).contains 110 then [] else x.nd.d.name)), .string (mkS (if (fs.take j).contains 118 then [] else x.nd.d.vr)), .string (mkS (if (fs.take j).contains 116 then [] else x.nd.d.typ)), .int .i64 (if (fs.take j).contains 78 then 0 else x.nd.d.n), .slice none 0 0] 44):=⟨_,fun _ _ _=>Iff.rfl⟩
 refine loopC 5 fs.length I (by simp) ((hI _ _ _).2 ⟨by simp [r1],by simp,hE3,by simpa using hb3⟩) ?_
 clear r0 r1 hb3 hb2 hb1
 rintro j ρ' w' hj rj hIw
 obtain ⟨r1,r2,hE,hb⟩:=(hI _ _ _).1 hIw
 have hwj:IntKind.i64.wrap ((j:Int)+1)=(j:Int)+1:=i64w (by omega)
 by_cases hlt:j<fs.length
 ·have hlt':(j:Int)<(fs.length:Int):=by omega
  have hg:((mkS fs)[j]'(by simpa using hlt))=fs[j]:=rfl
  have hsz:j<(mkS fs).size:=by simpa using hlt
  have htk:fs.take (j+1)=fs.take j++[fs[j]]:=List.take_succ_eq_append_getElem hlt
  generalize fs[j]=c at hg htk
  have hcn:∀b:UInt8,b∈fs.take (j+1)↔(b∈fs.take j∨b=c):=fun b=>by
   rw [htk];simp
  have h110:=u8_lit c 110 (by decide)
  have h118:=u8_lit c 118 (by decide)
  have h116:=u8_lit c 116 (by decide)
  have h78:=u8_lit c 78 (by decide)
  simp at h110 h118 h116 h78
  have hXw:w.heap.size≤X:=by have:=hE1.size;omega
  by_cases c110:c=110
  ·have d110:(c.toNat:Int)=110:=h110.2 c110
   simp -implicitDefEqProofs [ir238_l2,rj,r1,hlt',hlt,ir238_k1,hg,d110,r2]
   refine eff_store1 (B:=X) (i:=1) (by simp) hb (by simp) (by simp [Value.cells]) (by simp) (by kernel_rfl) fun w2 hO2 hb2=> ?_
   simp -implicitDefEqProofs [ir238_k0,rj,hwj,hlt]
   refine (hI _ _ _).2 ⟨by simp [r1],by simp [r2],hO2.ext hE hXw,blk_cast hb2 ?_⟩
   simp [hcn,c110,e0]
  ·have d110:¬(c.toNat:Int)=110:=fun h=>c110 (h110.1 h)
   by_cases c118:c=118
   ·have d118:(c.toNat:Int)=118:=h118.2 c118
    simp -implicitDefEqProofs [ir238_l2,rj,r1,hlt',hlt,ir238_k1,hg,d110,d118,r2]
    refine eff_store1 (B:=X) (i:=2) (by simp) hb (by simp) (by simp [Value.cells]) (by simp) (by kernel_rfl) fun w2 hO2 hb2=> ?_
    simp -implicitDefEqProofs [ir238_k0,rj,hwj,hlt]
    refine (hI _ _ _).2 ⟨by simp [r1],by simp [r2],hO2.ext hE hXw,blk_cast hb2 ?_⟩
    simp [hcn,c118,e0]
   ·have d118:¬(c.toNat:Int)=118:=fun h=>c118 (h118.1 h)
    by_cases c116:c=116
    ·have d116:(c.toNat:Int)=116:=h116.2 c116
     simp -implicitDefEqProofs [ir238_l2,rj,r1,hlt',hlt,ir238_k1,hg,d110,d118,d116,r2]
     refine eff_store1 (B:=X) (i:=3) (by simp) hb (by simp) (by simp [Value.cells]) (by simp) (by kernel_rfl) fun w2 hO2 hb2=> ?_
     simp -implicitDefEqProofs [ir238_k0,rj,hwj,hlt]
     refine (hI _ _ _).2 ⟨by simp [r1],by simp [r2],hO2.ext hE hXw,blk_cast hb2 ?_⟩
     simp [hcn,c116,e0]
    ·have d116:¬(c.toNat:Int)=116:=fun h=>c116 (h116.1 h)
     by_cases c78:c=78
     ·have d78:(c.toNat:Int)=78:=h78.2 c78
      simp -implicitDefEqProofs [ir238_l2,rj,r1,hlt',hlt,ir238_k1,hg,d110,d118,d116,d78,r2]
      refine eff_store1 (B:=X) (i:=4) (by simp) hb (by simp) (by simp [Value.cells]) (by simp) (by kernel_rfl) fun w2 hO2 hb2=> ?_
      simp -implicitDefEqProofs [ir238_k0,rj,hwj,hlt]
      refine (hI _ _ _).2 ⟨by simp [r1],by simp [r2],hO2.ext hE hXw,blk_cast hb2 ?_⟩
      simp [hcn,c78,e0]
     ·have d78:¬(c.toNat:Int)=78:=fun h=>c78 (h78.1 h)
      simp -implicitDefEqProofs [ir238_l2,rj,r1,hlt',hlt,ir238_k1,hg,d110,d118,d116,d78,r2]
      simp -implicitDefEqProofs [ir238_k0,rj,hwj,hlt]
      refine (hI _ _ _).2 ⟨by simp [r1],by simp [r2],hE,blk_cast hb ?_⟩
      simp [hcn,Ne.symm c110,Ne.symm c118,Ne.symm c116,Ne.symm c78]
 ·have hlt':¬(j:Int)<(fs.length:Int):=by omega
  rw [List.take_of_length_le (by omega)] at hb
  have cX:∀q,w'.cell? ⟨X,q,none⟩=[Value.int .u8 0, .string (mkS (if fs.contains 110 then [] else x.nd.d.name)), .string (mkS (if fs.contains 118 then [] else x.nd.d.vr)), .string (mkS (if fs.contains 116 then [] else x.nd.d.typ)), .int .i64 (if fs.contains 78 then 0 else x.nd.d.n), .slice none 0 0][q]? :=fun q=>by rw [hb.cell];simp
  unfold restR at hRR
  generalize fs.contains 110=b1 at cX hRR
  generalize fs.contains 118=b2 at cX hRR
  generalize fs.contains 116=b3 at cX hRR
  generalize fs.contains 78=b4 at cX hRR
  simp -implicitDefEqProofs [ir238_l2,rj,r1,hlt',hlt,ir238_k3,r2,cX,e0,mkS_inj]
  rw [←hRR]
  refine ⟨?_,hE⟩
  have e4:((if b4=true then (0:Int) else x.nd.d.n)==0)=(b4||decide (x.nd.d.n=0)):=by
   cases b4 with
   |true=>rfl
   |false=>exact Bool.eq_iff_iff.2 (by simp)
  rw [e4]
theorem q_fit (a p:Bs) (ha:a.length≤1000000):Calls Tryz.prog 240 #[.string (mkS a), .string (mkS p)] w fun e w'=>e= .returned (.bool (fit a p))∧Ext w w':=by
 have fit_len:∀(a p:Bs),fit a p=true→a.length=p.length:=by
  intro a
  induction a with
  |nil=>intro p h;cases p<;>simp [fit] at h⊢
  |cons x a ih=>intro p h;cases p with
   |nil=>simp [fit] at h
   |cons y p=>simp only [fit,Bool.and_eq_true] at h;simp [ih p h.2]
 generalize hb:fit a p=b
 generalize hRR:(fun (e:Ending) (w':World)=>e= .returned (.bool b)∧Ext w w')=R
 refine ir240_calls fun ρ r0 r1=> ?_
 by_cases hl:a.length=p.length
 ·simp -implicitDefEqProofs [ir240,r0,r1,hl,ir240_k5]
  obtain ⟨I,hI⟩:∃I:Nat→Env→World→Prop,∀j ρ' w',I j ρ' w'↔(ρ' 0= .string (mkS a)∧ρ' 1= .string (mkS p)∧Ext w w'∧fit (a.drop j) (p.drop j)=b):=⟨_,fun _ _ _=>Iff.rfl⟩
  refine loopC 5 p.length I (by simp) ((hI _ _ _).2 ⟨by simp [r0],by simp [r1],ext_refl _,hb⟩) ?_
  clear r0 r1 hb
  rintro j ρ' w' hj rj hIw
  obtain ⟨r0,r1,hE,hb⟩:=(hI _ _ _).1 hIw
  have hwj:IntKind.i64.wrap ((j:Int)+1)=(j:Int)+1:=i64w (by omega)
  by_cases hlt:j<p.length
  ·have hlt':(j:Int)<(p.length:Int):=by omega
   have hla:j<a.length:=by omega
   have hla':(j:Int)<(a.length:Int):=by omega
   have hga:((mkS a)[j]'(by simpa using hla))=a[j]:=rfl
   have hgp:((mkS p)[j]'(by simpa using hlt))=p[j]:=rfl
   have hsa:j<(mkS a).size:=by simpa using hla
   have hsp:j<(mkS p).size:=by simpa using hlt
   rw [List.drop_eq_getElem_cons hla,List.drop_eq_getElem_cons hlt,fit] at hb
   generalize a[j]=x at hga hb
   generalize p[j]=y at hgp hb
   have hxy:=u8_eq x y
   have h99:=u8_lit x 99 (by decide)
   have h101:=u8_lit y 101 (by decide)
   simp at h99 h101
   have step:∀w2,Ext w w2→ir240_k0.wp ⟨Tryz.prog,36,ir240_V,[]⟩ (ir240_k1.wp ⟨Tryz.prog,36,ir240_V,[]⟩ (fun ρ'' w''=>ρ'' 5= .int .i64 ((j:Int)+1)∧I (j+1) ρ'' w'') ((ksOf [.tmp 4] R).blk 0 (ir240_k4.wp ⟨Tryz.prog,36,ir240_V,[]⟩ (retK [.tmp 4] R) (ksOf [.tmp 4] R)))) (((ksOf [.tmp 4] R).blk 0 (ir240_k4.wp ⟨Tryz.prog,36,ir240_V,[]⟩ (retK [.tmp 4] R) (ksOf [.tmp 4] R))).blk 1 (ir240_k1.wp ⟨Tryz.prog,36,ir240_V,[]⟩ (fun ρ'' w''=>ρ'' 5= .int .i64 ((j:Int)+1)∧I (j+1) ρ'' w'') ((ksOf [.tmp 4] R).blk 0 (ir240_k4.wp ⟨Tryz.prog,36,ir240_V,[]⟩ (retK [.tmp 4] R) (ksOf [.tmp 4] R))))) (upd (upd ρ' 14 (.bool true)) 35 (.bool (!fitC x y))) w2:=by
    intro w2 hE2
    cases hc:fitC x y with
    |true=>
     rw [hc,Bool.true_and] at hb
     simp -implicitDefEqProofs [ir240_k0,ir240_k1,rj,hwj]
     exact (hI _ _ _).2 ⟨by simp [r0],by simp [r1],hE2,hb⟩
    |false=>
     rw [hc,Bool.false_and] at hb
     simp -implicitDefEqProofs [ir240_k0]
     rw [←hRR,←hb]
     exact ⟨rfl,hE2⟩
   simp -implicitDefEqProofs [ir240_l3,rj,r0,r1,hl,hlt',hlt,ir240_k2,hga,hgp,hxy,h99,h101]
   by_cases g1:x=y
   ·have hf:fitC x y=true:=by simp [fitC,g1]
    rw [if_pos g1]
    rw [hf] at step
    exact fun w2 hE2=>step w2 (hE.trans' hE2)
   ·rw [if_neg g1]
    by_cases g2:x=99
    ·rw [if_pos g2]
     have hf:fitC x y=decide (y=101):=by simp [fitC,g1,g2];exact fun e=>absurd (g2.trans e) g1
     have hv:(!((y.toNat:Int) !=101))=decide (y=101):=by
      rw [Bool.eq_iff_iff];simp;omega
     rw [hf,←hv,Bool.not_not] at step
     exact fun w2 hE2=>step w2 (hE.trans' hE2)
    ·have hf:fitC x y=false:=by simp [fitC,g1,g2]
     rw [if_neg g2]
     rw [hf] at step
     exact fun w2 hE2=>step w2 (hE.trans' hE2)
  ·have hlt':¬(j:Int)<(p.length:Int):=by omega
   rw [List.drop_eq_nil_of_le (by omega),List.drop_eq_nil_of_le (by omega)] at hb
   simp -implicitDefEqProofs [ir240_l3,rj,r0,hl,hlt',hlt,ir240_k4]
   rw [←hRR,←hb]
   exact ⟨rfl,hE⟩
 ·have hb':b=false:=by
   cases b with
   |false=>rfl
   |true=>exact absurd (fit_len a p hb) hl
  simp -implicitDefEqProofs [ir240,r0,r1,hl]
  rw [←hRR,hb']
  exact ⟨rfl,ext_refl _⟩
theorem q_all (a so:Bs) (ha:a.length≤1000000) (hso:so.length≤1000000):Calls Tryz.prog 239 #[.string (mkS a), .string (mkS so)] w fun e w'=>e= .returned (.bool (allR a so))∧Ext w w':=by
 generalize hRR:(fun (e:Ending) (w':World)=>e= .returned (.bool (allR a so))∧Ext w w')=R
 refine ir239_calls fun ρ r0 r1=> ?_
 simp -implicitDefEqProofs [ir239]
 obtain ⟨I,hI⟩:∃I:Nat→Env→World→Prop,∀j ρ' w',I j ρ' w'↔(ρ' 0= .string (mkS a)∧ρ' 1= .string (mkS so)∧Ext w w'∧(a.take j).all so.contains=true):=⟨_,fun _ _ _=>Iff.rfl⟩
 refine loopC 5 a.length I (by simp) ((hI _ _ _).2 ⟨by simp [r0],by simp [r1],ext_refl _,by simp⟩) ?_
 clear r0 r1
 rintro j ρ' w' hj rj hIw
 obtain ⟨r0,r1,hE,hall⟩:=(hI _ _ _).1 hIw
 have hwj:IntKind.i64.wrap ((j:Int)+1)=(j:Int)+1:=i64w (by omega)
 by_cases hlt:j<a.length
 ·have hlt':(j:Int)<(a.length:Int):=by omega
  have hga:((mkS a)[j]'(by simpa using hlt))=a[j]:=rfl
  have hsa:j<(mkS a).size:=by simpa using hlt
  have htk:a.take (j+1)=a.take j++[a[j]]:=List.take_succ_eq_append_getElem hlt
  have hmem:a[j]∈a:=List.getElem_mem _
  generalize a[j]=x at hga htk hmem
  simp -implicitDefEqProofs [ir239_l6,rj,r0,hlt',hlt,ir239_k5]
  obtain ⟨J,hJ⟩:∃J:Nat→Env→World→Prop,∀q ρ' w',J q ρ' w'↔(ρ' 0= .string (mkS a)∧ρ' 1= .string (mkS so)∧ρ' 5= .int .i64 (j:Int)∧ρ' 6= .bool ((so.take q).contains x)∧Ext w w'):=⟨_,fun _ _ _=>Iff.rfl⟩
  refine loopC 7 so.length J (by simp) ((hJ _ _ _).2 ⟨by simp [r0],by simp [r1],by simp [rj],by simp,hE⟩) ?_
  clear r0 r1 rj hE
  rintro q ρ2 w2 hq rq hJw
  obtain ⟨s0,s1,s5,s6,hE⟩:=(hJ _ _ _).1 hJw
  have hwq:IntKind.i64.wrap ((q:Int)+1)=(q:Int)+1:=i64w (by omega)
  by_cases hqt:q<so.length
  ·have hqt':(q:Int)<(so.length:Int):=by omega
   have hgs:((mkS so)[q]'(by simpa using hqt))=so[q]:=rfl
   have hss:q<(mkS so).size:=by simpa using hqt
   have htq:so.take (q+1)=so.take q++[so[q]]:=List.take_succ_eq_append_getElem hqt
   generalize so[q]=y at hgs htq
   have hxy:=u8_eq x y
   have hct:(so.take (q+1)).contains x=((so.take q).contains x||decide (x=y)):=by
    rw [htq,Bool.eq_iff_iff];simp
   cases hc:(so.take q).contains x with
   |true=>
    rw [hc] at s6 hct
    simp -implicitDefEqProofs [ir239_l2,rq,s1,hqt',hqt,ir239_k1,s6]
    intro w3 hE3
    simp -implicitDefEqProofs [ir239_k0,rq,hwq,hqt]
    exact (hJ _ _ _).2 ⟨by simp [s0],by simp [s1],by simp [s5],by rw [hct];simp,hE.trans' hE3⟩
   |false=>
    rw [hc] at s6 hct
    simp -implicitDefEqProofs [ir239_l2,rq,s0,s1,s5,hqt',hqt,hlt',hlt,ir239_k1,s6,hga,hgs]
    intro w3 hE3
    simp -implicitDefEqProofs [ir239_k0,rq,hwq,hqt]
    refine (hJ _ _ _).2 ⟨by simp [s0],by simp [s1],by simp [s5], ?_,hE.trans' hE3⟩
    rw [hct,Bool.false_or]
    simp
    rw [Bool.eq_iff_iff]
    simp
    exact UInt8.toNat_inj
  ·have hqt':¬(q:Int)<(so.length:Int):=by omega
   rw [List.take_of_length_le (by omega)] at s6
   cases hc:so.contains x with
   |true=>
    rw [hc] at s6
    simp -implicitDefEqProofs [ir239_l2,rq,s1,hqt',hqt,ir239_k3,s6,ir239_k4,s5,hwj]
    refine (hI _ _ _).2 ⟨by simp [s0],by simp [s1],hE, ?_⟩
    rw [htk,List.all_append,hall]
    simpa using hc
   |false=>
    rw [hc] at s6
    simp -implicitDefEqProofs [ir239_l2,rq,s1,hqt',hqt,ir239_k3,s6]
    rw [←hRR]
    refine ⟨?_,hE⟩
    congr 2
    symm
    unfold allR
    rw [List.all_eq_false]
    exact ⟨x,hmem,by simpa using hc⟩
 ·have hlt':¬(j:Int)<(a.length:Int):=by omega
  rw [List.take_of_length_le (by omega)] at hall
  simp -implicitDefEqProofs [ir239_l6,rj,r0,hlt',hlt,ir239_k7]
  rw [←hRR]
  exact ⟨by unfold allR;rw [hall],hE⟩
theorem q_signs:Calls Tryz.prog 150 #[] w fun e w'=>∃v,e= .returned v∧Own w.heap.size 9 1 w' v (signsN.map encT)∧Ext w w':=by
 refine ir150_calls fun ρ=> ?_
 simp -implicitDefEqProofs [ir150]
 refine eff_lit si51 (by decide) (by decide) (by simp [Value.cells]) fun X w1 hX hE1 hb1 _=> ?_
 simp [Value.cells] at hb1
 have hb1':Blk w1 X (signsN.map encT).toArray 9:=blk_cast hb1 rfl
 simp -implicitDefEqProofs
 exact ⟨Own.lit (n:=7) (sz:=1) hb1' (by decide) hX (by decide),hE1⟩
theorem q_words:Calls Tryz.prog 151 #[] w fun e w'=>∃v,e= .returned v∧Own w.heap.size 9 1 w' v (wordsN.map encT)∧Ext w w':=by
 refine ir151_calls fun ρ=> ?_
 simp -implicitDefEqProofs [ir151]
 refine eff_lit si51 (by decide) (by decide) (by simp [Value.cells]) fun X w1 hX hE1 hb1 _=> ?_
 simp [Value.cells] at hb1
 have hb1':Blk w1 X (wordsN.map encT).toArray 9:=blk_cast hb1 rfl
 simp -implicitDefEqProofs
 exact ⟨Own.lit (n:=3) (sz:=1) hb1' (by decide) hX (by decide),hE1⟩
theorem opers_perm (s:Bs):(signsN++wordsN).contains s=opers.contains s:=by
 rw [Bool.eq_iff_iff]
 simp [signsN,wordsN,opers]
 constructor<;>intro h<;>(rcases h with h|h|h|h|h|h|h|h|h|h<;>simp [h])
theorem q_operator (s:Bs):Calls Tryz.prog 241 #[.string (mkS s)] w fun e w'=>e= .returned (.bool (opers.contains s))∧Ext w w':=by
 rw [←opers_perm s]
 generalize hRR:(fun (e:Ending) (w':World)=>e= .returned (.bool ((signsN++wordsN).contains s))∧Ext w w')=R
 refine ir241_calls fun ρ r0=> ?_
 simp -implicitDefEqProofs [ir241]
 refine q_signs.mono ?_
 rintro _ w1 ⟨v1,rfl,hv1,hE1⟩
 simp -implicitDefEqProofs
 refine q_words.mono ?_
 rintro _ w2 ⟨v2,rfl,hv2,hE2⟩
 simp -implicitDefEqProofs
 refine eff_append ri51 (W0:=w) (hE1.trans' hE2) (sv:=v1) (xv:=v2) (by simp) (by simp) (hv1.ext hE2) (L01.own_cells hv2) (by simp [encT,Value.oneCell']) (by decide) (by decide) fun v w3 hE3 hv _ _=> ?_
 rw [←List.map_append] at hv
 have hvi:=hv.isl
 have hvl:slLen v=10:=by have:=(L01.own_cells hv).len;simpa [signsN,wordsN] using this.symm
 simp -implicitDefEqProofs
 generalize hL:signsN++wordsN=W at hRR hv
 have hWl:W.length=10:=by rw [←hL];rfl
 obtain ⟨I,hI⟩:∃I:Nat→Env→World→Prop,∀j ρ' w',I j ρ' w'↔(ρ' 0= .string (mkS s)∧ρ' 3=v∧Ext w3 w'∧∀x∈W.take j,x≠s):=⟨_,fun _ _ _=>Iff.rfl⟩
 refine loopC 4 10 I (by simp) ((hI _ _ _).2 ⟨by simp [r0],by simp,ext_refl _,by simp⟩) ?_
 clear r0
 rintro j ρ' w' hj rj hIw
 obtain ⟨r0,r3,hE,hno⟩:=(hI _ _ _).1 hIw
 have hwj:IntKind.i64.wrap ((j:Int)+1)=(j:Int)+1:=i64w (by omega)
 by_cases hlt:j<10
 ·have hlt':(j:Int)<10:=by omega
  have hjw:j<W.length:=by omega
  have hc:=(L01.own_cells (hv.ext hE)).cell j (by simpa using hjw)
  simp only [List.getElem_map,encT] at hc
  by_cases hx:W[j]=s
  ·simp -implicitDefEqProofs [ir241_l2,rj,r3,hvi,hvl,hlt',hlt,ir241_k1,hc,r0,mkS_inj,hx]
   rw [←hRR]
   refine ⟨?_,hE3.trans' hE⟩
   have:W.contains s=true:=List.contains_iff_mem.2 (by rw [←hx];exact List.getElem_mem _)
   rw [this]
  ·simp -implicitDefEqProofs [ir241_l2,rj,r3,hvi,hvl,hlt',hlt,ir241_k1,hc,r0,mkS_inj,hx,ir241_k0,hwj]
   refine (hI _ _ _).2 ⟨by simp [r0],by simp [r3],hE,fun x hx2=> ?_⟩
   rw [List.take_succ_eq_append_getElem hjw] at hx2
   rcases List.mem_append.1 hx2 with h|h
   ·exact hno x h
   ·rw [List.mem_singleton.1 h];exact hx
 ·have hlt':¬(j:Int)<10:=by omega
  rw [List.take_of_length_le (by omega)] at hno
  simp -implicitDefEqProofs [ir241_l2,rj,r3,hvi,hvl,hlt',hlt,ir241_k3]
  rw [←hRR]
  refine ⟨?_,hE3.trans' hE⟩
  have:W.contains s=false:=by
   cases hc:W.contains s with
   |false=>rfl
   |true=>exact absurd rfl (hno s (List.contains_iff_mem.1 hc))
  rw [this]
end
end Go.L02
namespace Go.L02
open Go Go.Eng Go.RowKit
open Go.Proofs hiding encI
open Go.L01 (Bs Tok encT isName)
set_option maxRecDepth 100000
set_option maxHeartbeats 2000000
section
variable {w:World} {lv:Value} {xs:List NV}
def oK:Orc
 |152,[.int .u8 k]=>if 0≤k then some (.bool (isExprK k.toNat)) else none
 |287,[.int .u8 k]=>if 0≤k then some (.bool (decide (21≤k.toNat)&&decide (k.toNat≤37)&&decide (k.toNat≠33)&&decide (k.toNat≠36))) else none
 |_,_=>none
theorem oK_ok (w0:World):OrcOk Tryz.prog oK w0:=by
 intro f l v h
 unfold oK at h
 split at h
 ·rename_i k
  split at h
  ·rename_i hk
   obtain ⟨n,rfl⟩:=Int.eq_ofNat_of_zero_le hk
   cases h
   exact ⟨by simp,fun W _=>by simpa using q_isExpr (w:=W) n⟩
  ·cases h
 ·rename_i k
  split at h
  ·rename_i hk
   obtain ⟨n,rfl⟩:=Int.eq_ofNat_of_zero_le hk
   cases h
   exact ⟨by simp,fun W _=>by simpa using q_isStatement (w:=W) n⟩
  ·cases h
 ·cases h
theorem cut0' (s:Bs) (n:Nat):(mkS s).extract 0 n=mkS (s.take n):=by
 apply ByteArray.ext
 apply Array.ext'
 show ((mkS s).extract 0 n).data.toList=_
 simp [mkS]
theorem drop_ext' (s:Bs) (k:Nat):(mkS s).extract k s.length=mkS (s.drop k):=L01.drop_ext s k
theorem q_kinds (hR:Rd w lv xs) {x:NV} (hx:Cells w x.kv 1 (x.nd.kids.map encI)) (hin:∀k∈x.nd.kids,0≤k∧k<xs.length) (hlen:x.nd.kids.length≤1000000) (hxl:xs.length≤1000000):
  Calls Tryz.prog 237 #[lv,ndA x] w fun e w'=>e= .returned (.string (mkS (kindsR (xs.map (·.nd)) x.nd)))∧Ext w w':=by
 generalize hRR:(fun (e:Ending) (w':World)=>e= .returned (.string (mkS (kindsR (xs.map (·.nd)) x.nd)))∧Ext w w')=R
 refine ir237_calls fun ρ r0 r1=> ?_
 simp only [ir237,wpi_seq,wpi_reg,wps_eff,gd,if_true]
 refine eff_box fun X w1 hX hE1 hb1 _=> ?_
 rw [show evE ρ (.tmp 1)=ndA x by simp [r1],ndA_cells hx.is] at hb1
 have cX:∀q,w1.cell? ⟨X,q,none⟩=(ndV x)[q]? :=fun q=>by rw [hb1.cell];simp
 have hR1:=hR.ext hE1
 have hx1:=hx.ext hE1
 have hkl:slLen x.kv=x.nd.kids.length:=by have:=hx.len;simpa using this.symm
 refine pure_tail (cx:=⟨Tryz.prog,57,ir237_V,[]⟩) (a:= .seq (.block 0 (.loop ir237_l2)) ir237_k3) (oK_ok _) (ext_refl w1) (fun ρ=>ρ 4= .string (mkS (kindsR (xs.map (·.nd)) x.nd))) (fun ρ' w' hE hT=> ?_) ?_
 ·rw [retK1,←hRR,hT];exact ⟨rfl,hE1.trans' hE⟩
 simp -implicitDefEqProofs
 obtain ⟨I,hI⟩:∃I:Nat→Env→Prop,∀j ρ',I j ρ'↔(ρ' 0=lv∧ρ' 3= .pointer (some ⟨X,0,none⟩)∧ρ' 5= .string (mkS ((x.nd.kids.take j).map fun k=>letterK (kidK (xs.map (·.nd)) k)))):=⟨_,fun _ _=>Iff.rfl⟩
 refine mi_loopC 6 x.nd.kids.length I (by simp) ((hI _ _).2 ⟨by simp [r0],by simp,by simp;rfl⟩) ?_
 clear r0 r1
 rintro j ρ' hj rj hIw
 obtain ⟨r0,r3,r5⟩:=(hI _ _).1 hIw
 have hwj:IntKind.i64.wrap ((j:Int)+1)=(j:Int)+1:=i64w (by omega)
 simp only [ndV] at cX
 by_cases hlt:j<x.nd.kids.length
 ·have hlt':(j:Int)<(x.nd.kids.length:Int):=by omega
  have hc:=hx1.cell j (by simpa using hlt)
  simp only [List.getElem_map,encI] at hc
  have htk:x.nd.kids.take (j+1)=x.nd.kids.take j++[x.nd.kids[j]]:=List.take_succ_eq_append_getElem hlt
  have hkin:=hin _ (List.getElem_mem hlt)
  generalize x.nd.kids[j]=k at hc htk hkin
  obtain ⟨n,rfl⟩:=Int.eq_ofNat_of_zero_le hkin.1
  have hn:n<xs.length:=by omega
  have hck:=hR1.cell (k:=n) (j:=0) hn (by omega)
  have hK:=kidK_get hkin
  simp only [Int.toNat_natCast] at hK
  have hlK:((x.nd.kids.take j).map fun k=>letterK (kidK (xs.map (·.nd)) k)).length≤1000000:=by simp;omega
  generalize hpr:((x.nd.kids.take j).map fun k=>letterK (kidK (xs.map (·.nd)) k))=pr at r5 hlK
  have htk2:((x.nd.kids.take (j+1)).map fun k=>letterK (kidK (xs.map (·.nd)) k))=pr++[letterK (xs[n].nd.d.kind)]:=by
   rw [htk,List.map_append,hpr];simp [hK]
  simp [ndV] at hck
  generalize xs[n].nd.d.kind=kd at hck htk2
  have fin:∀ρ2:Env,ρ2 0=lv→ρ2 3= .pointer (some ⟨X,0,none⟩)→ρ2 6= .int .i64 j→ρ2 5= .string (mkS (pr++[letterK kd]))→ir237_k0.mi oK w1 (fun ρ''=>ρ'' 6= .int .i64 ((j:Int)+1)∧I (j+1) ρ'') (Kp.blk ⟨fun _ _=>False,fun ρ=>ρ 4= .string (mkS (kindsR (xs.map (·.nd)) x.nd))⟩ 0 (ir237_k3.mi oK w1 (fun ρ=>ρ 4= .string (mkS (kindsR (xs.map (·.nd)) x.nd))) ⟨fun _ _=>False,fun ρ=>ρ 4= .string (mkS (kindsR (xs.map (·.nd)) x.nd))⟩)) ρ2:=by
   intro ρ2 h0 h3 h6 h5
   simp -implicitDefEqProofs [ir237_k0,h6,hwj,hlt]
   exact (hI _ _).2 ⟨by simp [h0],by simp [h3],by simp [h5,htk2]⟩
  simp -implicitDefEqProofs (maxSteps:=2000000) (disch:=(simp only [List.length_append,List.length_cons,List.length_nil];omega)) [-strBin,strAddW,litS,ir237_l2,rj,r3,r5,r0,cX,hx1.is,hkl,hlt',hlt,ir237_k1,hc,hR1.cells.is,hR1.len,hn,hck,oK,mC_b]
  unfold letterK at fin
  have q20:(kd:Int)=20↔kd=20:=by omega
  have q5:(kd:Int)=5↔kd=5:=by omega
  have q33:(kd:Int)=33↔kd=33:=by omega
  have q36:(kd:Int)=36↔kd=36:=by omega
  have q37:(kd:Int)≤37↔kd≤37:=by omega
  simp only [q20,q5,q33,q36,q37]
  by_cases g1:kd=20
  ·simp only [if_pos g1] at fin⊢
   exact fin _ (by simp [r0]) (by simp [r3]) (by simp [rj]) (by simp)
  by_cases g2:kd=5
  ·simp only [if_neg g1,if_pos g2] at fin⊢
   exact fin _ (by simp [r0]) (by simp [r3]) (by simp [rj]) (by simp)
  by_cases g3:isExprK kd=true
  ·simp only [if_neg g1,if_neg g2,if_pos g3] at fin⊢
   exact fin _ (by simp [r0]) (by simp [r3]) (by simp [rj]) (by simp)
  by_cases g4:kd=33
  ·simp only [if_neg g1,if_neg g2,if_neg g3,if_pos g4] at fin⊢
   exact fin _ (by simp [r0]) (by simp [r3]) (by simp [rj]) (by simp)
  by_cases g5:kd=36
  ·simp only [if_neg g1,if_neg g2,if_neg g3,if_neg g4,if_pos g5] at fin⊢
   exact fin _ (by simp [r0]) (by simp [r3]) (by simp [rj]) (by simp)
  have q6:(decide (21≤kd)&&decide (kd≤37)&&decide (kd≠33)&&decide (kd≠36))=true↔(((21≤kd∧kd≤37)∧¬kd=33)∧¬kd=36):=by simp
  by_cases g6:(((21≤kd∧kd≤37)∧¬kd=33)∧¬kd=36)
  ·simp only [if_neg g1,if_neg g2,if_neg g3,if_neg g4,if_neg g5,q6,if_pos g6] at fin⊢
   exact fin _ (by simp [r0]) (by simp [r3]) (by simp [rj]) (by simp)
  ·simp only [if_neg g1,if_neg g2,if_neg g3,if_neg g4,if_neg g5,q6,if_neg g6] at fin⊢
   exact fin _ (by simp [r0]) (by simp [r3]) (by simp [rj]) (by simp)
 ·have hlt':¬(j:Int)<(x.nd.kids.length:Int):=by omega
  rw [List.take_of_length_le (by omega)] at r5
  simp -implicitDefEqProofs [ir237_l2,rj,r3,r5,cX,hx1.is,hkl,hlt',hlt,ir237_k3]
  rfl
open Classical in
noncomputable def oR (xs:List NV) (lv:Value) (x:NV):Orc
 |237,[a,b]=>if a=lv∧b=ndA x then some (.string (mkS (kindsR (xs.map (·.nd)) x.nd))) else none
 |79,[.string s]=>some (.bool (isName s.data.toList))
 |238,[a, .string s]=>if a=ndA x∧s.data.toList.length≤1000000 then some (.bool (restR x.nd.d (s.data.toList.contains 110) (s.data.toList.contains 118) (s.data.toList.contains 116) (s.data.toList.contains 78))) else none
 |239,[.string a, .string b]=>if a.data.toList.length≤1000000∧b.data.toList.length≤1000000 then some (.bool (allR a.data.toList b.data.toList)) else none
 |240,[.string a, .string b]=>if a.data.toList.length≤1000000 then some (.bool (fit a.data.toList b.data.toList)) else none
 |241,[.string s]=>some (.bool (opers.contains s.data.toList))
 |25,[.string s]=>if s.data.toList.length<4611686018427387904 then some (.bool (isOp s.data.toList)) else none
 |23,[.string s]=>if s.data.toList.length<4611686018427387904 then some (.bool (isType s.data.toList)) else none
 |_,_=>none
theorem oR_ok (hR:Rd w lv xs) {x:NV} (hx:Cells w x.kv 1 (x.nd.kids.map encI)) (hin:∀k∈x.nd.kids,0≤k∧k<xs.length) (hlen:x.nd.kids.length≤1000000) (hxl:xs.length≤1000000):OrcOk Tryz.prog (oR xs lv x) w:=by
 intro f l v h
 unfold oR at h
 split at h
 ·split at h
  ·rename_i hc
   obtain ⟨rfl,rfl⟩:=hc
   cases h
   exact ⟨by simp,fun W hE=>q_kinds (hR.ext hE) (hx.ext hE) hin hlen hxl⟩
  ·cases h
 ·rename_i s
  cases h
  exact ⟨by simp,fun W hE=>L01.r_isName s.data.toList⟩
 ·rename_i a s
  split at h
  ·rename_i hc
   obtain ⟨rfl,hc⟩:=hc
   cases h
   exact ⟨by simp,fun W hE=>q_rest hx.is s.data.toList hc⟩
  ·cases h
 ·rename_i a b
  split at h
  ·rename_i hc
   cases h
   exact ⟨by simp,fun W hE=>q_all a.data.toList b.data.toList hc.1 hc.2⟩
  ·cases h
 ·rename_i a b
  split at h
  ·rename_i hc
   cases h
   exact ⟨by simp,fun W hE=>q_fit a.data.toList b.data.toList hc⟩
  ·cases h
 ·rename_i s
  cases h
  exact ⟨by simp,fun W hE=>q_operator s.data.toList⟩
 ·rename_i s
  split at h
  ·rename_i hc
   cases h
   exact ⟨by simp,fun W hE=>q_IsOp s.data.toList hc⟩
  ·cases h
 ·rename_i s
  split at h
  ·rename_i hc
   cases h
   exact ⟨by simp,fun W hE=>q_IsType s.data.toList hc⟩
  ·cases h
 ·cases h
theorem q_right (hR:Rd w lv xs) {x:NV} (hx:Cells w x.kv 1 (x.nd.kids.map encI)) (hd:DOk x.nd.d) (hin:∀k∈x.nd.kids,0≤k∧k<xs.length) (hlen:x.nd.kids.length≤1000000) (hxl:xs.length≤1000000):
  Calls Tryz.prog 170 #[lv,ndA x] w fun e w'=>e= .returned (.bool (rightR (xs.map (·.nd)) x.nd))∧Ext w w':=by
 generalize hres:rightR (xs.map (·.nd)) x.nd=res
 generalize hRR:(fun (e:Ending) (w':World)=>e= .returned (.bool res)∧Ext w w')=R
 refine ir170_calls fun ρ r0 r1=> ?_
 simp only [ir170,wpi_seq,wpi_reg,wps_eff,gd,if_true]
 refine eff_box fun X w1 hX hE1 hb1 _=> ?_
 rw [show evE ρ (.tmp 1)=ndA x by simp [r1],ndA_cells hx.is] at hb1
 have cX:∀q,w1.cell? ⟨X,q,none⟩=(ndV x)[q]? :=fun q=>by rw [hb1.cell];simp
 have hrow:Eng.rowAt w1 ⟨X,0,none⟩ 0 6=some (ndV x):=rowAt_of (l:=ndV x) fun j hj=>by rw [Nat.zero_add,show (⟨X,0,none⟩:Addr).add j=⟨X,j,none⟩ by simp,cX,List.getElem?_eq_getElem hj]
 have hR1:=hR.ext hE1
 have hx1:=hx.ext hE1
 have hkl:slLen x.kv=x.nd.kids.length:=by have:=hx.len;simpa using this.symm
 have c0:=cX 0
 have c1:=cX 1
 have c2:=cX 2
 have c3:=cX 3
 have c4:=cX 4
 have c5:=cX 5
 simp [ndV] at c0 c1 c2 c3 c4 c5
 have hkk:=kindsR_len (xs.map (·.nd)) x.nd
 refine pure_tail (cx:=⟨Tryz.prog,366,ir170_V,[]⟩) (a:= .seq (.block 0 _) ir170_k10) (oR_ok hR1 hx1 hin hlen hxl) (ext_refl w1) (fun ρ=>ρ 4= .bool res) (fun ρ' w' hE hT=> ?_) ?_
 ·rw [retK1,←hRR,hT];exact ⟨rfl,hE1.trans' hE⟩
 have eA:Value.agg (ndV x).toArray=ndA x:=rfl
 have g1:x.nd.d.name.length<4611686018427387904:=by have:=hd.name;omega
 have g2:x.nd.d.vr.length<4611686018427387904:=by have:=hd.vr;omega
 have g3:x.nd.d.typ.length<4611686018427387904:=by have:=hd.typ;omega
 have hkk1:(kindsR (xs.map (·.nd)) x.nd).length≤1000000:=by omega
 simp -implicitDefEqProofs [r0,hrow,eA,oR,c0,c1]
 unfold rightR at hres
 generalize kindsR (xs.map (·.nd)) x.nd=kk at*
 by_cases h:x.nd.d.kind=1
 ·simp [h] at c0 hres
  subst hres
  simp -implicitDefEqProofs [h,c0,c1,c2,c3,c4,c5,hrow,eA,oR,litS,mkS_inj,g1,g2,g3,hkk1,r0,ir170_k10,ir170_k9,ir170_k8,ir170_k7,ir170_k1,ir170_k0]
  repeat' (first|refine mA_splitS (fun hb=> ?_) (fun hb=> ?_)|refine mC_split (fun hb=> ?_) (fun hb=> ?_))<;>(try simp only [Bool.not_eq_true',Bool.not_eq_false',decide_eq_true_eq,decide_eq_false_iff_not] at hb)<;>(try simp -implicitDefEqProofs [undef,hb,h,c0,c1,c2,c3,c4,c5,hrow,eA,oR,litS,mkS_inj,g1,g2,g3,hkk1,r0,ir170_k10,ir170_k9,ir170_k8,ir170_k7,ir170_k1,ir170_k0])
 by_cases h:x.nd.d.kind=2
 ·simp [h] at c0 hres
  subst hres
  simp -implicitDefEqProofs [h,c0,c1,c2,c3,c4,c5,hrow,eA,oR,litS,mkS_inj,g1,g2,g3,hkk1,r0,ir170_k10,ir170_k9,ir170_k8,ir170_k7,ir170_k1,ir170_k0]
  repeat' (first|refine mA_splitS (fun hb=> ?_) (fun hb=> ?_)|refine mC_split (fun hb=> ?_) (fun hb=> ?_))<;>(try simp only [Bool.not_eq_true',Bool.not_eq_false',decide_eq_true_eq,decide_eq_false_iff_not] at hb)<;>(try simp -implicitDefEqProofs [undef,hb,h,c0,c1,c2,c3,c4,c5,hrow,eA,oR,litS,mkS_inj,g1,g2,g3,hkk1,r0,ir170_k10,ir170_k9,ir170_k8,ir170_k7,ir170_k1,ir170_k0])
 by_cases h:x.nd.d.kind=3
 ·simp [h] at c0 hres
  subst hres
  simp -implicitDefEqProofs [h,c0,c1,c2,c3,c4,c5,hrow,eA,oR,litS,mkS_inj,g1,g2,g3,hkk1,r0,ir170_k10,ir170_k9,ir170_k8,ir170_k7,ir170_k1,ir170_k0]
  repeat' (first|refine mA_splitS (fun hb=> ?_) (fun hb=> ?_)|refine mC_split (fun hb=> ?_) (fun hb=> ?_))<;>(try simp only [Bool.not_eq_true',Bool.not_eq_false',decide_eq_true_eq,decide_eq_false_iff_not] at hb)<;>(try simp -implicitDefEqProofs [undef,hb,h,c0,c1,c2,c3,c4,c5,hrow,eA,oR,litS,mkS_inj,g1,g2,g3,hkk1,r0,ir170_k10,ir170_k9,ir170_k8,ir170_k7,ir170_k1,ir170_k0])
 by_cases h:x.nd.d.kind=34
 ·simp [h] at c0 hres
  subst hres
  simp -implicitDefEqProofs [h,c0,c1,c2,c3,c4,c5,hrow,eA,oR,litS,mkS_inj,g1,g2,g3,hkk1,r0,ir170_k10,ir170_k9,ir170_k8,ir170_k7,ir170_k1,ir170_k0]
  repeat' (first|refine mA_splitS (fun hb=> ?_) (fun hb=> ?_)|refine mC_split (fun hb=> ?_) (fun hb=> ?_))<;>(try simp only [Bool.not_eq_true',Bool.not_eq_false',decide_eq_true_eq,decide_eq_false_iff_not] at hb)<;>(try simp -implicitDefEqProofs [undef,hb,h,c0,c1,c2,c3,c4,c5,hrow,eA,oR,litS,mkS_inj,g1,g2,g3,hkk1,r0,ir170_k10,ir170_k9,ir170_k8,ir170_k7,ir170_k1,ir170_k0])
 by_cases h:x.nd.d.kind=4
 ·simp [h] at c0 hres
  subst hres
  simp -implicitDefEqProofs [h,c0,c1,c2,c3,c4,c5,hrow,eA,oR,litS,mkS_inj,g1,g2,g3,hkk1,r0,ir170_k10,ir170_k9,ir170_k8,ir170_k7,ir170_k1,ir170_k0]
  repeat' (first|refine mA_splitS (fun hb=> ?_) (fun hb=> ?_)|refine mC_split (fun hb=> ?_) (fun hb=> ?_))<;>(try simp only [Bool.not_eq_true',Bool.not_eq_false',decide_eq_true_eq,decide_eq_false_iff_not] at hb)<;>(try simp -implicitDefEqProofs [undef,hb,h,c0,c1,c2,c3,c4,c5,hrow,eA,oR,litS,mkS_inj,g1,g2,g3,hkk1,r0,ir170_k10,ir170_k9,ir170_k8,ir170_k7,ir170_k1,ir170_k0])
 by_cases h:x.nd.d.kind=31
 ·simp [h] at c0 hres
  subst hres
  simp -implicitDefEqProofs [h,c0,c1,c2,c3,c4,c5,hrow,eA,oR,litS,mkS_inj,g1,g2,g3,hkk1,r0,ir170_k10,ir170_k9,ir170_k8,ir170_k7,ir170_k1,ir170_k0]
  repeat' (first|refine mA_splitS (fun hb=> ?_) (fun hb=> ?_)|refine mC_split (fun hb=> ?_) (fun hb=> ?_))<;>(try simp only [Bool.not_eq_true',Bool.not_eq_false',decide_eq_true_eq,decide_eq_false_iff_not] at hb)<;>(try simp -implicitDefEqProofs [undef,hb,h,c0,c1,c2,c3,c4,c5,hrow,eA,oR,litS,mkS_inj,g1,g2,g3,hkk1,r0,ir170_k10,ir170_k9,ir170_k8,ir170_k7,ir170_k1,ir170_k0])
 by_cases h:x.nd.d.kind=5
 ·simp [h] at c0 hres
  subst hres
  by_cases h6:kk.length≤6
  ·have h6i:¬(6:Int)<(kk.length:Int):=by omega
   simp -implicitDefEqProofs [h6,h6i,h,c0,c1,c2,c3,c4,c5,hrow,eA,oR,litS,mkS_inj,g1,g2,g3,hkk1,r0,ir170_k10,ir170_k9,ir170_k8,ir170_k7,ir170_k1,ir170_k0]
   repeat' (first|refine mA_splitS (fun hb=> ?_) (fun hb=> ?_)|refine mC_split (fun hb=> ?_) (fun hb=> ?_))<;>(try simp only [Bool.not_eq_true',Bool.not_eq_false',decide_eq_true_eq,decide_eq_false_iff_not] at hb)<;>(try simp -implicitDefEqProofs [undef,hb,h6,h6i,h,c0,c1,c2,c3,c4,c5,hrow,eA,oR,litS,mkS_inj,g1,g2,g3,hkk1,r0,ir170_k10,ir170_k9,ir170_k8,ir170_k7,ir170_k1,ir170_k0])
  ·have h6i:(6:Int)<(kk.length:Int):=by omega
   simp -implicitDefEqProofs [undef,h6,h6i,h,c0,oR,ir170_k9,ir170_k8]
 by_cases h:x.nd.d.kind=6
 ·simp [h] at c0 hres
  subst hres
  simp -implicitDefEqProofs [h,c0,c1,c2,c3,c4,c5,hrow,eA,oR,litS,mkS_inj,g1,g2,g3,hkk1,r0,ir170_k10,ir170_k9,ir170_k8,ir170_k7,ir170_k1,ir170_k0]
  repeat' (first|refine mA_splitS (fun hb=> ?_) (fun hb=> ?_)|refine mC_split (fun hb=> ?_) (fun hb=> ?_))<;>(try simp only [Bool.not_eq_true',Bool.not_eq_false',decide_eq_true_eq,decide_eq_false_iff_not] at hb)<;>(try simp -implicitDefEqProofs [undef,hb,h,c0,c1,c2,c3,c4,c5,hrow,eA,oR,litS,mkS_inj,g1,g2,g3,hkk1,r0,ir170_k10,ir170_k9,ir170_k8,ir170_k7,ir170_k1,ir170_k0])
 by_cases h:x.nd.d.kind=7
 ·simp [h] at c0 hres
  subst hres
  simp -implicitDefEqProofs [h,c0,c1,c2,c3,c4,c5,hrow,eA,oR,litS,mkS_inj,g1,g2,g3,hkk1,r0,ir170_k10,ir170_k9,ir170_k8,ir170_k7,ir170_k1,ir170_k0]
  repeat' (first|refine mA_splitS (fun hb=> ?_) (fun hb=> ?_)|refine mC_split (fun hb=> ?_) (fun hb=> ?_))<;>(try simp only [Bool.not_eq_true',Bool.not_eq_false',decide_eq_true_eq,decide_eq_false_iff_not] at hb)<;>(try simp -implicitDefEqProofs [undef,hb,h,c0,c1,c2,c3,c4,c5,hrow,eA,oR,litS,mkS_inj,g1,g2,g3,hkk1,r0,ir170_k10,ir170_k9,ir170_k8,ir170_k7,ir170_k1,ir170_k0])
 by_cases h:x.nd.d.kind=8
 ·simp [h] at c0 hres
  subst hres
  simp -implicitDefEqProofs [h,c0,c1,c2,c3,c4,c5,hrow,eA,oR,litS,mkS_inj,g1,g2,g3,hkk1,r0,ir170_k10,ir170_k9,ir170_k8,ir170_k7,ir170_k1,ir170_k0]
  repeat' (first|refine mA_splitS (fun hb=> ?_) (fun hb=> ?_)|refine mC_split (fun hb=> ?_) (fun hb=> ?_))<;>(try simp only [Bool.not_eq_true',Bool.not_eq_false',decide_eq_true_eq,decide_eq_false_iff_not] at hb)<;>(try simp -implicitDefEqProofs [undef,hb,h,c0,c1,c2,c3,c4,c5,hrow,eA,oR,litS,mkS_inj,g1,g2,g3,hkk1,r0,ir170_k10,ir170_k9,ir170_k8,ir170_k7,ir170_k1,ir170_k0])
 by_cases h:x.nd.d.kind=9
 ·simp [h] at c0 hres
  subst hres
  simp -implicitDefEqProofs [h,c0,c1,c2,c3,c4,c5,hrow,eA,oR,litS,mkS_inj,g1,g2,g3,hkk1,r0,ir170_k10,ir170_k9,ir170_k8,ir170_k7,ir170_k1,ir170_k0]
  repeat' (first|refine mA_splitS (fun hb=> ?_) (fun hb=> ?_)|refine mC_split (fun hb=> ?_) (fun hb=> ?_))<;>(try simp only [Bool.not_eq_true',Bool.not_eq_false',decide_eq_true_eq,decide_eq_false_iff_not] at hb)<;>(try simp -implicitDefEqProofs [undef,hb,h,c0,c1,c2,c3,c4,c5,hrow,eA,oR,litS,mkS_inj,g1,g2,g3,hkk1,r0,ir170_k10,ir170_k9,ir170_k8,ir170_k7,ir170_k1,ir170_k0])
 by_cases h:x.nd.d.kind=10
 ·simp [h] at c0 hres
  subst hres
  simp -implicitDefEqProofs [h,c0,c1,c2,c3,c4,c5,hrow,eA,oR,litS,mkS_inj,g1,g2,g3,hkk1,r0,ir170_k10,ir170_k9,ir170_k8,ir170_k7,ir170_k1,ir170_k0]
  repeat' (first|refine mA_splitS (fun hb=> ?_) (fun hb=> ?_)|refine mC_split (fun hb=> ?_) (fun hb=> ?_))<;>(try simp only [Bool.not_eq_true',Bool.not_eq_false',decide_eq_true_eq,decide_eq_false_iff_not] at hb)<;>(try simp -implicitDefEqProofs [undef,hb,h,c0,c1,c2,c3,c4,c5,hrow,eA,oR,litS,mkS_inj,g1,g2,g3,hkk1,r0,ir170_k10,ir170_k9,ir170_k8,ir170_k7,ir170_k1,ir170_k0])
 by_cases h:x.nd.d.kind=30
 ·simp [h] at c0 hres
  subst hres
  simp -implicitDefEqProofs [h,c0,c1,c2,c3,c4,c5,hrow,eA,oR,litS,mkS_inj,g1,g2,g3,hkk1,r0,ir170_k10,ir170_k9,ir170_k8,ir170_k7,ir170_k1,ir170_k0]
  repeat' (first|refine mA_splitS (fun hb=> ?_) (fun hb=> ?_)|refine mC_split (fun hb=> ?_) (fun hb=> ?_))<;>(try simp only [Bool.not_eq_true',Bool.not_eq_false',decide_eq_true_eq,decide_eq_false_iff_not] at hb)<;>(try simp -implicitDefEqProofs [undef,hb,h,c0,c1,c2,c3,c4,c5,hrow,eA,oR,litS,mkS_inj,g1,g2,g3,hkk1,r0,ir170_k10,ir170_k9,ir170_k8,ir170_k7,ir170_k1,ir170_k0])
 by_cases h:x.nd.d.kind=37
 ·simp [h] at c0 hres
  subst hres
  simp -implicitDefEqProofs [h,c0,c1,c2,c3,c4,c5,hrow,eA,oR,litS,mkS_inj,g1,g2,g3,hkk1,r0,ir170_k10,ir170_k9,ir170_k8,ir170_k7,ir170_k1,ir170_k0]
  repeat' (first|refine mA_splitS (fun hb=> ?_) (fun hb=> ?_)|refine mC_split (fun hb=> ?_) (fun hb=> ?_))<;>(try simp only [Bool.not_eq_true',Bool.not_eq_false',decide_eq_true_eq,decide_eq_false_iff_not] at hb)<;>(try simp -implicitDefEqProofs [undef,hb,h,c0,c1,c2,c3,c4,c5,hrow,eA,oR,litS,mkS_inj,g1,g2,g3,hkk1,r0,ir170_k10,ir170_k9,ir170_k8,ir170_k7,ir170_k1,ir170_k0])
 by_cases h:x.nd.d.kind=20
 ·simp [h] at c0 hres
  subst hres
  simp -implicitDefEqProofs [h,c0,c1,c2,c3,c4,c5,hrow,eA,oR,litS,mkS_inj,g1,g2,g3,hkk1,r0,ir170_k10,ir170_k9,ir170_k8,ir170_k7,ir170_k1,ir170_k0]
  repeat' (first|refine mA_splitS (fun hb=> ?_) (fun hb=> ?_)|refine mC_split (fun hb=> ?_) (fun hb=> ?_))<;>(try simp only [Bool.not_eq_true',Bool.not_eq_false',decide_eq_true_eq,decide_eq_false_iff_not] at hb)<;>(try simp -implicitDefEqProofs [undef,hb,h,c0,c1,c2,c3,c4,c5,hrow,eA,oR,litS,mkS_inj,g1,g2,g3,hkk1,r0,ir170_k10,ir170_k9,ir170_k8,ir170_k7,ir170_k1,ir170_k0])
 by_cases h:x.nd.d.kind=21
 ·simp [h] at c0 hres
  subst hres
  simp -implicitDefEqProofs [h,c0,c1,c2,c3,c4,c5,hrow,eA,oR,litS,mkS_inj,g1,g2,g3,hkk1,r0,ir170_k10,ir170_k9,ir170_k8,ir170_k7,ir170_k1,ir170_k0]
  repeat' (first|refine mA_splitS (fun hb=> ?_) (fun hb=> ?_)|refine mC_split (fun hb=> ?_) (fun hb=> ?_))<;>(try simp only [Bool.not_eq_true',Bool.not_eq_false',decide_eq_true_eq,decide_eq_false_iff_not] at hb)<;>(try simp -implicitDefEqProofs [undef,hb,h,c0,c1,c2,c3,c4,c5,hrow,eA,oR,litS,mkS_inj,g1,g2,g3,hkk1,r0,ir170_k10,ir170_k9,ir170_k8,ir170_k7,ir170_k1,ir170_k0])
 by_cases h:x.nd.d.kind=22
 ·simp [h] at c0 hres
  subst hres
  simp -implicitDefEqProofs [h,c0,c1,c2,c3,c4,c5,hrow,eA,oR,litS,mkS_inj,g1,g2,g3,hkk1,r0,ir170_k10,ir170_k9,ir170_k8,ir170_k7,ir170_k1,ir170_k0]
  repeat' (first|refine mA_splitS (fun hb=> ?_) (fun hb=> ?_)|refine mC_split (fun hb=> ?_) (fun hb=> ?_))<;>(try simp only [Bool.not_eq_true',Bool.not_eq_false',decide_eq_true_eq,decide_eq_false_iff_not] at hb)<;>(try simp -implicitDefEqProofs [undef,hb,h,c0,c1,c2,c3,c4,c5,hrow,eA,oR,litS,mkS_inj,g1,g2,g3,hkk1,r0,ir170_k10,ir170_k9,ir170_k8,ir170_k7,ir170_k1,ir170_k0])
 by_cases h:x.nd.d.kind=23
 ·simp [h] at c0 hres
  subst hres
  simp -implicitDefEqProofs [h,c0,c1,c2,c3,c4,c5,hrow,eA,oR,litS,mkS_inj,g1,g2,g3,hkk1,r0,ir170_k10,ir170_k9,ir170_k8,ir170_k7,ir170_k1,ir170_k0]
  repeat' (first|refine mA_splitS (fun hb=> ?_) (fun hb=> ?_)|refine mC_split (fun hb=> ?_) (fun hb=> ?_))<;>(try simp only [Bool.not_eq_true',Bool.not_eq_false',decide_eq_true_eq,decide_eq_false_iff_not] at hb)<;>(try simp -implicitDefEqProofs [undef,hb,h,c0,c1,c2,c3,c4,c5,hrow,eA,oR,litS,mkS_inj,g1,g2,g3,hkk1,r0,ir170_k10,ir170_k9,ir170_k8,ir170_k7,ir170_k1,ir170_k0])
 by_cases h:x.nd.d.kind=24
 ·simp [h] at c0 hres
  subst hres
  simp -implicitDefEqProofs [h,c0,c1,c2,c3,c4,c5,hrow,eA,oR,litS,mkS_inj,g1,g2,g3,hkk1,r0,ir170_k10,ir170_k9,ir170_k8,ir170_k7,ir170_k1,ir170_k0]
  repeat' (first|refine mA_splitS (fun hb=> ?_) (fun hb=> ?_)|refine mC_split (fun hb=> ?_) (fun hb=> ?_))<;>(try simp only [Bool.not_eq_true',Bool.not_eq_false',decide_eq_true_eq,decide_eq_false_iff_not] at hb)<;>(try simp -implicitDefEqProofs [undef,hb,h,c0,c1,c2,c3,c4,c5,hrow,eA,oR,litS,mkS_inj,g1,g2,g3,hkk1,r0,ir170_k10,ir170_k9,ir170_k8,ir170_k7,ir170_k1,ir170_k0])
 by_cases h:x.nd.d.kind=25
 ·simp [h] at c0 hres
  subst hres
  simp -implicitDefEqProofs [h,c0,c1,c2,c3,c4,c5,hrow,eA,oR,litS,mkS_inj,g1,g2,g3,hkk1,r0,ir170_k10,ir170_k9,ir170_k8,ir170_k7,ir170_k1,ir170_k0]
  repeat' (first|refine mA_splitS (fun hb=> ?_) (fun hb=> ?_)|refine mC_split (fun hb=> ?_) (fun hb=> ?_))<;>(try simp only [Bool.not_eq_true',Bool.not_eq_false',decide_eq_true_eq,decide_eq_false_iff_not] at hb)<;>(try simp -implicitDefEqProofs [undef,hb,h,c0,c1,c2,c3,c4,c5,hrow,eA,oR,litS,mkS_inj,g1,g2,g3,hkk1,r0,ir170_k10,ir170_k9,ir170_k8,ir170_k7,ir170_k1,ir170_k0])
 by_cases h:x.nd.d.kind=26
 ·simp [h] at c0 hres
  subst hres
  simp -implicitDefEqProofs [h,c0,c1,c2,c3,c4,c5,hrow,eA,oR,litS,mkS_inj,g1,g2,g3,hkk1,r0,ir170_k10,ir170_k9,ir170_k8,ir170_k7,ir170_k1,ir170_k0]
  repeat' (first|refine mA_splitS (fun hb=> ?_) (fun hb=> ?_)|refine mC_split (fun hb=> ?_) (fun hb=> ?_))<;>(try simp only [Bool.not_eq_true',Bool.not_eq_false',decide_eq_true_eq,decide_eq_false_iff_not] at hb)<;>(try simp -implicitDefEqProofs [undef,hb,h,c0,c1,c2,c3,c4,c5,hrow,eA,oR,litS,mkS_inj,g1,g2,g3,hkk1,r0,ir170_k10,ir170_k9,ir170_k8,ir170_k7,ir170_k1,ir170_k0])
 by_cases h:x.nd.d.kind=27
 ·simp [h] at c0 hres
  subst hres
  simp -implicitDefEqProofs [h,c0,c1,c2,c3,c4,c5,hrow,eA,oR,litS,mkS_inj,g1,g2,g3,hkk1,r0,ir170_k10,ir170_k9,ir170_k8,ir170_k7,ir170_k1,ir170_k0]
  repeat' (first|refine mA_splitS (fun hb=> ?_) (fun hb=> ?_)|refine mC_split (fun hb=> ?_) (fun hb=> ?_))<;>(try simp only [Bool.not_eq_true',Bool.not_eq_false',decide_eq_true_eq,decide_eq_false_iff_not] at hb)<;>(try simp -implicitDefEqProofs [undef,hb,h,c0,c1,c2,c3,c4,c5,hrow,eA,oR,litS,mkS_inj,g1,g2,g3,hkk1,r0,ir170_k10,ir170_k9,ir170_k8,ir170_k7,ir170_k1,ir170_k0])
 by_cases h:x.nd.d.kind=28
 ·simp [h] at c0 hres
  subst hres
  simp -implicitDefEqProofs [h,c0,c1,c2,c3,c4,c5,hrow,eA,oR,litS,mkS_inj,g1,g2,g3,hkk1,r0,ir170_k10,ir170_k9,ir170_k8,ir170_k7,ir170_k1,ir170_k0]
  repeat' (first|refine mA_splitS (fun hb=> ?_) (fun hb=> ?_)|refine mC_split (fun hb=> ?_) (fun hb=> ?_))<;>(try simp only [Bool.not_eq_true',Bool.not_eq_false',decide_eq_true_eq,decide_eq_false_iff_not] at hb)<;>(try simp -implicitDefEqProofs [undef,hb,h,c0,c1,c2,c3,c4,c5,hrow,eA,oR,litS,mkS_inj,g1,g2,g3,hkk1,r0,ir170_k10,ir170_k9,ir170_k8,ir170_k7,ir170_k1,ir170_k0])
 by_cases h:x.nd.d.kind=29
 ·simp [h] at c0 hres
  subst hres
  simp -implicitDefEqProofs [h,c0,c1,c2,c3,c4,c5,hrow,eA,oR,litS,mkS_inj,g1,g2,g3,hkk1,r0,ir170_k10,ir170_k9,ir170_k8,ir170_k7,ir170_k1,ir170_k0]
  repeat' (first|refine mA_splitS (fun hb=> ?_) (fun hb=> ?_)|refine mC_split (fun hb=> ?_) (fun hb=> ?_))<;>(try simp only [Bool.not_eq_true',Bool.not_eq_false',decide_eq_true_eq,decide_eq_false_iff_not] at hb)<;>(try simp -implicitDefEqProofs [undef,hb,h,c0,c1,c2,c3,c4,c5,hrow,eA,oR,litS,mkS_inj,g1,g2,g3,hkk1,r0,ir170_k10,ir170_k9,ir170_k8,ir170_k7,ir170_k1,ir170_k0])
 by_cases h:x.nd.d.kind=33
 ·simp [h] at c0 hres
  subst hres
  simp -implicitDefEqProofs [h,c0,c1,c2,c3,c4,c5,hrow,eA,oR,litS,mkS_inj,g1,g2,g3,hkk1,r0,ir170_k10,ir170_k9,ir170_k8,ir170_k7,ir170_k1,ir170_k0]
  repeat' (first|refine mA_splitS (fun hb=> ?_) (fun hb=> ?_)|refine mC_split (fun hb=> ?_) (fun hb=> ?_))<;>(try simp only [Bool.not_eq_true',Bool.not_eq_false',decide_eq_true_eq,decide_eq_false_iff_not] at hb)<;>(try simp -implicitDefEqProofs [undef,hb,h,c0,c1,c2,c3,c4,c5,hrow,eA,oR,litS,mkS_inj,g1,g2,g3,hkk1,r0,ir170_k10,ir170_k9,ir170_k8,ir170_k7,ir170_k1,ir170_k0])
 by_cases h:x.nd.d.kind=35
 ·simp [h, -List.drop_one] at c0 hres
  by_cases h1:1<kk.length
  ·have h1i:(1:Int)<(kk.length:Int):=by omega
   have h1l:(1:Int)≤(kk.length:Int):=by omega
   have hx0:(mkS kk).extract 0 1=mkS (kk.take 1):=by simp [cut0']
   have hx1:(mkS kk).extract 1 kk.length=mkS (kk.drop 1):=by simp [drop_ext']
   have ht1:(kk.take 1).length≤1000000:=by rw [List.length_take];omega
   have ht2:(kk.drop 1).length≤1000000:=by rw [List.length_drop];omega
   simp [h1, -List.drop_one] at hres
   subst hres
   generalize kk.take 1=ka at*
   generalize kk.drop 1=kb at*
   simp -implicitDefEqProofs [h1i,h1l,hx0,hx1,ht1,ht2,h,c0,c1,c2,c3,c4,c5,hrow,eA,oR,litS,mkS_inj,g1,g2,g3,hkk1,r0,ir170_k10,ir170_k9,ir170_k8,ir170_k7,ir170_k1,ir170_k0]
   repeat' (first|refine mA_splitS (fun hb=> ?_) (fun hb=> ?_)|refine mC_split (fun hb=> ?_) (fun hb=> ?_))<;>(try simp only [Bool.not_eq_true',Bool.not_eq_false',decide_eq_true_eq,decide_eq_false_iff_not] at hb)<;>(try simp -implicitDefEqProofs [undef,hb,h1i,h1l,hx0,hx1,ht1,ht2,h,c0,c1,c2,c3,c4,c5,hrow,eA,oR,litS,mkS_inj,g1,g2,g3,hkk1,r0,ir170_k10,ir170_k9,ir170_k8,ir170_k7,ir170_k1,ir170_k0])
  ·have h1i:¬(1:Int)<(kk.length:Int):=by omega
   simp [h1] at hres
   subst hres
   simp -implicitDefEqProofs [h1i,h,c0,c1,c2,c3,c4,c5,hrow,eA,oR,litS,mkS_inj,g1,g2,g3,hkk1,r0,ir170_k10,ir170_k9,ir170_k8,ir170_k7,ir170_k1,ir170_k0]
 by_cases h:x.nd.d.kind=36
 ·simp [h] at c0 hres
  subst hres
  simp -implicitDefEqProofs [h,c0,c1,c2,c3,c4,c5,hrow,eA,oR,litS,mkS_inj,g1,g2,g3,hkk1,r0,ir170_k10,ir170_k9,ir170_k8,ir170_k7,ir170_k1,ir170_k0]
  repeat' (first|refine mA_splitS (fun hb=> ?_) (fun hb=> ?_)|refine mC_split (fun hb=> ?_) (fun hb=> ?_))<;>(try simp only [Bool.not_eq_true',Bool.not_eq_false',decide_eq_true_eq,decide_eq_false_iff_not] at hb)<;>(try simp -implicitDefEqProofs [undef,hb,h,c0,c1,c2,c3,c4,c5,hrow,eA,oR,litS,mkS_inj,g1,g2,g3,hkk1,r0,ir170_k10,ir170_k9,ir170_k8,ir170_k7,ir170_k1,ir170_k0])
 by_cases h:x.nd.d.kind=32
 ·simp [h] at c0 hres
  rcases kk with _|⟨a,_|⟨b,kr⟩⟩
  ·simp at hres
   subst hres
   simp -implicitDefEqProofs [h,c0,c1,c2,c3,c4,c5,hrow,eA,oR,litS,mkS_inj,g1,g2,g3,hkk1,r0,ir170_k10,ir170_k9,ir170_k8,ir170_k7]
  ·simp at hres
   subst hres
   simp -implicitDefEqProofs [h,c0,c1,c2,c3,c4,c5,hrow,eA,oR,litS,mkS_inj,g1,g2,g3,hkk1,r0,ir170_k10,ir170_k9,ir170_k8,ir170_k7]
  simp only [List.length_cons] at hkk hkk1
  have hl2:¬((kr.length:Int)+1+1<2):=by omega
  have hd1:(mkS (a::b::kr)).extract 1 (kr.length+1+1)=mkS (b::kr):=by have:=drop_ext' (a::b::kr) 1;simpa using this
  have hl1:(1:Int)≤(kr.length:Int)+1+1:=by omega
  have hl3:kr.length+1≤1000000:=by omega
  have hix:∀h,(mkS (a::b::kr))[0]'h=a:=fun _=>rfl
  have h113:=u8_lit a 113 (by decide)
  simp at h113
  by_cases ha:a=113
  ·have ha':=h113.2 ha
   cases hall:allR (b::kr) [119] with
   |false=>
    simp [hall] at hres
    subst hres
    simp -implicitDefEqProofs [hl2,hd1,hl1,hl3,hix,ha',hall,h,c0,c1,c2,c3,c4,c5,hrow,eA,oR,litS,mkS_inj,g1,g2,g3,hkk1,r0,ir170_k10,ir170_k9,ir170_k8,ir170_k7]
   |true=>
    simp [hall,ha] at hres
    have hw1:IntKind.i64.wrap ((kr.length:Int)+1+1 - 1)=(kr.length:Int)+1:=by rw [i64w (by omega)];omega
    have hw2:IntKind.i64.wrap ((kr.length:Int)+1)=(kr.length:Int)+1:=i64w (by omega)
    simp -implicitDefEqProofs [hl2,hd1,hl1,hl3,hix,ha',hall,h,c0,c1,c2,c3,c4,c5,hrow,eA,oR,litS,mkS_inj,g1,g2,g3,hkk1,r0,ir170_k10,ir170_k9,ir170_k8,ir170_k7,ir170_k6]
    obtain ⟨I,hI⟩:∃I:Nat→Env→Prop,∀i ρ',I i ρ'↔(ρ' 0=lv∧ρ' 3= .pointer (some ⟨X,0,none⟩)∧ρ' 5= .string (mkS (a::b::kr))∧∀j,1≤j→j<i→∀hj:j<x.nd.kids.length,kidN (xs.map (·.nd)) x.nd.kids[j]≠[]):=⟨_,fun _ _=>Iff.rfl⟩
    refine mi_loopF 7 1 (kr.length+1) I (by simp) (by omega) ((hI _ _).2 ⟨by simp [r0],by simp,by simp,fun j h1 h2=>by omega⟩) ?_
    clear r0 r1
    rintro i ρ' h1i hin' ri hIw
    obtain ⟨s0,s3,s5,hno⟩:=(hI _ _).1 hIw
    by_cases hlt:i<kr.length+1
    ·have hlt':(i:Int)<(kr.length:Int)+1:=by omega
     have hik:i<x.nd.kids.length:=by omega
     have hc:=hx1.cell i (by simpa using hik)
     simp only [List.getElem_map,encI] at hc
     have hkin:=hin _ (List.getElem_mem hik)
     have hK:=kidN_get hkin
     generalize hk:x.nd.kids[i]=k at hc hkin hK
     obtain ⟨n,rfl⟩:=Int.eq_ofNat_of_zero_le hkin.1
     have hn:n<xs.length:=by omega
     have hck:=hR1.cell (k:=n) (j:=1) hn (by omega)
     simp only [Int.toNat_natCast] at hK
     simp [ndV] at hck
     by_cases hname:xs[n].nd.d.name=[]
     ·have hres':res=false:=by
       cases res with
       |false=>rfl
       |true=>
        exfalso
        simp only [Bool.and_eq_true] at hres
        have:=(exceptR_iff _ _).1 hres.1 (i - 1) (by rw [List.length_drop];omega) (by omega)
        have e1:(x.nd.kids.drop 1)[i - 1]'(by rw [List.length_drop];omega)=x.nd.kids[i]:=by rw [List.getElem_drop];congr 1;omega
        rw [e1,hk,hK] at this
        exact this hname
      rw [hname] at hck
      simp -implicitDefEqProofs [ir170_l4,ri,s0,s3,s5,hw1,hw2,hlt',c5,hx1.is,hkl,hik,hc,hR1.cells.is,hR1.len,hn,hck,litS,mkS_inj,ir170_k3,hres']
     ·simp -implicitDefEqProofs [ir170_l4,ri,s0,s3,s5,hw1,hw2,hlt',c5,hx1.is,hkl,hik,hc,hR1.cells.is,hR1.len,hn,hck,litS,mkS_inj,ir170_k3,hname,ir170_k2,hlt]
      have hwj:IntKind.i64.wrap ((i:Int)+1)=(i:Int)+1:=i64w (by omega)
      refine ⟨hwj,(hI _ _).2 ⟨by simp [s0],by simp [s3],by simp [s5],fun j h1 h2 hj=> ?_⟩⟩
      by_cases hji:j<i
      ·exact hno j h1 hji hj
      ·have:j=i:=by omega
       subst this
       rw [hk,hK];exact hname
    ·have hlt':¬(i:Int)<(kr.length:Int)+1:=by omega
     have he:exceptR (xs.map (·.nd)) x.nd=true:=(exceptR_iff _ _).2 fun j hj hj2=>by
      have:=hno (j+1) (by omega) (by omega) (by omega)
      have e1:(x.nd.kids.drop 1)[j]=x.nd.kids[j+1]'(by omega):=by rw [List.getElem_drop];congr 1;omega
      rw [e1];exact this
     rw [he] at hres
     simp -implicitDefEqProofs [ir170_l4,ri,s0,s3,s5,hw1,hw2,hlt',ir170_k5,hrow,eA,oR,litS]
     simpa using hres
  ·have ha':((a.toNat:Int) !=113)=true:=bne_iff_ne.2 fun e=>ha (h113.1 e)
   simp [ha] at hres
   subst hres
   simp -implicitDefEqProofs [hl2,hd1,hl1,hl3,hix,ha',h,c0,c1,c2,c3,c4,c5,hrow,eA,oR,litS,mkS_inj,g1,g2,g3,hkk1,r0,ir170_k10,ir170_k9,ir170_k8,ir170_k7]
 have m1:((x.nd.d.kind:Int)==1)=false:=beq_false_of_ne (by omega)
 have q1:¬x.nd.d.kind=1:=by omega
 have m2:((x.nd.d.kind:Int)==2)=false:=beq_false_of_ne (by omega)
 have q2:¬x.nd.d.kind=2:=by omega
 have m3:((x.nd.d.kind:Int)==3)=false:=beq_false_of_ne (by omega)
 have q3:¬x.nd.d.kind=3:=by omega
 have m34:((x.nd.d.kind:Int)==34)=false:=beq_false_of_ne (by omega)
 have q34:¬x.nd.d.kind=34:=by omega
 have m4:((x.nd.d.kind:Int)==4)=false:=beq_false_of_ne (by omega)
 have q4:¬x.nd.d.kind=4:=by omega
 have m31:((x.nd.d.kind:Int)==31)=false:=beq_false_of_ne (by omega)
 have q31:¬x.nd.d.kind=31:=by omega
 have m5:((x.nd.d.kind:Int)==5)=false:=beq_false_of_ne (by omega)
 have q5:¬x.nd.d.kind=5:=by omega
 have m6:((x.nd.d.kind:Int)==6)=false:=beq_false_of_ne (by omega)
 have q6:¬x.nd.d.kind=6:=by omega
 have m7:((x.nd.d.kind:Int)==7)=false:=beq_false_of_ne (by omega)
 have q7:¬x.nd.d.kind=7:=by omega
 have m8:((x.nd.d.kind:Int)==8)=false:=beq_false_of_ne (by omega)
 have q8:¬x.nd.d.kind=8:=by omega
 have m9:((x.nd.d.kind:Int)==9)=false:=beq_false_of_ne (by omega)
 have q9:¬x.nd.d.kind=9:=by omega
 have m10:((x.nd.d.kind:Int)==10)=false:=beq_false_of_ne (by omega)
 have q10:¬x.nd.d.kind=10:=by omega
 have m30:((x.nd.d.kind:Int)==30)=false:=beq_false_of_ne (by omega)
 have q30:¬x.nd.d.kind=30:=by omega
 have m37:((x.nd.d.kind:Int)==37)=false:=beq_false_of_ne (by omega)
 have q37:¬x.nd.d.kind=37:=by omega
 have m20:((x.nd.d.kind:Int)==20)=false:=beq_false_of_ne (by omega)
 have q20:¬x.nd.d.kind=20:=by omega
 have m21:((x.nd.d.kind:Int)==21)=false:=beq_false_of_ne (by omega)
 have q21:¬x.nd.d.kind=21:=by omega
 have m22:((x.nd.d.kind:Int)==22)=false:=beq_false_of_ne (by omega)
 have q22:¬x.nd.d.kind=22:=by omega
 have m23:((x.nd.d.kind:Int)==23)=false:=beq_false_of_ne (by omega)
 have q23:¬x.nd.d.kind=23:=by omega
 have m24:((x.nd.d.kind:Int)==24)=false:=beq_false_of_ne (by omega)
 have q24:¬x.nd.d.kind=24:=by omega
 have m25:((x.nd.d.kind:Int)==25)=false:=beq_false_of_ne (by omega)
 have q25:¬x.nd.d.kind=25:=by omega
 have m26:((x.nd.d.kind:Int)==26)=false:=beq_false_of_ne (by omega)
 have q26:¬x.nd.d.kind=26:=by omega
 have m27:((x.nd.d.kind:Int)==27)=false:=beq_false_of_ne (by omega)
 have q27:¬x.nd.d.kind=27:=by omega
 have m28:((x.nd.d.kind:Int)==28)=false:=beq_false_of_ne (by omega)
 have q28:¬x.nd.d.kind=28:=by omega
 have m29:((x.nd.d.kind:Int)==29)=false:=beq_false_of_ne (by omega)
 have q29:¬x.nd.d.kind=29:=by omega
 have m33:((x.nd.d.kind:Int)==33)=false:=beq_false_of_ne (by omega)
 have q33:¬x.nd.d.kind=33:=by omega
 have m35:((x.nd.d.kind:Int)==35)=false:=beq_false_of_ne (by omega)
 have q35:¬x.nd.d.kind=35:=by omega
 have m36:((x.nd.d.kind:Int)==36)=false:=beq_false_of_ne (by omega)
 have q36:¬x.nd.d.kind=36:=by omega
 have m32:((x.nd.d.kind:Int)==32)=false:=beq_false_of_ne (by omega)
 have q32:¬x.nd.d.kind=32:=by omega
 simp [q1,q2,q3,q34,q4,q31,q5,q6,q7,q8,q9,q10,q30,q37,q20,q21,q22,q23,q24,q25,q26,q27,q28,q29,q33,q35,q36,q32] at hres
 subst hres
 simp -implicitDefEqProofs [m1,m2,m3,m34,m4,m31,m5,m6,m7,m8,m9,m10,m30,m37,m20,m21,m22,m23,m24,m25,m26,m27,m28,m29,m33,m35,m36,m32,c0,ir170_k10,ir170_k9,ir170_k8,ir170_k7]
end
end Go.L02
namespace Go.L02
open Go Go.Eng Go.RowKit
open Go.Proofs hiding encI
open Go.L01 (Bs Tok encT isName)
set_option maxRecDepth 100000
set_option maxHeartbeats 2000000
@[simp] theorem cbR170:callB Tryz.prog 170=true:=by kernel_rfl
@[simp] theorem cbR81:callB Tryz.prog 81=true:=by kernel_rfl
section
variable {w:World} {lv:Value} {xs:List NV}
theorem stackF_none {l:List Nd} {i:Nat} {o:List Int} {x:Nd} {r:List Nd} (h:l.drop i=x::r) (hs:stackF (l.drop i) i o=stackF l 0 []) (hn:¬(x.kids.length≤o.length∧o.drop (o.length - x.kids.length)=x.kids)):postorder l=false:=by
 unfold postorder
 rw [←hs,h,stackF_cons,if_neg hn]
theorem q_Ordered (hR:Rd w lv xs) (hds:∀y∈xs,DOk y.nd.d) (hkl:∀x∈xs,x.nd.kids.length<4611686018427387904) (hlen:xs.length<4611686018427387904):
  Calls Tryz.prog 81 #[lv] w fun e w'=>e= .returned (.bool (orderedR (xs.map (·.nd))))∧Ext w w':=by
 have hl:=hR.len
 have his:=hR.cells.is
 generalize hres:orderedR (xs.map (·.nd))=res
 generalize hRR:(fun (e:Ending) (w':World)=>e= .returned (.bool res)∧Ext w w')=R
 have fin:∀W,Ext w W→R (.returned (.bool res)) W:=fun W hE=>by rw [←hRR];exact ⟨rfl,hE⟩
 refine ir81_calls fun ρ r0=> ?_
 unfold orderedR at hres
 simp only [List.length_map] at hres
 generalize hLL:xs.map (·.nd)=L at hres
 by_cases h0:xs.length=0
 ·simp [h0] at hres
  subst hres
  simp -implicitDefEqProofs [ir81,r0,his,hl,h0]
  exact fin _ (ext_refl _)
 by_cases h4:400<xs.length
 ·have h4i:(400:Int)<(xs.length:Int):=by omega
  have h4n:¬xs.length≤400:=by omega
  simp [h4n] at hres
  subst hres
  simp -implicitDefEqProofs [ir81,r0,his,hl,h0,h4i,h4]
  exact fin _ (ext_refl _)
 have h4i:¬(400:Int)<(xs.length:Int):=by omega
 have h1:1≤xs.length:=by omega
 have h4n:xs.length≤400:=by omega
 simp [h1,h4n] at hres
 simp -implicitDefEqProofs [ir81,r0,his,hl,h0,h4,h4i,ir81_k12]
 have hLl:L.length=xs.length:=by rw [←hLL,List.length_map]
 obtain ⟨I,hI⟩:∃I:Nat→Env→World→Prop,∀i ρ' w',I i ρ' w'↔∃(ov sv:Value) (o ss:List Int),ρ' 0=lv∧ρ' 3=ov∧ρ' 4=sv∧Ext w w'∧Cells w' ov 1 (o.map encI)∧Cells w' sv 1 (ss.map encI)∧ss.length=o.length∧o.length≤i∧(∀k∈o,0≤k∧k<(i:Int))∧stackF (L.drop i) i o=stackF L 0 []∧(L.take i).all (rightR L)=true:=⟨_,fun _ _ _=>Iff.rfl⟩
 have hnil:∀W:World,Cells W (.slice none 0 0) 1 (([]:List Int).map encI):=fun W=>⟨rfl,rfl,fun j hj=>absurd hj (by simp)⟩
 refine loopC 5 xs.length I (by simp) ((hI _ _ _).2 ⟨_,_,[],[],by simp [r0],by simp,by simp,ext_refl _,hnil _,hnil _,rfl,by simp,by simp,by simp,by simp⟩) ?_
 clear r0
 rintro i ρ' w' hi ri hIw
 obtain ⟨ov,sv,o,ss,r0,r3,r4,hE,ho,hs,hso,hoi,hor,hst,hall⟩:=(hI _ _ _).1 hIw
 have hol:slLen ov=o.length:=by have:=ho.len;simpa using this.symm
 have hsl:slLen sv=ss.length:=by have:=hs.len;simpa using this.symm
 have hR':=hR.ext hE
 by_cases hlt:i<xs.length
 ·have hlt':(i:Int)<(xs.length:Int):=by omega
  have hck:=hR'.cell (k:=i) (j:=5) hlt (by omega)
  simp [ndV] at hck
  have hmem:=List.getElem_mem hlt
  have hx:=hR'.kids _ hmem
  have hd:=hds _ hmem
  have hkx:=hkl _ hmem
  have hrow:=hR'.row hlt
  have hLi:i<L.length:=by omega
  have hgL:L[i]=xs[i].nd:=by subst hLL;simp
  have hdr:L.drop i=xs[i].nd::L.drop (i+1):=by rw [List.drop_eq_getElem_cons hLi,hgL]
  have htk:L.take (i+1)=L.take i++[xs[i].nd]:=by rw [List.take_succ_eq_append_getElem hLi,hgL]
  generalize xs[i]=x at hck hx hd hkx hrow hdr htk hgL
  have hxl:slLen x.kv=x.nd.kids.length:=by have:=hx.len;simpa using this.symm
  by_cases hk:x.nd.kids.length≤o.length
  ·have hki:¬(o.length:Int)<(x.nd.kids.length:Int):=by omega
   have hw1:IntKind.i64.wrap ((o.length:Int) - (x.nd.kids.length:Int))=((o.length - x.nd.kids.length:Nat):Int):=by rw [i64w (by omega)];omega
   simp -implicitDefEqProofs [ir81_l10,ri,r0,r3,his,hl,hlt',hlt,ir81_k9,hck,hx.is,hxl,ho.is,hol,hki,ir81_k7]
   obtain ⟨J,hJ⟩:∃J:Nat→Env→Prop,∀m ρ2,J m ρ2↔(ρ2 0=lv∧ρ2 3=ov∧ρ2 4=sv∧ρ2 5= .int .i64 i∧ρ2 6= .int .i64 (x.nd.kids.length:Int)∧(∃n,ρ2 7= .int .i64 n)∧∀q,q<m→(o.drop (o.length - x.nd.kids.length))[q]? =x.nd.kids[q]?):=⟨_,fun _ _=>Iff.rfl⟩
   refine mi_wp (C:=orc0) (w0:=w') (orc0_ok _ _) (.loop ir81_l4) (K:=fun _=>False) (Q:=⟨fun j ρ2=>j=2∧J x.nd.kids.length ρ2,fun ρ2=>ρ2 2= .bool false∧¬o.drop (o.length - x.nd.kids.length)=x.nd.kids⟩) (ext_refl _) (fun _ _ _ h=>h.elim) ?_ ?_ ?_
   ·intro j ρ2 w2 hE2 hh
    obtain ⟨rfl,hJw⟩:=hh
    obtain ⟨s0,s3,s4,s5,s6,⟨n,s7⟩,hq⟩:=(hJ _ _).1 hJw
    have hkd:o.drop (o.length - x.nd.kids.length)=x.nd.kids:=by
     apply List.ext_getElem?
     intro q
     by_cases hq':q<x.nd.kids.length
     ·exact hq q hq'
     ·rw [List.getElem?_eq_none (by rw [List.length_drop];omega),List.getElem?_eq_none (by omega)]
    have hin:∀k∈x.nd.kids,0≤k∧k<(xs.length:Int):=fun k hk2=>by
     rw [←hkd] at hk2
     have:=hor k (List.mem_of_mem_drop hk2)
     omega
    have hE02:=hE.trans' hE2
    have hrow2:=rowAt_ext hE2 _ _ _ _ hrow
    simp -implicitDefEqProofs [ir81_k6,s0,s5,his,hl,hlt',hlt,hrow2]
    refine (q_right (x:=x) (hR'.ext hE2) (hx.ext hE2) hd hin (by omega) (by omega)).mono ?_
    rintro _ w3 ⟨rfl,hE3⟩
    have hE03:=hE02.trans' hE3
    rw [hLL]
    cases hr:rightR L x.nd with
    |false=>
     have ha:L.all (rightR L)=false:=by
      rw [List.all_eq_false]
      exact ⟨L[i],List.getElem_mem _,by rw [hgL,hr];simp⟩
     rw [ha,Bool.and_false] at hres
     subst hres
     simp -implicitDefEqProofs
     exact fin _ hE03
    |true=>
     have hE2':=hE2.trans' hE3
     have ho3:=ho.ext hE2'
     have hs3:=hs.ext hE2'
     have hcapo:=isSl_le ho.is
     have hcaps:=isSl_le hs.is
     have ho5:=ho3.sub (l:=0) (r:=o.length - x.nd.kids.length) (m:=slCap ov) (Nat.zero_le _) (by simp) (by omega) (Nat.le_refl _)
     have hs5:=hs3.sub (l:=0) (r:=o.length - x.nd.kids.length) (m:=slCap sv) (Nat.zero_le _) (by simp;omega) (by omega) (Nat.le_refl _)
     simp only [Nat.mul_one,Nat.zero_mul,List.drop_zero,←List.map_take] at ho5 hs5
     have hlo:(o.take (o.length - x.nd.kids.length)).length≤400:=by rw [List.length_take];omega
     have hls:(ss.take (o.length - x.nd.kids.length)).length≤400:=by rw [List.length_take];omega
     have hlso:(ss.take (o.length - x.nd.kids.length)).length=(o.take (o.length - x.nd.kids.length)).length:=by rw [List.length_take,List.length_take];omega
     have hst2:stackF (L.drop (i+1)) (i+1) (o.take (o.length - x.nd.kids.length)++[(i:Int)])=stackF L 0 []:=by
      rw [←hst,hdr,stackF_cons,if_pos ⟨hk,hkd⟩]
     have hor2:∀k∈o.take (o.length - x.nd.kids.length)++[(i:Int)],0≤k∧k<((i+1:Nat):Int):=fun k hk2=>by
      rcases List.mem_append.1 hk2 with h|h
      ·have:=hor k (List.mem_of_mem_take h);omega
      ·rw [List.mem_singleton.1 h];omega
     have hoi2:(o.take (o.length - x.nd.kids.length)++[(i:Int)]).length≤i+1:=by rw [List.length_append,List.length_take];simp;omega
     generalize o.take (o.length - x.nd.kids.length)=o2 at ho5 hlo hlso hst2 hor2 hoi2
     generalize ss.take (o.length - x.nd.kids.length)=s2 at hs5 hls hlso
     have hc1:((o.length - x.nd.kids.length:Nat):Int)≤(slCap ov:Int):=by omega
     have hc2:((o.length - x.nd.kids.length:Nat):Int)≤(slCap sv:Int):=by omega
     have hc3:o.length≤slCap ov+x.nd.kids.length:=by omega
     have hc4:o.length≤slCap sv+x.nd.kids.length:=by omega
     simp -implicitDefEqProofs [ir81_k5]
     refine eff_lit sl40 (by decide) (by decide) (by simp) fun B4 W4 hB4 hE4 hb4 _=> ?_
     simp at hb4
     simp -implicitDefEqProofs [s3,s6,ho.is,hol,hw1,hc1,hc3]
     refine eff_append ri40 hE4 (by rfl) (by rfl) (Own.lit (n:=0) (sz:=1) hb4 (by simp) hB4 (by decide)) (ho5.ext hE4) (by simp [encI,Value.oneCell']) (by simp;omega) (by simp;omega) fun u5 W5 hE5 ho6 _ _=> ?_
     simp -implicitDefEqProofs [s5]
     refine eff_lit sl40 (by decide) (by decide) (by simp [Value.cells]) fun B6 W6 hB6 hE6 hb6 _=> ?_
     simp [Value.cells] at hb6
     simp -implicitDefEqProofs
     refine eff_append ri40 (hE5.trans' hE6) (by rfl) (by rfl) (ho6.ext hE6) (L01.own_cells (Own.lit (n:=1) (sz:=1) (cs:=[.int .i64 i]) hb6 (by simp) hB6 (by decide))) (by simp [Value.oneCell']) (by simp;omega) (by simp;omega) fun u7 W7 hE7 ho7 _ _=> ?_
     simp -implicitDefEqProofs
     refine eff_lit sl40 (by decide) (by decide) (by simp) fun B8 W8 hB8 hE8 hb8 _=> ?_
     simp at hb8
     simp -implicitDefEqProofs [s3,s4,s6,hs.is,hsl,hso,hw1,hc2,hc4]
     refine eff_append ri40 hE8 (by rfl) (by rfl) (Own.lit (n:=0) (sz:=1) hb8 (by simp) hB8 (by decide)) (hs5.ext (hE7.trans' hE8)) (by simp [encI,Value.oneCell']) (by simp;omega) (by simp;omega) fun u9 W9 hE9 ho9 _ _=> ?_
     simp -implicitDefEqProofs [s7]
     refine eff_lit sl40 (by decide) (by decide) (by simp [Value.cells]) fun B10 W10 hB10 hE10 hb10 _=> ?_
     simp [Value.cells] at hb10
     simp -implicitDefEqProofs
     refine eff_append ri40 (hE9.trans' hE10) (by rfl) (by rfl) (ho9.ext hE10) (L01.own_cells (Own.lit (n:=1) (sz:=1) (cs:=[.int .i64 n]) hb10 (by simp) hB10 (by decide))) (by simp [Value.oneCell']) (by simp;omega) (by simp;omega) fun u11 W11 hE11 ho11 _ _=> ?_
     have hwj:IntKind.i64.wrap ((i:Int)+1)=(i:Int)+1:=i64w (by omega)
     simp -implicitDefEqProofs [ir81_k8,s5,hwj,hlt]
     refine (hI _ _ _).2 ⟨u7,u11,o2++[(i:Int)],s2++[n],by simp [s0],by simp,by simp,(hE03.trans' hE7).trans' hE11, ?_, ?_,by simp [hlso],hoi2,hor2,hst2, ?_⟩
     ·have:=L01.own_cells (ho7.ext hE11)
      simpa [encI] using this
     ·have:=L01.own_cells ho11
      simpa [encI] using this
     ·rw [htk,List.all_append,hall];simp [hr]
   ·intro ρ2 w2 hE2 hh
    have hp:=stackF_none hdr hst fun h=>hh.2 h.2
    rw [hp] at hres
    simp at hres
    subst hres
    simp -implicitDefEqProofs [hh.1]
    exact fin _ (hE.trans' hE2)
   ·refine mi_loopC 8 x.nd.kids.length J (by simp) ((hJ _ _).2 ⟨by simp [r0],by simp [r3],by simp [r4],by simp [ri],by simp,⟨1,by simp⟩,fun q hq=>by omega⟩) ?_
    rintro m ρ2 hm rm hJw
    obtain ⟨s0,s3,s4,s5,s6,⟨n,s7⟩,hq⟩:=(hJ _ _).1 hJw
    by_cases hml:m<x.nd.kids.length
    ·have hml':(m:Int)<(x.nd.kids.length:Int):=by omega
     have hck2:=hx.cell m (by simpa using hml)
     obtain ⟨a,ha⟩:∃a,a=o.length - x.nd.kids.length+m:=⟨_,rfl⟩
     have hatn:a<o.length:=by omega
     have hatm:a<ss.length:=by omega
     have hoc:=ho.cell a (by simpa using hatn)
     have hsc:=hs.cell a (by simpa using hatm)
     simp only [List.getElem_map,encI] at hck2 hoc hsc
     have hat:(a:Int)<(o.length:Int):=by omega
     have hats:(a:Int)<(ss.length:Int):=by omega
     have hw2:IntKind.i64.wrap (((o.length - x.nd.kids.length:Nat):Int)+(m:Int))=(a:Int):=by rw [i64w (by omega)];omega
     have hwm:IntKind.i64.wrap ((m:Int)+1)=(m:Int)+1:=i64w (by omega)
     have hdg:(o.drop (o.length - x.nd.kids.length))[m]? =some o[a]:=by
      rw [List.getElem?_drop,←ha,List.getElem?_eq_getElem hatn]
     by_cases heq:x.nd.kids[m]=o[a]
     ·have hbn:(x.nd.kids[m] !=o[a])=false:=by rw [heq];simp
      simp -implicitDefEqProofs [ir81_l4,rm,s6,hml',hml,ir81_k3,s0,s3,s4,s5,his,hl,hlt',hlt,hck,hx.is,hxl,ho.is,hol,hs.is,hsl,hw1,hw2,hat,hats,hatn,hatm,hck2,hoc,hsc,hbn,ir81_k1,ir81_k0,s7,ir81_k2,hwm]
      refine (hJ _ _).2 ⟨by simp [s0],by simp [s3],by simp [s4],by simp [s5],by simp [s6],⟨_,by simp;rfl⟩,fun q hq2=> ?_⟩
      by_cases hqm:q<m
      ·exact hq q hqm
      ·obtain rfl:q=m:=by omega
       rw [hdg,List.getElem?_eq_getElem hml,heq]
     ·have hbn:(x.nd.kids[m] !=o[a])=true:=bne_iff_ne.2 heq
      simp -implicitDefEqProofs [ir81_l4,rm,s6,hml',hml,ir81_k3,s0,s3,s5,his,hl,hlt',hlt,hck,hx.is,hxl,ho.is,hol,hw1,hw2,hat,hatn,hck2,hoc,hbn,ir81_k1]
      intro he
      rw [he,List.getElem?_eq_getElem hml] at hdg
      exact heq (Option.some.inj hdg)
    ·have hml':¬(m:Int)<(x.nd.kids.length:Int):=by omega
     obtain rfl:m=x.nd.kids.length:=by omega
     simp -implicitDefEqProofs [ir81_l4,rm,s6]
     exact (hJ _ _).2 ⟨by simp [s0],by simp [s3],by simp [s4],by simp [s5],by simp [s6],⟨n,by simp [s7]⟩,hq⟩
  ·have hki:(o.length:Int)<(x.nd.kids.length:Int):=by omega
   have hp:=stackF_none hdr hst fun h=>hk h.1
   simp [hp] at hres
   subst hres
   simp -implicitDefEqProofs [ir81_l10,ri,r0,r3,his,hl,hlt',hlt,ir81_k9,hck,hx.is,hxl,ho.is,hol,hki]
   exact fin _ hE
 ·have hlt':¬(i:Int)<(xs.length:Int):=by omega
  rw [List.drop_eq_nil_of_le (by omega)] at hst
  rw [List.take_of_length_le (by omega)] at hall
  have hp:postorder L=decide (o.length=1):=by unfold postorder;rw [←hst];rfl
  rw [hp,hall,Bool.and_true] at hres
  have hb1:((o.length:Int)==1)=decide (o.length=1):=by rw [Bool.eq_iff_iff];simp;omega
  simp -implicitDefEqProofs [ir81_l10,ri,r0,his,hl,hlt',ir81_k11,r3,ho.is,hol,hb1]
  subst hres
  exact fin _ hE
theorem rootK_last {L:List Nd} (h0:0<xs.length) (hLL:xs.map (·.nd)=L):rootK L=(xs[xs.length - 1]'(by omega)).nd.d.kind:=by
 subst hLL
 unfold rootK
 rw [List.getLast?_eq_getElem?,List.length_map,List.getElem?_map,List.getElem?_eq_getElem (by omega)]
 rfl
theorem q_CheckNodes (hR:Rd w lv xs) (hds:∀y∈xs,DOk y.nd.d) (hkl:∀x∈xs,x.nd.kids.length<4611686018427387904) (hlen:xs.length<4611686018427387904):
  Calls Tryz.prog 27 #[lv] w fun e w'=>e= .returned (.int .i64 (if checkNodes (xs.map (·.nd)) then 0 else 21))∧Ext w w':=by
 have hl:=hR.len
 have his:=hR.cells.is
 have he:checkNodes (xs.map (·.nd))=(orderedR (xs.map (·.nd))&&isK1 20 (rootK (xs.map (·.nd)))):=whole_eq _ _ rfl
 rw [he]
 refine ir27_calls fun ρ r0=> ?_
 simp -implicitDefEqProofs [ir27,r0]
 refine (q_Ordered hR hds hkl hlen).mono ?_
 rintro _ w1 ⟨rfl,hE⟩
 cases ho:orderedR (xs.map (·.nd)) with
 |false=>
  simp -implicitDefEqProofs
  exact hE
 |true=>
  have h0:0<xs.length:=by
   unfold orderedR at ho
   simp only [Bool.and_eq_true,decide_eq_true_eq,List.length_map] at ho
   omega
  rw [rootK_last h0 rfl]
  have hn:xs.length - 1<xs.length:=by omega
  have hck:=(hR.ext hE).cell (k:=xs.length - 1) (j:=0) hn (by omega)
  simp [ndV] at hck
  have hw1:IntKind.i64.wrap ((xs.length:Int) - 1)=((xs.length - 1:Nat):Int):=by rw [i64w (by omega)];omega
  have hi:((xs.length - 1:Nat):Int)<(xs.length:Int):=by omega
  generalize (xs[xs.length - 1]'hn).nd.d.kind=kd at hck
  have hb:((kd:Int)==20)=isK1 20 kd:=by unfold isK1;rw [Bool.eq_iff_iff];simp;omega
  cases hk:isK1 20 kd with
  |true=>
   rw [hk] at hb
   simp -implicitDefEqProofs [r0,his,hl,hw1,hi,hn,hck,hb,ir27_k0,bne]
   exact hE
  |false=>
   rw [hk] at hb
   simp -implicitDefEqProofs [r0,his,hl,hw1,hi,hn,hck,hb,ir27_k0,bne]
   exact hE
end
end Go.L02
namespace Go.L02
open Go Go.Eng Go.RowKit
open Go.Proofs hiding encI
open Go.L01 (Bs Tok encT)
set_option maxRecDepth 100000
set_option maxHeartbeats 2000000
@[simp] theorem cbL27:callB Tryz.prog 27=true:=by kernel_rfl
open Classical in
noncomputable def o4 (s:Bs) (lv:Value) (xs:List NV):Orc
 |14,[]=>some (.bool true)
 |21,[a]=>if a=lv then some (.bool (fewB (xs.map (·.nd)))) else none
 |22,[a]=>if a= .string (mkS s)∧s.length≤200 then some (.bool (isType s)) else none
 |23,[a]=>if a= .string (mkS s)∧s.length≤200 then some (.bool (isType s)) else none
 |24,[a]=>if a= .string (mkS s)∧s.length≤200 then some (.bool (isOp s)) else none
 |25,[a]=>if a= .string (mkS s)∧s.length≤200 then some (.bool (isOp s)) else none
 |26,[a]=>if a=lv∧fewB (xs.map (·.nd))=true then some (.int .i64 (if checkNodes (xs.map (·.nd)) then 0 else 21)) else none
 |27,[a]=>if a=lv∧fewB (xs.map (·.nd))=true then some (.int .i64 (if checkNodes (xs.map (·.nd)) then 0 else 21)) else none
 |_,_=>none
section
variable {w:World} {lv:Value} {xs:List NV} {s:Bs}
theorem o4_ok (hG:L01.G w) (hM:MaxL w) (hR:Rd w lv xs) (hlen:xs.length<4611686018427387904) (hk8:∀x∈xs,x.nd.d.kind<256) (hkl:∀x∈xs,x.nd.kids.length<4611686018427387904):OrcOk Tryz.prog (o4 s lv xs) w:=by
 have hn:fewB (xs.map (·.nd))=true→(∀y∈xs,DOk y.nd.d)∧∀x∈xs,x.nd.kids.length≤1000000:=fun hf=>by
  have:=few_nok hf fun x hx=>by obtain ⟨y,hy,rfl⟩:=List.mem_map.1 hx;exact hk8 y hy
  exact ⟨fun y hy=>this.1 _ (List.mem_map_of_mem hy),fun y hy=>this.2 _ (List.mem_map_of_mem hy)⟩
 intro f l v h
 unfold o4 at h
 split at h
 ·cases h;exact ⟨by simp,fun W hE=>x_read (hG.ext hE) (hM.ext hE)⟩
 ·split at h
  ·rename_i hc;subst hc;cases h;exact ⟨by simp,fun W hE=>p_few (hR.ext hE) hlen hkl⟩
  ·cases h
 ·split at h
  ·rename_i hc;obtain ⟨rfl,hc⟩:=hc;cases h;exact ⟨by simp,fun W hE=>p_IsType (hG.ext hE) s (by omega)⟩
  ·cases h
 ·split at h
  ·rename_i hc;obtain ⟨rfl,hc⟩:=hc;cases h;exact ⟨by simp,fun W hE=>q_IsType s (by omega)⟩
  ·cases h
 ·split at h
  ·rename_i hc;obtain ⟨rfl,hc⟩:=hc;cases h;exact ⟨by simp,fun W hE=>p_IsOp (hG.ext hE) (hM.ext hE) s (by omega)⟩
  ·cases h
 ·split at h
  ·rename_i hc;obtain ⟨rfl,hc⟩:=hc;cases h;exact ⟨by simp,fun W hE=>q_IsOp s (by omega)⟩
  ·cases h
 ·split at h
  ·rename_i hc;obtain ⟨rfl,hc⟩:=hc;cases h;exact ⟨by simp,fun W hE=>p_CheckNodes (hG.ext hE) (hM.ext hE) (hR.ext hE) (hn hc).1 (hn hc).2⟩
  ·cases h
 ·split at h
  ·rename_i hc;obtain ⟨rfl,hc⟩:=hc;cases h;exact ⟨by simp,fun W hE=>q_CheckNodes (hR.ext hE) (hn hc).1 hkl hlen⟩
  ·cases h
 ·cases h
theorem law4 (hG:L01.G w) (hM:MaxL w) (hR:Rd w lv xs) (hlen:xs.length<4611686018427387904) (hk8:∀x∈xs,x.nd.d.kind<256) (hkl:∀x∈xs,x.nd.kids.length<4611686018427387904):Calls Tryz.prog 4 #[.string (mkS s),lv] w (okR w):=by
 refine ir4_calls fun ρ r0 r1=> ?_
 refine pure_wp (cx:=⟨Tryz.prog,36,ir4_V,[]⟩) (o4_ok (s:=s) hG hM hR hlen hk8 hkl) (ext_refl _) (fun ρ=>ρ 4= .bool true) (fun ρ' w' hE hT=> ?_) ?_
 ·rw [retK1,hT];exact ⟨rfl,hE⟩
 by_cases h2:200<s.length
 ·have h2i:(200:Int)<(s.length:Int):=by omega
  simp -implicitDefEqProofs [ir4,r0,h2i,o4,mC_b]
 have h2i:¬(200:Int)<(s.length:Int):=by omega
 have h2n:s.length≤200:=by omega
 cases hf:fewB (xs.map (·.nd)) with
 |false=>simp -implicitDefEqProofs [ir4,r0,r1,h2i,o4,hf]
 |true=>simp -implicitDefEqProofs [ir4,r0,r1,h2i,o4,hf,ir4_k0,h2n]
end
end Go.L02
