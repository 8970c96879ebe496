/- Texts of mine for the claims about layer 2 (tree), joined: L02Rw. -/
import Derived.Test.YtbcmiempigoooaaGreatDoorJbn
import Derived.Test.YtbcmiempigoooaaGreatDoorCards
import Derived.Test.YtbcmiempigoooaaGreatDoorTie
import Derived.Shelf.LaysM
import Derived.ProofKit
import Derived.OpenShut
import Derived.Carry
import Derived.Lay
import Derived.LaidSub
import Derived.Deep.DeepHandedRow
import Derived.Deep.DeepWitnessRowRef
import Derived.Deep.Strs
import Derived.Deep.SlicePairs
import Derived.Lib.SmallJoins
import Derived.Lib.LaidTab
import Derived.Lib.LaidIn
set_option linter.all false
set_option linter.unusedSimpArgs false
set_option linter.unusedVariables false
namespace Go.Proofs
open Go.Shelf
def Tryz.laysm145_ren:Go.Shelf.Ren:=⟨fun|145=>76|220=>161|219=>230|217=>282|225=>283|224=>284|267=>285|266=>330|314=>331|n=>n,fun|9=>9|4=>4|59=>107|3=>3|5=>5|46=>266|146=>300|51=>285|n=>n,fun|1=>0|n=>n⟩
theorem Tryz.laysm145:Go.Proofs.LaysM.n145 Tryz.prog Tryz.laysm145_ren:={
 mixed:=by kernel_rfl
 f145:=Tryz.func76.trans (congrArg some (by kernel_rfl))
 f217:=Tryz.func282.trans (congrArg some (by kernel_rfl))
 f219:=Tryz.func230.trans (congrArg some (by kernel_rfl))
 f220:=Tryz.func161.trans (congrArg some (by kernel_rfl))
 f224:=Tryz.func284.trans (congrArg some (by kernel_rfl))
 f225:=Tryz.func283.trans (congrArg some (by kernel_rfl))
 f266:=Tryz.func330.trans (congrArg some (by kernel_rfl))
 f267:=Tryz.func285.trans (congrArg some (by kernel_rfl))
 f314:=Tryz.func331.trans (congrArg some (by kernel_rfl))
 t3:=Tryz.underlying3
 a3:=Tryz.isAgg3
 z3:=Tryz.sizeOf3
 v3:=Tryz.zeroValue3
 t4:=Tryz.underlying4
 a4:=Tryz.isAgg4
 z4:=Tryz.sizeOf4
 v4:=Tryz.zeroValue4
 t5:=Tryz.underlying5
 a5:=Tryz.isAgg5
 z5:=Tryz.sizeOf5
 v5:=Tryz.zeroValue5
 t9:=Tryz.underlying9
 a9:=Tryz.isAgg9
 z9:=Tryz.sizeOf9
 v9:=Tryz.zeroValue9
 t46:=Tryz.underlying266
 a46:=Tryz.isAgg266
 z46:=Tryz.sizeOf266
 v46:=Tryz.zeroValue266
 t51:=Tryz.underlying285
 a51:=Tryz.isAgg285
 z51:=Tryz.sizeOf285
 v51:=Tryz.zeroValue285
 t59:=Tryz.underlying107
 a59:=Tryz.isAgg107
 z59:=Tryz.sizeOf107
 v59:=Tryz.zeroValue107
 t146:=Tryz.underlying300
 a146:=Tryz.isAgg300
 z146:=Tryz.sizeOf300
 v146:=Tryz.zeroValue300
 g1:=by kernel_rfl
 i3:=by kernel_rfl
 i4:=by kernel_rfl
 i5:=by kernel_rfl
 i9:=by kernel_rfl
 i46:=by kernel_rfl
 i51:=by kernel_rfl
 i59:=by kernel_rfl
 i146:=by kernel_rfl
 m1:=by kernel_rfl
 s1_3:=fun w h=>Go.Proofs.cell_of_shapedOpen_int (zero:= #[.int .i64 0]) (t:=3) h (of_decide_eq_true (by kernel_rfl)) (by kernel_rfl) rfl (by kernel_rfl) (by kernel_rfl) Tryz.underlying3}
end Go.Proofs
namespace Go.Proofs.YtbcmiempigoooaaGreatDoor
open Go Go.ChangeShapes Go.WideShapes Go.ChangeAt Go.RowKit Go.Eng Go.L02
open Go.L01 (Bs encT G)
open Go.ChangeMaps (open_string)
set_option maxRecDepth 100000
theorem own:ownKnob Tryz.prog.godebug=none:=by kernel_rfl
theorem laidOut:laidOutB Tryz.prog=true:=by kernel_rfl
abbrev laidL:List (String×DataW Unit):=Rows.treeSizesUptoRow.laid
theorem laid_met (os:Os) (args:Array Value):laidMet Tryz.prog laidL ((World.laidAll Tryz.prog os laidL).forCall (fun _ _=>0) ⟨#[],args,[]⟩).memory:=
 laidMet_laidAll args (by kernel_rfl) (by kernel_rfl)
theorem cells5:Tryz.prog.cellsOf 5=1:=by kernel_rfl
theorem cells3:Tryz.prog.cellsOf 3=1:=by kernel_rfl
theorem cells9:Tryz.prog.cellsOf 9=1:=by kernel_rfl
theorem und29:Tryz.prog.underlying 29=some (.slice 44):=by kernel_rfl
theorem und40:Tryz.prog.underlying 40=some (.slice 3):=by kernel_rfl
theorem und5:Tryz.prog.underlying 5=some (.int .u8):=by kernel_rfl
theorem und3:Tryz.prog.underlying 3=some (.int .i64):=by kernel_rfl
theorem und9:Tryz.prog.underlying 9=some .string:=by kernel_rfl
theorem und4:Tryz.prog.underlying 4=some .bool:=by kernel_rfl
theorem maxl_of {W:World} (hsh:W.ShapedOpen Tryz.prog):MaxL W:=Go.Proofs.Tryz.laysm145.s1_3 W hsh
theorem pick {W:World} (h:laidMet Tryz.prog laidL W) (n:String) (d:DataW Unit) (he:(laidL.filter fun x=>x.1==n)=[(n,d)]):laidMet Tryz.prog [(n,d)] W:=by
 have:=h.filter (fun x=>x.1==n)
 rw [he] at this
 exact this
def spTab:List Int:=(List.range 256).map fun c=>if Lib.isSp (UInt8.ofNat c) then 1 else 0
theorem err_cell {W:World} {n:String} {g ti:Nat} {ms:Array (String×TypeId)} {d:DataW Unit} (hg:Tryz.prog.globalNamed n=some g) (hty:(Tryz.prog.globals[g]?).map (·.type)=some ti) (hi:Tryz.prog.underlying ti=some (.interface ms)) {nm:String} (h:laidMet Tryz.prog [(n, .iface nm d)] W):∃te pe,W.cell? ⟨g,0,none⟩=some (.iface te pe):=by
 obtain ⟨ps,⟨g',t',cs,fuel,p,q,hg',ht',hvar,hd,_,_⟩,_⟩:=h
 obtain rfl:=Option.some.inj (hg.symm.trans hg')
 obtain rfl:=Option.some.inj (hty.symm.trans ht')
 obtain ⟨_,u,v,hcs,_,_⟩:=iface_of_trod hi hd
 refine ⟨u,v, ?_⟩
 have hvar':W.var? Tryz.prog n=some #[Value.iface u v]:=by
  rw [hvar];congr 1;apply Array.ext';simpa using hcs
 simpa using World.var?_cell hg hvar' 0
theorem g_of {W:World} (h:laidMetH Tryz.prog laidL W):G W:=by
 replace h:laidMet Tryz.prog laidL W:=h
 have hsp : Lib.TabIs Tryz.prog W "strings.asciiSpace" .u8 spTab :=
  Lib.tabIs_of_head (rest := []) (g := 3) (by kernel_rfl) (t := _) rfl (e := 5) (n := 256) (by kernel_rfl) und5 cells5 (by kernel_rfl) (pick h "strings.asciiSpace" _ (by kernel_rfl))
 have hpw : Lib.TabIs Tryz.prog W "internal/strconv.uint64pow10" .u64 Lib.pow10Tab :=
  Lib.tabIs_of_head (rest := []) (g := 4) (by kernel_rfl) (t := _) rfl (e := 287) (n := 20) (by kernel_rfl) (by kernel_rfl) (by kernel_rfl) (by kernel_rfl) (pick h "internal/strconv.uint64pow10" _ (by kernel_rfl))
 refine ⟨fun c hc => ?_, hpw, err_cell (n := "strconv.ErrSyntax") (by kernel_rfl) (ti := 126) rfl Tryz.underlying126 (pick h "strconv.ErrSyntax" Rows.laid_strconv_ErrSyntax (by kernel_rfl)), err_cell (n := "strconv.ErrRange") (by kernel_rfl) (ti := 126) rfl Tryz.underlying126 (pick h "strconv.ErrRange" Rows.laid_strconv_ErrRange (by kernel_rfl))⟩
 have:=hsp.cell (g:=3) (by kernel_rfl) c (by simpa [spTab] using hc)
 rw [this]
 simp [spTab,List.getD_eq_getElem?_getD,hc]
theorem mkS_data (s:ByteArray):mkS s.data.toList=s:=by
 apply ByteArray.ext;simp [mkS]
section
variable {H:Type} {enc:TypeId×Value→H} {W:World}
theorem bulk_one (d:DataW H):1≤Rows.uptoBulk d:=by
 cases d with
 |lit l=>cases l<;>simp [Rows.uptoBulk]
 |nil=>simp [Rows.uptoBulk]
 |ptr d=>simp [Rows.uptoBulk]
 |slice elems spare=>simp [Rows.uptoBulk]
 |agg parts=>simp [Rows.uptoBulk]
 |iface t d=>simp [Rows.uptoBulk]
 |map entries=>simp [Rows.uptoBulk]
 |held h=>simp [Rows.uptoBulk]
theorem bulk_len (l:List (DataW H)):l.length≤Rows.uptoBulkAll l:=by
 induction l with
 |nil=>simp [Rows.uptoBulkAll]
 |cons x r ih=>have:=bulk_one x;simp only [Rows.uptoBulkAll,List.length_cons];omega
theorem bulk_slice (elems spare:List (DataW H)):elems.length≤Rows.uptoBulk (.slice elems spare):=by
 have h1:=bulk_len elems
 simp only [Rows.uptoBulk]
 omega
theorem spot_of {e t:TypeId} {r:Reach} {base:Nat} {a:Addr} {n c:Nat} (ht:Tryz.prog.underlying t=some (.slice e)) (h:Cell.okWide Tryz.prog W r base t (.slice (some a) n c)):a.spot=none:=by
 simp only [Cell.okWide,Cell.ok,ht] at h
 exact h.2.2.2.1
theorem addr_spot {a:Addr} (h:a.spot=none):∃b o,a=⟨b,o,none⟩:=by
 obtain ⟨b,o,s⟩:=a
 simp only at h
 subst h
 exact ⟨b,o,rfl⟩
theorem add_lit' (b o i:Nat):(⟨b,o,none⟩:Addr).add i=⟨b,o+i,none⟩:=add_lit b o i
theorem cell_of {t e:TypeId} {base:Nat} {v:Value} (ht:Tryz.prog.underlying t=some (.slice e)) (h:Value.okWide Tryz.prog W .any base t v):Cell.okWide Tryz.prog W .any base t v:=by
 simpa only [Value.okWide,ht] using h
theorem wf_u8 {n:Int} (h:(Lit.int .u8 n).wf=true):0≤n∧n≤255:=by
 simpa [Lit.wf,IntKind.min,IntKind.max,IntKind.signed,IntKind.bits] using h
theorem wf_i64 {n:Int} (h:(Lit.int .i64 n).wf=true): -9223372036854775808≤n∧n≤9223372036854775807:=by
 simpa [Lit.wf,IntKind.min,IntKind.max,IntKind.signed,IntKind.bits] using h
theorem bulk_mem {d:DataW H} {l:List (DataW H)} (h:d∈l):Rows.uptoBulk d≤Rows.uptoBulkAll l:=by
 induction l with
 |nil=>cases h
 |cons x r ih=>
  simp only [Rows.uptoBulkAll]
  cases List.mem_cons.1 h with
  |inl e=>subst e;omega
  |inr e=>have:=ih e;omega
def NdB (x:NV):Prop:=x.nd.d.kind<256∧ -9223372036854775808≤x.nd.d.n∧x.nd.d.n≤9223372036854775807
theorem slot0 {a:Addr} {v:Value} (h:W.cell? (a.add 0)=some v):a.spot=none:=by
 have e:a.add 0=a:=by unfold Addr.add;simp
 rw [e] at h
 exact World.cell?_spot h
theorem isSl_wide {a:Addr} {n c:Nat} (h:n≤c) (hs:0<c→a.spot=none):isSl (.slice (some a) n c)=true:=by
 obtain ⟨b,o,s⟩:=a
 by_cases hc:0<c
 ·obtain rfl:s=none:=hs hc
  simp [isSl,h]
 ·obtain rfl:c=0:=by omega
  obtain rfl:n=0:=by omega
  cases s<;>simp [isSl]
theorem openI {n:Nat} {v:Value} {y:DataW H×List MemPlace} (hbk:Rows.uptoBulk y.1≤1048576) (h:DataW.trod enc Tryz.prog W 0 (fun _=>true) true n 40 [v]=some y):∃ns:List Int,Cells W v 1 (ns.map Eng.encI)∧ns.length≤1048576:=by
 rcases open_ints und40 und3 cells3 h with ⟨h1,_⟩|⟨a,len,cap,zs,h1,_,hl,hm,hz,hy,hc,hw⟩
 ·simp at h1;subst h1;exact ⟨[],⟨rfl,rfl,fun j hj=>by simp at hj⟩,by simp⟩
 ·simp at h1;subst h1
  simp at hz
  have hbl:=bulk_slice (H:=H) (lits .i64 (zs.take len)) (lits .i64 (zs.drop len))
  rw [hy] at hbk
  simp only [lits,List.length_map,List.length_take] at hbl hbk
  by_cases h0:0<cap
  ·obtain ⟨b,o,rfl⟩:=addr_spot (slot0 (hc 0 (by omega)))
   refine ⟨zs.take len,⟨by simp [isSl,hl],by simp [slLen];omega,fun i hi=> ?_⟩,by simp;omega⟩
   simp at hi
   have:=hc i (by omega)
   rw [add_lit'] at this
   simp [slAddr,this,Eng.encI,List.getD_eq_getElem?_getD,show i<zs.length by omega]
  ·have:len=0:=by omega
   subst this
   exact ⟨[],⟨isSl_wide hl (fun h=>absurd h h0),rfl,fun j hj=>by simp at hj⟩,by simp⟩
theorem cells44:Tryz.prog.cellsOf 44=6:=by kernel_rfl
theorem cells40:Tryz.prog.cellsOf 40=1:=by kernel_rfl
theorem und44:∃f0 f1 f2 f3 f4 f5:Field,Tryz.prog.underlying 44=some (.struct #[f0,f1,f2,f3,f4,f5])∧f0.type=5∧f1.type=9∧f2.type=9∧f3.type=9∧f4.type=3∧f5.type=40∧f0.offset=0∧f1.offset=1∧f2.offset=2∧f3.offset=3∧f4.offset=4∧f5.offset=5:=
 ⟨_,_,_,_,_,_,Tryz.underlying44,rfl,rfl,rfl,rfl,rfl,rfl,rfl,rfl,rfl,rfl,rfl,rfl⟩
theorem undK:Tryz.prog.underlying 5=some (.int .u8):=by kernel_rfl
theorem cellsK:Tryz.prog.cellsOf 5=1:=by kernel_rfl
theorem struct6 {t:TypeId} {f0 f1 f2 f3 f4 f5:Field} {fuel:Nat} {cs:List Value} {x:DataW H×List MemPlace} (ht:Tryz.prog.underlying t=some (.struct #[f0,f1,f2,f3,f4,f5])) (h:DataW.trod enc Tryz.prog W 0 (fun _=>true) true fuel t cs=some x):
  ∃y0 y1 y2 y3 y4 y5 n,x.1= .agg [y0.1,y1.1,y2.1,y3.1,y4.1,y5.1]∧cs.length=Tryz.prog.cellsOf t∧DataW.trod enc Tryz.prog W 0 (fun _=>true) true n f0.type ((cs.drop f0.offset).take (Tryz.prog.cellsOf f0.type))=some y0∧
   DataW.trod enc Tryz.prog W 0 (fun _=>true) true n f1.type ((cs.drop f1.offset).take (Tryz.prog.cellsOf f1.type))=some y1∧DataW.trod enc Tryz.prog W 0 (fun _=>true) true n f2.type ((cs.drop f2.offset).take (Tryz.prog.cellsOf f2.type))=some y2∧
   DataW.trod enc Tryz.prog W 0 (fun _=>true) true n f3.type ((cs.drop f3.offset).take (Tryz.prog.cellsOf f3.type))=some y3∧DataW.trod enc Tryz.prog W 0 (fun _=>true) true n f4.type ((cs.drop f4.offset).take (Tryz.prog.cellsOf f4.type))=some y4∧
   DataW.trod enc Tryz.prog W 0 (fun _=>true) true n f5.type ((cs.drop f5.offset).take (Tryz.prog.cellsOf f5.type))=some y5:=by
 obtain ⟨xs,n,_,rfl,hl,hlen,hf⟩:=DataW.trod_struct ht h
 match xs,hlen with
 |[y0,y1,y2,y3,y4,y5],_=>exact ⟨y0,y1,y2,y3,y4,y5,n,by simp,hl,by simpa using hf 0 f0 rfl,by simpa using hf 1 f1 rfl,by simpa using hf 2 f2 rfl,by simpa using hf 3 f3 rfl,by simpa using hf 4 f4 rfl,by simpa using hf 5 f5 rfl⟩
theorem openNode {n:Nat} {cs:List Value} {y:DataW H×List MemPlace} (hbk:Rows.uptoBulk y.1≤1048576) (h:DataW.trod enc Tryz.prog W 0 (fun _=>true) true n 44 cs=some y):∃x:NV,cs=ndV x∧Cells W x.kv 1 (x.nd.kids.map Eng.encI)∧NdB x∧x.nd.kids.length≤1048576:=by
 obtain ⟨f0,f1,f2,f3,f4,f5,hu,t0,t1,t2,t3,t4,t5,o0,o1,o2,o3,o4,o5⟩:=und44
 obtain ⟨y0,y1,y2,y3,y4,y5,k,hy,hl,k0,k1,k2,k3,k4,k5⟩:=struct6 hu h
 rw [cells44] at hl
 rw [hy] at hbk
 have hb5:Rows.uptoBulk y5.1≤1048576:=by
  simp only [Rows.uptoBulk,Rows.uptoBulkAll] at hbk
  omega
 match cs,hl with
 |[a,b,c,d,e,f],_=>
  rw [t0,o0,cellsK] at k0
  rw [t1,o1,cells9] at k1
  rw [t2,o2,cells9] at k2
  rw [t3,o3,cells9] at k3
  rw [t4,o4,cells3] at k4
  rw [t5,o5,cells40] at k5
  simp at k0 k1 k2 k3 k4 k5
  obtain ⟨z,e0,_,wz⟩:=DataW.trod_int undK k0
  obtain ⟨s1,e1,_,_⟩:=DataW.trod_string und9 k1
  obtain ⟨s2,e2,_,_⟩:=DataW.trod_string und9 k2
  obtain ⟨s3,e3,_,_⟩:=DataW.trod_string und9 k3
  obtain ⟨m,e4,_,wm⟩:=DataW.trod_int und3 k4
  obtain ⟨ns,hns,hnl⟩:=openI hb5 k5
  simp at e0 e1 e2 e3 e4
  have hz:=wf_u8 wz
  have hm:=wf_i64 wm
  refine ⟨⟨⟨{kind:=z.toNat,name:=s1.data.toList,vr:=s2.data.toList,typ:=s3.data.toList,n:=m},ns⟩,f⟩, ?_,hns, ?_,hnl⟩
  ·rw [e0,e1,e2,e3,e4]
   simp only [ndV,mkS_data]
   simp only [List.cons.injEq,Value.int.injEq,true_and,and_true]
   omega
  ·refine ⟨?_,hm⟩
   show z.toNat<256
   omega
theorem openNodes {base:Nat} {v:Value} {d:DataW H} {p:List MemPlace} (hbk:Rows.uptoBulk d≤1048576) (hv:Value.okWide Tryz.prog W .any base 29 v) (h:DataW.Trod enc Tryz.prog W 0 (fun _=>true) true 29 v d p):∃xs:List NV,Rd W v xs∧(∀x∈xs,NdB x)∧(∀x∈xs,x.nd.kids.length<4611686018427387904)∧xs.length<4611686018427387904:=by
 obtain ⟨a0,l0,c0,rfl⟩:=okWide_slice und29 hv
 have hsp:∀a,a0=some a→a.spot=none:=fun a e=>by subst e;exact spot_of und29 (cell_of und29 hv)
 obtain ⟨n,hn⟩:=h
 rcases Go.Deep.open_slice und29 hn with ⟨h1,_⟩|⟨a,len,cap,m,k,D,Pl,h1,_,hl,hm,hmm,hy,hx⟩
 ·simp [Value.cells] at h1
  obtain ⟨rfl,rfl,rfl⟩:=h1
  exact ⟨[],⟨⟨rfl,rfl,fun j hj=>by simp [nvV] at hj⟩,fun x hx=>by cases hx⟩,by simp,by simp,by simp⟩
 ·simp [Value.cells] at h1
  obtain ⟨rfl,rfl,rfl⟩:=h1
  obtain ⟨b,o,rfl⟩:=addr_spot (hsp _ rfl)
  simp at hmm
  subst hmm
  rw [cells44] at hx
  have hd:d= .slice ((List.range l0).map D) ((List.range (m - l0)).map fun j=>D (l0+j)):=congrArg Prod.fst hy
  subst hd
  have hbl:=bulk_slice ((List.range l0).map D) ((List.range (m - l0)).map fun j=>D (l0+j))
  simp only [List.length_map,List.length_range] at hbl
  have each:∀i,∃x:NV,i<l0→(∀j,j<6→W.cell? ⟨b,o+(i*6+j),none⟩=(ndV x)[j]?)∧Cells W x.kv 1 (x.nd.kids.map Eng.encI)∧NdB x∧x.nd.kids.length≤1048576:=by
   intro i
   by_cases hi:i<l0
   ·obtain ⟨cs,hcs,ht⟩:=hx i (by omega)
    have hDi:Rows.uptoBulk (D i)≤1048576:=by
     have h1:=bulk_mem (d:=D i) (l:=(List.range l0).map D) (List.mem_map.2 ⟨i,List.mem_range.2 hi,rfl⟩)
     simp only [Rows.uptoBulk] at hbk
     omega
    obtain ⟨x,rfl,hk1,hk2,hk3⟩:=openNode (y:=(D i,Pl i)) hDi ht
    obtain ⟨_,_,hcell⟩:=World.cells?_some hcs
    refine ⟨x,fun _=>⟨fun j hj=> ?_,hk1,hk2,hk3⟩⟩
    have hj6:j<(ndV x).length:=hj
    have g:=hcell j (by simpa using hj)
    simp only [add_lit'] at g
    simpa [Nat.add_assoc] using g
   ·exact ⟨⟨⟨{kind:=0},[]⟩, .slice none 0 0⟩,fun h=>absurd h hi⟩
  obtain ⟨f,hf⟩:=Classical.axiomOfChoice each
  refine ⟨(List.range l0).map f,⟨⟨by simp [isSl,hl],by simp [nvV_len,slLen],fun j hj=> ?_⟩,fun x hx=> ?_⟩,fun x hx=> ?_,fun x hx=> ?_,by simp;omega⟩
  ·rw [nvV_len] at hj
   simp at hj
   have hq:j / 6<l0:=by omega
   have hr:j%6<6:=Nat.mod_lt _ (by decide)
   have hjj:j / 6*6+j%6=j:=by omega
   have h1:=(hf (j / 6) hq).1 (j%6) hr
   have h2:=nvV_get (xs:=(List.range l0).map f) (k:=j / 6) (j:=j%6) (by simpa using hq) hr
   rw [hjj] at h1 h2
   simp at h2
   simp only [slAddr,add_lit']
   rw [h1,←h2,List.getElem?_eq_getElem]
  ·obtain ⟨i,hi,rfl⟩:=List.mem_map.1 hx
   exact (hf i (List.mem_range.1 hi)).2.1
  ·obtain ⟨i,hi,rfl⟩:=List.mem_map.1 hx
   exact (hf i (List.mem_range.1 hi)).2.2.1
  ·obtain ⟨i,hi,rfl⟩:=List.mem_map.1 hx
   have:=(hf i (List.mem_range.1 hi)).2.2.2
   omega
end
theorem below_trodAll {H:Type} {enc:TypeId×Value→H} {W W':World} (hb:Below W.heap.size W W'):∀{ts:List TypeId} {vs:List Value} {ds:List (DataW H)} {ps:List MemPlace},
  (∀t∈ts,Tryz.prog.readableRec t=true∧t<Tryz.prog.types.size)→DataW.TrodAll enc Tryz.prog W 0 (fun _=>true) true ts vs ds ps→(∀x∈ps,x.block<W.heap.size)→DataW.TrodAll enc Tryz.prog W' 0 (fun b=>decide (b<W.heap.size)) true ts vs ds ps
 |[],[],[],_,_,h,_=>h
 |_::_,_::_,_::_,_,hT,⟨p,q,h1,h2,e⟩,hlt=>
  ⟨p,q,Below.trod laidOut (hT _ (by simp)).1 (hT _ (by simp)).2 h1 hb (fun x hx=>hlt x (by rw [e];exact List.mem_append_left _ hx)),below_trodAll hb (fun t ht=>hT t (List.mem_cons_of_mem _ ht)) h2 (fun x hx=>hlt x (by rw [e];exact List.mem_append_right _ hx)),e⟩
theorem row_post {H:Type} {enc:TypeId×Value→H} {fn:Func} {s:ChangeSpec} {W:World} {args:Array Value} {ds gs:List (DataW H)} {before:List MemPlace} {f:FuncId}
  (hv:s.vars=[]) (hr:fn.resultTypes= #[4]) (hT:∀t∈fn.params.toList,Tryz.prog.readableRec t=true∧t<Tryz.prog.types.size)
  (hfn:∀l:List (DataW H),l.length=fn.params.size→s.fn H l={results:=[.lit (.bool true)],args:=l})
  (hW:DataW.Whole enc Tryz.prog fn.params.toList s.vars false W args.toList ds gs before)
  (hc:Calls Tryz.prog f args W fun e w'=>e= .returned (.bool true)∧Ext W w'):
  Calls Tryz.prog f args W fun e W'=>∃v,e= .returned v∧s.post enc Tryz.prog fn false true false false W args v W':=by
 refine hc.mono ?_
 rintro e W' ⟨rfl,hB⟩
 have hW':=hW
 obtain ⟨p,q,hA,hV,rfl,_,_⟩:=hW
 rw [hv] at hV
 obtain ⟨rfl,rfl⟩:=trodVars_none hV
 have hlen:ds.length=fn.params.size:=by
  have key:∀{ts:List TypeId} {vs:List Value} {ds:List (DataW H)} {ps:List MemPlace},DataW.TrodAll enc Tryz.prog W 0 (fun _=>true) true ts vs ds ps→ds.length=ts.length:=by
   intro ts
   induction ts with
   |nil=>intro vs ds ps h;cases vs<;>cases ds<;>first|rfl|cases h
   |cons t ts ih=>
    intro vs ds ps h
    cases vs<;>cases ds<;>first|(cases h;done)|skip
    obtain ⟨p,q,_,h2,_⟩:=h
    simp [ih h2]
  simpa using key hA
 have hlt:∀x∈p,x.block<W.heap.size:=fun x hx=>hW'.lt x (by simpa using hx)
 have e1:=hfn (ds++[]) (by simpa using hlen)
 refine ⟨_,rfl,ds,[],p++[],[],p,[],hW', ?_, ?_, ?_,hB.frame _,fun h=>by cases h⟩
 ·rw [e1,hr];exact trodAll_mk1 (shut_bool und4 _)
 ·rw [e1];simpa using below_trodAll hB hT hA hlt
 ·rw [e1,hv];rfl
end Go.Proofs.YtbcmiempigoooaaGreatDoor
