/- Texts of mine for the claims about layer 2 (tree), joined: L02Rw, L02Na, L02Nb, L02Nd, L02If, L02Nc. -/
import Derived.Test.YtbcmiempigoooaaGreatDoorJbm
import Derived.Test.YtbcmiempigoooaaGreatDoorCards
import Derived.Test.YtbcmiempigoooaaGreatDoorTie
import Derived.Shelf.LaysM
import Derived.ProofKit
import Derived.OpenShut
import Derived.Carry
import Derived.Lay
import Derived.LaidSub
import Derived.Deep.DeepHandedRow
import Derived.Deep.DeepWitnessRowRef
import Derived.Deep.Strs
import Derived.Deep.SlicePairs
import Derived.Lib.SmallJoins
import Derived.Lib.LaidTab
import Derived.Lib.LaidIn
import Derived.Test.YtbcmiempigoooaaGreatDoorProg
import Derived.KernelRfl
set_option linter.all false
set_option linter.unusedSimpArgs false
set_option linter.unusedVariables false
namespace Go.Proofs
open Go.Shelf
def Tryz.laysm145_ren:Go.Shelf.Ren:=⟨fun|145=>76|220=>161|219=>230|217=>282|225=>283|224=>284|267=>285|266=>330|314=>331|n=>n,fun|9=>9|4=>4|59=>107|3=>3|5=>5|46=>266|146=>300|51=>285|n=>n,fun|1=>0|n=>n⟩
theorem Tryz.laysm145:Go.Proofs.LaysM.n145 Tryz.prog Tryz.laysm145_ren:={
 mixed:=by kernel_rfl
 f145:=Tryz.func76.trans (congrArg some (by kernel_rfl))
 f217:=Tryz.func282.trans (congrArg some (by kernel_rfl))
 f219:=Tryz.func230.trans (congrArg some (by kernel_rfl))
 f220:=Tryz.func161.trans (congrArg some (by kernel_rfl))
 f224:=Tryz.func284.trans (congrArg some (by kernel_rfl))
 f225:=Tryz.func283.trans (congrArg some (by kernel_rfl))
 f266:=Tryz.func330.trans (congrArg some (by kernel_rfl))
 f267:=Tryz.func285.trans (congrArg some (by kernel_rfl))
 f314:=Tryz.func331.trans (congrArg some (by kernel_rfl))
 t3:=Tryz.underlying3
 a3:=Tryz.isAgg3
 z3:=Tryz.sizeOf3
 v3:=Tryz.zeroValue3
 t4:=Tryz.underlying4
 a4:=Tryz.isAgg4
 z4:=Tryz.sizeOf4
 v4:=Tryz.zeroValue4
 t5:=Tryz.underlying5
 a5:=Tryz.isAgg5
 z5:=Tryz.sizeOf5
 v5:=Tryz.zeroValue5
 t9:=Tryz.underlying9
 a9:=Tryz.isAgg9
 z9:=Tryz.sizeOf9
 v9:=Tryz.zeroValue9
 t46:=Tryz.underlying266
 a46:=Tryz.isAgg266
 z46:=Tryz.sizeOf266
 v46:=Tryz.zeroValue266
 t51:=Tryz.underlying285
 a51:=Tryz.isAgg285
 z51:=Tryz.sizeOf285
 v51:=Tryz.zeroValue285
 t59:=Tryz.underlying107
 a59:=Tryz.isAgg107
 z59:=Tryz.sizeOf107
 v59:=Tryz.zeroValue107
 t146:=Tryz.underlying300
 a146:=Tryz.isAgg300
 z146:=Tryz.sizeOf300
 v146:=Tryz.zeroValue300
 g1:=by kernel_rfl
 i3:=by kernel_rfl
 i4:=by kernel_rfl
 i5:=by kernel_rfl
 i9:=by kernel_rfl
 i46:=by kernel_rfl
 i51:=by kernel_rfl
 i59:=by kernel_rfl
 i146:=by kernel_rfl
 m1:=by kernel_rfl
 s1_3:=fun w h=>Go.Proofs.cell_of_shapedOpen_int (zero:= #[.int .i64 0]) (t:=3) h (of_decide_eq_true (by kernel_rfl)) (by kernel_rfl) rfl (by kernel_rfl) (by kernel_rfl) Tryz.underlying3}
end Go.Proofs
namespace Go.Proofs.YtbcmiempigoooaaGreatDoor
open Go Go.ChangeShapes Go.WideShapes Go.ChangeAt Go.RowKit Go.Eng Go.L02
open Go.L01 (Bs encT G)
open Go.ChangeMaps (open_string)
set_option maxRecDepth 100000
theorem own:ownKnob Tryz.prog.godebug=none:=by kernel_rfl
theorem laidOut:laidOutB Tryz.prog=true:=by kernel_rfl
abbrev laidL:List (String×DataW Unit):=Rows.treeSizesUptoRow.laid
theorem laid_met (os:Os) (args:Array Value):laidMet Tryz.prog laidL ((World.laidAll Tryz.prog os laidL).forCall (fun _ _=>0) ⟨#[],args,[]⟩).memory:=
 laidMet_laidAll args (by kernel_rfl) (by kernel_rfl)
theorem cells5:Tryz.prog.cellsOf 5=1:=by kernel_rfl
theorem cells3:Tryz.prog.cellsOf 3=1:=by kernel_rfl
theorem cells9:Tryz.prog.cellsOf 9=1:=by kernel_rfl
theorem und29:Tryz.prog.underlying 29=some (.slice 44):=by kernel_rfl
theorem und40:Tryz.prog.underlying 40=some (.slice 3):=by kernel_rfl
theorem und5:Tryz.prog.underlying 5=some (.int .u8):=by kernel_rfl
theorem und3:Tryz.prog.underlying 3=some (.int .i64):=by kernel_rfl
theorem und9:Tryz.prog.underlying 9=some .string:=by kernel_rfl
theorem und4:Tryz.prog.underlying 4=some .bool:=by kernel_rfl
theorem maxl_of {W:World} (hsh:W.ShapedOpen Tryz.prog):MaxL W:=Go.Proofs.Tryz.laysm145.s1_3 W hsh
theorem pick {W:World} (h:laidMet Tryz.prog laidL W) (n:String) (d:DataW Unit) (he:(laidL.filter fun x=>x.1==n)=[(n,d)]):laidMet Tryz.prog [(n,d)] W:=by
 have:=h.filter (fun x=>x.1==n)
 rw [he] at this
 exact this
def spTab:List Int:=(List.range 256).map fun c=>if Lib.isSp (UInt8.ofNat c) then 1 else 0
theorem err_cell {W:World} {n:String} {g ti:Nat} {ms:Array (String×TypeId)} {d:DataW Unit} (hg:Tryz.prog.globalNamed n=some g) (hty:(Tryz.prog.globals[g]?).map (·.type)=some ti) (hi:Tryz.prog.underlying ti=some (.interface ms)) {nm:String} (h:laidMet Tryz.prog [(n, .iface nm d)] W):∃te pe,W.cell? ⟨g,0,none⟩=some (.iface te pe):=by
 obtain ⟨ps,⟨g',t',cs,fuel,p,q,hg',ht',hvar,hd,_,_⟩,_⟩:=h
 obtain rfl:=Option.some.inj (hg.symm.trans hg')
 obtain rfl:=Option.some.inj (hty.symm.trans ht')
 obtain ⟨_,u,v,hcs,_,_⟩:=iface_of_trod hi hd
 refine ⟨u,v, ?_⟩
 have hvar':W.var? Tryz.prog n=some #[Value.iface u v]:=by
  rw [hvar];congr 1;apply Array.ext';simpa using hcs
 simpa using World.var?_cell hg hvar' 0
theorem g_of {W:World} (h:laidMetH Tryz.prog laidL W):G W:=by
 replace h:laidMet Tryz.prog laidL W:=h
 have hsp : Lib.TabIs Tryz.prog W "strings.asciiSpace" .u8 spTab :=
  Lib.tabIs_of_head (rest := []) (g := 3) (by kernel_rfl) (t := _) rfl (e := 5) (n := 256) (by kernel_rfl) und5 cells5 (by kernel_rfl) (pick h "strings.asciiSpace" _ (by kernel_rfl))
 have hpw : Lib.TabIs Tryz.prog W "internal/strconv.uint64pow10" .u64 Lib.pow10Tab :=
  Lib.tabIs_of_head (rest := []) (g := 4) (by kernel_rfl) (t := _) rfl (e := 287) (n := 20) (by kernel_rfl) (by kernel_rfl) (by kernel_rfl) (by kernel_rfl) (pick h "internal/strconv.uint64pow10" _ (by kernel_rfl))
 refine ⟨fun c hc => ?_, hpw, err_cell (n := "strconv.ErrSyntax") (by kernel_rfl) (ti := 126) rfl Tryz.underlying126 (pick h "strconv.ErrSyntax" Rows.laid_strconv_ErrSyntax (by kernel_rfl)), err_cell (n := "strconv.ErrRange") (by kernel_rfl) (ti := 126) rfl Tryz.underlying126 (pick h "strconv.ErrRange" Rows.laid_strconv_ErrRange (by kernel_rfl))⟩
 have:=hsp.cell (g:=3) (by kernel_rfl) c (by simpa [spTab] using hc)
 rw [this]
 simp [spTab,List.getD_eq_getElem?_getD,hc]
theorem mkS_data (s:ByteArray):mkS s.data.toList=s:=by
 apply ByteArray.ext;simp [mkS]
section
variable {H:Type} {enc:TypeId×Value→H} {W:World}
theorem bulk_one (d:DataW H):1≤Rows.uptoBulk d:=by
 cases d with
 |lit l=>cases l<;>simp [Rows.uptoBulk]
 |nil=>simp [Rows.uptoBulk]
 |ptr d=>simp [Rows.uptoBulk]
 |slice elems spare=>simp [Rows.uptoBulk]
 |agg parts=>simp [Rows.uptoBulk]
 |iface t d=>simp [Rows.uptoBulk]
 |map entries=>simp [Rows.uptoBulk]
 |held h=>simp [Rows.uptoBulk]
theorem bulk_len (l:List (DataW H)):l.length≤Rows.uptoBulkAll l:=by
 induction l with
 |nil=>simp [Rows.uptoBulkAll]
 |cons x r ih=>have:=bulk_one x;simp only [Rows.uptoBulkAll,List.length_cons];omega
theorem bulk_slice (elems spare:List (DataW H)):elems.length≤Rows.uptoBulk (.slice elems spare):=by
 have h1:=bulk_len elems
 simp only [Rows.uptoBulk]
 omega
theorem spot_of {e t:TypeId} {r:Reach} {base:Nat} {a:Addr} {n c:Nat} (ht:Tryz.prog.underlying t=some (.slice e)) (h:Cell.okWide Tryz.prog W r base t (.slice (some a) n c)):a.spot=none:=by
 simp only [Cell.okWide,Cell.ok,ht] at h
 exact h.2.2.2.1
theorem addr_spot {a:Addr} (h:a.spot=none):∃b o,a=⟨b,o,none⟩:=by
 obtain ⟨b,o,s⟩:=a
 simp only at h
 subst h
 exact ⟨b,o,rfl⟩
theorem add_lit' (b o i:Nat):(⟨b,o,none⟩:Addr).add i=⟨b,o+i,none⟩:=add_lit b o i
theorem cell_of {t e:TypeId} {base:Nat} {v:Value} (ht:Tryz.prog.underlying t=some (.slice e)) (h:Value.okWide Tryz.prog W .any base t v):Cell.okWide Tryz.prog W .any base t v:=by
 simpa only [Value.okWide,ht] using h
theorem wf_u8 {n:Int} (h:(Lit.int .u8 n).wf=true):0≤n∧n≤255:=by
 simpa [Lit.wf,IntKind.min,IntKind.max,IntKind.signed,IntKind.bits] using h
theorem wf_i64 {n:Int} (h:(Lit.int .i64 n).wf=true): -9223372036854775808≤n∧n≤9223372036854775807:=by
 simpa [Lit.wf,IntKind.min,IntKind.max,IntKind.signed,IntKind.bits] using h
theorem bulk_mem {d:DataW H} {l:List (DataW H)} (h:d∈l):Rows.uptoBulk d≤Rows.uptoBulkAll l:=by
 induction l with
 |nil=>cases h
 |cons x r ih=>
  simp only [Rows.uptoBulkAll]
  cases List.mem_cons.1 h with
  |inl e=>subst e;omega
  |inr e=>have:=ih e;omega
def NdB (x:NV):Prop:=x.nd.d.kind<256∧ -9223372036854775808≤x.nd.d.n∧x.nd.d.n≤9223372036854775807
theorem slot0 {a:Addr} {v:Value} (h:W.cell? (a.add 0)=some v):a.spot=none:=by
 have e:a.add 0=a:=by unfold Addr.add;simp
 rw [e] at h
 exact World.cell?_spot h
theorem isSl_wide {a:Addr} {n c:Nat} (h:n≤c) (hs:0<c→a.spot=none):isSl (.slice (some a) n c)=true:=by
 obtain ⟨b,o,s⟩:=a
 by_cases hc:0<c
 ·obtain rfl:s=none:=hs hc
  simp [isSl,h]
 ·obtain rfl:c=0:=by omega
  obtain rfl:n=0:=by omega
  cases s<;>simp [isSl]
theorem openI {n:Nat} {v:Value} {y:DataW H×List MemPlace} (hbk:Rows.uptoBulk y.1≤1048576) (h:DataW.trod enc Tryz.prog W 0 (fun _=>true) true n 40 [v]=some y):∃ns:List Int,Cells W v 1 (ns.map Eng.encI)∧ns.length≤1048576:=by
 rcases open_ints und40 und3 cells3 h with ⟨h1,_⟩|⟨a,len,cap,zs,h1,_,hl,hm,hz,hy,hc,hw⟩
 ·simp at h1;subst h1;exact ⟨[],⟨rfl,rfl,fun j hj=>by simp at hj⟩,by simp⟩
 ·simp at h1;subst h1
  simp at hz
  have hbl:=bulk_slice (H:=H) (lits .i64 (zs.take len)) (lits .i64 (zs.drop len))
  rw [hy] at hbk
  simp only [lits,List.length_map,List.length_take] at hbl hbk
  by_cases h0:0<cap
  ·obtain ⟨b,o,rfl⟩:=addr_spot (slot0 (hc 0 (by omega)))
   refine ⟨zs.take len,⟨by simp [isSl,hl],by simp [slLen];omega,fun i hi=> ?_⟩,by simp;omega⟩
   simp at hi
   have:=hc i (by omega)
   rw [add_lit'] at this
   simp [slAddr,this,Eng.encI,List.getD_eq_getElem?_getD,show i<zs.length by omega]
  ·have:len=0:=by omega
   subst this
   exact ⟨[],⟨isSl_wide hl (fun h=>absurd h h0),rfl,fun j hj=>by simp at hj⟩,by simp⟩
theorem cells44:Tryz.prog.cellsOf 44=6:=by kernel_rfl
theorem cells40:Tryz.prog.cellsOf 40=1:=by kernel_rfl
theorem und44:∃f0 f1 f2 f3 f4 f5:Field,Tryz.prog.underlying 44=some (.struct #[f0,f1,f2,f3,f4,f5])∧f0.type=5∧f1.type=9∧f2.type=9∧f3.type=9∧f4.type=3∧f5.type=40∧f0.offset=0∧f1.offset=1∧f2.offset=2∧f3.offset=3∧f4.offset=4∧f5.offset=5:=
 ⟨_,_,_,_,_,_,Tryz.underlying44,rfl,rfl,rfl,rfl,rfl,rfl,rfl,rfl,rfl,rfl,rfl,rfl⟩
theorem undK:Tryz.prog.underlying 5=some (.int .u8):=by kernel_rfl
theorem cellsK:Tryz.prog.cellsOf 5=1:=by kernel_rfl
theorem struct6 {t:TypeId} {f0 f1 f2 f3 f4 f5:Field} {fuel:Nat} {cs:List Value} {x:DataW H×List MemPlace} (ht:Tryz.prog.underlying t=some (.struct #[f0,f1,f2,f3,f4,f5])) (h:DataW.trod enc Tryz.prog W 0 (fun _=>true) true fuel t cs=some x):
  ∃y0 y1 y2 y3 y4 y5 n,x.1= .agg [y0.1,y1.1,y2.1,y3.1,y4.1,y5.1]∧cs.length=Tryz.prog.cellsOf t∧DataW.trod enc Tryz.prog W 0 (fun _=>true) true n f0.type ((cs.drop f0.offset).take (Tryz.prog.cellsOf f0.type))=some y0∧
   DataW.trod enc Tryz.prog W 0 (fun _=>true) true n f1.type ((cs.drop f1.offset).take (Tryz.prog.cellsOf f1.type))=some y1∧DataW.trod enc Tryz.prog W 0 (fun _=>true) true n f2.type ((cs.drop f2.offset).take (Tryz.prog.cellsOf f2.type))=some y2∧
   DataW.trod enc Tryz.prog W 0 (fun _=>true) true n f3.type ((cs.drop f3.offset).take (Tryz.prog.cellsOf f3.type))=some y3∧DataW.trod enc Tryz.prog W 0 (fun _=>true) true n f4.type ((cs.drop f4.offset).take (Tryz.prog.cellsOf f4.type))=some y4∧
   DataW.trod enc Tryz.prog W 0 (fun _=>true) true n f5.type ((cs.drop f5.offset).take (Tryz.prog.cellsOf f5.type))=some y5:=by
 obtain ⟨xs,n,_,rfl,hl,hlen,hf⟩:=DataW.trod_struct ht h
 match xs,hlen with
 |[y0,y1,y2,y3,y4,y5],_=>exact ⟨y0,y1,y2,y3,y4,y5,n,by simp,hl,by simpa using hf 0 f0 rfl,by simpa using hf 1 f1 rfl,by simpa using hf 2 f2 rfl,by simpa using hf 3 f3 rfl,by simpa using hf 4 f4 rfl,by simpa using hf 5 f5 rfl⟩
theorem openNode {n:Nat} {cs:List Value} {y:DataW H×List MemPlace} (hbk:Rows.uptoBulk y.1≤1048576) (h:DataW.trod enc Tryz.prog W 0 (fun _=>true) true n 44 cs=some y):∃x:NV,cs=ndV x∧Cells W x.kv 1 (x.nd.kids.map Eng.encI)∧NdB x∧x.nd.kids.length≤1048576:=by
 obtain ⟨f0,f1,f2,f3,f4,f5,hu,t0,t1,t2,t3,t4,t5,o0,o1,o2,o3,o4,o5⟩:=und44
 obtain ⟨y0,y1,y2,y3,y4,y5,k,hy,hl,k0,k1,k2,k3,k4,k5⟩:=struct6 hu h
 rw [cells44] at hl
 rw [hy] at hbk
 have hb5:Rows.uptoBulk y5.1≤1048576:=by
  simp only [Rows.uptoBulk,Rows.uptoBulkAll] at hbk
  omega
 match cs,hl with
 |[a,b,c,d,e,f],_=>
  rw [t0,o0,cellsK] at k0
  rw [t1,o1,cells9] at k1
  rw [t2,o2,cells9] at k2
  rw [t3,o3,cells9] at k3
  rw [t4,o4,cells3] at k4
  rw [t5,o5,cells40] at k5
  simp at k0 k1 k2 k3 k4 k5
  obtain ⟨z,e0,_,wz⟩:=DataW.trod_int undK k0
  obtain ⟨s1,e1,_,_⟩:=DataW.trod_string und9 k1
  obtain ⟨s2,e2,_,_⟩:=DataW.trod_string und9 k2
  obtain ⟨s3,e3,_,_⟩:=DataW.trod_string und9 k3
  obtain ⟨m,e4,_,wm⟩:=DataW.trod_int und3 k4
  obtain ⟨ns,hns,hnl⟩:=openI hb5 k5
  simp at e0 e1 e2 e3 e4
  have hz:=wf_u8 wz
  have hm:=wf_i64 wm
  refine ⟨⟨⟨{kind:=z.toNat,name:=s1.data.toList,vr:=s2.data.toList,typ:=s3.data.toList,n:=m},ns⟩,f⟩, ?_,hns, ?_,hnl⟩
  ·rw [e0,e1,e2,e3,e4]
   simp only [ndV,mkS_data]
   simp only [List.cons.injEq,Value.int.injEq,true_and,and_true]
   omega
  ·refine ⟨?_,hm⟩
   show z.toNat<256
   omega
theorem openNodes {base:Nat} {v:Value} {d:DataW H} {p:List MemPlace} (hbk:Rows.uptoBulk d≤1048576) (hv:Value.okWide Tryz.prog W .any base 29 v) (h:DataW.Trod enc Tryz.prog W 0 (fun _=>true) true 29 v d p):∃xs:List NV,Rd W v xs∧(∀x∈xs,NdB x)∧(∀x∈xs,x.nd.kids.length<4611686018427387904)∧xs.length<4611686018427387904:=by
 obtain ⟨a0,l0,c0,rfl⟩:=okWide_slice und29 hv
 have hsp:∀a,a0=some a→a.spot=none:=fun a e=>by subst e;exact spot_of und29 (cell_of und29 hv)
 obtain ⟨n,hn⟩:=h
 rcases Go.Deep.open_slice und29 hn with ⟨h1,_⟩|⟨a,len,cap,m,k,D,Pl,h1,_,hl,hm,hmm,hy,hx⟩
 ·simp [Value.cells] at h1
  obtain ⟨rfl,rfl,rfl⟩:=h1
  exact ⟨[],⟨⟨rfl,rfl,fun j hj=>by simp [nvV] at hj⟩,fun x hx=>by cases hx⟩,by simp,by simp,by simp⟩
 ·simp [Value.cells] at h1
  obtain ⟨rfl,rfl,rfl⟩:=h1
  obtain ⟨b,o,rfl⟩:=addr_spot (hsp _ rfl)
  simp at hmm
  subst hmm
  rw [cells44] at hx
  have hd:d= .slice ((List.range l0).map D) ((List.range (m - l0)).map fun j=>D (l0+j)):=congrArg Prod.fst hy
  subst hd
  have hbl:=bulk_slice ((List.range l0).map D) ((List.range (m - l0)).map fun j=>D (l0+j))
  simp only [List.length_map,List.length_range] at hbl
  have each:∀i,∃x:NV,i<l0→(∀j,j<6→W.cell? ⟨b,o+(i*6+j),none⟩=(ndV x)[j]?)∧Cells W x.kv 1 (x.nd.kids.map Eng.encI)∧NdB x∧x.nd.kids.length≤1048576:=by
   intro i
   by_cases hi:i<l0
   ·obtain ⟨cs,hcs,ht⟩:=hx i (by omega)
    have hDi:Rows.uptoBulk (D i)≤1048576:=by
     have h1:=bulk_mem (d:=D i) (l:=(List.range l0).map D) (List.mem_map.2 ⟨i,List.mem_range.2 hi,rfl⟩)
     simp only [Rows.uptoBulk] at hbk
     omega
    obtain ⟨x,rfl,hk1,hk2,hk3⟩:=openNode (y:=(D i,Pl i)) hDi ht
    obtain ⟨_,_,hcell⟩:=World.cells?_some hcs
    refine ⟨x,fun _=>⟨fun j hj=> ?_,hk1,hk2,hk3⟩⟩
    have hj6:j<(ndV x).length:=hj
    have g:=hcell j (by simpa using hj)
    simp only [add_lit'] at g
    simpa [Nat.add_assoc] using g
   ·exact ⟨⟨⟨{kind:=0},[]⟩, .slice none 0 0⟩,fun h=>absurd h hi⟩
  obtain ⟨f,hf⟩:=Classical.axiomOfChoice each
  refine ⟨(List.range l0).map f,⟨⟨by simp [isSl,hl],by simp [nvV_len,slLen],fun j hj=> ?_⟩,fun x hx=> ?_⟩,fun x hx=> ?_,fun x hx=> ?_,by simp;omega⟩
  ·rw [nvV_len] at hj
   simp at hj
   have hq:j / 6<l0:=by omega
   have hr:j%6<6:=Nat.mod_lt _ (by decide)
   have hjj:j / 6*6+j%6=j:=by omega
   have h1:=(hf (j / 6) hq).1 (j%6) hr
   have h2:=nvV_get (xs:=(List.range l0).map f) (k:=j / 6) (j:=j%6) (by simpa using hq) hr
   rw [hjj] at h1 h2
   simp at h2
   simp only [slAddr,add_lit']
   rw [h1,←h2,List.getElem?_eq_getElem]
  ·obtain ⟨i,hi,rfl⟩:=List.mem_map.1 hx
   exact (hf i (List.mem_range.1 hi)).2.1
  ·obtain ⟨i,hi,rfl⟩:=List.mem_map.1 hx
   exact (hf i (List.mem_range.1 hi)).2.2.1
  ·obtain ⟨i,hi,rfl⟩:=List.mem_map.1 hx
   have:=(hf i (List.mem_range.1 hi)).2.2.2
   omega
end
theorem below_trodAll {H:Type} {enc:TypeId×Value→H} {W W':World} (hb:Below W.heap.size W W'):∀{ts:List TypeId} {vs:List Value} {ds:List (DataW H)} {ps:List MemPlace},
  (∀t∈ts,Tryz.prog.readableRec t=true∧t<Tryz.prog.types.size)→DataW.TrodAll enc Tryz.prog W 0 (fun _=>true) true ts vs ds ps→(∀x∈ps,x.block<W.heap.size)→DataW.TrodAll enc Tryz.prog W' 0 (fun b=>decide (b<W.heap.size)) true ts vs ds ps
 |[],[],[],_,_,h,_=>h
 |_::_,_::_,_::_,_,hT,⟨p,q,h1,h2,e⟩,hlt=>
  ⟨p,q,Below.trod laidOut (hT _ (by simp)).1 (hT _ (by simp)).2 h1 hb (fun x hx=>hlt x (by rw [e];exact List.mem_append_left _ hx)),below_trodAll hb (fun t ht=>hT t (List.mem_cons_of_mem _ ht)) h2 (fun x hx=>hlt x (by rw [e];exact List.mem_append_right _ hx)),e⟩
theorem row_post {H:Type} {enc:TypeId×Value→H} {fn:Func} {s:ChangeSpec} {W:World} {args:Array Value} {ds gs:List (DataW H)} {before:List MemPlace} {f:FuncId}
  (hv:s.vars=[]) (hr:fn.resultTypes= #[4]) (hT:∀t∈fn.params.toList,Tryz.prog.readableRec t=true∧t<Tryz.prog.types.size)
  (hfn:∀l:List (DataW H),l.length=fn.params.size→s.fn H l={results:=[.lit (.bool true)],args:=l})
  (hW:DataW.Whole enc Tryz.prog fn.params.toList s.vars false W args.toList ds gs before)
  (hc:Calls Tryz.prog f args W fun e w'=>e= .returned (.bool true)∧Ext W w'):
  Calls Tryz.prog f args W fun e W'=>∃v,e= .returned v∧s.post enc Tryz.prog fn false true false false W args v W':=by
 refine hc.mono ?_
 rintro e W' ⟨rfl,hB⟩
 have hW':=hW
 obtain ⟨p,q,hA,hV,rfl,_,_⟩:=hW
 rw [hv] at hV
 obtain ⟨rfl,rfl⟩:=trodVars_none hV
 have hlen:ds.length=fn.params.size:=by
  have key:∀{ts:List TypeId} {vs:List Value} {ds:List (DataW H)} {ps:List MemPlace},DataW.TrodAll enc Tryz.prog W 0 (fun _=>true) true ts vs ds ps→ds.length=ts.length:=by
   intro ts
   induction ts with
   |nil=>intro vs ds ps h;cases vs<;>cases ds<;>first|rfl|cases h
   |cons t ts ih=>
    intro vs ds ps h
    cases vs<;>cases ds<;>first|(cases h;done)|skip
    obtain ⟨p,q,_,h2,_⟩:=h
    simp [ih h2]
  simpa using key hA
 have hlt:∀x∈p,x.block<W.heap.size:=fun x hx=>hW'.lt x (by simpa using hx)
 have e1:=hfn (ds++[]) (by simpa using hlen)
 refine ⟨_,rfl,ds,[],p++[],[],p,[],hW', ?_, ?_, ?_,hB.frame _,fun h=>by cases h⟩
 ·rw [e1,hr];exact trodAll_mk1 (shut_bool und4 _)
 ·rw [e1];simpa using below_trodAll hB hT hA hlt
 ·rw [e1,hv];rfl
end Go.Proofs.YtbcmiempigoooaaGreatDoor
namespace Go.L02
open Go Go.Eng Go.RowKit
open Go.Proofs hiding encI
open Go.L01 (Bs Tok encT)
set_option maxRecDepth 100000
set_option maxHeartbeats 2000000
@[simp] theorem cbN192:callB Tryz.prog 192=true:=by kernel_rfl
@[simp] theorem cbN99:callB Tryz.prog 99=true:=by kernel_rfl
@[simp] theorem cbN43:callB Tryz.prog 43=true:=by kernel_rfl
theorem p_cloneI {w:World} {v:Value} {l:List Int} (hl:Cells w v 1 (l.map encI)) (hlen:l.length≤1000000):Calls Tryz.prog 192 #[v] w fun e w'=>∃x,e= .returned x∧Own w.heap.size 3 1 w' x (l.map encI)∧Ext w w':=by
 refine ir192_calls fun ρ h0=> ?_
 simp -implicitDefEqProofs [ir192,h0]
 refine eff_eqlNil (e:=3) (by kernel_rfl) (by simpa using hl.is) ?_
 simp -implicitDefEqProofs
 cases hn:isNilSl v with
 |true=>
  have:l=[]:=by
   have h1:=hl.len
   rcases isSl_cases hl.is with ⟨b,o,n,c,rfl,_⟩|rfl|⟨b,o,s,rfl⟩
   rotate_left 2
   ·simp [isNilSl] at hn
   ·simp [isNilSl] at hn
   ·simp [slLen] at h1;exact h1
  subst this
  simp -implicitDefEqProofs
  exact ⟨Own.nil _ _ _ _,ext_refl _⟩
 |false=>
  simp -implicitDefEqProofs [ir192_k0,h0]
  refine eff_lit sl40 (by decide) (by decide) (by simp) fun B3 W3 hB3 hE3 hb3 _=> ?_
  simp at hb3
  simp -implicitDefEqProofs [h0]
  refine eff_append ri40 hE3 (by rfl) (by rfl) (Own.lit (n:=0) (sz:=1) hb3 (by simp) hB3 (by decide)) (hl.ext hE3) (by simp [encI,Value.oneCell']) (by simp;omega) (by simp;omega) fun u4 W4 hE4 ho4 _ _=> ?_
  simp at ho4⊢
  exact ⟨ho4,hE4⟩
section
variable {P:Program} {Q:Ks} {d:Option Nat} {ty:TypeId} {K:Env→World→Prop} {ρ:Env} {w:World}
theorem eff_storeO {t:TypeId} {p x:Operand} {base e sz:Nat} {sv:Value} {xs:List Value} {i:Nat} (hown:Own base e sz w sv xs) (hi:i<xs.length) (hp:evE ρ p= .pointer (some (slAddr sv i)))
  (hx:(evE ρ x).cells= #[evE ρ x]) (h1:(evE ρ x).oneCell=true) (hs:sizeIs P t 1=true) (h:∀W B,sv.ownBlock=some B→base≤B→Only B w W→Own base e sz W sv (xs.set i (evE ρ x))→K (updO ρ d undef) W):effW P Q d (.store t p x) ty K ρ w:=by
 rcases hown with ⟨rfl,rfl⟩|⟨g,off,n,cap,cur,rfl,hb,hg,hn,hnc,hm,hcs,ht⟩
 ·simp at hi
 ·have hmul:n*sz≤cap*sz:=Nat.mul_le_mul_right _ hnc
  have hb0:Blk w g cur e:=⟨hg⟩
  simp only [slAddr,add_lit] at hp
  refine eff_store1 (B:=g) (i:=off+i) hp hb0 (by omega) hx h1 hs fun W hO hB=> ?_
  refine h W g rfl hb hO (.inr ⟨g,off,n,cap,_,rfl,hb,hB.heap,by simpa using hn,hnc,hm,by simpa using hcs, ?_⟩)
  rw [Array.toList_set,←ht,←List.set_drop,List.take_set]
end
theorem own_ne {b e sz:Nat} {w:World} {v:Value} {xs:List Value} {X T:Nat} {cs:Array Value} (h:Own b e sz w v xs) (hb:Blk w X cs T) (hT:T≠e) {k:Nat} (hk:v.ownBlock=some k):X≠k:=fun e1=>by
 obtain ⟨cur,hcur⟩:=Own.row h hk
 rw [←e1,hb.heap] at hcur
 cases hcur
 exact hT rfl
theorem Own.le {b c e sz:Nat} {w:World} {v:Value} {xs:List Value} (h:Own c e sz w v xs) (hb:b≤c):Own b e sz w v xs:=by
 rcases h with h|⟨g,off,n,cap,cur,e1,e2,r⟩
 ·exact .inl h
 ·exact .inr ⟨g,off,n,cap,cur,e1,Nat.le_trans hb e2,r⟩
theorem shift_set {l:List Int} {g:Int→Int} {j:Nat} (h:j<l.length):((l.take j).map g++l.drop j).set j (g l[j])=(l.take (j+1)).map g++l.drop (j+1):=by
 have hl:((l.take j).map g).length=j:=by simp;omega
 have hd:l.drop j=l[j]::l.drop (j+1):=List.drop_eq_getElem_cons h
 rw [List.take_succ_eq_append_getElem h,List.map_append,List.append_assoc,List.set_append_right _ _ (by omega),hl,Nat.sub_self,hd]
 rfl
theorem p_shifted {w:World} {x:NV} {F:FuncId} {caps:Array Value} {g:Int→Int} (hk:Cells w x.kv 1 (x.nd.kids.map encI)) (hkl:x.nd.kids.length≤1000000) (hcb:callB Tryz.prog F=true)
  (hc:∀W,Ext w W→∀k∈x.nd.kids,Calls Tryz.prog F (#[.int .i64 k]++caps) W fun e w'=>e= .returned (.int .i64 (g k))∧Ext W w'):
  Calls Tryz.prog 99 #[ndA x,FnV F caps] w fun e w'=>∃y:NV,e= .returned (ndA y)∧y.nd=⟨x.nd.d,x.nd.kids.map g⟩∧Own w.heap.size 3 1 w' y.kv (y.nd.kids.map encI)∧Ext w w':=by
 have hkc:=isSl_cells hk.is
 have hko:=isSl_one hk.is
 generalize hRR:(fun (e:Ending) (w':World)=>∃y:NV,e= .returned (ndA y)∧y.nd=⟨x.nd.d,x.nd.kids.map g⟩∧Own w.heap.size 3 1 w' y.kv (y.nd.kids.map encI)∧Ext w w')=R
 refine ir99_calls fun ρ r0 r1=> ?_
 simp -implicitDefEqProofs [ir99]
 refine eff_box fun X w1 hX hE1 hb1 _=> ?_
 rw [show evE ρ (.tmp 0)=ndA x by simp [r0],ndA_cells hk.is] at hb1
 simp -implicitDefEqProofs
 refine eff_alloc z44' fun Y w2 hY hE2 hb2 _=> ?_
 have hbX:=hb1.ext hE2
 have hXY:X≠Y:=by have:=hb1.lt;omega
 have c5:w2.cell? ⟨X,5,none⟩=some x.kv:=by rw [hbX.cell];rfl
 simp -implicitDefEqProofs [c5]
 refine (p_cloneI (hk.ext (hE1.trans' hE2)) hkl).mono ?_
 rintro _ w3 ⟨kv',rfl,ho3,hE3⟩
 have hkc':=isSl_cells ho3.isl
 have hko':=isSl_one ho3.isl
 have hsz2:w.heap.size≤w2.heap.size:=(hE1.trans' hE2).size
 simp -implicitDefEqProofs
 refine eff_store1 (B:=X) (i:=5) (by simp) (hbX.ext hE3) (by simp [ndV]) (by simp [hkc']) (by simpa using hko') (by kernel_rfl) fun w4 hO4 hb4=> ?_
 have hb4':Blk w4 X (ndV ⟨x.nd,kv'⟩).toArray 44:=blk_cast hb4 (by simp [ndV])
 have ho4:Own w.heap.size 3 1 w4 kv' (x.nd.kids.map encI):=Own.le (L01.Own.same ho3 fun k hk2=>hO4.block k (Ne.symm (own_ne ho3 (hbX.ext hE3) (by decide) hk2))) hsz2
 have hbY4:Blk w4 Y _ 44:=hO4.blk (hb2.ext hE3) (Ne.symm hXY)
 have c5':w4.cell? ⟨X,5,none⟩=some kv':=by rw [hb4'.cell];rfl
 have hki:isSl kv'=true:=ho3.isl
 have hkl':slLen kv'=x.nd.kids.length:=by have:=(L01.own_cells ho3).len;simpa using this.symm
 have hE4:Ext w w4:=hO4.ext ((hE1.trans' hE2).trans' hE3) hX
 simp -implicitDefEqProofs [c5',hki,hkl']
 obtain ⟨I,hI⟩:∃I:Nat→Env→World→Prop,∀j ρ' w',I j ρ' w'↔(ρ' 1=FnV F caps∧ρ' 2= .pointer (some ⟨X,0,none⟩)∧ρ' 4= .pointer (some ⟨Y,0,none⟩)∧ρ' 12=kv'∧ρ' 13= .int .i64 (x.nd.kids.length:Int)∧Ext w w'∧Blk w' X (ndV ⟨x.nd,kv'⟩).toArray 44∧Blk w' Y #[.int .u8 0, .string ⟨#[]⟩, .string ⟨#[]⟩, .string ⟨#[]⟩, .int .i64 0, .slice none 0 0] 44∧Own w.heap.size 3 1 w' kv' (((x.nd.kids.take j).map g++x.nd.kids.drop j).map encI)):=⟨_,fun _ _ _=>Iff.rfl⟩
 refine loopC 14 x.nd.kids.length I (by simp) ((hI _ _ _).2 ⟨by simp [r1],by simp,by simp,by simp,by simp,hE4,hb4',hbY4,by simpa using ho4⟩) ?_
 clear r0 r1 hbY4 ho4 c5' hb4' hb4
 rintro j ρ' w' hj rj hIw
 obtain ⟨r1,r2,r4,r12,r13,hE,hbX,hbY,ho⟩:=(hI _ _ _).1 hIw
 have hwj:IntKind.i64.wrap ((j:Int)+1)=(j:Int)+1:=i64w (by omega)
 by_cases hlt:j<x.nd.kids.length
 ·have hlt':(j:Int)<(x.nd.kids.length:Int):=by omega
  have hcell:w'.cell? (slAddr kv' j)=some (.int .i64 x.nd.kids[j]):=by
   have:=(L01.own_cells ho).cell j (by simp;omega)
   rw [this]
   simp only [List.getElem_map,encI,Option.some.injEq,Value.int.injEq,true_and]
   rw [List.getElem_append_right (by simp;omega)]
   simp
   congr 1;omega
  simp -implicitDefEqProofs [ir99_l2,rj,r13,hlt',hlt,ir99_k1,r12,hki,hkl',hcell]
  refine raw_ord ir99_o5_ok (fun W=>Blk W X (ndV ⟨x.nd,kv'⟩).toArray 44) fun W3 hE3 _=>⟨hbX.ext hE3, ?_⟩
  have hcX:∀W,Blk W X (ndV ⟨x.nd,kv'⟩).toArray 44→W.cell? ⟨X,5,none⟩=some kv':=fun W h=>by rw [h.cell];rfl
  have hSX:=hbX.ext hE3
  have hoW:=ho.ext hE3
  have hcall:=hc W3 (hE.trans' hE3) x.nd.kids[j] (List.getElem_mem _)
  generalize hgk:g x.nd.kids[j]=gk at hcall
  simp+contextual -implicitDefEqProofs [ir99_o5,hcX,hSX,r2,r1,rj,r12,hki,hkl',hlt']
  refine eff_callv hcb (t:=22) (fs:= #[]) (caps:=caps) (by simp [FnV]) ?_
  simp -implicitDefEqProofs
  refine hcall.mono ?_
  rintro _ W4 ⟨rfl,hE4⟩
  simp -implicitDefEqProofs
  refine ⟨hSX.ext hE4, ?_⟩
  have hX4:=hSX.ext hE4
  have hY4:=(hbY.ext hE3).ext hE4
  have ho4:=hoW.ext hE4
  have hE04:=(hE.trans' hE3).trans' hE4
  simp -implicitDefEqProofs [hki,hkl',hlt]
  refine eff_storeO (base:=w.heap.size) (e:=3) (sz:=1) (sv:=kv') (i:=j) ho4 (by simp;omega) (by simp) (by simp [Value.cells]) (by simp) sz3' fun W5 B hB hBw hO5 ho5=> ?_
  have hX5:=hO5.blk hX4 (own_ne ho4 hX4 (by decide) hB)
  have hY5:=hO5.blk hY4 (own_ne ho4 hY4 (by decide) hB)
  have hE5:Ext w W5:=hO5.ext hE04 hBw
  simp -implicitDefEqProofs [ir99_k0,rj,hwj,hlt]
  refine (hI _ _ _).2 ⟨by simp [r1],by simp [r2],by simp [r4],by simp [r12],by simp [r13],hE5,hX5,hY5, ?_⟩
  have h6:=shift_set (g:=g) hlt
  rw [hgk] at h6
  rw [←h6,List.map_set]
  simpa [encI] using ho5
 ·have hlt':¬(j:Int)<(x.nd.kids.length:Int):=by omega
  have e:x.nd.kids.take j=x.nd.kids:=List.take_of_length_le (by omega)
  have e2:x.nd.kids.drop j=[]:=List.drop_eq_nil_iff.2 (by omega)
  rw [e,e2,List.append_nil] at ho
  have hrow:Eng.rowAt w' ⟨X,0,none⟩ 0 6=some (ndV ⟨x.nd,kv'⟩):=by
   have:=row_blk hbX
   simpa [ndV] using this
  have hcn:(ndA ⟨x.nd,kv'⟩).cells=(ndV ⟨x.nd,kv'⟩).toArray:=ndA_cells hki
  have hcn':(Value.agg (ndV ⟨x.nd,kv'⟩).toArray).cells=(ndV ⟨x.nd,kv'⟩).toArray:=hcn
  have hcn'':(Value.agg #[.int .u8 (x.nd.d.kind:Int), .string (mkS x.nd.d.name), .string (mkS x.nd.d.vr), .string (mkS x.nd.d.typ), .int .i64 x.nd.d.n,kv']).cells= #[.int .u8 (x.nd.d.kind:Int), .string (mkS x.nd.d.name), .string (mkS x.nd.d.vr), .string (mkS x.nd.d.typ), .int .i64 x.nd.d.n,kv']:=hcn
  simp -implicitDefEqProofs [ir99_l2,rj,r13,hlt',hlt,ir99_k3,r2,hrow,ndV]
  refine eff_storeN (B:=Y) (by simp [r4]) hbY (by simp [hcn'']) (by simp [hcn'',hko']) (by simpa [hcn''] using sz44) fun w5 hO5 hb5=> ?_
  have hb5':Blk w5 Y (ndV ⟨x.nd,kv'⟩).toArray 44:=blk_cast hb5 (by simp [hcn'',ndV])
  have hE5:Ext w w5:=hO5.ext hE (Nat.le_trans hE1.size hY)
  have ho5:Own w.heap.size 3 1 w5 kv' ((x.nd.kids.map g).map encI):=L01.Own.same ho fun k hk2=>hO5.block k (Ne.symm (own_ne ho hbY (by decide) hk2))
  simp -implicitDefEqProofs
  refine L01.retK_c1 (by simp [r4]) hb5' (by simp [ndV]) ?_
  rw [←hRR]
  exact ⟨⟨⟨x.nd.d,x.nd.kids.map g⟩,kv'⟩,rfl,rfl,ho5,hE5⟩
end Go.L02
namespace Go.L02
open Go Go.Eng Go.RowKit
open Go.Proofs hiding encI
open Go.L01 (Bs Tok encT retK_c1)
set_option maxRecDepth 100000
set_option maxHeartbeats 2000000
structure OwnN (base:Nat) (W:World) (v:Value) (ys:List NV):Prop where
 own:Own base 44 6 W v (nvV ys)
 kid:∀y∈ys,Own base 3 1 W y.kv (y.nd.kids.map encI)
theorem OwnN.nil (base:Nat) (W:World):OwnN base W (.slice none 0 0) []:=⟨Own.nil _ _ _ _,fun _ h=>by cases h⟩
theorem OwnN.rd {base:Nat} {W:World} {v:Value} {ys:List NV} (h:OwnN base W v ys):Rd W v ys:=⟨L01.own_cells h.own,fun y hy=>L01.own_cells (h.kid y hy)⟩
theorem OwnN.ext {base:Nat} {W W':World} {v:Value} {ys:List NV} (h:OwnN base W v ys) (hE:Ext W W'):OwnN base W' v ys:=⟨h.own.ext hE,fun y hy=>(h.kid y hy).ext hE⟩
theorem OwnN.le {b c:Nat} {W:World} {v:Value} {ys:List NV} (h:OwnN c W v ys) (hb:b≤c):OwnN b W v ys:=⟨Own.le h.own hb,fun y hy=>Own.le (h.kid y hy) hb⟩
theorem _root_.Go.Eng.Cells.sub {w:World} {v:Value} {sz:Nat} {xs:List Value} (h:Cells w v sz xs) {l r m:Nat} (h1:l≤r) (h2:r*sz≤xs.length) (h3:r≤m) (h4:m≤slCap v):Cells w (slSub v sz l r m) sz ((xs.take (r*sz)).drop (l*sz)):=by
 have hl:((xs.take (r*sz)).drop (l*sz)).length=(r - l)*sz:=by simp only [List.length_drop,List.length_take];rw [Nat.min_eq_left h2,Nat.sub_mul]
 refine ⟨isSl_sub h.is sz l r m h1 h3 h4,by rw [slLen_sub _ _ _ _ h.is,hl],fun j hj=> ?_⟩
 have hlr:l<r:=by
  rcases Nat.lt_or_ge l r with h|h
  ·exact h
  ·rw [hl,show r - l=0 by omega] at hj;simp at hj
 have hj':=hj
 rw [hl,Nat.sub_mul] at hj'
 rw [slAddr_sub sz l r m j h.is (by omega) (by omega),h.cell (l*sz+j) (by omega)]
 simp
theorem nvV_take (xs:List NV) (r:Nat):(nvV xs).take (r*6)=nvV (xs.take r):=by
 induction xs generalizing r with
 |nil=>simp [nvV]
 |cons x xs ih=>
  have e:nvV (x::xs)=ndV x++nvV xs:=rfl
  have hl:(ndV x).length=6:=rfl
  cases r with
  |zero=>simp [nvV]
  |succ r=>
   rw [e,List.take_append,List.take_of_length_le (by omega),hl,show (r+1)*6 - 6=r*6 by omega,ih];rfl
theorem nvV_drop (xs:List NV) (l:Nat):(nvV xs).drop (l*6)=nvV (xs.drop l):=by
 induction xs generalizing l with
 |nil=>simp [nvV]
 |cons x xs ih=>
  have e:nvV (x::xs)=ndV x++nvV xs:=rfl
  have hl:(ndV x).length=6:=rfl
  cases l with
  |zero=>simp [nvV]
  |succ l=>
   rw [e,List.drop_append,List.drop_eq_nil_of_le (by omega),hl,show (l+1)*6 - 6=l*6 by omega,ih];rfl
theorem Rd.sub {w:World} {v:Value} {xs:List NV} (h:Rd w v xs) {l r m:Nat} (h1:l≤r) (h2:r≤xs.length) (h3:r≤m) (h4:m≤slCap v):Rd w (slSub v 6 l r m) ((xs.take r).drop l):=by
 refine ⟨?_,fun x hx=>h.kids x (List.mem_of_mem_take (List.mem_of_mem_drop hx))⟩
 have:=h.cells.sub h1 (by rw [nvV_len];omega) h3 h4
 rwa [nvV_take,nvV_drop] at this
def shN (g:Int→Int) (x:Nd):Nd:=⟨x.d,x.kids.map g⟩
theorem own_shift {W0 W1 W:World} {out v':Value} {ys:List NV} {y:NV} (hy:OwnN W0.heap.size W1 out ys) (hk:Own W1.heap.size 3 1 W y.kv (y.nd.kids.map encI)) (h01:W0.heap.size≤W1.heap.size) (hE:Ext W0 W)
  (ho:Own W0.heap.size 44 6 W v' (nvV ys++ndV y)) (hkid:∀z∈ys,Own W0.heap.size 3 1 W z.kv (z.nd.kids.map encI)):OwnN W0.heap.size W v' (ys++[y]):=by
 refine ⟨by rw [nvV_append];simpa [nvV] using ho,fun z hz=> ?_⟩
 rcases List.mem_append.1 hz with hz|hz
 ·exact hkid z hz
 ·rw [List.mem_singleton.1 hz];exact Own.le hk h01
theorem own_apart {b e sz b' e' sz':Nat} {w:World} {v v':Value} {xs ys:List Value} (h:Own b e sz w v xs) (h':Own b' e' sz' w v' ys) (hne:e≠e'):v.ownBlock=none∨v.ownBlock≠v'.ownBlock:=by
 cases hv:v.ownBlock with
 |none=>exact .inl rfl
 |some k=>
  refine .inr fun e1=> ?_
  obtain ⟨c,hc⟩:=Own.row h hv
  obtain ⟨c',hc'⟩:=Own.row h' e1.symm
  rw [hc] at hc'
  cases hc'
  exact hne rfl
theorem blk_kept {b e sz:Nat} {w w':World} {v:Value} {xs:List Value} {X T:Nat} {cs:Array Value} (hb:Blk w X cs T) (h:Own b e sz w v xs) (hT:T≠e) (hg:w.grownBy w' v.ownBlock):Blk w' X cs T:=
 ⟨(hg.block X hb.lt fun e1=>own_ne h hb hT e1.symm rfl).trans hb.heap⟩
theorem nd_one {y:NV} (h:isSl y.kv=true):∀u∈ndV y,u.oneCell'=true:=by
 intro u hu
 simp only [ndV,List.mem_cons,List.mem_nil_iff,or_false] at hu
 rcases hu with rfl|rfl|rfl|rfl|rfl|rfl<;>first|rfl|skip
 revert h
 cases y.kv<;>simp [Value.oneCell',isSl]
mutual
theorem flat_shift:∀(u:T) (b c:Nat),(u.flat b).map (shN (· +(c:Int)))=u.flat (b+c)
 | .mk d ks,b,c=>by
  have h1:=flats_shift ks b c
  have h2:=roots_shift ks b c
  simp only [T.flat,List.map_append,h1,List.map_cons,List.map_nil,shN,h2]
theorem flats_shift:∀(us:List T) (b c:Nat),(flats b us).map (shN (· +(c:Int)))=flats (b+c) us
 |[],_,_=>rfl
 |u::us,b,c=>by
  simp only [flats,List.map_append]
  rw [flat_shift u b c,flats_shift us (b+u.size) c]
  congr 2;omega
theorem roots_shift:∀(us:List T) (b c:Nat),(roots b us).map (· +(c:Int))=roots (b+c) us
 |[],_,_=>rfl
 |u::us,b,c=>by
  simp only [roots,List.map_cons]
  rw [roots_shift us (b+u.size) c]
  congr 1
  ·push_cast;omega
  ·congr 1;omega
end
theorem shN_shN (f g:Int→Int) (x:Nd):shN f (shN g x)=shN (fun k=>f (g k)) x:=by simp [shN,Function.comp_def]
theorem shN_id {f:Int→Int} {x:Nd} (h:∀k∈x.kids,f k=k):shN f x=x:=by
 obtain ⟨d,ks⟩:=x
 simp only [shN,Nd.mk.injEq,true_and]
 conv=>rhs;rw [←List.map_id ks]
 exact List.map_congr_left h
theorem flat_unshift (u:T) (c:Nat):(u.flat c).map (shN (· - (c:Int)))=u.flat 0:=by
 have h:=flat_shift u 0 c
 rw [Nat.zero_add] at h
 rw [←h,List.map_map]
 conv=>rhs;rw [←List.map_id (u.flat 0)]
 refine List.map_congr_left fun x _=> ?_
 simp only [Function.comp_apply,shN_shN,id]
 exact shN_id fun k _=>by omega
theorem AtT.cut {l:List Nd} {i:Nat} {u:T} (h:AtT l i u):(l.take (i+1)).drop (i+1 - u.size)=u.flat (i+1 - u.size):=by
 obtain ⟨pre,post,rfl,h⟩:=h
 have e:i+1 - u.size=pre.length:=by omega
 rw [e,h,←List.append_assoc,List.take_append_of_le_length (by rw [List.length_append,T.flat_len];exact Nat.le_refl _),List.take_of_length_le (by rw [List.length_append,T.flat_len];exact Nat.le_refl _)]
 simp
section
variable {w:World} {lv:Value} {xs:List NV}
theorem z3':zeroCellsOf Tryz.prog 3=some #[.int .i64 0]:=by kernel_rfl
theorem p_105 {W:World} {B:Nat} {f k:Int} (hB:Blk W B #[.int .i64 f] 3) (h0:0≤k∧k≤1000000) (h1:0≤f∧f≤1000000):Calls Tryz.prog 105 #[.int .i64 k, .pointer (some ⟨B,0,none⟩)] W fun e w'=>e= .returned (.int .i64 (k - f))∧Ext W w':=by
 have c0:W.cell? ⟨B,0,none⟩=some (.int .i64 f):=by rw [hB.cell];rfl
 have hw:IntKind.i64.wrap (k - f)=k - f:=i64w (by omega)
 refine ir105_calls fun ρ r0 r1=> ?_
 simp -implicitDefEqProofs [ir105,r0,r1,c0,hw]
 exact ext_refl _
theorem bodyE_tree {l:List Nd} {i:Int} (h:bodyE l i=0):checkNodes l=true∧0≤i∧i.toNat<l.length∧(i.toNat:Int)=i∧∃t u:T,l=t.flat 0∧t.size≤400∧l.length=t.size∧AtT l i.toNat u:=by
 unfold bodyE at h
 split at h
 ·rename_i hc
  split at h
  ·rename_i hi
   obtain ⟨t,ht,h400⟩:=check_tree hc
   have hlen:l.length=t.size:=by rw [ht,T.flat_len]
   obtain ⟨u,hu⟩:=at_ex t (i:=i.toNat) (by omega)
   rw [←ht] at hu
   exact ⟨hc,hi.1,by omega,by omega,t,u,ht,h400,hlen,hu⟩
  ·cases h
 ·cases h
theorem p_Subtree (hG:L01.G w) (hM:MaxL w) (hR:Rd w lv xs) (hok:NOk (xs.map (·.nd))) (i:Int):Calls Tryz.prog 43 #[lv, .int .i64 i] w fun e w'=>
  ∃v ys,e= .returned (.tuple #[v, .int .i64 (bodyE (xs.map (·.nd)) i)])∧OwnN w.heap.size w' v ys∧Ext w w'∧(bodyE (xs.map (·.nd)) i≠0→ys=[])∧(bodyE (xs.map (·.nd)) i=0→∀u,AtT (xs.map (·.nd)) i.toNat u→ys.map (·.nd)=u.flat 0):=by
 have hl:=hR.len
 have his:=hR.cells.is
 have hcap:=isSl_le his
 rw [hl] at hcap
 generalize hRR:(fun (e:Ending) (w':World)=>∃v ys,e= .returned (.tuple #[v, .int .i64 (bodyE (xs.map (·.nd)) i)])∧OwnN w.heap.size w' v ys∧Ext w w'∧(bodyE (xs.map (·.nd)) i≠0→ys=[])∧(bodyE (xs.map (·.nd)) i=0→∀u,AtT (xs.map (·.nd)) i.toNat u→ys.map (·.nd)=u.flat 0))=R
 refine ir43_calls fun ρ r0 r1=> ?_
 simp -implicitDefEqProofs [ir43,r0,r1]
 refine (p_body' hG hM hR hok i).mono ?_
 rintro _ w2 ⟨rfl,hE⟩
 by_cases hb:bodyE (xs.map (·.nd)) i=0
 ·obtain ⟨hc,hi0,hilt,hiz,t,u,ht,h400,hlen,hu⟩:=bodyE_tree hb
  rw [List.length_map] at hilt hlen
  have hule:=hu.le
  have hus:=u.size_pos
  have hpk:postorder (xs.map (·.nd))=true:=by rw [ht];exact postorder_flat t
  have hkids:=postorder_kids hpk
  obtain ⟨n,hn⟩:∃n:Nat,i=(n:Int):=⟨i.toNat,hiz.symm⟩
  subst hn
  simp only [Int.toNat_natCast] at hilt hu hule hiz
  obtain ⟨f,hf⟩:∃f:Nat,f=n+1 - u.size:=⟨_,rfl⟩
  have hw1:IntKind.i64.wrap ((n:Int)+1)=(n:Int)+1:=i64w (by omega)
  have hwf:IntKind.i64.wrap ((n:Int)+1 - (u.size:Int))=(f:Int):=by rw [i64w (by omega)];omega
  have hps:=p_size hR (by omega) u.size u n w2 hE (Nat.le_refl _) hu
  have hcut:=hu.cut
  rw [←hf] at hcut
  simp -implicitDefEqProofs [hb,ir43_k4,r0,r1,hw1]
  refine hps.mono ?_
  rintro _ w3 ⟨rfl,hE3⟩
  have hE03:=hE.trans' hE3
  simp -implicitDefEqProofs [hwf]
  refine eff_alloc z3' fun F w4 hF hE4 hb4 _=> ?_
  simp -implicitDefEqProofs
  refine eff_store1 (B:=F) (i:=0) (by simp) hb4 (by simp) (by simp [Value.cells]) (by simp) sz3' fun w5 hO5 hb5=> ?_
  have hb5':Blk w5 F #[.int .i64 (f:Int)] 3:=blk_cast hb5 (by simp)
  have hE05:Ext w w5:=(hE03).trans' (hO5.ext hE4 hF)
  have c0:w5.cell? ⟨F,0,none⟩=some (.int .i64 (f:Int)):=by rw [hb5'.cell];rfl
  have hRz:=hR.sub (l:=f) (r:=n+1) (m:=slCap lv) (by omega) (by omega) (by omega) (Nat.le_refl _)
  have hfn:(f:Int)≤(n:Int)+1:=by omega
  have hnc:(n:Int)+1≤(slCap lv:Int):=by omega
  have hnt:((n:Int)+1).toNat=n+1:=by omega
  have hncN:n+1≤slCap lv:=by omega
  have hfnN:f≤n+1:=by omega
  have hzk:∀z∈(xs.take (n+1)).drop f,z.nd.kids.length≤1000000∧∀k∈z.nd.kids,0≤k∧k≤1000000:=fun z hz=>by
   have hzx:z.nd∈xs.map (·.nd):=List.mem_map.2 ⟨z,List.mem_of_mem_take (List.mem_of_mem_drop hz),rfl⟩
   refine ⟨hok.2 z.nd hzx,fun k hk=> ?_⟩
   have:=hkids _ hzx k hk
   rw [List.length_map] at this
   omega
  have hzn:((xs.take (n+1)).drop f).map (·.nd)=u.flat f:=by rw [←hcut,List.map_drop,List.map_take]
  have hzl:((xs.take (n+1)).drop f).length≤400:=by simp;omega
  have hisz:=hRz.cells.is
  have hlz:=hRz.len
  simp -implicitDefEqProofs [r0,r1,hw1,c0,his,hfn,hnc,hnt,hncN,hfnN,hisz,hlz]
  have hsl:slLen (slSub lv 6 f (n+1) (slCap lv))=n+1 - f:=slLen_sub _ _ _ _ his
  have hzl2:((xs.take (n+1)).drop f).length=n+1 - f:=by simp;omega
  rw [←hzl2] at hsl
  generalize (xs.take (n+1)).drop f=zs at hRz hlz hzk hzn hzl hsl hzl2
  generalize hzv:slSub lv 6 f (n+1) (slCap lv)=zv at hRz hisz hlz hsl
  have hln:((n+1 - f:Nat):Int)=(zs.length:Int):=by omega
  obtain ⟨I,hI⟩:∃I:Nat→Env→World→Prop,∀j ρ' w',I j ρ' w'↔(ρ' 7= .pointer (some ⟨F,0,none⟩)∧ρ' 27=zv∧ρ' 28= .int .i64 (zs.length:Int)∧Ext w w'∧Blk w' F #[.int .i64 (f:Int)] 3∧∃ys,OwnN w.heap.size w' (ρ' 8) ys∧ys.length=j∧ys.map (·.nd)=(zs.take j).map (fun x=>shN (· - (f:Int)) x.nd)):=⟨_,fun _ _ _=>Iff.rfl⟩
  refine loopC 29 zs.length I (by simp) ((hI _ _ _).2 ⟨by simp,by simp,by simp;try omega,hE05,hb5',[],by simpa using OwnN.nil _ _,rfl,by simp⟩) ?_
  clear r0 r1 hb5 hb5' c0
  rintro j ρ' w' hj rj hIw
  obtain ⟨r7,r27,r28,hE,hbF,ys,hys,hyl,hym⟩:=(hI _ _ _).1 hIw
  have hwj:IntKind.i64.wrap ((j:Int)+1)=(j:Int)+1:=i64w (by omega)
  generalize hov:ρ' 8=ov at hys
  by_cases hlt:j<zs.length
  ·have hlt':(j:Int)<(zs.length:Int):=by omega
   have hRz':=hRz.ext hE
   have hrow:=hRz'.row hlt
   have hk:=hRz'.kids zs[j] (List.getElem_mem _)
   have hkc:=isSl_cells hk.is
   have hko:=isSl_one hk.is
   have hkb:=hzk _ (List.getElem_mem hlt)
   have htk:zs.take (j+1)=zs.take j++[zs[j]]:=List.take_succ_eq_append_getElem hlt
   generalize zs[j]=x at hrow hk hkc hko hkb htk
   simp -implicitDefEqProofs [ir43_l2,rj,r28,hlt',hlt,ir43_k1,r27,hisz,hlz,hrow]
   refine eff_alloc z44' fun X w3 hX hE3 hb3 _=> ?_
   simp -implicitDefEqProofs
   refine eff_storeN (B:=X) (by simp) hb3 (by simp [Value.cells,ndV,hkc]) (by simp [Value.cells,ndV,hkc,hko]) (by simpa [Value.cells,ndV,hkc] using sz44) fun w4 hO4 hb4=> ?_
   have hE4:Ext w' w4:=hO4.ext hE3 hX
   have hb4':Blk w4 X (ndV x).toArray 44:=by simpa [Value.cells,ndV,hkc] using hb4
   have hrow4:Eng.rowAt w4 ⟨X,0,none⟩ 0 6=some (ndV x):=by
    have:=row_blk hb4'
    simpa [ndV] using this
   simp -implicitDefEqProofs [hrow4,hov,r7]
   refine (p_shifted (x:=x) (F:=105) (caps:= #[.pointer (some ⟨F,0,none⟩)]) (g:=(· - (f:Int))) (hk.ext hE4) hkb.1 (by kernel_rfl) fun W5 hE5 k hk5=> ?_).mono ?_
   ·exact p_105 (hbF.ext (hE4.trans' hE5)) (hkb.2 k hk5) (by omega)
   rintro _ w5 ⟨y,rfl,hyn,hyk,hE5⟩
   have hyc:(ndA y).cells=(ndV y).toArray:=ndA_cells hyk.isl
   simp -implicitDefEqProofs
   refine eff_lit si29 (by decide) (by decide) (by simp [hyc,ndV]) fun Y w6 hY hE6 hb6 _=> ?_
   simp [hyc] at hb6
   have hE46:=(hE4.trans' hE5).trans' hE6
   have hys6:=hys.ext hE46
   simp -implicitDefEqProofs [hov]
   refine eff_append ri29 (W0:=w) (hE.trans' hE46) (sv:=ov) (xv:= .slice (some ⟨Y,0,none⟩) 1 1) (by simp [hov]) (by simp) hys6.own (Blk.cells (cs:=ndV y) hb6 (by simp [ndV])) (nd_one hyk.isl) (by rw [nvV_len];simp [ndV];omega) (by rw [nvV_len];simp [ndV];omega) fun v' w7 hE7 ho7 hg7 _=> ?_
   have hkk:Own w4.heap.size 3 1 w7 y.kv (y.nd.kids.map encI):=Own.kept (hyk.ext hE6) hg7 (own_apart (hyk.ext hE6) hys6.own (by decide))
   have hny:=own_shift (hys.ext hE4) hkk (hE.trans' hE4).size hE7 ho7 fun z hz=>Own.kept (hys6.kid z hz) hg7 (own_apart (hys6.kid z hz) hys6.own (by decide))
   simp -implicitDefEqProofs [ir43_k0,rj,hwj,hlt]
   refine (hI _ _ _).2 ⟨by simp [r7],by simp [r27],by simp [r28],hE7,blk_kept (hbF.ext hE46) hys6.own (by decide) hg7,ys++[y],by simpa using hny,by simp [hyl], ?_⟩
   rw [List.map_append,hym,htk,List.map_append]
   simp [shN,hyn]
  ·have hlt':¬(j:Int)<(zs.length:Int):=by omega
   rw [List.take_of_length_le (by omega)] at hym
   simp -implicitDefEqProofs [ir43_l2,rj,r28,hlt',hlt,ir43_k3,hov]
   rw [←hRR]
   refine ⟨ov,ys,by rw [hb],hys,hE,fun h=>absurd hb h,fun _ v hv=> ?_⟩
   rw [Int.toNat_natCast] at hv
   rw [hym,AtT.uniq u.size (Nat.le_refl _) hu hv|>.symm]
   have e:zs.map (fun x=>shN (· - (f:Int)) x.nd)=(zs.map (·.nd)).map (shN (· - (f:Int))):=by rw [List.map_map];rfl
   rw [e,hzn,flat_unshift]
 ·simp -implicitDefEqProofs [hb]
  rw [←hRR]
  exact ⟨_,[],rfl,OwnN.nil _ _,hE,fun _=>rfl,fun h=>absurd h hb⟩
end
end Go.L02
namespace Go.L02
open Go Go.Eng Go.RowKit
open Go.Proofs hiding encI
open Go.L01 (Bs Tok encT retK_c1)
set_option maxRecDepth 100000
set_option maxHeartbeats 4000000
@[simp] theorem cbN41:callB Tryz.prog 41=true:=by kernel_rfl
instance:Inhabited T:=⟨.mk {kind:=0} []⟩
noncomputable def subAt (l:List Nd) (i:Nat):T:=by
 classical
 exact if h:∃u,AtT l i u then h.choose else default
theorem subAt_eq {l:List Nd} {i:Nat} {u:T} (h:AtT l i u):subAt l i=u:=by
 have hx:∃u,AtT l i u:=⟨u,h⟩
 unfold subAt
 rw [dif_pos hx]
 exact AtT.uniq _ (Nat.le_refl _) hx.choose_spec h
def moved (f n m:Nat) (k:Int):Int:=if k<(f:Int) then k else k - n+m
def graftL (l:List Nd) (f i n:Nat) (bs:List Nd):List Nd:=(l.take f).map (shN fun k=>k)++(bs.map (shN (· +(f:Int)))++(l.drop (i+1)).map (shN (moved f n bs.length)))
noncomputable def graftO (l:List Nd) (i:Nat) (bs:List Nd):List Nd:=graftL l (i+1 - (subAt l i).size) i (subAt l i).size bs
noncomputable def graftE (l:List Nd) (i:Int) (bs:List Nd):Int:=if bodyE l i≠0 then bodyE l i else if postorder bs=false then 21 else codeOf (checkNodes (graftO l i.toNat bs))
section
variable {w:World} {lv bv:Value} {xs bs:List NV}
theorem p_100 {W:World} {k:Int} (_:0≤k∧k≤1000000):Calls Tryz.prog 100 (#[.int .i64 k]++ #[]) W fun e w'=>e= .returned (.int .i64 k)∧Ext W w':=by
 refine ir100_calls fun ρ r0=> ?_
 simp -implicitDefEqProofs [ir100,r0]
 exact ext_refl _
theorem p_101 {W:World} {B:Nat} {f k:Int} (hB:Blk W B #[.int .i64 f] 3) (h0:0≤k∧k≤1000000) (h1:0≤f∧f≤1000000):Calls Tryz.prog 101 #[.int .i64 k, .pointer (some ⟨B,0,none⟩)] W fun e w'=>e= .returned (.int .i64 (k+f))∧Ext W w':=by
 have c0:W.cell? ⟨B,0,none⟩=some (.int .i64 f):=by rw [hB.cell];rfl
 have hw:IntKind.i64.wrap (k+f)=k+f:=i64w (by omega)
 refine ir101_calls fun ρ r0 r1=> ?_
 simp -implicitDefEqProofs [ir101,r0,r1,c0,hw]
 exact ext_refl _
theorem p_102 {W:World} {F Nn Bb:Nat} {f n:Nat} {k:Int} (hF:Blk W F #[.int .i64 (f:Int)] 3) (hN:Blk W Nn #[.int .i64 (n:Int)] 3) (hB:Blk W Bb #[bv] 29) (hR:Rd w bv bs) (h0:0≤k∧k≤1000000) (h1:f≤1000000) (h2:n≤1000000) (h3:bs.length≤1000000) (_:True):
  Calls Tryz.prog 102 #[.int .i64 k, .pointer (some ⟨F,0,none⟩), .pointer (some ⟨Nn,0,none⟩), .pointer (some ⟨Bb,0,none⟩)] W fun e w'=>e= .returned (.int .i64 (moved f n bs.length k))∧Ext W w':=by
 have c0:W.cell? ⟨F,0,none⟩=some (.int .i64 (f:Int)):=by rw [hF.cell];rfl
 have c1:W.cell? ⟨Nn,0,none⟩=some (.int .i64 (n:Int)):=by rw [hN.cell];rfl
 have c2:W.cell? ⟨Bb,0,none⟩=some bv:=by rw [hB.cell];rfl
 have hl:=hR.len
 have hw:IntKind.i64.wrap (k - (n:Int))=k - n:=i64w (by omega)
 have hw2:IntKind.i64.wrap (k - (n:Int)+(bs.length:Int))=k - n+bs.length:=i64w (by omega)
 unfold moved
 refine ir102_calls fun ρ r0 r1 r2 r3=> ?_
 by_cases hk:k<(f:Int)
 ·simp -implicitDefEqProofs [ir102,r0,r1,c0,hk]
  exact ext_refl _
 ·simp -implicitDefEqProofs [ir102,r0,r1,r2,r3,c0,c1,c2,hk,ir102_k0,hw,hw2,hR.cells.is,hl]
  exact ext_refl _
theorem p_Graft (hG:L01.G w) (hM:MaxL w) (hR:Rd w lv xs) (hok:NOk (xs.map (·.nd))) (hB0:Rd w bv bs) (hbok:NOk (bs.map (·.nd))) (hbl:bs.length≤1000000) (i:Int):Calls Tryz.prog 41 #[lv, .int .i64 i,bv] w fun e w'=>
  ∃v ys,e= .returned (.tuple #[v, .int .i64 (graftE (xs.map (·.nd)) i (bs.map (·.nd)))])∧OwnN w.heap.size w' v ys∧Ext w w'∧ys.map (·.nd)=if graftE (xs.map (·.nd)) i (bs.map (·.nd))=0 then graftO (xs.map (·.nd)) i.toNat (bs.map (·.nd)) else []:=by
 have hl:=hR.len
 have his:=hR.cells.is
 have hlb:=hB0.len
 have hisb:=hB0.cells.is
 have hcap:=isSl_le his
 rw [hl] at hcap
 have hbc:=isSl_cells hisb
 generalize hRR:(fun (e:Ending) (w':World)=>∃v ys,e= .returned (.tuple #[v, .int .i64 (graftE (xs.map (·.nd)) i (bs.map (·.nd)))])∧OwnN w.heap.size w' v ys∧Ext w w'∧ys.map (·.nd)=if graftE (xs.map (·.nd)) i (bs.map (·.nd))=0 then graftO (xs.map (·.nd)) i.toNat (bs.map (·.nd)) else [])=R
 refine ir41_calls fun ρ r0 r1 r2=> ?_
 simp -implicitDefEqProofs [ir41]
 refine eff_box fun Bb w1 hBb hE1 hb1 _=> ?_
 have hb1':Blk w1 Bb #[bv] 29:=by simpa [r2,hbc] using hb1
 simp -implicitDefEqProofs [r0,r1]
 refine (p_body' (hG.ext hE1) (hM.ext hE1) (hR.ext hE1) hok i).mono ?_
 rintro _ w2 ⟨rfl,hE2⟩
 have hE02:=hE1.trans' hE2
 rcases Classical.em (bodyE (xs.map (·.nd)) i≠0) with hb|hb'
 ·have hg:graftE (xs.map (·.nd)) i (bs.map (·.nd))=bodyE (xs.map (·.nd)) i:=by unfold graftE;rw [if_pos hb]
  simp -implicitDefEqProofs [hb]
  rw [←hRR]
  exact ⟨_,[],by rw [hg],OwnN.nil _ _,hE02,by rw [hg,if_neg hb];rfl⟩
 have hb:bodyE (xs.map (·.nd)) i=0:=Classical.not_not.1 hb'
 obtain ⟨hc,hi0,hilt,hiz,t,u,ht,h400,hlen,hu⟩:=bodyE_tree hb
 have cB2:w2.cell? ⟨Bb,0,none⟩=some bv:=by rw [(hb1'.ext hE2).cell];rfl
 simp -implicitDefEqProofs [hb,ir41_k14,cB2]
 refine (p_postorder (hB0.ext hE02) hbl fun x hx=>hbok.2 x.nd (List.mem_map.2 ⟨x,hx,rfl⟩)).mono ?_
 rintro _ w3 ⟨rfl,hE3⟩
 have hE03:=hE02.trans' hE3
 cases hpb:postorder (bs.map (·.nd)) with
 |false=>
  have hg:graftE (xs.map (·.nd)) i (bs.map (·.nd))=21:=by unfold graftE;rw [if_neg (fun h=>h hb),if_pos hpb]
  simp -implicitDefEqProofs
  rw [←hRR]
  exact ⟨_,[],by rw [hg],OwnN.nil _ _,hE03,by rw [hg];rfl⟩
 |true=>
 have hgE:graftE (xs.map (·.nd)) i (bs.map (·.nd))=codeOf (checkNodes (graftO (xs.map (·.nd)) i.toNat (bs.map (·.nd)))):=by unfold graftE;rw [if_neg (fun h=>h hb),if_neg (by rw [hpb];decide)]
 have hgO:graftO (xs.map (·.nd)) i.toNat (bs.map (·.nd))=graftL (xs.map (·.nd)) (i.toNat+1 - u.size) i.toNat u.size (bs.map (·.nd)):=by unfold graftO;rw [subAt_eq hu]
 generalize hEE:graftE (xs.map (·.nd)) i (bs.map (·.nd))=E at hRR hgE
 generalize hOO:graftO (xs.map (·.nd)) i.toNat (bs.map (·.nd))=O at hRR hgE hgO
 clear hEE
 rw [List.length_map] at hilt hlen
 have hule:=hu.le
 have hus:=u.size_pos
 have hpk:postorder (xs.map (·.nd))=true:=by rw [ht];exact postorder_flat t
 have hkids:=postorder_kids hpk
 have hkidb:=postorder_kids hpb
 obtain ⟨n,hn⟩:∃n:Nat,i=(n:Int):=⟨i.toNat,hiz.symm⟩
 subst hn
 simp only [Int.toNat_natCast] at hilt hu hule hiz hgO hOO
 obtain ⟨f,hf⟩:∃f:Nat,f=n+1 - u.size:=⟨_,rfl⟩
 rw [←hf] at hgO
 have hw1:IntKind.i64.wrap ((n:Int)+1)=(n:Int)+1:=i64w (by omega)
 have hwf:IntKind.i64.wrap ((n:Int)+1 - (u.size:Int))=(f:Int):=by rw [i64w (by omega)];omega
 have hps:=p_size hR (by omega) u.size u n w3 hE03 (Nat.le_refl _) hu
 have hxk:∀z∈xs,z.nd.kids.length≤1000000∧∀k∈z.nd.kids,0≤k∧k≤1000000:=fun z hz=>by
  have hzx:z.nd∈xs.map (·.nd):=List.mem_map.2 ⟨z,hz,rfl⟩
  refine ⟨hok.2 z.nd hzx,fun k hk=> ?_⟩
  have:=hkids _ hzx k hk
  rw [List.length_map] at this
  omega
 have hbk:∀z∈bs,z.nd.kids.length≤1000000∧∀k∈z.nd.kids,0≤k∧k≤1000000:=fun z hz=>by
  have hzx:z.nd∈bs.map (·.nd):=List.mem_map.2 ⟨z,hz,rfl⟩
  refine ⟨hbok.2 z.nd hzx,fun k hk=> ?_⟩
  have:=hkidb _ hzx k hk
  rw [List.length_map] at this
  omega
 simp -implicitDefEqProofs [ir41_k13,r0,r1]
 refine hps.mono ?_
 rintro _ w4 ⟨rfl,hE4⟩
 have hE04:=hE03.trans' hE4
 simp -implicitDefEqProofs
 refine eff_alloc z3' fun Nn w4' hN hE4' hb4 _=> ?_
 simp -implicitDefEqProofs
 refine eff_store1 (B:=Nn) (i:=0) (by simp) hb4 (by simp) (by simp [Value.cells]) (by simp) sz3' fun w5 hO5 hb5=> ?_
 have hbN4:Blk w5 Nn #[.int .i64 (u.size:Int)] 3:=blk_cast hb5 (by simp)
 have hE04':Ext w w5:=hE04.trans' (hO5.ext hE4' hN)
 have hE45:Ext w4 w5:=hO5.ext hE4' hN
 have cN:w5.cell? ⟨Nn,0,none⟩=some (.int .i64 (u.size:Int)):=by rw [hbN4.cell];rfl
 simp -implicitDefEqProofs [r0,r1,hw1,cN,hwf]
 refine eff_alloc z3' fun F w6 hF hE6 hb6 _=> ?_
 simp -implicitDefEqProofs
 refine eff_store1 (B:=F) (i:=0) (by simp) hb6 (by simp) (by simp [Value.cells]) (by simp) sz3' fun w7 hO7 hb7=> ?_
 have hbF5:Blk w7 F #[.int .i64 (f:Int)] 3:=blk_cast hb7 (by simp)
 have hE57:Ext w5 w7:=hO7.ext hE6 hF
 have hE05:Ext w w7:=hE04'.trans' hE57
 have hbN5:=hbN4.ext hE57
 have hbB5:Blk w7 Bb #[bv] 29:=hb1'.ext ((((hE2.trans' hE3).trans' hE4).trans' hE45).trans' hE57)
 have c0:w7.cell? ⟨F,0,none⟩=some (.int .i64 (f:Int)):=by rw [hbF5.cell];rfl
 have hRz:=hR.sub (l:=0) (r:=f) (m:=slCap lv) (by omega) (by omega) (by omega) (Nat.le_refl _)
 have hRt:=hR.sub (l:=n+1) (r:=xs.length) (m:=slCap lv) (by omega) (by omega) (by omega) (Nat.le_refl _)
 have hfc:(f:Int)≤(slCap lv:Int):=by omega
 have hfcN:f≤slCap lv:=by omega
 have hnl:(n:Int)+1≤(xs.length:Int):=by omega
 have hnlN:n+1≤xs.length:=by omega
 have hnt:((n:Int)+1).toNat=n+1:=by omega
 have hisz:=hRz.cells.is
 have hlz:=hRz.len
 have hist:=hRt.cells.is
 have hlt2:=hRt.len
 rw [List.drop_zero] at hRz hlz
 rw [List.take_of_length_le (Nat.le_refl _)] at hRt hlt2
 have hmin:min f xs.length=f:=by omega
 simp -implicitDefEqProofs [r0,r1,c0,his,hfc,hfcN,hisz,hlz,hmin]
 have hslz:slLen (slSub lv 6 0 f (slCap lv))=f:=by rw [slLen_sub _ _ _ _ his];omega
 have hslt:slLen (slSub lv 6 (n+1) xs.length (slCap lv))=xs.length - (n+1):=slLen_sub _ _ _ _ his
 have hzl:(xs.take f).length=f:=by simp;omega
 have htl:(xs.drop (n+1)).length=xs.length - (n+1):=by simp
 have hzk:∀z∈xs.take f,z.nd.kids.length≤1000000∧∀k∈z.nd.kids,0≤k∧k≤1000000:=fun z hz=>hxk z (List.mem_of_mem_take hz)
 have htk2:∀z∈xs.drop (n+1),z.nd.kids.length≤1000000∧∀k∈z.nd.kids,0≤k∧k≤1000000:=fun z hz=>hxk z (List.mem_of_mem_drop hz)
 have hO':O=((xs.take f).map (fun x=>shN (fun k=>k) x.nd))++(bs.map (fun x=>shN (· +(f:Int)) x.nd)++(xs.drop (n+1)).map (fun x=>shN (moved f u.size bs.length) x.nd)):=by
  rw [hgO]
  unfold graftL
  rw [←List.map_take,←List.map_drop,List.map_map,List.map_map,List.map_map,List.length_map]
  rfl
 have hOk:NOk O:=by
  rw [hO']
  have key:∀(g:Int→Int) (z:NV),DOk z.nd.d→z.nd.kids.length≤1000000→DOk (shN g z.nd).d∧(shN g z.nd).kids.length≤1000000:=fun g z h1 h2=>⟨h1,by simpa [shN] using h2⟩
  have all:∀x∈((xs.take f).map (fun x=>shN (fun k=>k) x.nd))++(bs.map (fun x=>shN (· +(f:Int)) x.nd)++(xs.drop (n+1)).map (fun x=>shN (moved f u.size bs.length) x.nd)),DOk x.d∧x.kids.length≤1000000:=by
   intro x hx
   simp only [List.mem_append,List.mem_map] at hx
   rcases hx with ⟨z,hz,rfl⟩|⟨z,hz,rfl⟩|⟨z,hz,rfl⟩
   ·exact key _ z (hok.1 _ (List.mem_map.2 ⟨z,List.mem_of_mem_take hz,rfl⟩)) (hzk z hz).1
   ·exact key _ z (hbok.1 _ (List.mem_map.2 ⟨z,hz,rfl⟩)) (hbk z hz).1
   ·exact key _ z (hok.1 _ (List.mem_map.2 ⟨z,List.mem_of_mem_drop hz,rfl⟩)) (htk2 z hz).1
  exact ⟨fun x hx=>(all x hx).1,fun x hx=>(all x hx).2⟩
 generalize xs.take f=zs at hRz hlz hzk hslz hzl hO'
 generalize hzv:slSub lv 6 0 f (slCap lv)=zsv at hRz hisz hlz hslz
 generalize xs.drop (n+1)=ts at hRt hlt2 htk2 hslt htl hO'
 generalize htv:slSub lv 6 (n+1) xs.length (slCap lv)=tsv at hRt hist hlt2 hslt
 obtain ⟨bsv,hbsv⟩:∃z,z=bv:=⟨_,rfl⟩
 obtain ⟨Ia,hIa⟩:∃I:Nat→Env→World→Prop,∀j ρ' w',I j ρ' w'↔(ρ' 0=lv∧ρ' 1= .int .i64 (n:Int)∧ρ' 5= .pointer (some ⟨Bb,0,none⟩)∧ρ' 9= .pointer (some ⟨Nn,0,none⟩)∧ρ' 10= .pointer (some ⟨F,0,none⟩)∧ρ' 36=zsv∧ρ' 37= .int .i64 (zs.length:Int)∧Ext w w'∧Blk w' Bb #[bv] 29∧Blk w' Nn #[.int .i64 (u.size:Int)] 3∧Blk w' F #[.int .i64 (f:Int)] 3∧∃ys,OwnN w.heap.size w' (ρ' 11) ys∧ys.length=j∧ys.map (·.nd)=[]++(zs.take j).map (fun x=>shN (fun k=>k) x.nd)):=⟨_,fun _ _ _=>Iff.rfl⟩
 refine loopC 38 zs.length Ia (by simp) ((hIa _ _ _).2 ⟨by simp [r0],by simp [r1],by simp,by simp,by simp,by simp,by simp<;>omega,hE05,hbB5,hbN5,hbF5,[],by simpa using OwnN.nil _ _,rfl,by simp⟩) ?_
 clear r0 r1 hb7 c0
 rintro j ρ' w' hj rj hIw
 obtain ⟨r0,r1,r5,r9,r10,r36,r37,hE,hbB,hbN,hbF,ys,hys,hyl,hym⟩:=(hIa _ _ _).1 hIw
 have hwj:IntKind.i64.wrap ((j:Int)+1)=(j:Int)+1:=i64w (by omega)
 generalize hov:ρ' 11=ov at hys
 by_cases hlt:j<zs.length
 ·have hlt':(j:Int)<(zs.length:Int):=by omega
  have hRz':=hRz.ext hE
  have hrow:=hRz'.row hlt
  have hk:=hRz'.kids zs[j] (List.getElem_mem _)
  have hkc:=isSl_cells hk.is
  have hko:=isSl_one hk.is
  have hkb:=hzk _ (List.getElem_mem hlt)
  have htk:zs.take (j+1)=zs.take j++[zs[j]]:=List.take_succ_eq_append_getElem hlt
  generalize zs[j]=x at hrow hk hkc hko hkb htk
  simp -implicitDefEqProofs [ir41_l2,rj,r37,hlt',hlt,ir41_k1,r36,hisz,hlz,hrow]
  refine eff_alloc z44' fun X w3 hX hE3 hb3 _=> ?_
  simp -implicitDefEqProofs
  refine eff_storeN (B:=X) (by simp) hb3 (by simp [Value.cells,ndV,hkc]) (by simp [Value.cells,ndV,hkc,hko]) (by simpa [Value.cells,ndV,hkc] using sz44) fun w4 hO4 hb4=> ?_
  have hE4:Ext w' w4:=hO4.ext hE3 hX
  have hb4':Blk w4 X (ndV x).toArray 44:=by simpa [Value.cells,ndV,hkc] using hb4
  have hrow4:Eng.rowAt w4 ⟨X,0,none⟩ 0 6=some (ndV x):=by
   have:=row_blk hb4'
   simpa [ndV] using this
  simp -implicitDefEqProofs [hrow4,hov,r5,r9,r10]
  refine (p_shifted (x:=x) (F:=100) (caps:= #[]) (g:=(fun k=>k)) (hk.ext hE4) hkb.1 (by kernel_rfl) fun W5 hE5 k hk5=> ?_).mono ?_
  ·exact p_100 (hkb.2 k hk5)
  rintro _ w5 ⟨y,rfl,hyn,hyk,hE5⟩
  have hyc:(ndA y).cells=(ndV y).toArray:=ndA_cells hyk.isl
  simp -implicitDefEqProofs
  refine eff_lit si29 (by decide) (by decide) (by simp [hyc,ndV]) fun Y w6 hY hE6 hb6 _=> ?_
  simp [hyc] at hb6
  have hE46:=(hE4.trans' hE5).trans' hE6
  have hys6:=hys.ext hE46
  simp -implicitDefEqProofs [hov]
  refine eff_append ri29 (W0:=w) (hE.trans' hE46) (sv:=ov) (xv:= .slice (some ⟨Y,0,none⟩) 1 1) (by simp [hov]) (by simp) hys6.own (Blk.cells (cs:=ndV y) hb6 (by simp [ndV])) (nd_one hyk.isl) (by rw [nvV_len];simp [ndV];omega) (by rw [nvV_len];simp [ndV];omega) fun v' w7 hE7 ho7 hg7 _=> ?_
  have hkk:Own w4.heap.size 3 1 w7 y.kv (y.nd.kids.map encI):=Own.kept (hyk.ext hE6) hg7 (own_apart (hyk.ext hE6) hys6.own (by decide))
  have hny:=own_shift (hys.ext hE4) hkk (hE.trans' hE4).size hE7 ho7 fun z hz=>Own.kept (hys6.kid z hz) hg7 (own_apart (hys6.kid z hz) hys6.own (by decide))
  simp -implicitDefEqProofs [ir41_k0,rj,hwj,hlt]
  refine (hIa _ _ _).2 ⟨by simp [r0],by simp [r1],by simp [r5],by simp [r9],by simp [r10],by simp [r36],by simp [r37],hE7,blk_kept (hbB.ext hE46) hys6.own (by decide) hg7,blk_kept (hbN.ext hE46) hys6.own (by decide) hg7,blk_kept (hbF.ext hE46) hys6.own (by decide) hg7,ys++[y],by simpa using hny,by simp [hyl];try omega, ?_⟩
  rw [List.map_append,hym,htk,List.map_append]
  simp [shN,hyn]
 ·have hlt':¬(j:Int)<(zs.length:Int):=by omega
  have hjl:j=zs.length:=by omega
  subst hjl
  rw [List.take_of_length_le (by omega)] at hym
  simp -implicitDefEqProofs [ir41_l2,rj,r37,hlt',ir41_k12,r5]
  have cB:w'.cell? ⟨Bb,0,none⟩=some bv:=by rw [hbB.cell];rfl
  simp -implicitDefEqProofs [cB,hisb,hlb]
  obtain ⟨pre1,hp1⟩:∃p:List Nd,p=zs.map (fun x=>shN (fun k=>k) x.nd):=⟨_,rfl⟩
  obtain ⟨p1,hq1⟩:∃p:Nat,p=zs.length:=⟨_,rfl⟩
  rw [List.nil_append,←hp1] at hym
  rw [←hp1] at hO'
  rw [hbsv.symm] at hisb hlb hB0⊢
  obtain ⟨Ib,hIb⟩:∃I:Nat→Env→World→Prop,∀j ρ' w',I j ρ' w'↔(ρ' 0=lv∧ρ' 1= .int .i64 (n:Int)∧ρ' 5= .pointer (some ⟨Bb,0,none⟩)∧ρ' 9= .pointer (some ⟨Nn,0,none⟩)∧ρ' 10= .pointer (some ⟨F,0,none⟩)∧ρ' 48=bsv∧ρ' 49= .int .i64 (bs.length:Int)∧Ext w w'∧Blk w' Bb #[bv] 29∧Blk w' Nn #[.int .i64 (u.size:Int)] 3∧Blk w' F #[.int .i64 (f:Int)] 3∧∃ys,OwnN w.heap.size w' (ρ' 11) ys∧ys.length=p1+j∧ys.map (·.nd)=pre1++(bs.take j).map (fun x=>shN (· +(f:Int)) x.nd)):=⟨_,fun _ _ _=>Iff.rfl⟩
  refine loopC 50 bs.length Ib (by simp) ((hIb _ _ _).2 ⟨by simp [r0],by simp [r1],by simp [r5],by simp [r9],by simp [r10],by simp,by simp,hE,hbB,hbN,hbF,ys,by simpa [hov] using hys,by omega,by simpa using hym⟩) ?_
  clear r0 r1 r5 r9 r10 hov hbB hbN hbF hys hyl hym r36 r37 rj hIw hE
  rintro j ρ' w' hj rj hIw
  obtain ⟨r0,r1,r5,r9,r10,r48,r49,hE,hbB,hbN,hbF,ys,hys,hyl,hym⟩:=(hIb _ _ _).1 hIw
  have hwj:IntKind.i64.wrap ((j:Int)+1)=(j:Int)+1:=i64w (by omega)
  generalize hov:ρ' 11=ov at hys
  by_cases hlt:j<bs.length
  ·have hlt':(j:Int)<(bs.length:Int):=by omega
   have hRz':=hB0.ext hE
   have hrow:=hRz'.row hlt
   have hk:=hRz'.kids bs[j] (List.getElem_mem _)
   have hkc:=isSl_cells hk.is
   have hko:=isSl_one hk.is
   have hkb:=hbk _ (List.getElem_mem hlt)
   have htk:bs.take (j+1)=bs.take j++[bs[j]]:=List.take_succ_eq_append_getElem hlt
   generalize bs[j]=x at hrow hk hkc hko hkb htk
   simp -implicitDefEqProofs [ir41_l5,rj,r49,hlt',hlt,ir41_k4,r48,hisb,hlb,hrow]
   refine eff_alloc z44' fun X w3 hX hE3 hb3 _=> ?_
   simp -implicitDefEqProofs
   refine eff_storeN (B:=X) (by simp) hb3 (by simp [Value.cells,ndV,hkc]) (by simp [Value.cells,ndV,hkc,hko]) (by simpa [Value.cells,ndV,hkc] using sz44) fun w4 hO4 hb4=> ?_
   have hE4:Ext w' w4:=hO4.ext hE3 hX
   have hb4':Blk w4 X (ndV x).toArray 44:=by simpa [Value.cells,ndV,hkc] using hb4
   have hrow4:Eng.rowAt w4 ⟨X,0,none⟩ 0 6=some (ndV x):=by
    have:=row_blk hb4'
    simpa [ndV] using this
   simp -implicitDefEqProofs [hrow4,hov,r5,r9,r10]
   refine (p_shifted (x:=x) (F:=101) (caps:= #[.pointer (some ⟨F,0,none⟩)]) (g:=(· +(f:Int))) (hk.ext hE4) hkb.1 (by kernel_rfl) fun W5 hE5 k hk5=> ?_).mono ?_
   ·exact p_101 (hbF.ext (hE4.trans' hE5)) (hkb.2 k hk5) (by omega)
   rintro _ w5 ⟨y,rfl,hyn,hyk,hE5⟩
   have hyc:(ndA y).cells=(ndV y).toArray:=ndA_cells hyk.isl
   simp -implicitDefEqProofs
   refine eff_lit si29 (by decide) (by decide) (by simp [hyc,ndV]) fun Y w6 hY hE6 hb6 _=> ?_
   simp [hyc] at hb6
   have hE46:=(hE4.trans' hE5).trans' hE6
   have hys6:=hys.ext hE46
   simp -implicitDefEqProofs [hov]
   refine eff_append ri29 (W0:=w) (hE.trans' hE46) (sv:=ov) (xv:= .slice (some ⟨Y,0,none⟩) 1 1) (by simp [hov]) (by simp) hys6.own (Blk.cells (cs:=ndV y) hb6 (by simp [ndV])) (nd_one hyk.isl) (by rw [nvV_len];simp [ndV];omega) (by rw [nvV_len];simp [ndV];omega) fun v' w7 hE7 ho7 hg7 _=> ?_
   have hkk:Own w4.heap.size 3 1 w7 y.kv (y.nd.kids.map encI):=Own.kept (hyk.ext hE6) hg7 (own_apart (hyk.ext hE6) hys6.own (by decide))
   have hny:=own_shift (hys.ext hE4) hkk (hE.trans' hE4).size hE7 ho7 fun z hz=>Own.kept (hys6.kid z hz) hg7 (own_apart (hys6.kid z hz) hys6.own (by decide))
   simp -implicitDefEqProofs [ir41_k3,rj,hwj,hlt]
   refine (hIb _ _ _).2 ⟨by simp [r0],by simp [r1],by simp [r5],by simp [r9],by simp [r10],by simp [r48],by simp [r49],hE7,blk_kept (hbB.ext hE46) hys6.own (by decide) hg7,blk_kept (hbN.ext hE46) hys6.own (by decide) hg7,blk_kept (hbF.ext hE46) hys6.own (by decide) hg7,ys++[y],by simpa using hny,by simp [hyl];try omega, ?_⟩
   rw [List.map_append,hym,htk,List.map_append]
   simp [shN,hyn]
  ·have hlt':¬(j:Int)<(bs.length:Int):=by omega
   have hjl:j=bs.length:=by omega
   subst hjl
   rw [List.take_of_length_le (by omega)] at hym
   simp -implicitDefEqProofs [ir41_l5,rj,r49,hlt',ir41_k11,r0,r1,hw1,his,hl,hnl,hnt,hnlN]
   simp -implicitDefEqProofs [htv,hist,hlt2]
   obtain ⟨pre2,hp2⟩:∃p:List Nd,p=pre1++bs.map (fun x=>shN (· +(f:Int)) x.nd):=⟨_,rfl⟩
   obtain ⟨p2,hq2⟩:∃p:Nat,p=p1+bs.length:=⟨_,rfl⟩
   rw [←hp2] at hym
   rw [←List.append_assoc,←hp2] at hO'
   obtain ⟨Ic,hIc⟩:∃I:Nat→Env→World→Prop,∀j ρ' w',I j ρ' w'↔(ρ' 0=lv∧ρ' 1= .int .i64 (n:Int)∧ρ' 5= .pointer (some ⟨Bb,0,none⟩)∧ρ' 9= .pointer (some ⟨Nn,0,none⟩)∧ρ' 10= .pointer (some ⟨F,0,none⟩)∧ρ' 64=tsv∧ρ' 65= .int .i64 (ts.length:Int)∧Ext w w'∧Blk w' Bb #[bv] 29∧Blk w' Nn #[.int .i64 (u.size:Int)] 3∧Blk w' F #[.int .i64 (f:Int)] 3∧∃ys,OwnN w.heap.size w' (ρ' 11) ys∧ys.length=p2+j∧ys.map (·.nd)=pre2++(ts.take j).map (fun x=>shN (moved f u.size bs.length) x.nd)):=⟨_,fun _ _ _=>Iff.rfl⟩
   refine loopC 66 ts.length Ic (by simp) ((hIc _ _ _).2 ⟨by simp [r0],by simp [r1],by simp [r5],by simp [r9],by simp [r10],by simp,by simp;try omega,hE,hbB,hbN,hbF,ys,by simpa [hov] using hys,by omega,by simpa using hym⟩) ?_
   clear r0 r1 r5 r9 r10 hov hbB hbN hbF hys hyl hym r48 r49 rj hIw hE
   rintro j ρ' w' hj rj hIw
   obtain ⟨r0,r1,r5,r9,r10,r64,r65,hE,hbB,hbN,hbF,ys,hys,hyl,hym⟩:=(hIc _ _ _).1 hIw
   have hwj:IntKind.i64.wrap ((j:Int)+1)=(j:Int)+1:=i64w (by omega)
   generalize hov:ρ' 11=ov at hys
   by_cases hlt:j<ts.length
   ·have hlt':(j:Int)<(ts.length:Int):=by omega
    have hRz':=hRt.ext hE
    have hrow:=hRz'.row hlt
    have hk:=hRz'.kids ts[j] (List.getElem_mem _)
    have hkc:=isSl_cells hk.is
    have hko:=isSl_one hk.is
    have hkb:=htk2 _ (List.getElem_mem hlt)
    have htk:ts.take (j+1)=ts.take j++[ts[j]]:=List.take_succ_eq_append_getElem hlt
    generalize ts[j]=x at hrow hk hkc hko hkb htk
    simp -implicitDefEqProofs [ir41_l8,rj,r65,hlt',hlt,ir41_k7,r64,hist,hlt2,hrow]
    refine eff_alloc z44' fun X w3 hX hE3 hb3 _=> ?_
    simp -implicitDefEqProofs
    refine eff_storeN (B:=X) (by simp) hb3 (by simp [Value.cells,ndV,hkc]) (by simp [Value.cells,ndV,hkc,hko]) (by simpa [Value.cells,ndV,hkc] using sz44) fun w4 hO4 hb4=> ?_
    have hE4:Ext w' w4:=hO4.ext hE3 hX
    have hb4':Blk w4 X (ndV x).toArray 44:=by simpa [Value.cells,ndV,hkc] using hb4
    have hrow4:Eng.rowAt w4 ⟨X,0,none⟩ 0 6=some (ndV x):=by
     have:=row_blk hb4'
     simpa [ndV] using this
    simp -implicitDefEqProofs [hrow4,hov,r5,r9,r10]
    refine (p_shifted (x:=x) (F:=102) (caps:= #[.pointer (some ⟨F,0,none⟩), .pointer (some ⟨Nn,0,none⟩), .pointer (some ⟨Bb,0,none⟩)]) (g:=(moved f u.size bs.length)) (hk.ext hE4) hkb.1 (by kernel_rfl) fun W5 hE5 k hk5=> ?_).mono ?_
    ·exact p_102 (hbF.ext (hE4.trans' hE5)) (hbN.ext (hE4.trans' hE5)) (hbB.ext (hE4.trans' hE5)) (hbsv▸hB0) (hkb.2 k hk5) (by omega) (by omega) (by omega) (by omega)
    rintro _ w5 ⟨y,rfl,hyn,hyk,hE5⟩
    have hyc:(ndA y).cells=(ndV y).toArray:=ndA_cells hyk.isl
    simp -implicitDefEqProofs
    refine eff_lit si29 (by decide) (by decide) (by simp [hyc,ndV]) fun Y w6 hY hE6 hb6 _=> ?_
    simp [hyc] at hb6
    have hE46:=(hE4.trans' hE5).trans' hE6
    have hys6:=hys.ext hE46
    simp -implicitDefEqProofs [hov]
    refine eff_append ri29 (W0:=w) (hE.trans' hE46) (sv:=ov) (xv:= .slice (some ⟨Y,0,none⟩) 1 1) (by simp [hov]) (by simp) hys6.own (Blk.cells (cs:=ndV y) hb6 (by simp [ndV])) (nd_one hyk.isl) (by rw [nvV_len];simp [ndV];omega) (by rw [nvV_len];simp [ndV];omega) fun v' w7 hE7 ho7 hg7 _=> ?_
    have hkk:Own w4.heap.size 3 1 w7 y.kv (y.nd.kids.map encI):=Own.kept (hyk.ext hE6) hg7 (own_apart (hyk.ext hE6) hys6.own (by decide))
    have hny:=own_shift (hys.ext hE4) hkk (hE.trans' hE4).size hE7 ho7 fun z hz=>Own.kept (hys6.kid z hz) hg7 (own_apart (hys6.kid z hz) hys6.own (by decide))
    simp -implicitDefEqProofs [ir41_k6,rj,hwj,hlt]
    refine (hIc _ _ _).2 ⟨by simp [r0],by simp [r1],by simp [r5],by simp [r9],by simp [r10],by simp [r64],by simp [r65],hE7,blk_kept (hbB.ext hE46) hys6.own (by decide) hg7,blk_kept (hbN.ext hE46) hys6.own (by decide) hg7,blk_kept (hbF.ext hE46) hys6.own (by decide) hg7,ys++[y],by simpa using hny,by simp [hyl];try omega, ?_⟩
    rw [List.map_append,hym,htk,List.map_append]
    simp [shN,hyn]
   ·have hlt':¬(j:Int)<(ts.length:Int):=by omega
    have hjl:j=ts.length:=by omega
    subst hjl
    rw [List.take_of_length_le (by omega)] at hym
    simp -implicitDefEqProofs [ir41_l8,rj,r65,hlt',ir41_k10,hov]
    rw [←hO'] at hym
    rw [←hym] at hOk
    refine (p_CheckNodes (hG.ext hE) (hM.ext hE) hys.rd (hOk.ds rfl) (hOk.kl rfl)).mono ?_
    rintro _ w8 ⟨rfl,hE8⟩
    rw [hym] at hOk
    rw [hym]
    cases hcO:checkNodes O with
    |false=>
     have hgE2:E=21:=by rw [hgE,hcO];rfl
     simp -implicitDefEqProofs
     rw [←hRR]
     exact ⟨_,[],by rw [hgE2],OwnN.nil _ _,hE.trans' hE8,by rw [hgE2];rfl⟩
    |true=>
     have hgE2:E=0:=by rw [hgE,hcO];rfl
     simp -implicitDefEqProofs [ir41_k9,hov]
     rw [←hRR]
     exact ⟨ov,ys,by rw [hgE2],hys.ext hE8,hE.trans' hE8,by rw [hgE2,if_pos rfl];exact hym⟩
end
end Go.L02
namespace Go.L02
open Go Go.Eng Go.Proofs
set_option maxRecDepth 100000
set_option maxHeartbeats 2000000
variable {v0 v1 v2 v3 v4:Value} {w:World} {R:Ending→World→Prop}
noncomputable def ir20_k0:IR:= .cond (zv 87) (zq [za 4 (.const (zb false))] <| .ret) (.skip)
noncomputable def ir20_k1:IR:= .reg [za 8 (zI .add (zv 8) (.const (zk 1)))]
noncomputable def ir20_k2:IR:= .seq (.block 3 (.seq (.drw [za 87 (zI .neq (zl (zx 1 (zo 5 (zv 6)) (zv 8))) (zl (zx 1 (zo 5 (zv 7)) (zv 8))))]) (ir20_k0))) (ir20_k1)
noncomputable def ir20_l3:IR:=zq [za 74 (zI .lss (zv 8) (zL (zo 5 (zv 6))))] <| .seq (.cond (zv 74) (.skip) (.exit 2)) (ir20_k2)
noncomputable def ir20_k4:IR:=zq [za 8 (.const (zk 0))] <| .block 2 (.loop ir20_l3)
noncomputable def ir20_k5:IR:= .reg [za 5 (zI .add (zv 5) (.const (zk 1)))]
noncomputable def ir20_k6:IR:= .seq (.block 1 (zq [za 23 (zM 6 (zx 6 (zv 0) (zv 5))),zE 6 (.alloc 44) 0,zw 44 (zt 6) (zt 23),za 27 (zM 6 (zx 6 (zv 1) (zv 5))),zE 7 (.alloc 44) 0,zw 44 (zt 7) (zt 27),za 69 (.ite (.ite (.ite (.ite (.ite (zB .neq (zo 0 (zv 6)) (zo 0 (zv 7))) (.const (zb true)) (zS .neq (zo 1 (zv 6)) (zo 1 (zv 7)))) (.const (zb true)) (zS .neq (zo 2 (zv 6)) (zo 2 (zv 7)))) (.const (zb true)) (zS .neq (zo 3 (zv 6)) (zo 3 (zv 7)))) (.const (zb true)) (zI .neq (zo 4 (zv 6)) (zo 4 (zv 7)))) (.const (zb true)) (zI .neq (zL (zo 5 (zv 6))) (zL (zo 5 (zv 7)))))] <| .seq (.cond (zv 69) (zq [za 4 (.const (zb false))] <| .ret) (.skip)) (ir20_k4))) (ir20_k5)
noncomputable def ir20_l7:IR:=zq [za 17 (zI .lss (zv 5) (zL (zv 0)))] <| .seq (.cond (zv 17) (.skip) (.exit 0)) (ir20_k6)
noncomputable def ir20_k8:IR:=zq [za 4 (.const (zb true))] <| .ret
noncomputable def ir20_k9:IR:=zq [za 5 (.const (zk 0))] <| .seq (.block 0 (.loop ir20_l7)) (ir20_k8)
noncomputable def ir20:IR:=zq [za 4 (.const (zb false)),za 13 (zI .neq (zL (zv 0)) (zL (zv 1)))] <| .seq (.cond (zv 13) (zq [za 4 (.const (zb false))] <| .ret) (.skip)) (ir20_k9)
def ir20_V:List Nat:=[0,1,4,5,6,7,8,13,17,23,27,69,74,87]
theorem ir20_calls (h:∀ρ:Env,ρ 0=v0→ρ 1=v1→ir20.wp ⟨Tryz.prog,88,ir20_V,[]⟩ (retK [.tmp 4] R) (ksOf [.tmp 4] R) ρ w):Calls Tryz.prog 20 #[v0,v1] w R:=
 calls_irX (raws:=[]) (ir:=ir20) Tryz.func20 rfl (by kernel_rfl) (by kernel_rfl) (by kernel_rfl) (Nat.le_of_ble_eq_true rfl) (h _ rfl rfl)
end Go.L02
namespace Go.L02
open Go Go.Eng Go.RowKit
open Go.Proofs hiding encI
open Go.L01 (Bs Tok encT retK_c1)
set_option maxRecDepth 100000
set_option maxHeartbeats 2000000
@[simp] theorem cbN20:callB Tryz.prog 20=true:=by kernel_rfl
section
variable {w:World} {av bv:Value} {xs ys:List NV}
theorem map_get {xs:List NV} {j:Nat} (h:j<xs.length):(xs.map (·.nd))[j]? =some xs[j].nd:=by simp [h]
theorem p_sameN (hA:Rd w av xs) (hB:Rd w bv ys) (hlen:xs.length<4611686018427387904) (hlb:ys.length<4611686018427387904) (hk:∀x∈xs,x.nd.kids.length<4611686018427387904) (hkb:∀x∈ys,x.nd.kids.length<4611686018427387904):
  Calls Tryz.prog 20 #[av,bv] w fun e w'=>e= .returned (.bool (decide (xs.map (·.nd)=ys.map (·.nd))))∧Ext w w':=by
 have hla:=hA.len
 have hlb':=hB.len
 have hia:=hA.cells.is
 have hib:=hB.cells.is
 generalize hRR:(fun (e:Ending) (w':World)=>e= .returned (.bool (decide (xs.map (·.nd)=ys.map (·.nd))))∧Ext w w')=R
 refine ir20_calls fun ρ r0 r1=> ?_
 by_cases hne:xs.length=ys.length
 ·simp -implicitDefEqProofs [ir20,r0,r1,hia,hib,hla,hlb',hne,ir20_k9]
  obtain ⟨I,hI⟩:∃I:Nat→Env→World→Prop,∀j ρ' w',I j ρ' w'↔(ρ' 0=av∧ρ' 1=bv∧Ext w w'∧(xs.take j).map (·.nd)=(ys.take j).map (·.nd)):=⟨_,fun _ _ _=>Iff.rfl⟩
  refine loopC 5 ys.length I (by simp) ((hI _ _ _).2 ⟨by simp [r0],by simp [r1],ext_refl _,by simp⟩) ?_
  clear r0 r1
  rintro j ρ' w' hj rj hIw
  obtain ⟨r0,r1,hE,heq⟩:=(hI _ _ _).1 hIw
  have hwj:IntKind.i64.wrap ((j:Int)+1)=(j:Int)+1:=i64w (by omega)
  by_cases hlt:j<ys.length
  ·have hlt':(j:Int)<(ys.length:Int):=by omega
   have hltx:j<xs.length:=by omega
   have hA':=hA.ext hE
   have hB':=hB.ext hE
   have hra:=hA'.row hltx
   have hrb:=fun (W:World) (hW:Ext w' W)=>(hB'.ext hW).row hlt
   have kA:=hA.kids xs[j] (List.getElem_mem _)
   have kB:=hB.kids ys[j] (List.getElem_mem _)
   have lA:=hk xs[j] (List.getElem_mem _)
   have lB:=hkb ys[j] (List.getElem_mem _)
   have htx:xs.take (j+1)=xs.take j++[xs[j]]:=List.take_succ_eq_append_getElem hltx
   have hty:ys.take (j+1)=ys.take j++[ys[j]]:=List.take_succ_eq_append_getElem hlt
   have hno:xs[j].nd≠ys[j].nd→¬xs.map (·.nd)=ys.map (·.nd):=fun h e=>h (by
    have h1:=map_get hltx
    rw [e,map_get hlt] at h1
    exact (Option.some.inj h1).symm)
   generalize xs[j]=x at hra kA lA htx hno
   generalize ys[j]=y at hrb kB lB hty hno
   have hca:=isSl_cells kA.is
   have hoa:=isSl_one kA.is
   have hcb:=isSl_cells kB.is
   have hob:=isSl_one kB.is
   have hka:slLen x.kv=x.nd.kids.length:=by simpa using kA.len.symm
   have hkb':slLen y.kv=y.nd.kids.length:=by simpa using kB.len.symm
   simp -implicitDefEqProofs [ir20_l7,rj,r0,hia,hla,hne,hlt',hlt,ir20_k6,hra]
   refine eff_alloc z44' fun X w3 hX hE3 hb3 _=> ?_
   simp -implicitDefEqProofs
   refine eff_storeN (B:=X) (by simp) hb3 (by simp [Value.cells,ndV,hca]) (by simp [Value.cells,ndV,hca,hoa]) (by simpa [Value.cells,ndV,hca] using sz44) fun w4 hO4 hb4=> ?_
   have hE4:Ext w' w4:=hO4.ext hE3 hX
   have hb4':Blk w4 X (ndV x).toArray 44:=by simpa [Value.cells,ndV,hca] using hb4
   have hrb4:=hrb w4 hE4
   simp -implicitDefEqProofs [rj,r1,hib,hlb',hlt',hlt,hrb4]
   refine eff_alloc z44' fun Y w5 hY hE5 hb5 _=> ?_
   simp -implicitDefEqProofs
   refine eff_storeN (B:=Y) (by simp) hb5 (by simp [Value.cells,ndV,hcb]) (by simp [Value.cells,ndV,hcb,hob]) (by simpa [Value.cells,ndV,hcb] using sz44) fun w6 hO6 hb6=> ?_
   have hb6':Blk w6 Y (ndV y).toArray 44:=by simpa [Value.cells,ndV,hcb] using hb6
   have hE6:Ext w4 w6:=hO6.ext hE5 hY
   have hE06:Ext w w6:=hE.trans' (hE4.trans' hE6)
   have hbX:=hb4'.ext hE6
   have cX:∀q,w6.cell? ⟨X,q,none⟩=(ndV x)[q]? :=fun q=>by rw [hbX.cell];simp
   have cY:∀q,w6.cell? ⟨Y,q,none⟩=(ndV y)[q]? :=fun q=>by rw [hb6'.cell];simp
   have stop:∀(W:World),Ext w W→x.nd≠y.nd→R (.returned (.bool false)) W:=fun W hW h=>by
    rw [←hRR]
    exact ⟨by rw [decide_eq_false (hno h)],hW⟩
   simp -implicitDefEqProofs [-wps_asg, -wps_eff,wa2,we2,cX,cY,ndV,kA.is,kB.is,hka,hkb',mkS_inj]
   rcases Classical.em (x.nd.d.kind=y.nd.d.kind) with h1|h1
   rotate_left
   ·simp -implicitDefEqProofs [h1]
    exact stop _ hE06 fun e=>h1 (by rw [e])
   rcases Classical.em (x.nd.d.name=y.nd.d.name) with h2|h2
   rotate_left
   ·simp -implicitDefEqProofs [h1,h2]
    exact stop _ hE06 fun e=>h2 (by rw [e])
   rcases Classical.em (x.nd.d.vr=y.nd.d.vr) with h3|h3
   rotate_left
   ·simp -implicitDefEqProofs [h1,h2,h3]
    exact stop _ hE06 fun e=>h3 (by rw [e])
   rcases Classical.em (x.nd.d.typ=y.nd.d.typ) with h4|h4
   rotate_left
   ·simp -implicitDefEqProofs [h1,h2,h3,h4]
    exact stop _ hE06 fun e=>h4 (by rw [e])
   rcases Classical.em (x.nd.d.n=y.nd.d.n) with h5|h5
   rotate_left
   ·simp -implicitDefEqProofs [h1,h2,h3,h4,h5]
    exact stop _ hE06 fun e=>h5 (by rw [e])
   rcases Classical.em (x.nd.kids.length=y.nd.kids.length) with h6|h6
   rotate_left
   ·simp -implicitDefEqProofs [h1,h2,h3,h4,h5,h6]
    exact stop _ hE06 fun e=>h6 (by rw [e])
   have h6':(x.nd.kids.length:Int)=(y.nd.kids.length:Int):=by omega
   simp -implicitDefEqProofs [h1,h2,h3,h4,h5,h6,ir20_k4]
   clear hrb hra
   obtain ⟨J,hJ⟩:∃J:Nat→Env→World→Prop,∀q ρ' w',J q ρ' w'↔(ρ' 0=av∧ρ' 1=bv∧ρ' 5= .int .i64 (j:Int)∧ρ' 6= .pointer (some ⟨X,0,none⟩)∧ρ' 7= .pointer (some ⟨Y,0,none⟩)∧Ext w6 w'∧x.nd.kids.take q=y.nd.kids.take q):=⟨_,fun _ _ _=>Iff.rfl⟩
   refine loopC 8 y.nd.kids.length J (by simp) ((hJ _ _ _).2 ⟨by simp [r0],by simp [r1],by simp [rj],by simp,by simp,ext_refl _,by simp⟩) ?_
   rintro q ρ2 w7 hq rq hJw
   obtain ⟨s0,s1,s5,s6,s7,hE7,hqe⟩:=(hJ _ _ _).1 hJw
   have hwq:IntKind.i64.wrap ((q:Int)+1)=(q:Int)+1:=i64w (by omega)
   have hE07:=hE06.trans' hE7
   have d5:w7.cell? ⟨X,5,none⟩=some x.kv:=hE7.cell (by rw [cX];rfl)
   have e5:w7.cell? ⟨Y,5,none⟩=some y.kv:=hE7.cell (by rw [cY];rfl)
   by_cases hqt:q<y.nd.kids.length
   ·have hqt':(q:Int)<(y.nd.kids.length:Int):=by omega
    have hqx:q<x.nd.kids.length:=by omega
    have ca:=(kA.ext hE07).cell q (by simpa using hqx)
    have cb:=(kB.ext hE07).cell q (by simpa using hqt)
    simp only [List.getElem_map,encI] at ca cb
    simp -implicitDefEqProofs [ir20_l3,rq,s6,d5,kA.is,hka,h6,hqt',hqt,ir20_k2,s7,e5,kB.is,hkb',ca,cb]
    intro w8 hE8
    by_cases he:x.nd.kids[q]=y.nd.kids[q]
    ·simp -implicitDefEqProofs [he,ir20_k0,ir20_k1,rq,hwq]
     refine (hJ _ _ _).2 ⟨by simp [s0],by simp [s1],by simp [s5],by simp [s6],by simp [s7],hE7.trans' hE8, ?_⟩
     rw [List.take_succ_eq_append_getElem hqx,List.take_succ_eq_append_getElem hqt,hqe,he]
    ·simp -implicitDefEqProofs [he,ir20_k0]
     exact stop _ (hE07.trans' hE8) fun e=>he (by simp [e])
   ·have hqt':¬(q:Int)<(y.nd.kids.length:Int):=by omega
    rw [List.take_of_length_le (by omega),List.take_of_length_le (by omega)] at hqe
    simp -implicitDefEqProofs [ir20_l3,rq,s6,d5,kA.is,hka,h6,hqt',hqt,ir20_k5,s5,hwj,hlt]
    refine (hI _ _ _).2 ⟨by simp [s0],by simp [s1],hE07, ?_⟩
    rw [htx,hty,List.map_append,List.map_append,heq]
    have:x.nd=y.nd:=by
     have hd:x.nd.d=y.nd.d:=by
      cases hx:x.nd.d;cases hy:y.nd.d
      simp only [hx,hy] at h1 h2 h3 h4 h5
      subst h1 h2 h3 h4 h5
      rfl
     cases hx:x.nd;cases hy:y.nd
     rw [hx,hy] at hd hqe
     simp only at hd hqe
     rw [hd,hqe]
    simp [this]
  ·have hlt':¬(j:Int)<(ys.length:Int):=by omega
   rw [List.take_of_length_le (by omega),List.take_of_length_le (by omega)] at heq
   simp -implicitDefEqProofs [ir20_l7,rj,r0,hia,hla,hne,hlt',hlt,ir20_k8]
   rw [←hRR]
   exact ⟨by rw [decide_eq_true heq],hE⟩
 ·simp -implicitDefEqProofs [ir20,r0,r1,hia,hib,hla,hlb',hne]
  rw [←hRR]
  refine ⟨?_,ext_refl _⟩
  rw [decide_eq_false]
  intro e
  exact hne (by have:=congrArg List.length e;simpa using this)
end
end Go.L02
