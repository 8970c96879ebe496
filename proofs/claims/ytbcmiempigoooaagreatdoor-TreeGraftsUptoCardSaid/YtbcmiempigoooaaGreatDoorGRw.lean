/- Texts of mine for the claims about layer 2 (tree), joined: L02Rw. -/
import Derived.Test.YtbcmiempigoooaaGreatDoorGat
import Derived.Test.YtbcmiempigoooaaGreatDoorCards
import Derived.Test.YtbcmiempigoooaaGreatDoorTie
import Derived.Shelf.LaysM
import Derived.ProofKit
import Derived.OpenShut
import Derived.Carry
import Derived.Lay
import Derived.LaidSub
import Derived.Deep.DeepHandedRow
import Derived.Deep.DeepWitnessRowRef
import Derived.Deep.Strs
import Derived.Deep.SlicePairs
import Derived.Lib.SmallJoins
import Derived.Lib.LaidTab
import Derived.Lib.LaidIn
set_option linter.all false
set_option linter.unusedSimpArgs false
set_option linter.unusedVariables false
namespace Go.Proofs
open Go.Shelf
def Tryz.laysm145_ren:Go.Shelf.Ren:=⟨fun|145=>76|220=>161|219=>230|217=>282|225=>283|224=>284|267=>285|266=>330|314=>331|n=>n,fun|9=>9|4=>4|59=>107|3=>3|5=>5|46=>266|146=>300|51=>285|n=>n,fun|1=>0|n=>n⟩
theorem Tryz.laysm145:Go.Proofs.LaysM.n145 Tryz.prog Tryz.laysm145_ren:={
 mixed:=by kernel_rfl
 f145:=Tryz.func76.trans (congrArg some (by kernel_rfl))
 f217:=Tryz.func282.trans (congrArg some (by kernel_rfl))
 f219:=Tryz.func230.trans (congrArg some (by kernel_rfl))
 f220:=Tryz.func161.trans (congrArg some (by kernel_rfl))
 f224:=Tryz.func284.trans (congrArg some (by kernel_rfl))
 f225:=Tryz.func283.trans (congrArg some (by kernel_rfl))
 f266:=Tryz.func330.trans (congrArg some (by kernel_rfl))
 f267:=Tryz.func285.trans (congrArg some (by kernel_rfl))
 f314:=Tryz.func331.trans (congrArg some (by kernel_rfl))
 t3:=Tryz.underlying3
 a3:=Tryz.isAgg3
 z3:=Tryz.sizeOf3
 v3:=Tryz.zeroValue3
 t4:=Tryz.underlying4
 a4:=Tryz.isAgg4
 z4:=Tryz.sizeOf4
 v4:=Tryz.zeroValue4
 t5:=Tryz.underlying5
 a5:=Tryz.isAgg5
 z5:=Tryz.sizeOf5
 v5:=Tryz.zeroValue5
 t9:=Tryz.underlying9
 a9:=Tryz.isAgg9
 z9:=Tryz.sizeOf9
 v9:=Tryz.zeroValue9
 t46:=Tryz.underlying266
 a46:=Tryz.isAgg266
 z46:=Tryz.sizeOf266
 v46:=Tryz.zeroValue266
 t51:=Tryz.underlying285
 a51:=Tryz.isAgg285
 z51:=Tryz.sizeOf285
 v51:=Tryz.zeroValue285
 t59:=Tryz.underlying107
 a59:=Tryz.isAgg107
 z59:=Tryz.sizeOf107
 v59:=Tryz.zeroValue107
 t146:=Tryz.underlying300
 a146:=Tryz.isAgg300
 z146:=Tryz.sizeOf300
 v146:=Tryz.zeroValue300
 g1:=by kernel_rfl
 i3:=by kernel_rfl
 i4:=by kernel_rfl
 i5:=by kernel_rfl
 i9:=by kernel_rfl
 i46:=by kernel_rfl
 i51:=by kernel_rfl
 i59:=by kernel_rfl
 i146:=by kernel_rfl
 m1:=by kernel_rfl
 s1_3:=fun w h=>Go.Proofs.cell_of_shapedOpen_int (zero:= #[.int .i64 0]) (t:=3) h (of_decide_eq_true (by kernel_rfl)) (by kernel_rfl) rfl (by kernel_rfl) (by kernel_rfl) Tryz.underlying3}
end Go.Proofs
namespace Go.Proofs.YtbcmiempigoooaaGreatDoor
open Go Go.ChangeShapes Go.WideShapes Go.ChangeAt Go.RowKit Go.Eng Go.L02
open Go.L01 (Bs qi G)
open Go.ChangeMaps (open_string)
set_option maxRecDepth 100000
theorem own:ownKnob Tryz.prog.godebug=none:=by kernel_rfl
theorem laidOut:laidOutB Tryz.prog=true:=by kernel_rfl
abbrev laidL:List (String×DataW Unit):=Rows.treeSizesUptoRow.laid
theorem laid_met (os:Os) (args:Array Value):laidMet Tryz.prog laidL ((World.laidAll Tryz.prog os laidL).forCall (fun _ _=>0) ⟨#[],args,[]⟩).memory:=
 laidMet_laidAll args (by kernel_rfl) (by kernel_rfl)
theorem cells5:Tryz.prog.cellsOf 5=1:=by kernel_rfl
theorem cells3:Tryz.prog.cellsOf 3=1:=by kernel_rfl
theorem cells9:Tryz.prog.cellsOf 9=1:=by kernel_rfl
theorem und29:Tryz.prog.underlying 29=some (.slice 44):=by kernel_rfl
theorem und40:Tryz.prog.underlying 40=some (.slice 3):=by kernel_rfl
theorem und5:Tryz.prog.underlying 5=some (.int .u8):=by kernel_rfl
theorem und3:Tryz.prog.underlying 3=some (.int .i64):=by kernel_rfl
theorem und9:Tryz.prog.underlying 9=some .string:=by kernel_rfl
theorem und4:Tryz.prog.underlying 4=some .bool:=by kernel_rfl
theorem maxl_of {W:World} (a:W.ShapedOpen Tryz.prog):zW W:=Go.Proofs.Tryz.laysm145.s1_3 W a
theorem pick {W:World} (h:laidMet Tryz.prog laidL W) (n:String) (d:DataW Unit) (a:(laidL.filter fun x=>x.1==n)=[(n,d)]):laidMet Tryz.prog [(n,d)] W:=by
 have:=h.filter (fun x=>x.1==n)
 rw [a] at this
 exact this
def spTab:List Int:=(List.range 256).map fun c=>if Lib.isSp (UInt8.ofNat c) then 1 else 0
theorem err_cell {W:World} {n:String} {g ti:Nat} {o:Array (String×TypeId)} {d:DataW Unit} (l:Tryz.prog.globalNamed n=some g) (i:(Tryz.prog.globals[g]?).map (·.type)=some ti) (s:Tryz.prog.underlying ti=some (.interface o)) {nm:String} (h:laidMet Tryz.prog [(n, .iface nm d)] W):∃m x,W.cell? ⟨g,0,none⟩=some (.iface m x):=by
 obtain ⟨ps,⟨y,z,cs,k,p,q,j,c,b,t,_,_⟩,_⟩:=h
 obtain rfl:=Option.some.inj (l.symm.trans j)
 obtain rfl:=Option.some.inj (i.symm.trans c)
 obtain ⟨_,u,v,e,_,_⟩:=iface_of_trod s t
 refine ⟨u,v, ?_⟩
 have a:W.var? Tryz.prog n=some #[Value.iface u v]:=by
  rw [b];congr 1;apply Array.ext';simpa using e
 simpa using World.var?_cell l a 0
theorem g_of {W:World} (h:laidMetH Tryz.prog laidL W):G W:=by
 replace h:laidMet Tryz.prog laidL W:=h
 have hsp : Lib.TabIs Tryz.prog W "strings.asciiSpace" .u8 spTab :=
  Lib.tabIs_of_head (rest := []) (g := 3) (by kernel_rfl) (t := _) rfl (e := 5) (n := 256) (by kernel_rfl) und5 cells5 (by kernel_rfl) (pick h "strings.asciiSpace" _ (by kernel_rfl))
 have hpw : Lib.TabIs Tryz.prog W "internal/strconv.uint64pow10" .u64 Lib.pow10Tab :=
  Lib.tabIs_of_head (rest := []) (g := 4) (by kernel_rfl) (t := _) rfl (e := 287) (n := 20) (by kernel_rfl) (by kernel_rfl) (by kernel_rfl) (by kernel_rfl) (pick h "internal/strconv.uint64pow10" _ (by kernel_rfl))
 refine ⟨fun c hc => ?_, hpw, err_cell (n := "strconv.ErrSyntax") (by kernel_rfl) (ti := 126) rfl Tryz.underlying126 (pick h "strconv.ErrSyntax" Rows.laid_strconv_ErrSyntax (by kernel_rfl)), err_cell (n := "strconv.ErrRange") (by kernel_rfl) (ti := 126) rfl Tryz.underlying126 (pick h "strconv.ErrRange" Rows.laid_strconv_ErrRange (by kernel_rfl))⟩
 have:=hsp.cell (g:=3) (by kernel_rfl) c (by simpa [spTab] using hc)
 rw [this]
 simp [spTab,List.getD_eq_getElem?_getD,hc]
theorem mkS_data (s:ByteArray):qc s.data.toList=s:=by
 apply ByteArray.ext;simp [qc]
section
variable {H:Type} {enc:TypeId×Value→H} {W:World}
theorem bulk_one (d:DataW H):1≤Rows.uptoBulk d:=by
 cases d with
 |lit l=>cases l<;>simp [Rows.uptoBulk]
 |nil=>simp [Rows.uptoBulk]
 |ptr d=>simp [Rows.uptoBulk]
 |slice c b=>simp [Rows.uptoBulk]
 |agg e=>simp [Rows.uptoBulk]
 |iface t d=>simp [Rows.uptoBulk]
 |map a=>simp [Rows.uptoBulk]
 |held h=>simp [Rows.uptoBulk]
theorem bulk_len (l:List (DataW H)):l.length≤Rows.uptoBulkAll l:=by
 induction l with
 |nil=>simp [Rows.uptoBulkAll]
 |cons x r a=>have:=bulk_one x;simp only [Rows.uptoBulkAll,List.length_cons];omega
theorem bulk_slice (a b:List (DataW H)):a.length≤Rows.uptoBulk (.slice a b):=by
 have c:=bulk_len a
 simp only [Rows.uptoBulk]
 omega
theorem spot_of {e t:TypeId} {r:Reach} {base:Nat} {a:Addr} {n c:Nat} (b:Tryz.prog.underlying t=some (.slice e)) (h:Cell.okWide Tryz.prog W r base t (.slice (some a) n c)):a.spot=none:=by
 simp only [Cell.okWide,Cell.ok,b] at h
 exact h.2.2.2.1
theorem addr_spot {a:Addr} (h:a.spot=none):∃b o,a=⟨b,o,none⟩:=by
 obtain ⟨b,o,s⟩:=a
 simp only at h
 subst h
 exact ⟨b,o,rfl⟩
theorem add_lit' (b o i:Nat):(⟨b,o,none⟩:Addr).add i=⟨b,o+i,none⟩:=zF b o i
theorem cell_of {t e:TypeId} {base:Nat} {v:Value} (a:Tryz.prog.underlying t=some (.slice e)) (h:Value.okWide Tryz.prog W .any base t v):Cell.okWide Tryz.prog W .any base t v:=by
 simpa only [Value.okWide,a] using h
theorem wf_u8 {n:Int} (h:(Lit.int .u8 n).wf=true):0≤n∧n≤255:=by
 simpa [Lit.wf,IntKind.min,IntKind.max,IntKind.signed,IntKind.bits] using h
theorem wf_i64 {n:Int} (h:(Lit.int .i64 n).wf=true): -9223372036854775808≤n∧n≤9223372036854775807:=by
 simpa [Lit.wf,IntKind.min,IntKind.max,IntKind.signed,IntKind.bits] using h
theorem bulk_mem {d:DataW H} {l:List (DataW H)} (h:d∈l):Rows.uptoBulk d≤Rows.uptoBulkAll l:=by
 induction l with
 |nil=>cases h
 |cons x r a=>
  simp only [Rows.uptoBulkAll]
  cases List.mem_cons.1 h with
  |inl e=>subst e;omega
  |inr e=>have:=a e;omega
def NdB (x:NV):Prop:=x.nd.d.kind<256∧ -9223372036854775808≤x.nd.d.n∧x.nd.d.n≤9223372036854775807
theorem slot0 {a:Addr} {v:Value} (h:W.cell? (a.add 0)=some v):a.spot=none:=by
 have e:a.add 0=a:=by unfold Addr.add;simp
 rw [e] at h
 exact World.cell?_spot h
theorem isSl_wide {a:Addr} {n c:Nat} (h:n≤c) (g:0<c→a.spot=none):qn (.slice (some a) n c)=true:=by
 obtain ⟨b,o,s⟩:=a
 by_cases e:0<c
 ·obtain rfl:s=none:=g e
  simp [qn,h]
 ·obtain rfl:c=0:=by omega
  obtain rfl:n=0:=by omega
  cases s<;>simp [qn]
theorem openI {n:Nat} {v:Value} {y:DataW H×List MemPlace} (c:Rows.uptoBulk y.1≤1048576) (h:DataW.trod enc Tryz.prog W 0 (fun _=>true) true n 40 [v]=some y):∃m:List Int,Cells W v 1 (m.map Eng.encI)∧m.length≤1048576:=by
 rcases open_ints und40 und3 cells3 h with ⟨e,_⟩|⟨a,len,cap,zs,e,_,p,z,x,t,l,A⟩
 ·simp at e;subst e;exact ⟨[],⟨rfl,rfl,fun j g=>by simp at g⟩,by simp⟩
 ·simp at e;subst e
  simp at x
  have k:=bulk_slice (H:=H) (lits .i64 (zs.take len)) (lits .i64 (zs.drop len))
  rw [t] at c
  simp only [lits,List.length_map,List.length_take] at k c
  by_cases s:0<cap
  ·obtain ⟨b,o,rfl⟩:=addr_spot (slot0 (l 0 (by omega)))
   refine ⟨zs.take len,⟨by simp [qn,p],by simp [qk];omega,fun i u=> ?_⟩,by simp;omega⟩
   simp at u
   have:=l i (by omega)
   rw [add_lit'] at this
   simp [qJ,this,Eng.encI,List.getD_eq_getElem?_getD,show i<zs.length by omega]
  ·have:len=0:=by omega
   subst this
   exact ⟨[],⟨isSl_wide p (fun h=>absurd h s),rfl,fun j g=>by simp at g⟩,by simp⟩
theorem cells44:Tryz.prog.cellsOf 44=6:=by kernel_rfl
theorem cells40:Tryz.prog.cellsOf 40=1:=by kernel_rfl
theorem und44:∃b g h a e c:Field,Tryz.prog.underlying 44=some (.struct #[b,g,h,a,e,c])∧b.type=5∧g.type=9∧h.type=9∧a.type=9∧e.type=3∧c.type=40∧b.offset=0∧g.offset=1∧h.offset=2∧a.offset=3∧e.offset=4∧c.offset=5:=
 ⟨_,_,_,_,_,_,Tryz.underlying44,rfl,rfl,rfl,rfl,rfl,rfl,rfl,rfl,rfl,rfl,rfl,rfl⟩
theorem undK:Tryz.prog.underlying 5=some (.int .u8):=by kernel_rfl
theorem cellsK:Tryz.prog.cellsOf 5=1:=by kernel_rfl
theorem struct6 {t:TypeId} {i e l b c j:Field} {g:Nat} {cs:List Value} {x:DataW H×List MemPlace} (y:Tryz.prog.underlying t=some (.struct #[i,e,l,b,c,j])) (h:DataW.trod enc Tryz.prog W 0 (fun _=>true) true g t cs=some x):
  ∃u p s o v m n,x.1= .agg [u.1,p.1,s.1,o.1,v.1,m.1]∧cs.length=Tryz.prog.cellsOf t∧DataW.trod enc Tryz.prog W 0 (fun _=>true) true n i.type ((cs.drop i.offset).take (Tryz.prog.cellsOf i.type))=some u∧
   DataW.trod enc Tryz.prog W 0 (fun _=>true) true n e.type ((cs.drop e.offset).take (Tryz.prog.cellsOf e.type))=some p∧DataW.trod enc Tryz.prog W 0 (fun _=>true) true n l.type ((cs.drop l.offset).take (Tryz.prog.cellsOf l.type))=some s∧
   DataW.trod enc Tryz.prog W 0 (fun _=>true) true n b.type ((cs.drop b.offset).take (Tryz.prog.cellsOf b.type))=some o∧DataW.trod enc Tryz.prog W 0 (fun _=>true) true n c.type ((cs.drop c.offset).take (Tryz.prog.cellsOf c.type))=some v∧
   DataW.trod enc Tryz.prog W 0 (fun _=>true) true n j.type ((cs.drop j.offset).take (Tryz.prog.cellsOf j.type))=some m:=by
 obtain ⟨xs,n,_,rfl,z,k,a⟩:=DataW.trod_struct y h
 match xs,k with
 |[u,p,s,o,v,m],_=>exact ⟨u,p,s,o,v,m,n,by simp,z,by simpa using a 0 i rfl,by simpa using a 1 e rfl,by simpa using a 2 l rfl,by simpa using a 3 b rfl,by simpa using a 4 c rfl,by simpa using a 5 j rfl⟩
theorem openNode {n:Nat} {cs:List Value} {y:DataW H×List MemPlace} (g:Rows.uptoBulk y.1≤1048576) (h:DataW.trod enc Tryz.prog W 0 (fun _=>true) true n 44 cs=some y):∃x:NV,cs=qe x∧Cells W x.kv 1 (x.nd.kids.map Eng.encI)∧NdB x∧x.nd.kids.length≤1048576:=by
 obtain ⟨f0,f1,f2,Y,f4,f5,E,t0,O,X,t3,t4,t5,V,o1,o2,C,o4,R⟩:=und44
 obtain ⟨y0,y1,y2,Z,y4,F,k,L,B,j,k1,k2,k3,k4,o⟩:=struct6 E h
 rw [cells44] at B
 rw [L] at g
 have p:Rows.uptoBulk F.1≤1048576:=by
  simp only [Rows.uptoBulk,Rows.uptoBulkAll] at g
  omega
 match cs,B with
 |[a,b,c,d,e,f],_=>
  rw [t0,V,cellsK] at j
  rw [O,o1,cells9] at k1
  rw [X,o2,cells9] at k2
  rw [t3,C,cells9] at k3
  rw [t4,o4,cells3] at k4
  rw [t5,R,cells40] at o
  simp at j k1 k2 k3 k4 o
  obtain ⟨z,u,_,P⟩:=DataW.trod_int undK j
  obtain ⟨K,t,_,_⟩:=DataW.trod_string und9 k1
  obtain ⟨J,s,_,_⟩:=DataW.trod_string und9 k2
  obtain ⟨S,A,_,_⟩:=DataW.trod_string und9 k3
  obtain ⟨m,v,_,Q⟩:=DataW.trod_int und3 k4
  obtain ⟨I,i,l⟩:=openI p o
  simp at u t s A v
  have hz:=wf_u8 P
  have U:=wf_i64 Q
  refine ⟨⟨⟨{kind:=z.toNat,name:=K.data.toList,vr:=J.data.toList,typ:=S.data.toList,n:=m},I⟩,f⟩, ?_,i, ?_,l⟩
  ·rw [u,t,s,A,v]
   simp only [qe,mkS_data]
   simp only [List.cons.injEq,Value.int.injEq,true_and,and_true]
   omega
  ·refine ⟨?_,U⟩
   show z.toNat<256
   omega
theorem openNodes {base:Nat} {v:Value} {d:DataW H} {p:List MemPlace} (E:Rows.uptoBulk d≤1048576) (V:Value.okWide Tryz.prog W .any base 29 v) (h:DataW.Trod enc Tryz.prog W 0 (fun _=>true) true 29 v d p):∃xs:List NV,Rd W v xs∧(∀x∈xs,NdB x)∧(∀x∈xs,x.nd.kids.length<4611686018427387904)∧xs.length<4611686018427387904:=by
 obtain ⟨a0,l0,c0,rfl⟩:=okWide_slice und29 V
 have P:∀a,a0=some a→a.spot=none:=fun a e=>by subst e;exact spot_of und29 (cell_of und29 V)
 obtain ⟨n,Y⟩:=h
 rcases Go.Deep.open_slice und29 Y with ⟨s,_⟩|⟨a,len,cap,m,k,D,Pl,s,_,hl,hm,A,Z,c⟩
 ·simp [Value.cells] at s
  obtain ⟨rfl,rfl,rfl⟩:=s
  exact ⟨[],⟨⟨rfl,rfl,fun j u=>by simp [qZ] at u⟩,fun x c=>by cases c⟩,by simp,by simp,by simp⟩
 ·simp [Value.cells] at s
  obtain ⟨rfl,rfl,rfl⟩:=s
  obtain ⟨b,o,rfl⟩:=addr_spot (P _ rfl)
  simp at A
  subst A
  rw [cells44] at c
  have hd:d= .slice ((List.range l0).map D) ((List.range (m - l0)).map fun j=>D (l0+j)):=congrArg Prod.fst Z
  subst hd
  have K:=bulk_slice ((List.range l0).map D) ((List.range (m - l0)).map fun j=>D (l0+j))
  simp only [List.length_map,List.length_range] at K
  have B:∀i,∃x:NV,i<l0→(∀j,j<6→W.cell? ⟨b,o+(i*6+j),none⟩=(qe x)[j]?)∧Cells W x.kv 1 (x.nd.kids.map Eng.encI)∧NdB x∧x.nd.kids.length≤1048576:=by
   intro i
   by_cases t:i<l0
   ·obtain ⟨cs,I,X⟩:=c i (by omega)
    have F:Rows.uptoBulk (D i)≤1048576:=by
     have s:=bulk_mem (d:=D i) (l:=(List.range l0).map D) (List.mem_map.2 ⟨i,List.mem_range.2 t,rfl⟩)
     simp only [Rows.uptoBulk] at E
     omega
    obtain ⟨x,rfl,J,L,R⟩:=openNode (y:=(D i,Pl i)) F X
    obtain ⟨_,_,z⟩:=World.cells?_some I
    refine ⟨x,fun _=>⟨fun j u=> ?_,J,L,R⟩⟩
    have hj6:j<(qe x).length:=u
    have g:=z j (by simpa using u)
    simp only [add_lit'] at g
    simpa [Nat.add_assoc] using g
   ·exact ⟨⟨⟨{kind:=0},[]⟩, .slice none 0 0⟩,fun h=>absurd h t⟩
  obtain ⟨f,C⟩:=Classical.axiomOfChoice B
  refine ⟨(List.range l0).map f,⟨⟨by simp [qn,hl],by simp [z6,qk],fun j u=> ?_⟩,fun x c=> ?_⟩,fun x c=> ?_,fun x c=> ?_,by simp;omega⟩
  ·rw [z6] at u
   simp at u
   have U:j / 6<l0:=by omega
   have S:j%6<6:=Nat.mod_lt _ (by decide)
   have Q:j / 6*6+j%6=j:=by omega
   have s:=(C (j / 6) U).1 (j%6) S
   have O:=qlq (xs:=(List.range l0).map f) (k:=j / 6) (j:=j%6) (by simpa using U) S
   rw [Q] at s O
   simp at O
   simp only [qJ,add_lit']
   rw [s,←O,List.getElem?_eq_getElem]
  ·obtain ⟨i,t,rfl⟩:=List.mem_map.1 c
   exact (C i (List.mem_range.1 t)).2.1
  ·obtain ⟨i,t,rfl⟩:=List.mem_map.1 c
   exact (C i (List.mem_range.1 t)).2.2.1
  ·obtain ⟨i,t,rfl⟩:=List.mem_map.1 c
   have:=(C i (List.mem_range.1 t)).2.2.2
   omega
end
theorem below_trodAll {H:Type} {enc:TypeId×Value→H} {W W':World} (j:Below W.heap.size W W'):∀{g:List TypeId} {vs:List Value} {ds:List (DataW H)} {ps:List MemPlace},
  (∀t∈g,Tryz.prog.readableRec t=true∧t<Tryz.prog.types.size)→DataW.TrodAll enc Tryz.prog W 0 (fun _=>true) true g vs ds ps→(∀x∈ps,x.block<W.heap.size)→DataW.TrodAll enc Tryz.prog W' 0 (fun b=>decide (b<W.heap.size)) true g vs ds ps
 |[],[],[],_,_,h,_=>h
 |_::_,_::_,_::_,_,i,⟨p,q,l,m,e⟩,a=>
  ⟨p,q,Below.trod laidOut (i _ (by simp)).1 (i _ (by simp)).2 l j (fun x c=>a x (by rw [e];exact List.mem_append_left _ c)),below_trodAll j (fun t k=>i t (List.mem_cons_of_mem _ k)) m (fun x c=>a x (by rw [e];exact List.mem_append_right _ c)),e⟩
theorem row_post {H:Type} {enc:TypeId×Value→H} {fn:Func} {s:ChangeSpec} {W:World} {args:Array Value} {ds C:List (DataW H)} {a:List MemPlace} {f:FuncId}
  (y:s.vars=[]) (A:fn.resultTypes= #[4]) (B:∀t∈fn.params.toList,Tryz.prog.readableRec t=true∧t<Tryz.prog.types.size)
  (k:∀l:List (DataW H),l.length=fn.params.size→s.fn H l={results:=[.lit (.bool true)],args:=l})
  (n:DataW.Whole enc Tryz.prog fn.params.toList s.vars false W args.toList ds C a)
  (z:Calls Tryz.prog f args W fun e w'=>e= .returned (.bool true)∧qb W w'):
  Calls Tryz.prog f args W fun e W'=>∃v,e= .returned v∧s.post enc Tryz.prog fn false true false false W args v W':=by
 refine z.mono ?_
 rintro e W' ⟨rfl,o⟩
 have c:=n
 obtain ⟨p,q,u,m,rfl,_,_⟩:=n
 rw [y] at m
 obtain ⟨rfl,rfl⟩:=trodVars_none m
 have g:ds.length=fn.params.size:=by
  have key:∀{b:List TypeId} {vs:List Value} {ds:List (DataW H)} {ps:List MemPlace},DataW.TrodAll enc Tryz.prog W 0 (fun _=>true) true b vs ds ps→ds.length=b.length:=by
   intro b
   induction b with
   |nil=>intro vs ds ps h;cases vs<;>cases ds<;>first|rfl|cases h
   |cons t b E=>
    intro vs ds ps h
    cases vs<;>cases ds<;>first|(cases h;done)|skip
    obtain ⟨p,q,_,F,_⟩:=h
    simp [E F]
  simpa using key u
 have i:∀x∈p,x.block<W.heap.size:=fun x I=>c.lt x (by simpa using I)
 have j:=k (ds++[]) (by simpa using g)
 refine ⟨_,rfl,ds,[],p++[],[],p,[],c, ?_, ?_, ?_,o.frame _,fun h=>by cases h⟩
 ·rw [j,A];exact trodAll_mk1 (shut_bool und4 _)
 ·rw [j];simpa using below_trodAll o B u i
 ·rw [j,y];rfl
end Go.Proofs.YtbcmiempigoooaaGreatDoor
