/- Texts of mine for the claims about layer 2 (tree), joined: L02Rw. -/
import Derived.Test.YtbcmiempigoooaaGreatDoorEau
import Derived.Test.YtbcmiempigoooaaGreatDoorCards
import Derived.Test.YtbcmiempigoooaaGreatDoorTie
import Derived.Shelf.LaysM
import Derived.ProofKit
import Derived.OpenShut
import Derived.Carry
import Derived.Lay
import Derived.LaidSub
import Derived.Deep.DeepHandedRow
import Derived.Deep.DeepWitnessRowRef
import Derived.Deep.Strs
import Derived.Deep.SlicePairs
import Derived.Lib.SmallJoins
import Derived.Lib.LaidTab
import Derived.Lib.LaidIn
set_option linter.all false
set_option linter.unusedSimpArgs false
set_option linter.unusedVariables false
namespace Go.Proofs
open Go.Shelf
def Tryz.laysm145_ren:Go.Shelf.Ren:=⟨fun|145=>76|220=>161|219=>230|217=>282|225=>283|224=>284|267=>285|266=>330|314=>331|n=>n,fun|9=>9|4=>4|59=>107|3=>3|5=>5|46=>266|146=>300|51=>285|n=>n,fun|1=>0|n=>n⟩
def Tryz.laysm145:Go.Proofs.LaysM.n145 Tryz.prog Tryz.laysm145_ren:={
 mixed:=by kernel_rfl
 f145:=Tryz.func76.trans (congrArg some (by kernel_rfl))
 f217:=Tryz.func282.trans (congrArg some (by kernel_rfl))
 f219:=Tryz.func230.trans (congrArg some (by kernel_rfl))
 f220:=Tryz.func161.trans (congrArg some (by kernel_rfl))
 f224:=Tryz.func284.trans (congrArg some (by kernel_rfl))
 f225:=Tryz.func283.trans (congrArg some (by kernel_rfl))
 f266:=Tryz.func330.trans (congrArg some (by kernel_rfl))
 f267:=Tryz.func285.trans (congrArg some (by kernel_rfl))
 f314:=Tryz.func331.trans (congrArg some (by kernel_rfl))
 t3:=Tryz.underlying3
 a3:=Tryz.isAgg3
 z3:=Tryz.sizeOf3
 v3:=Tryz.zeroValue3
 t4:=Tryz.underlying4
 a4:=Tryz.isAgg4
 z4:=Tryz.sizeOf4
 v4:=Tryz.zeroValue4
 t5:=Tryz.underlying5
 a5:=Tryz.isAgg5
 z5:=Tryz.sizeOf5
 v5:=Tryz.zeroValue5
 t9:=Tryz.underlying9
 a9:=Tryz.isAgg9
 z9:=Tryz.sizeOf9
 v9:=Tryz.zeroValue9
 t46:=Tryz.underlying266
 a46:=Tryz.isAgg266
 z46:=Tryz.sizeOf266
 v46:=Tryz.zeroValue266
 t51:=Tryz.underlying285
 a51:=Tryz.isAgg285
 z51:=Tryz.sizeOf285
 v51:=Tryz.zeroValue285
 t59:=Tryz.underlying107
 a59:=Tryz.isAgg107
 z59:=Tryz.sizeOf107
 v59:=Tryz.zeroValue107
 t146:=Tryz.underlying300
 a146:=Tryz.isAgg300
 z146:=Tryz.sizeOf300
 v146:=Tryz.zeroValue300
 g1:=by kernel_rfl
 i3:=by kernel_rfl
 i4:=by kernel_rfl
 i5:=by kernel_rfl
 i9:=by kernel_rfl
 i46:=by kernel_rfl
 i51:=by kernel_rfl
 i59:=by kernel_rfl
 i146:=by kernel_rfl
 m1:=by kernel_rfl
 s1_3:=fun w h=>Go.Proofs.cell_of_shapedOpen_int (zero:=#[.int .i64 0]) (t:=3) h (Vr (by kernel_rfl)) (by kernel_rfl) rfl (by kernel_rfl) (by kernel_rfl) Tryz.underlying3}
end Go.Proofs
namespace Go.Proofs.YtbcmiempigoooaaGreatDoor
open Go Go.ChangeShapes Go.WideShapes Go.ChangeAt Go.RowKit Go.Eng Go.L02
open Go.L01 (Bs qi G)
open Go.ChangeMaps (open_string)
set_option maxRecDepth 100000
theorem own:ownKnob Tryz.prog.godebug=none:=by kernel_rfl
theorem laidOut:laidOutB Tryz.prog=true:=by kernel_rfl
abbrev laidL:List (String×DataW Unit):=Rows.treeSizesUptoRow.laid
def laid_met (os:Os) (args:Array Value):laidMet Tryz.prog laidL ((World.laidAll Tryz.prog os laidL).forCall (fun _ _=>0) ⟨#[],args,[]⟩).memory:=
 laidMet_laidAll args (by kernel_rfl) (by kernel_rfl)
theorem cells5:Tryz.prog.cellsOf 5=1:=by kernel_rfl
theorem cells3:Tryz.prog.cellsOf 3=1:=by kernel_rfl
theorem cells9:Tryz.prog.cellsOf 9=1:=by kernel_rfl
theorem und29:Tryz.prog.underlying 29=some (.slice 44):=by kernel_rfl
theorem und40:Tryz.prog.underlying 40=some (.slice 3):=by kernel_rfl
theorem und5:Tryz.prog.underlying 5=some (.int .u8):=by kernel_rfl
theorem und3:Tryz.prog.underlying 3=some (.int .i64):=by kernel_rfl
theorem und9:Tryz.prog.underlying 9=some .string:=by kernel_rfl
theorem und4:Tryz.prog.underlying 4=some .bool:=by kernel_rfl
def maxl_of {W:World} (a:W.ShapedOpen Tryz.prog):kF W:=Go.Proofs.Tryz.laysm145.s1_3 W a
def pick {W:World} (h:laidMet Tryz.prog laidL W) (n:String) (d:DataW Unit) (a:(laidL.filter fun x=>x.1==n)=[(n,d)]):laidMet Tryz.prog [(n,d)] W:=by
 have:=h.filter (fun x=>x.1==n)
 rw [a] at this
 exact this
def spTab:List Int:=(List.range 256).map fun c=>if Lib.isSp (UInt8.ofNat c) then 1 else 0
def err_cell {W:World} {n:String} {g ti:Nat} {s:Array (String×TypeId)} {d:DataW Unit} (k:Tryz.prog.globalNamed n=some g) (e:(Tryz.prog.globals[g]?).map (·.type)=some ti) (t:Tryz.prog.underlying ti=some (.interface s)) {nm:String} (h:laidMet Tryz.prog [(n,.iface nm d)] W):∃x m,W.cell? ⟨g,0,none⟩=some (.iface x m):=by
 obtain ⟨ps,⟨z,y,cs,l,p,q,j,i,b,o,_,_⟩,_⟩:=h
 obtain rfl:=Jp (k.symm.trans j)
 obtain rfl:=Jp (e.symm.trans i)
 obtain ⟨_,u,v,c,_,_⟩:=iface_of_trod t o
 refine ⟨u,v, ?_⟩
 have a:W.var? Tryz.prog n=some #[Value.iface u v]:=by
  rw [b];congr 1;apply JF;simpa using c
 simpa using World.var?_cell k a 0
def g_of {W:World} (h:laidMetH Tryz.prog laidL W):G W:=by
 replace h:laidMet Tryz.prog laidL W:=h
 have hsp : Lib.TabIs Tryz.prog W "strings.asciiSpace" .u8 spTab :=
  Lib.tabIs_of_head (rest := []) (g := 3) (by kernel_rfl) (t := _) rfl (e := 5) (n := 256) (by kernel_rfl) und5 cells5 (by kernel_rfl) (pick h "strings.asciiSpace" _ (by kernel_rfl))
 have hpw : Lib.TabIs Tryz.prog W "internal/strconv.uint64pow10" .u64 Lib.pow10Tab :=
  Lib.tabIs_of_head (rest := []) (g := 4) (by kernel_rfl) (t := _) rfl (e := 287) (n := 20) (by kernel_rfl) (by kernel_rfl) (by kernel_rfl) (by kernel_rfl) (pick h "internal/strconv.uint64pow10" _ (by kernel_rfl))
 refine ⟨fun c hc => ?_, hpw, err_cell (n := "strconv.ErrSyntax") (by kernel_rfl) (ti := 126) rfl Tryz.underlying126 (pick h "strconv.ErrSyntax" Rows.laid_strconv_ErrSyntax (by kernel_rfl)), err_cell (n := "strconv.ErrRange") (by kernel_rfl) (ti := 126) rfl Tryz.underlying126 (pick h "strconv.ErrRange" Rows.laid_strconv_ErrRange (by kernel_rfl))⟩
 have:=hsp.cell (g:=3) (by kernel_rfl) c (by simpa [spTab] using hc)
 rw [this]
 simp [spTab,uW,hc]
def mkS_data (s:ByteArray):qb s.data.toList=s:=by
 apply JO;simp [qb]
section
variable {H:Type} {enc:TypeId×Value->H} {W:World}
theorem bulk_one (d:DataW H):1<=Rows.uptoBulk d:=by
 cases d with
 |lit l=>cases l<;>simp [Rows.uptoBulk]
 |nil=>simp [Rows.uptoBulk]
 |ptr d=>simp [Rows.uptoBulk]
 |slice c b=>simp [Rows.uptoBulk]
 |agg e=>simp [Rows.uptoBulk]
 |iface t d=>simp [Rows.uptoBulk]
 |map a=>simp [Rows.uptoBulk]
 |held h=>simp [Rows.uptoBulk]
theorem bulk_len (l:List (DataW H)):l.length<=Rows.uptoBulkAll l:=by
 induction l with
 |nil=>simp [Rows.uptoBulkAll]
 |cons x r a=>have:=bulk_one x;simp only [Rows.uptoBulkAll,List.length_cons];omega
theorem bulk_slice (a b:List (DataW H)):a.length<=Rows.uptoBulk (.slice a b):=by
 have c:=bulk_len a
 simp only [Rows.uptoBulk]
 omega
theorem spot_of {e t:TypeId} {r:Reach} {base:Nat} {a:Addr} {n c:Nat} (b:Tryz.prog.underlying t=some (.slice e)) (h:Cell.okWide Tryz.prog W r base t (.slice (some a) n c)):a.spot=none:=by
 simp only [Cell.okWide,Cell.ok,b] at h
 exact h.2.2.2.1
theorem addr_spot {a:Addr} (h:a.spot=none):∃b o,a=⟨b,o,none⟩:=by
 obtain ⟨b,o,s⟩:=a
 simp only at h
 subst h
 exact ⟨b,o,rfl⟩
theorem add_lit' (b o i:Nat):(⟨b,o,none⟩:Addr).add i=⟨b,o+i,none⟩:=kg b o i
theorem cell_of {t e:TypeId} {base:Nat} {v:Value} (a:Tryz.prog.underlying t=some (.slice e)) (h:Value.okWide Tryz.prog W .any base t v):Cell.okWide Tryz.prog W .any base t v:=by
 simpa only [Value.okWide,a] using h
theorem wf_u8 {n:Int} (h:(Lit.int .u8 n).wf=true):0<=n/\n<=255:=by
 simpa [Lit.wf,IntKind.min,IntKind.max,IntKind.signed,IntKind.bits] using h
theorem wf_i64 {n:Int} (h:(Lit.int .i64 n).wf=true): -9223372036854775808<=n/\n<=9223372036854775807:=by
 simpa [Lit.wf,IntKind.min,IntKind.max,IntKind.signed,IntKind.bits] using h
theorem bulk_mem {d:DataW H} {l:List (DataW H)} (h:d∈l):Rows.uptoBulk d<=Rows.uptoBulkAll l:=by
 induction l with
 |nil=>cases h
 |cons x r a=>
  simp only [Rows.uptoBulkAll]
  cases wh.1 h with
  |inl e=>subst e;omega
  |inr e=>have:=a e;omega
def NdB (x:NV):Prop:=x.nd.d.kind<256/\ -9223372036854775808<=x.nd.d.n/\x.nd.d.n<=9223372036854775807
theorem slot0 {a:Addr} {v:Value} (h:W.cell? (a.add 0)=some v):a.spot=none:=by
 have e:a.add 0=a:=by unfold Addr.add;simp
 rw [e] at h
 exact World.cell?_spot h
theorem isSl_wide {a:Addr} {n c:Nat} (h:n<=c) (e:0<c->a.spot=none):qu (.slice (some a) n c)=true:=by
 obtain ⟨b,o,s⟩:=a
 by_cases g:0<c
 ·obtain rfl:s=none:=e g
  simp [qu,h]
 ·obtain rfl:c=0:=by omega
  obtain rfl:n=0:=by omega
  cases s<;>simp [qu]
theorem openI {n:Nat} {v:Value} {y:DataW H×List MemPlace} (e:Rows.uptoBulk y.1<=1048576) (h:DataW.trod enc Tryz.prog W 0 (fun _=>true) true n 40 [v]=some y):∃m:List Int,Cells W v 1 (m.map Eng.encI)/\m.length<=1048576:=by
 rcases open_ints und40 und3 cells3 h with ⟨c,_⟩|⟨a,len,cap,zs,c,_,l,A,u,s,p,z⟩
 ·simp at c;subst c;exact ⟨[],⟨rfl,rfl,fun j g=>by simp at g⟩,by simp⟩
 ·simp at c;subst c
  simp at u
  have k:=bulk_slice (H:=H) (lits .i64 (zs.take len)) (lits .i64 (zs.drop len))
  rw [s] at e
  simp only [lits,uh,uF] at k e
  by_cases x:0<cap
  ·obtain ⟨b,o,rfl⟩:=addr_spot (slot0 (p 0 (by omega)))
   refine ⟨zs.take len,⟨by simp [qu,l],by simp [ql];omega,fun i t=>?_⟩,by simp;omega⟩
   simp at t
   have:=p i (by omega)
   rw [add_lit'] at this
   simp [qQ,this,Eng.encI,uW,show i<zs.length by omega]
  ·have:len=0:=by omega
   subst this
   exact ⟨[],⟨isSl_wide l (fun h=>absurd h x),rfl,fun j g=>by simp at g⟩,by simp⟩
theorem cells44:Tryz.prog.cellsOf 44=6:=by kernel_rfl
theorem cells40:Tryz.prog.cellsOf 40=1:=by kernel_rfl
theorem und44:∃e g b a c f5:Field,Tryz.prog.underlying 44=some (.struct #[e,g,b,a,c,f5])/\e.type=5/\g.type=9/\b.type=9/\a.type=9/\c.type=3/\f5.type=40/\e.offset=0/\g.offset=1/\b.offset=2/\a.offset=3/\c.offset=4/\f5.offset=5:=
 ⟨_,_,_,_,_,_,Tryz.underlying44,rfl,rfl,rfl,rfl,rfl,rfl,rfl,rfl,rfl,rfl,rfl,rfl⟩
theorem undK:Tryz.prog.underlying 5=some (.int .u8):=by kernel_rfl
theorem cellsK:Tryz.prog.cellsOf 5=1:=by kernel_rfl
theorem struct6 {t:TypeId} {e i k j c f5:Field} {g:Nat} {cs:List Value} {x:DataW H×List MemPlace} (y:Tryz.prog.underlying t=some (.struct #[e,i,k,j,c,f5])) (h:DataW.trod enc Tryz.prog W 0 (fun _=>true) true g t cs=some x):
  ∃m u s o l p n,x.1=.agg [m.1,u.1,s.1,o.1,l.1,p.1]/\cs.length=Tryz.prog.cellsOf t/\DataW.trod enc Tryz.prog W 0 (fun _=>true) true n e.type ((cs.drop e.offset).take (Tryz.prog.cellsOf e.type))=some m/\
   DataW.trod enc Tryz.prog W 0 (fun _=>true) true n i.type ((cs.drop i.offset).take (Tryz.prog.cellsOf i.type))=some u/\DataW.trod enc Tryz.prog W 0 (fun _=>true) true n k.type ((cs.drop k.offset).take (Tryz.prog.cellsOf k.type))=some s/\
   DataW.trod enc Tryz.prog W 0 (fun _=>true) true n j.type ((cs.drop j.offset).take (Tryz.prog.cellsOf j.type))=some o/\DataW.trod enc Tryz.prog W 0 (fun _=>true) true n c.type ((cs.drop c.offset).take (Tryz.prog.cellsOf c.type))=some l/\
   DataW.trod enc Tryz.prog W 0 (fun _=>true) true n f5.type ((cs.drop f5.offset).take (Tryz.prog.cellsOf f5.type))=some p:=by
 obtain ⟨xs,n,_,rfl,v,b,a⟩:=DataW.trod_struct y h
 match xs,b with
 |[m,u,s,o,l,p],_=>exact ⟨m,u,s,o,l,p,n,by simp,v,by simpa using a 0 e rfl,by simpa using a 1 i rfl,by simpa using a 2 k rfl,by simpa using a 3 j rfl,by simpa using a 4 c rfl,by simpa using a 5 f5 rfl⟩
theorem openNode {n:Nat} {cs:List Value} {y:DataW H×List MemPlace} (g:Rows.uptoBulk y.1<=1048576) (h:DataW.trod enc Tryz.prog W 0 (fun _=>true) true n 44 cs=some y):∃x:NV,cs=qk x/\Cells W x.kv 1 (x.nd.kids.map Eng.encI)/\NdB x/\x.nd.kids.length<=1048576:=by
 obtain ⟨f0,f1,f2,f3,f4,f5,O,t0,X,Q,t3,t4,t5,V,o1,o2,S,o4,E⟩:=und44
 obtain ⟨Z,y1,y2,y3,Y,K,k,P,s,j,k1,k2,k3,k4,i⟩:=struct6 O h
 rw [cells44] at s
 rw [P] at g
 have o:Rows.uptoBulk K.1<=1048576:=by
  simp only [Rows.uptoBulk,Rows.uptoBulkAll] at g
  omega
 match cs,s with
 |[a,b,c,d,e,f],_=>
  rw [t0,V,cellsK] at j
  rw [X,o1,cells9] at k1
  rw [Q,o2,cells9] at k2
  rw [t3,S,cells9] at k3
  rw [t4,o4,cells3] at k4
  rw [t5,E,cells40] at i
  simp at j k1 k2 k3 k4 i
  obtain ⟨z,B,_,F⟩:=DataW.trod_int undK j
  obtain ⟨L,A,_,_⟩:=DataW.trod_string und9 k1
  obtain ⟨C,v,_,_⟩:=DataW.trod_string und9 k2
  obtain ⟨I,u,_,_⟩:=DataW.trod_string und9 k3
  obtain ⟨m,t,_,R⟩:=DataW.trod_int und3 k4
  obtain ⟨J,p,l⟩:=openI o i
  simp at B A v u t
  have hz:=wf_u8 F
  have U:=wf_i64 R
  refine ⟨⟨⟨{kind:=z.toNat,name:=L.data.toList,vr:=C.data.toList,typ:=I.data.toList,n:=m},J⟩,f⟩, ?_,p, ?_,l⟩
  ·rw [B,A,v,u,t]
   simp only [qk,mkS_data]
   simp only [uM,Value.int.injEq,true_and,Jq]
   omega
  ·refine ⟨?_,U⟩
   show z.toNat<256
   omega
theorem openNodes {base:Nat} {v:Value} {d:DataW H} {p:List MemPlace} (Q:Rows.uptoBulk d<=1048576) (S:Value.okWide Tryz.prog W .any base 29 v) (h:DataW.Trod enc Tryz.prog W 0 (fun _=>true) true 29 v d p):∃xs:List NV,Rd W v xs/\(∀x∈xs,NdB x)/\(∀x∈xs,x.nd.kids.length<4611686018427387904)/\xs.length<4611686018427387904:=by
 obtain ⟨a0,l0,c0,rfl⟩:=okWide_slice und29 S
 have L:∀a,a0=some a->a.spot=none:=fun a e=>by subst e;exact spot_of und29 (cell_of und29 S)
 obtain ⟨n,Y⟩:=h
 rcases Go.Deep.open_slice und29 Y with ⟨s,_⟩|⟨a,len,cap,m,k,D,Pl,s,_,X,hm,A,hy,c⟩
 ·simp [Value.cells] at s
  obtain ⟨rfl,rfl,rfl⟩:=s
  exact ⟨[],⟨⟨rfl,rfl,fun j z=>by simp [jH] at z⟩,fun x c=>by cases c⟩,by simp,by simp,by simp⟩
 ·simp [Value.cells] at s
  obtain ⟨rfl,rfl,rfl⟩:=s
  obtain ⟨b,o,rfl⟩:=addr_spot (L _ rfl)
  simp at A
  subst A
  rw [cells44] at c
  have Z:d=.slice ((List.range l0).map D) ((List.range (m - l0)).map fun j=>D (l0+j)):=congrArg Prod.fst hy
  subst Z
  have P:=bulk_slice ((List.range l0).map D) ((List.range (m - l0)).map fun j=>D (l0+j))
  simp only [uh,List.length_range] at P
  have B:∀i,∃x:NV,i<l0->(∀j,j<6->W.cell? ⟨b,o+(i*6+j),none⟩=(qk x)[j]?)/\Cells W x.kv 1 (x.nd.kids.map Eng.encI)/\NdB x/\x.nd.kids.length<=1048576:=by
   intro i
   by_cases t:i<l0
   ·obtain ⟨cs,J,ht⟩:=c i (by omega)
    have F:Rows.uptoBulk (D i)<=1048576:=by
     have s:=bulk_mem (d:=D i) (l:=(List.range l0).map D) (un.2 ⟨i,JJ.2 t,rfl⟩)
     simp only [Rows.uptoBulk] at Q
     omega
    obtain ⟨x,rfl,I,R,E⟩:=openNode (y:=(D i,Pl i)) F ht
    obtain ⟨_,_,u⟩:=World.cells?_some J
    refine ⟨x,fun _=>⟨fun j z=>?_,I,R,E⟩⟩
    have hj6:j<(qk x).length:=z
    have g:=u j (by simpa using z)
    simp only [add_lit'] at g
    simpa [uN] using g
   ·exact ⟨⟨⟨{kind:=0},[]⟩,.slice none 0 0⟩,fun h=>absurd h t⟩
  obtain ⟨f,C⟩:=Classical.axiomOfChoice B
  refine ⟨(List.range l0).map f,⟨⟨by simp [qu,X],by simp [yV,ql],fun j z=>?_⟩,fun x c=>?_⟩,fun x c=>?_,fun x c=>?_,by simp;omega⟩
  ·rw [yV] at z
   simp at z
   have V:j / 6<l0:=by omega
   have U:j%6<6:=Nat.mod_lt _ (by decide)
   have O:j / 6*6+j%6=j:=by omega
   have s:=(C (j / 6) V).1 (j%6) U
   have K:=qpt (xs:=(List.range l0).map f) (k:=j / 6) (j:=j%6) (by simpa using V) U
   rw [O] at s K
   simp at K
   simp only [qQ,add_lit']
   rw [s,<-K,ug]
  ·obtain ⟨i,t,rfl⟩:=un.1 c
   exact (C i (JJ.1 t)).2.1
  ·obtain ⟨i,t,rfl⟩:=un.1 c
   exact (C i (JJ.1 t)).2.2.1
  ·obtain ⟨i,t,rfl⟩:=un.1 c
   have:=(C i (JJ.1 t)).2.2.2
   omega
end
def below_trodAll {H:Type} {enc:TypeId×Value->H} {W W':World} (j:Below W.heap.size W W'):∀{g:List TypeId} {vs:List Value} {ds:List (DataW H)} {ps:List MemPlace},
  (∀t∈g,Tryz.prog.readableRec t=true/\t<Tryz.prog.types.size)->DataW.TrodAll enc Tryz.prog W 0 (fun _=>true) true g vs ds ps->(∀x∈ps,x.block<W.heap.size)->DataW.TrodAll enc Tryz.prog W' 0 (fun b=>decide (b<W.heap.size)) true g vs ds ps
 |[],[],[],_,_,h,_=>h
 |_::_,_::_,_::_,_,i,⟨p,q,m,k,e⟩,a=>
  ⟨p,q,Below.trod laidOut (i _ (by simp)).1 (i _ (by simp)).2 m j (fun x c=>a x (by rw [e];exact VI _ c)),below_trodAll j (fun t l=>i t (Vg _ l)) k (fun x c=>a x (by rw [e];exact List.mem_append_right _ c)),e⟩
def row_post {H:Type} {enc:TypeId×Value->H} {fn:Func} {s:ChangeSpec} {W:World} {args:Array Value} {ds z:List (DataW H)} {a:List MemPlace} {f:FuncId}
  (n:s.vars=[]) (B:fn.resultTypes=#[4]) (I:∀t∈fn.params.toList,Tryz.prog.readableRec t=true/\t<Tryz.prog.types.size)
  (k:∀l:List (DataW H),l.length=fn.params.size->s.fn H l={results:=[.lit (.bool true)],args:=l})
  (m:DataW.Whole enc Tryz.prog fn.params.toList s.vars false W args.toList ds z a)
  (C:Calls Tryz.prog f args W fun e w'=>e=.returned (.bool true)/\qc W w'):
  Calls Tryz.prog f args W fun e W'=>∃v,e=.returned v/\s.post enc Tryz.prog fn false true false false W args v W':=by
 refine C.mono ?_
 rintro e W' ⟨rfl,u⟩
 have b:=m
 obtain ⟨p,q,o,y,rfl,_,_⟩:=m
 rw [n] at y
 obtain ⟨rfl,rfl⟩:=trodVars_none y
 have c:ds.length=fn.params.size:=by
  have key:∀{g:List TypeId} {vs:List Value} {ds:List (DataW H)} {ps:List MemPlace},DataW.TrodAll enc Tryz.prog W 0 (fun _=>true) true g vs ds ps->ds.length=g.length:=by
   intro g
   induction g with
   |nil=>intro vs ds ps h;cases vs<;>cases ds<;>first|rfl|cases h
   |cons t g F=>
    intro vs ds ps h
    cases vs<;>cases ds<;>first|(cases h;done)|skip
    obtain ⟨p,q,_,A,_⟩:=h
    simp [F A]
  simpa using key o
 have i:∀x∈p,x.block<W.heap.size:=fun x E=>b.lt x (by simpa using E)
 have j:=k (ds++[]) (by simpa using c)
 refine ⟨_,rfl,ds,[],p++[],[],p,[],b, ?_, ?_, ?_,u.frame _,fun h=>by cases h⟩
 ·rw [j,B];exact trodAll_mk1 (shut_bool und4 _)
 ·rw [j];simpa using below_trodAll u I o i
 ·rw [j,n];rfl
end Go.Proofs.YtbcmiempigoooaaGreatDoor
