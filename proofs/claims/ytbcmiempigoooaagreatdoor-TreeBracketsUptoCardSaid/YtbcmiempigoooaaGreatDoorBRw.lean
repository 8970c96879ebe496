/- Texts of mine for the claims about layer 2 (tree), joined: L02Rw. -/
import Derived.Test.YtbcmiempigoooaaGreatDoorBas
import Derived.Test.YtbcmiempigoooaaGreatDoorCards
import Derived.Test.YtbcmiempigoooaaGreatDoorTie
import Derived.Shelf.LaysM
import Derived.ProofKit
import Derived.OpenShut
import Derived.Carry
import Derived.Lay
import Derived.LaidSub
import Derived.Deep.DeepHandedRow
import Derived.Deep.DeepWitnessRowRef
import Derived.Deep.Strs
import Derived.Deep.SlicePairs
import Derived.Lib.SmallJoins
import Derived.Lib.LaidTab
import Derived.Lib.LaidIn
set_option linter.all false
set_option linter.unusedSimpArgs false
set_option linter.unusedVariables false
namespace Go.Proofs
open Go.Shelf
def Tryz.laysm145_ren:Go.Shelf.Ren:=⟨fun|145=>76|220=>161|219=>230|217=>282|225=>283|224=>284|267=>285|266=>330|314=>331|n=>n,fun|9=>9|4=>4|59=>107|3=>3|5=>5|46=>266|146=>300|51=>285|n=>n,fun|1=>0|n=>n⟩
theorem Tryz.laysm145:Go.Proofs.LaysM.n145 Tryz.prog Tryz.laysm145_ren:={
 mixed:=by kernel_rfl
 f145:=Tryz.func76.trans (congrArg some (by kernel_rfl))
 f217:=Tryz.func282.trans (congrArg some (by kernel_rfl))
 f219:=Tryz.func230.trans (congrArg some (by kernel_rfl))
 f220:=Tryz.func161.trans (congrArg some (by kernel_rfl))
 f224:=Tryz.func284.trans (congrArg some (by kernel_rfl))
 f225:=Tryz.func283.trans (congrArg some (by kernel_rfl))
 f266:=Tryz.func330.trans (congrArg some (by kernel_rfl))
 f267:=Tryz.func285.trans (congrArg some (by kernel_rfl))
 f314:=Tryz.func331.trans (congrArg some (by kernel_rfl))
 t3:=Tryz.underlying3
 a3:=Tryz.isAgg3
 z3:=Tryz.sizeOf3
 v3:=Tryz.zeroValue3
 t4:=Tryz.underlying4
 a4:=Tryz.isAgg4
 z4:=Tryz.sizeOf4
 v4:=Tryz.zeroValue4
 t5:=Tryz.underlying5
 a5:=Tryz.isAgg5
 z5:=Tryz.sizeOf5
 v5:=Tryz.zeroValue5
 t9:=Tryz.underlying9
 a9:=Tryz.isAgg9
 z9:=Tryz.sizeOf9
 v9:=Tryz.zeroValue9
 t46:=Tryz.underlying266
 a46:=Tryz.isAgg266
 z46:=Tryz.sizeOf266
 v46:=Tryz.zeroValue266
 t51:=Tryz.underlying285
 a51:=Tryz.isAgg285
 z51:=Tryz.sizeOf285
 v51:=Tryz.zeroValue285
 t59:=Tryz.underlying107
 a59:=Tryz.isAgg107
 z59:=Tryz.sizeOf107
 v59:=Tryz.zeroValue107
 t146:=Tryz.underlying300
 a146:=Tryz.isAgg300
 z146:=Tryz.sizeOf300
 v146:=Tryz.zeroValue300
 g1:=by kernel_rfl
 i3:=by kernel_rfl
 i4:=by kernel_rfl
 i5:=by kernel_rfl
 i9:=by kernel_rfl
 i46:=by kernel_rfl
 i51:=by kernel_rfl
 i59:=by kernel_rfl
 i146:=by kernel_rfl
 m1:=by kernel_rfl
 s1_3:=fun w h=>Go.Proofs.cell_of_shapedOpen_int (zero:= #[.int .i64 0]) (t:=3) h (of_decide_eq_true (by kernel_rfl)) (by kernel_rfl) rfl (by kernel_rfl) (by kernel_rfl) Tryz.underlying3}
end Go.Proofs
namespace Go.Proofs.YtbcmiempigoooaaGreatDoor
open Go Go.ChangeShapes Go.WideShapes Go.ChangeAt Go.RowKit Go.Eng Go.L02
open Go.L01 (Bs qi G)
open Go.ChangeMaps (open_string)
set_option maxRecDepth 100000
theorem own:ownKnob Tryz.prog.godebug=none:=by kernel_rfl
theorem laidOut:laidOutB Tryz.prog=true:=by kernel_rfl
abbrev laidL:List (String×DataW Unit):=Rows.treeSizesUptoRow.laid
theorem laid_met (os:Os) (args:Array Value):laidMet Tryz.prog laidL ((World.laidAll Tryz.prog os laidL).forCall (fun _ _=>0) ⟨#[],args,[]⟩).memory:=
 laidMet_laidAll args (by kernel_rfl) (by kernel_rfl)
theorem cells5:Tryz.prog.cellsOf 5=1:=by kernel_rfl
theorem cells3:Tryz.prog.cellsOf 3=1:=by kernel_rfl
theorem cells9:Tryz.prog.cellsOf 9=1:=by kernel_rfl
theorem und29:Tryz.prog.underlying 29=some (.slice 44):=by kernel_rfl
theorem und40:Tryz.prog.underlying 40=some (.slice 3):=by kernel_rfl
theorem und5:Tryz.prog.underlying 5=some (.int .u8):=by kernel_rfl
theorem und3:Tryz.prog.underlying 3=some (.int .i64):=by kernel_rfl
theorem und9:Tryz.prog.underlying 9=some .string:=by kernel_rfl
theorem und4:Tryz.prog.underlying 4=some .bool:=by kernel_rfl
theorem maxl_of {W:World} (a:W.ShapedOpen Tryz.prog):xA W:=Go.Proofs.Tryz.laysm145.s1_3 W a
theorem pick {W:World} (h:laidMet Tryz.prog laidL W) (n:String) (d:DataW Unit) (a:(laidL.filter fun x=>x.1==n)=[(n,d)]):laidMet Tryz.prog [(n,d)] W:=by
 have:=h.filter (fun x=>x.1==n)
 rw [a] at this
 exact this
def spTab:List Int:=(List.range 256).map fun c=>if Lib.isSp (UInt8.ofNat c) then 1 else 0
theorem err_cell {W:World} {n:String} {g ti:Nat} {m:Array (String×TypeId)} {d:DataW Unit} (k:Tryz.prog.globalNamed n=some g) (e:(Tryz.prog.globals[g]?).map (·.type)=some ti) (x:Tryz.prog.underlying ti=some (.interface m)) {nm:String} (h:laidMet Tryz.prog [(n, .iface nm d)] W):∃o s,W.cell? ⟨g,0,none⟩=some (.iface o s):=by
 obtain ⟨ps,⟨y,z,cs,l,p,q,i,j,b,t,_,_⟩,_⟩:=h
 obtain rfl:=Option.some.inj (k.symm.trans i)
 obtain rfl:=Option.some.inj (e.symm.trans j)
 obtain ⟨_,u,v,c,_,_⟩:=iface_of_trod x t
 refine ⟨u,v, ?_⟩
 have a:W.var? Tryz.prog n=some #[Value.iface u v]:=by
  rw [b];congr 1;apply Array.ext';simpa using c
 simpa using World.var?_cell k a 0
theorem g_of {W:World} (h:laidMetH Tryz.prog laidL W):G W:=by
 replace h:laidMet Tryz.prog laidL W:=h
 have hsp : Lib.TabIs Tryz.prog W "strings.asciiSpace" .u8 spTab :=
  Lib.tabIs_of_head (rest := []) (g := 3) (by kernel_rfl) (t := _) rfl (e := 5) (n := 256) (by kernel_rfl) und5 cells5 (by kernel_rfl) (pick h "strings.asciiSpace" _ (by kernel_rfl))
 have hpw : Lib.TabIs Tryz.prog W "internal/strconv.uint64pow10" .u64 Lib.pow10Tab :=
  Lib.tabIs_of_head (rest := []) (g := 4) (by kernel_rfl) (t := _) rfl (e := 287) (n := 20) (by kernel_rfl) (by kernel_rfl) (by kernel_rfl) (by kernel_rfl) (pick h "internal/strconv.uint64pow10" _ (by kernel_rfl))
 refine ⟨fun c hc => ?_, hpw, err_cell (n := "strconv.ErrSyntax") (by kernel_rfl) (ti := 126) rfl Tryz.underlying126 (pick h "strconv.ErrSyntax" Rows.laid_strconv_ErrSyntax (by kernel_rfl)), err_cell (n := "strconv.ErrRange") (by kernel_rfl) (ti := 126) rfl Tryz.underlying126 (pick h "strconv.ErrRange" Rows.laid_strconv_ErrRange (by kernel_rfl))⟩
 have:=hsp.cell (g:=3) (by kernel_rfl) c (by simpa [spTab] using hc)
 rw [this]
 simp [spTab,List.getD_eq_getElem?_getD,hc]
theorem mkS_data (s:ByteArray):qb s.data.toList=s:=by
 apply ByteArray.ext;simp [qb]
section
variable {H:Type} {enc:TypeId×Value→H} {W:World}
end
theorem below_trodAll {H:Type} {enc:TypeId×Value→H} {W W':World} (j:Below W.heap.size W W'):∀{c:List TypeId} {vs:List Value} {ds:List (DataW H)} {ps:List MemPlace},
  (∀t∈c,Tryz.prog.readableRec t=true∧t<Tryz.prog.types.size)→DataW.TrodAll enc Tryz.prog W 0 (fun _=>true) true c vs ds ps→(∀x∈ps,x.block<W.heap.size)→DataW.TrodAll enc Tryz.prog W' 0 (fun b=>decide (b<W.heap.size)) true c vs ds ps
 |[],[],[],_,_,h,_=>h
 |_::_,_::_,_::_,_,i,⟨p,q,m,l,e⟩,a=>
  ⟨p,q,Below.trod laidOut (i _ (by simp)).1 (i _ (by simp)).2 m j (fun x g=>a x (by rw [e];exact List.mem_append_left _ g)),below_trodAll j (fun t k=>i t (List.mem_cons_of_mem _ k)) l (fun x g=>a x (by rw [e];exact List.mem_append_right _ g)),e⟩
theorem row_post {H:Type} {enc:TypeId×Value→H} {fn:Func} {s:ChangeSpec} {W:World} {args:Array Value} {ds F:List (DataW H)} {a:List MemPlace} {f:FuncId}
  (y:s.vars=[]) (z:fn.resultTypes= #[4]) (I:∀t∈fn.params.toList,Tryz.prog.readableRec t=true∧t<Tryz.prog.types.size)
  (k:∀l:List (DataW H),l.length=fn.params.size→s.fn H l={results:=[.lit (.bool true)],args:=l})
  (u:DataW.Whole enc Tryz.prog fn.params.toList s.vars false W args.toList ds F a)
  (B:Calls Tryz.prog f args W fun e w'=>e= .returned (.bool true)∧qc W w'):
  Calls Tryz.prog f args W fun e W'=>∃v,e= .returned v∧s.post enc Tryz.prog fn false true false false W args v W':=by
 refine B.mono ?_
 rintro e W' ⟨rfl,m⟩
 have c:=u
 obtain ⟨p,q,o,n,rfl,_,_⟩:=u
 rw [y] at n
 obtain ⟨rfl,rfl⟩:=trodVars_none n
 have g:ds.length=fn.params.size:=by
  have key:∀{b:List TypeId} {vs:List Value} {ds:List (DataW H)} {ps:List MemPlace},DataW.TrodAll enc Tryz.prog W 0 (fun _=>true) true b vs ds ps→ds.length=b.length:=by
   intro b
   induction b with
   |nil=>intro vs ds ps h;cases vs<;>cases ds<;>first|rfl|cases h
   |cons t b E=>
    intro vs ds ps h
    cases vs<;>cases ds<;>first|(cases h;done)|skip
    obtain ⟨p,q,_,A,_⟩:=h
    simp [E A]
  simpa using key o
 have j:∀x∈p,x.block<W.heap.size:=fun x C=>c.lt x (by simpa using C)
 have i:=k (ds++[]) (by simpa using g)
 refine ⟨_,rfl,ds,[],p++[],[],p,[],c, ?_, ?_, ?_,m.frame _,fun h=>by cases h⟩
 ·rw [i,z];exact trodAll_mk1 (shut_bool und4 _)
 ·rw [i];simpa using below_trodAll m I o j
 ·rw [i,y];rfl
end Go.Proofs.YtbcmiempigoooaaGreatDoor
