/- Texts of mine for the claims about layer 2 (tree), joined: L02Rw. -/
import Derived.Test.YtbcmiempigoooaaGreatDoorVav
import Derived.Test.YtbcmiempigoooaaGreatDoorCards
import Derived.Test.YtbcmiempigoooaaGreatDoorTie
import Derived.Shelf.LaysM
import Derived.ProofKit
import Derived.OpenShut
import Derived.Carry
import Derived.Lay
import Derived.LaidSub
import Derived.Deep.DeepHandedRow
import Derived.Deep.DeepWitnessRowRef
import Derived.Deep.Strs
import Derived.Deep.SlicePairs
import Derived.Lib.SmallJoins
import Derived.Lib.LaidTab
import Derived.Lib.LaidIn
set_option linter.all false
set_option linter.unusedSimpArgs false
set_option linter.unusedVariables false
namespace Go.Proofs
open Go.Shelf
def Tryz.laysm145_ren:Go.Shelf.Ren:=⟨fun|145=>76|220=>161|219=>230|217=>282|225=>283|224=>284|267=>285|266=>330|314=>331|n=>n,fun|9=>9|4=>4|59=>107|3=>3|5=>5|46=>266|146=>300|51=>285|n=>n,fun|1=>0|n=>n⟩
def Tryz.laysm145:Go.Proofs.LaysM.n145 Tryz.prog Tryz.laysm145_ren:={
 mixed:=by kernel_rfl
 f145:=fT Tryz.func76 (by kernel_rfl)
 f217:=fT Tryz.func282 (by kernel_rfl)
 f219:=fT Tryz.func230 (by kernel_rfl)
 f220:=fT Tryz.func161 (by kernel_rfl)
 f224:=fT Tryz.func284 (by kernel_rfl)
 f225:=fT Tryz.func283 (by kernel_rfl)
 f266:=fT Tryz.func330 (by kernel_rfl)
 f267:=fT Tryz.func285 (by kernel_rfl)
 f314:=fT Tryz.func331 (by kernel_rfl)
 t3:=Tryz.underlying3
 a3:=Tryz.isAgg3
 z3:=Tryz.sizeOf3
 v3:=Tryz.zeroValue3
 t4:=Tryz.underlying4
 a4:=Tryz.isAgg4
 z4:=Tryz.sizeOf4
 v4:=Tryz.zeroValue4
 t5:=Tryz.underlying5
 a5:=Tryz.isAgg5
 z5:=Tryz.sizeOf5
 v5:=Tryz.zeroValue5
 t9:=Tryz.underlying9
 a9:=Tryz.isAgg9
 z9:=Tryz.sizeOf9
 v9:=Tryz.zeroValue9
 t46:=Tryz.underlying266
 a46:=Tryz.isAgg266
 z46:=Tryz.sizeOf266
 v46:=Tryz.zeroValue266
 t51:=Tryz.underlying285
 a51:=Tryz.isAgg285
 z51:=Tryz.sizeOf285
 v51:=Tryz.zeroValue285
 t59:=Tryz.underlying107
 a59:=Tryz.isAgg107
 z59:=Tryz.sizeOf107
 v59:=Tryz.zeroValue107
 t146:=Tryz.underlying300
 a146:=Tryz.isAgg300
 z146:=Tryz.sizeOf300
 v146:=Tryz.zeroValue300
 g1:=by kernel_rfl
 i3:=by kernel_rfl
 i4:=by kernel_rfl
 i5:=by kernel_rfl
 i9:=by kernel_rfl
 i46:=by kernel_rfl
 i51:=by kernel_rfl
 i59:=by kernel_rfl
 i146:=by kernel_rfl
 m1:=by kernel_rfl
 s1_3:=fun w h=>Go.Proofs.cell_of_shapedOpen_int (zero:=#[.int .i64 0]) (t:=3) h (of_decide_eq_true (by kernel_rfl)) (by kernel_rfl) rfl (by kernel_rfl) (by kernel_rfl) Tryz.underlying3}
end Go.Proofs
namespace Go.Proofs.YtbcmiempigoooaaGreatDoor
open Go Go.ChangeShapes Go.WideShapes Go.ChangeAt Go.RowKit Go.Eng Go.L02
open Go.L01 (Bs qi G)
open Go.ChangeMaps (open_string)
set_option maxRecDepth 100000
theorem own:ownKnob Tryz.prog.godebug=none:=by kernel_rfl
theorem laidOut:laidOutB Tryz.prog=true:=by kernel_rfl
abbrev laidL:List (String×DataW Unit):=Rows.treeWhereUptoRow.laid
def laid_met (os:Os) (args:Array Value):laidMet Tryz.prog laidL ((World.laidAll Tryz.prog os laidL).forCall (fun _ _=>0) ⟨#[],args,[]⟩).memory:=
 laidMet_laidAll args (by kernel_rfl) (by kernel_rfl)
theorem cells5:Tryz.prog.cellsOf 5=1:=by kernel_rfl
theorem cells3:Tryz.prog.cellsOf 3=1:=by kernel_rfl
theorem cells9:Tryz.prog.cellsOf 9=1:=by kernel_rfl
theorem und29:Tryz.prog.underlying 29=some (.slice 44):=by kernel_rfl
theorem und40:Tryz.prog.underlying 40=some (.slice 3):=by kernel_rfl
theorem und5:Tryz.prog.underlying 5=some (.int .u8):=by kernel_rfl
theorem und3:Tryz.prog.underlying 3=some (.int .i64):=by kernel_rfl
theorem und9:Tryz.prog.underlying 9=some .string:=by kernel_rfl
theorem und4:Tryz.prog.underlying 4=some .bool:=by kernel_rfl
def maxl_of {W:World} (a:W.ShapedOpen Tryz.prog):xI W:=Go.Proofs.Tryz.laysm145.s1_3 W a
def pick {W:World} (h:laidMet Tryz.prog laidL W) (n:String) (d:DataW Unit) (a:(laidL.filter fun x=>x.1==n)=[(n,d)]):laidMet Tryz.prog [(n,d)] W:=by
 have:=h.filter (fun x=>x.1==n)
 rw [a] at this
 exact this
def spTab:List Int:=(List.range 256).map fun c=>if Lib.isSp (UInt8.ofNat c) then 1 else 0
def err_cell {W:World} {n:String} {g ti:Nat} {t:Array (String×TypeId)} {d:DataW Unit} (k:Tryz.prog.globalNamed n=some g) (c:(Tryz.prog.globals[g]?).map (·.type)=some ti) (x:Tryz.prog.underlying ti=some (.interface t)) {nm:String} (h:laidMet Tryz.prog [(n,.iface nm d)] W):∃s m,W.cell? ⟨g,0,none⟩=some (.iface s m):=by
 obtain ⟨ps,⟨y,z,cs,l,p,q,e,j,b,o,_,_⟩,_⟩:=h
 obtain rfl:=Jp (k.symm.trans e)
 obtain rfl:=Jp (c.symm.trans j)
 obtain ⟨_,u,v,i,_,_⟩:=iface_of_trod x o
 refine ⟨u,v, ?_⟩
 have a:W.var? Tryz.prog n=some #[Value.iface u v]:=by
  rw [b];congr 1;apply Array.ext';simpa using i
 simpa using World.var?_cell k a 0
def g_of {W:World} (h:laidMetH Tryz.prog laidL W):G W:=by
 replace h:laidMet Tryz.prog laidL W:=h
 have hsp : Lib.TabIs Tryz.prog W "strings.asciiSpace" .u8 spTab :=
  Lib.tabIs_of_head (rest := []) (g := 3) (by kernel_rfl) (t := _) rfl (e := 5) (n := 256) (by kernel_rfl) und5 cells5 (by kernel_rfl) (pick h "strings.asciiSpace" _ (by kernel_rfl))
 have hpw : Lib.TabIs Tryz.prog W "internal/strconv.uint64pow10" .u64 Lib.pow10Tab :=
  Lib.tabIs_of_head (rest := []) (g := 4) (by kernel_rfl) (t := _) rfl (e := 287) (n := 20) (by kernel_rfl) (by kernel_rfl) (by kernel_rfl) (by kernel_rfl) (pick h "internal/strconv.uint64pow10" _ (by kernel_rfl))
 refine ⟨fun c hc => ?_, hpw, err_cell (n := "strconv.ErrSyntax") (by kernel_rfl) (ti := 126) rfl Tryz.underlying126 (pick h "strconv.ErrSyntax" Rows.laid_strconv_ErrSyntax (by kernel_rfl)), err_cell (n := "strconv.ErrRange") (by kernel_rfl) (ti := 126) rfl Tryz.underlying126 (pick h "strconv.ErrRange" Rows.laid_strconv_ErrRange (by kernel_rfl))⟩
 have:=hsp.cell (g:=3) (by kernel_rfl) c (by simpa [spTab] using hc)
 rw [this]
 simp [spTab,uH,hc]
def mkS_data (s:ByteArray):qb s.data.toList=s:=by
 apply JG;simp [qb]
section
variable {H:Type} {enc:TypeId×Value->H} {W:World}
end
def below_trodAll {H:Type} {enc:TypeId×Value->H} {W W':World} (j:Below W.heap.size W W'):∀{i:List TypeId} {vs:List Value} {ds:List (DataW H)} {ps:List MemPlace},
  (∀t∈i,Tryz.prog.readableRec t=true/\t<Tryz.prog.types.size)->DataW.TrodAll enc Tryz.prog W 0 (fun _=>true) true i vs ds ps->(∀x∈ps,x.block<W.heap.size)->DataW.TrodAll enc Tryz.prog W' 0 (fun b=>decide (b<W.heap.size)) true i vs ds ps
 |[],[],[],_,_,h,_=>h
 |_::_,_::_,_::_,_,g,⟨p,q,m,l,e⟩,a=>
  ⟨p,q,Below.trod laidOut (g _ (by simp)).1 (g _ (by simp)).2 m j (fun x c=>a x (by rw [e];exact J7 _ c)),below_trodAll j (fun t k=>g t (JO _ k)) l (fun x c=>a x (by rw [e];exact List.mem_append_right _ c)),e⟩
def row_post {H:Type} {enc:TypeId×Value->H} {fn:Func} {s:ChangeSpec} {W:World} {args:Array Value} {ds F:List (DataW H)} {a:List MemPlace} {f:FuncId}
  (o:s.vars=[]) (z:fn.resultTypes=#[4]) (E:∀t∈fn.params.toList,Tryz.prog.readableRec t=true/\t<Tryz.prog.types.size)
  (j:∀l:List (DataW H),l.length=fn.params.size->s.fn H l={results:=[.lit (.bool true)],args:=l})
  (m:DataW.Whole enc Tryz.prog fn.params.toList s.vars false W args.toList ds F a)
  (B:Calls Tryz.prog f args W fun e w'=>e=.returned (.bool true)/\qc W w'):
  Calls Tryz.prog f args W fun e W'=>∃v,e=.returned v/\s.post enc Tryz.prog fn false true false false W args v W':=by
 refine B.mono ?_
 rintro e W' ⟨rfl,n⟩
 have c:=m
 obtain ⟨p,q,y,u,rfl,_,_⟩:=m
 rw [o] at u
 obtain ⟨rfl,rfl⟩:=trodVars_none u
 have b:ds.length=fn.params.size:=by
  have key:∀{g:List TypeId} {vs:List Value} {ds:List (DataW H)} {ps:List MemPlace},DataW.TrodAll enc Tryz.prog W 0 (fun _=>true) true g vs ds ps->ds.length=g.length:=by
   intro g
   induction g with
   |nil=>intro vs ds ps h;cases vs<;>cases ds<;>first|rfl|cases h
   |cons t g I=>
    intro vs ds ps h
    cases vs<;>cases ds<;>first|(cases h;done)|skip
    obtain ⟨p,q,_,C,_⟩:=h
    simp [I C]
  simpa using key y
 have i:∀x∈p,x.block<W.heap.size:=fun x A=>c.lt x (by simpa using A)
 have k:=j (ds++[]) (by simpa using b)
 refine ⟨_,rfl,ds,[],p++[],[],p,[],c, ?_, ?_, ?_,n.frame _,fun h=>by cases h⟩
 ·rw [k,z];exact trodAll_mk1 (shut_bool und4 _)
 ·rw [k];simpa using below_trodAll n E y i
 ·rw [k,o];rfl
end Go.Proofs.YtbcmiempigoooaaGreatDoor
