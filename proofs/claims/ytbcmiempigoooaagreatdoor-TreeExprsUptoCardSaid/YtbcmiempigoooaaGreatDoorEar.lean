/- Lemmas for a claim about layer 2 (tree). No conditions but those they state. -/
import Derived.Test.YtbcmiempigoooaaGreatDoorEaq
import Derived.Shelf.Strings.Cut
import Derived.Test.YtbcmiempigoooaaGreatDoorProg
import Derived.KernelRfl
import Derived.Lib.ItoaNum
set_option linter.all false
namespace Go.Proofs
open Go.Shelf
def Tryz.lays145_ren:Go.Shelf.Ren:=⟨fun|145=>76|220=>161|219=>230|217=>282|225=>283|224=>284|267=>285|266=>330|314=>331|n=>n,fun|9=>9|4=>4|59=>107|3=>3|5=>5|46=>266|146=>300|51=>285|n=>n,fun|1=>0|n=>n⟩
def Tryz.lays145:Go.Proofs.Lays.n145 Tryz.prog Tryz.lays145_ren:={
 mixed:=by kernel_rfl
 f145:=Tryz.func76.trans (congrArg some (by kernel_rfl))
 f217:=Tryz.func282.trans (congrArg some (by kernel_rfl))
 f219:=Tryz.func230.trans (congrArg some (by kernel_rfl))
 f220:=Tryz.func161.trans (congrArg some (by kernel_rfl))
 f224:=Tryz.func284.trans (congrArg some (by kernel_rfl))
 f225:=Tryz.func283.trans (congrArg some (by kernel_rfl))
 f266:=Tryz.func330.trans (congrArg some (by kernel_rfl))
 f267:=Tryz.func285.trans (congrArg some (by kernel_rfl))
 f314:=Tryz.func331.trans (congrArg some (by kernel_rfl))
 t3:=Tryz.underlying3
 a3:=Tryz.isAgg3
 z3:=Tryz.sizeOf3
 v3:=Tryz.zeroValue3
 t4:=Tryz.underlying4
 a4:=Tryz.isAgg4
 z4:=Tryz.sizeOf4
 v4:=Tryz.zeroValue4
 t5:=Tryz.underlying5
 a5:=Tryz.isAgg5
 z5:=Tryz.sizeOf5
 v5:=Tryz.zeroValue5
 t9:=Tryz.underlying9
 a9:=Tryz.isAgg9
 z9:=Tryz.sizeOf9
 v9:=Tryz.zeroValue9
 t46:=Tryz.underlying266
 a46:=Tryz.isAgg266
 z46:=Tryz.sizeOf266
 v46:=Tryz.zeroValue266
 t51:=Tryz.underlying285
 a51:=Tryz.isAgg285
 z51:=Tryz.sizeOf285
 v51:=Tryz.zeroValue285
 t59:=Tryz.underlying107
 a59:=Tryz.isAgg107
 z59:=Tryz.sizeOf107
 v59:=Tryz.zeroValue107
 t146:=Tryz.underlying300
 a146:=Tryz.isAgg300
 z146:=Tryz.sizeOf300
 v146:=Tryz.zeroValue300
 g1:=by kernel_rfl}
def Tryz.cut (s sep:ByteArray) (m:Int) (w:World) (a:s.size<4294967281) (c:w.cell? ⟨0,0,none⟩=some (.int .i64 m)):
  Calls Tryz.prog 76 #[.string s,.string sep] w fun e w'=>e=.returned (.tuple #[.string ⟨(Lib.cut s.data.toList sep.data.toList).1.toArray⟩,.string ⟨(Lib.cut s.data.toList sep.data.toList).2.1.toArray⟩,.bool (Lib.cut s.data.toList sep.data.toList).2.2])/\∃n,w'=w.drewN n:=Any.strings_Cut Tryz.lays145 s sep m w a c
end Go.Proofs
namespace Go.L02
open Go Go.Eng Go.RowKit
open Go.Proofs hiding encI
open Go.L01 (Bd Bs Own.same SlK Tok fV jA jX jY jZ jb jh qF qbG qg qi qp vc vu xb zz)
set_option maxRecDepth 100000
set_option maxHeartbeats 2000000
theorem qvV (c:UInt8):∀s:Bs,Lib.index s [c]=match s.findIdx? (fun b=>decide (b=c)) with|none=> -1|some k=>(k:Int)
 |[]=>by simp [Lib.index]
 |b::l=>by
  rw [Lib.index,List.findIdx?_cons];by_cases h:b=c
  ·subst h;simp [List.isPrefixOf]
  ·have a:¬c=b:=fun e=>h e.symm;rw [qvV c l];simp only [List.isPrefixOf,h,a,ur,kA,km,Vp,uf];cases l.findIdx? (fun b=>decide (b=c)) with
   |none=>rfl
   |some k=>
    simp only [Option.map_some];rw [if_neg (by omega)]
    push_cast
    rfl
theorem qJy (s:Bs):Lib.cut s [95]=match kC s with|none=>(s,[],false)|some k=>(s.take k,s.drop (k+1),true):=by
 unfold Lib.cut kC;rw [qvV];cases s.findIdx? (fun c=>decide (c=95)) with
 |none=>rfl
 |some k=>simp
def kF (w:World):Prop:=∃m,w.cell? ⟨0,0,none⟩=some (.int .i64 m)
def kF.ext {w w':World} (h:kF w) (a:qc w w'):kF w':=by
 obtain ⟨m,h⟩:=h;exact ⟨m,a.cell h⟩
theorem qpf {w:World} (t:L01.G w) (H:kF w) (s:Bs) (z:s.length<4294967281):Calls Tryz.prog 24 #[.string (qb s)] w fun e w'=>e=.returned (.bool (vx s))/\qc w w':=by
 refine qF9 fun ρ r0=>?_;simp -implicitDefEqProofs [qs8,r0];refine (qo7 s w).mono ?_;rintro _ w1 ⟨rfl,j⟩;cases h:jL.contains s with
 |true=>
  have e:vx s=true:=by unfold vx;rw [h];rfl
  simp -implicitDefEqProofs [e];exact j
 |false=>
  have e:vx s=(match kC s with|none=>qg s|some k=>qg (s.take k)&&qg (s.drop (k+1))):=by unfold vx;rw [h];rfl
  simp -implicitDefEqProofs [qsU,r0];obtain ⟨m,I⟩:=H.ext j;refine (Tryz.cut (qb s) (qb [95]) m w1 z I).mono ?_;rintro _ w2 ⟨rfl,n,rfl⟩;have a:qc w (w1.drewN n):=j.trans' ⟨rfl,rfl,rfl,j1 _,fun _ _=>rfl⟩;have E:Lib.cut (qb s).data.toList (qb [95]).data.toList=_:=qJy s;rw [E];cases y:kC s with
  |none=>
   rw [y] at e;simp -implicitDefEqProofs;refine (L01.qa1 (t.ext a) s).mono ?_;rintro _ w3 ⟨rfl,c⟩;have g:vx s=qg s:=e;cases hn:qg s with
   |true=>
    rw [hn] at g;simp -implicitDefEqProofs [g];exact a.trans' c
   |false=>
    rw [hn] at g;simp -implicitDefEqProofs [g];exact a.trans' c
  |some k=>
   rw [y] at e;simp -implicitDefEqProofs;refine (L01.qa1 (t.ext a) (s.take k)).mono ?_;rintro _ w3 ⟨rfl,c⟩;have g:vx s=(qg (s.take k)&&qg (s.drop (k+1))):=e;cases hn:qg (s.take k) with
   |true=>
    rw [hn] at g;simp -implicitDefEqProofs;refine (L01.qa1 ((t.ext a).ext c) (s.drop (k+1))).mono ?_;rintro _ J ⟨rfl,o⟩;simp -implicitDefEqProofs [g];exact (a.trans' c).trans' o
   |false=>
    rw [hn] at g;simp -implicitDefEqProofs [g];exact a.trans' c
noncomputable def qkZ:IR:=zq [za 6 (zQ false),za 6 (.ite (zI .geq (zv 0) (zv 1)) (zI .leq (zv 0) (zv 2)) (zQ false))] <| .ret
def qIj:List Nat:=[0,1,2,6]
def qIi:C3 127 15 qIj qkZ [.tmp 6]:=c3 [] Tryz.func127
noncomputable def qtI:IR:=zq [zm 9 1,zm 10 0,zE 11 (.call {callee:=.value (zt 9),args:=#[zt 10],argTypes:=#[9]}) 4,zm 4 11] <| .ret
noncomputable def qtJ:IR:=zq [za 4 (zQ false),zm 5 1,zE 6 (.binOp .eql 34 (zt 5) (.const .nilFunc) 34) 4] <| .seq (.cond (zv 6) (zq [za 4 (zS .eql (zv 0) (.const (zs #[])))] <| .ret) .skip) (qtI)
def qGL:List Nat:=zV 12 [2,3,7,8]
def qGK:C2 225 12 qGL qtJ [.tmp 4]:=c2 [] Tryz.func225
noncomputable def qtG:IR:=zq [za 15 (zo 2 (zv 1)),zc 16 22 #[zt 15] #[9] 4,zm 17 16,zg 17 true 19 (zo 1 (zv 1)),zh 17 true 20 24 #[zt 19] #[9] 4,za 2 (.ite (.ite (zv 17) (zv 20) (zQ false)) (zS .eql (zo 3 (zv 1)) (.const (zs #[]))) (zQ false))] <| .ret
noncomputable def qtH:IR:=zq [zE 1 (.box 44 (zt 0)) 0,za 2 (zQ false),za 5 (zS .eql (zo 2 (zv 1)) (.const (zs #[])))] <| .seq (.cond (zv 5) (zq [za 7 (zo 1 (zv 1)),zc 8 77 #[zt 7] #[9] 4,zm 9 8,zg 9 true 11 (zo 3 (zv 1)),zh 9 true 12 280 #[zt 11] #[9] 4,za 2 (.ite (zv 9) (zv 12) (zQ false))] <| .ret) .skip) (qtG)
def qGJ:List Nat:=zV 21 [3,4,6,10,13,14,18]
def qGI:C1 226 27 qGJ qtH [.tmp 2]:=c1 [] Tryz.func226
noncomputable def qjX:IR:=zq [za 2 (zQ false),za 5 (zS .eql (zv 0) (.const (zs #[]))),zg 5 false 6 (zv 0),zh 5 false 7 22 #[zt 6] #[9] 4,za 2 (.ite (zv 5) (zQ true) (zv 7))] <| .ret
def qFO:List Nat:=zV 8 [1,3,4]
def qFN:C1 280 9 qFO qjX [.tmp 2]:=c1 [] Tryz.func280
noncomputable def qtR:IR:=zq [zE 1 (.box 3 (zt 0)) 0,za 2 (.const .nilFunc),zE 3 (.makeFunc (.func 278) #[] #[zt 1]) 238,zm 2 3] <| .ret
def qGV:List Nat:=zV 4 []
def qGU:C1 220 4 qGV qtR [.tmp 2]:=c1 [] Tryz.func220
noncomputable def qsw:IR:=zq [za 3 (zQ false),zm 4 0,za 5 (zl (zv 1)),zc 6 127 #[zt 4,zO 0,zt 5] #[3,3,3] 4,zm 3 6] <| .ret
def qFS:List Nat:=zV 7 [2]
def qFR:C2 278 7 qFS qsw [.tmp 3]:=c2 [] Tryz.func278
noncomputable def qtO:IR:=zq [zE 1 (.box 5 (zt 0)) 0,za 2 (.const .nilFunc),zE 3 (.makeFunc (.func 279) #[] #[zt 1]) 98,zm 2 3] <| .ret
def qGP:List Nat:=zV 4 []
def qGO:C1 223 4 qGP qtO [.tmp 2]:=c1 [] Tryz.func223
noncomputable def qsv:IR:=zq [zE 2 (.box 44 (zt 0)) 0,za 3 (zQ false),za 3 (zB .eql (zo 0 (zv 2)) (zl (zv 1)))] <| .ret
def qFQ:List Nat:=zV 4 []
def qFP:C2 279 8 qFQ qsv [.tmp 3]:=c2 [] Tryz.func279
noncomputable def qtQ:IR:=zq [za 2 (zQ false),zE 3 (.buildSlice 51 11 #[(0,(zY #[110,111,116])),(1,(zY #[43])),(2,(zY #[45])),(3,(zY #[42])),(4,(zY #[47])),(5,(zY #[109,111,100])),(6,(zY #[60])),(7,(zY #[60,61])),(8,(zY #[61])),(9,(zY #[97,110,100])),(10,(zY #[111,114]))]) 51,zm 4 0,zc 5 160 #[zt 3,zt 4] #[51,9] 4,zm 2 5] <| .ret
def qGT:List Nat:=zV 6 [1]
def qGS:C1 221 6 qGT qtQ [.tmp 2]:=c1 [] Tryz.func221
noncomputable def qtP:IR:=zq [zE 1 (.box 44 (zt 0)) 0,za 2 (zQ false),za 3 (zo 0 (zv 1)),za 7 (.op1 (.conv .i64) (zv 3)),zc 8 127 #[zt 7,zO 21,zO 31] #[3,3,3] 4,za 2 (.ite (.ite (.ite (.ite (zv 8) (zQ true) (zB .eql (zv 3) (.const (zu 32)))) (zQ true) (zB .eql (zv 3) (.const (zu 34)))) (zQ true) (zB .eql (zv 3) (.const (zu 35)))) (zQ true) (zB .eql (zv 3) (.const (zu 37))))] <| .ret
def qGR:List Nat:=zV 9 [4,5,6]
def qGQ:C1 222 25 qGR qtP [.tmp 2]:=c1 [] Tryz.func222
noncomputable def qrx:IR:=zq [zE 1 (.box 44 (zt 0)) 0,za 2 (zQ false),za 5 (.op1 (.conv .i64) (zo 0 (zv 1))),zc 6 127 #[zt 5,zO 1,zO 10] #[3,3,3] 4,zm 2 6] <| .ret
def qEY:List Nat:=zV 7 [3,4]
def qEX:C1 65 7 qEY qrx [.tmp 2]:=c1 [] Tryz.func65
noncomputable def qrb:IR:=zq [zE 1 (.box 44 (zt 0)) 0,za 2 (zQ false),za 2 (zB .eql (zo 0 (zv 1)) (.const (zu 20)))] <| .ret
def qEE:List Nat:=zV 3 []
def qED:C1 80 6 qEE qrb [.tmp 2]:=c1 [] Tryz.func80
noncomputable def qtX:IR:=zq [zE 2 (.box 241 (zt 0)) 0,za 4 (.const (.pointer none)),zm 5 1,za 7 (zL (zv 1)),za 9 (zL (zv 1)),za 10 (zf 4 (zv 2)),zw 239 (zt 10) (zt 5),za 11 (zf 6 (zv 2)),zw 3 (zt 11) (zt 7),za 12 (zf 7 (zv 2)),zw 3 (zt 12) (zt 9),zm 4 2] <| .ret
def qG1:List Nat:=zV 13 [3,6,8]
def qG0:C2 218 13 qG1 qtX [.tmp 4]:=c2 [] Tryz.func218
noncomputable def qtW:IR:=zq [za 2 (zQ false),za 2 (zQ true)] <| .ret
def qGZ:List Nat:=[0,2]
def qGY:C1 219 3 qGZ qtW [.tmp 2]:=c1 [] Tryz.func219
noncomputable def qct:Code:=((Tryz.f147.body).getD .skip)
noncomputable def qkV:IR:=zq [zm 122 11,za 126 (zM 6 (zx 6 (zv 0) (zv 10))),zE 127 (.call {callee:=.value (zt 122),args:=#[zt 126],argTypes:=#[44]}) 4,za 128 (zn (zv 127))] <| .cond (zv 128) (zq [za 6 (zQ false)] <| .ret) .skip
noncomputable def qgw:IR:=.reg [za 99 (zI .add (zv 99) (zK 1))]
noncomputable def qkS:IR:=.seq (.block 1 (zq [zm 101 99,za 103 (zl (zx 1 (zv 97) (zv 99))),zm 9 101,zm 10 103,za 11 (zo 5 (zN (zv 7))),za 114 (zI .lss (zv 9) (zL (zo 4 (zN (zv 7)))))] <| .seq (.cond (zv 114) (.reg [za 11 (zl (zx 1 (zo 4 (zN (zv 7))) (zv 9)))]) .skip) (qkV))) (qgw)
noncomputable def qgt:IR:=zq [za 100 (zI .lss (zv 99) (zv 98))] <| .seq (.cond (zv 100) .skip (.exit 0)) (qkS)
noncomputable def qkR:IR:=.reg [za 152 (zI .add (zv 152) (zK 1))]
noncomputable def qva:IR:=.seq (.block 4 (zq [zm 154 152,za 156 (zl (zx 1 (zv 150) (zv 152))),zm 12 154,zm 13 156,za 14 (zo 1 (zx 6 (zv 0) (zv 13))),zm 162 14,zc 163 77 #[zt 162] #[9] 4,za 176 (.ite (zn (zv 163)) (.ite (zS .neq (zv 14) (.const (zs #[]))) (zQ true) (zI .lss (zv 12) (zI .sub (zL (zo 5 (zv 4))) (zK 2)))) (zQ false))] <| .cond (zv 176) (zq [za 6 (zQ false)] <| .ret) .skip)) (qkR)
noncomputable def qkO:IR:=zq [za 153 (zI .lss (zv 152) (zv 151))] <| .seq (.cond (zv 153) .skip (.exit 3)) (qva)
noncomputable def qkQ:IR:=zq [za 6 (zQ true)] <| .ret
noncomputable def qcs:IR:=zq [za 131 (zo 0 (zv 4))] <| .seq (.block 2 (zq [za 132 (zB .eql (zv 131) (.const (zu 5)))] <| .cond (zv 132) (zq [za 134 (zM 6 (zv 4)),zc 135 226 #[zt 134] #[44] 4,zm 6 135] <| .ret) (zq [za 136 (zB .eql (zv 131) (.const (zu 6)))] <| .cond (zv 136) (zq [za 6 (.op2 (.bbin .eql) (zS .eql (zo 1 (zv 4)) (.const (zs #[110,111,116]))) (zI .eql (zL (zo 5 (zv 4))) (zK 1)))] <| .ret) (zq [za 146 (zB .eql (zv 131) (.const (zu 32)))] <| .cond (zv 146) (zq [za 150 (.op2 (.slLo 1) (zo 5 (zv 4)) (zK 1)),za 151 (zL (zv 150)),za 152 (zK 0)] <| .block 3 (.loop qkO)) .skip)))) (qkQ)
noncomputable def qkP:IR:=zq [za 97 (zo 5 (zv 4)),za 98 (zL (zv 97)),za 99 (zK 0)] <| .seq (.block 0 (.loop qgt)) (qcs)
noncomputable def qgv:IR:=.seq (.cond (zv 95) (zq [za 6 (zQ false)] <| .ret) .skip) (qkP)
noncomputable def qkU:IR:=.seq (.drw [za 50 (zo 1 (zv 4)),za 54 (zo 0 (zN (zv 7))),zc 55 225 #[zt 50,zt 54] #[9,34] 4,za 57 (zn (zv 55)),zg 57 false 59 (zo 2 (zv 4)),zg 57 false 63 (zo 1 (zN (zv 7))),zh 57 false 64 225 #[zt 59,zt 63] #[9,34] 4,za 67 (.ite (zv 57) (zQ true) (zn (zv 64))),zg 67 false 69 (zo 3 (zv 4)),zg 67 false 73 (zo 2 (zN (zv 7))),zh 67 false 74 225 #[zt 69,zt 73] #[9,34] 4,za 81 (.ite (.ite (zv 67) (zQ true) (zn (zv 74))) (zQ true) (zn (zv 8))),zg 81 false 84 (zL (zo 5 (zv 4))),zg 81 false 88 (zo 6 (zN (zv 7))),zg 81 false 92 (zo 7 (zN (zv 7))),zh 81 false 93 127 #[zt 84,zt 88,zt 92] #[3,3,3] 4,za 95 (.ite (zv 81) (zQ true) (zn (zv 93)))]) (qgv)
noncomputable def qkT:IR:=zq [za 8 (zI .eql (zo 4 (zv 4)) (zK 0)),za 40 (zo 3 (zN (zv 7))),zE 41 (.binOp .neq 238 (zt 40) (.const .nilFunc) 238) 4] <| .seq (.cond (zv 41) (.raw (qP qct 6)) .skip) (qkU)
noncomputable def qvb:IR:=.seq (.raw (qP qct 3)) (qkT)
noncomputable def qgu:IR:=.seq (.cond (zv 27) (zq [za 6 (zQ false)] <| .ret) .skip) (qvb)
noncomputable def qvc:IR:=zq [zE 4 (.box 44 (zt 1)) 0,za 6 (zQ false)] <| .seq (.raw (qP qct 1)) (qgu)
def wr:List Nat:=[0,1,2,4,6,7,8,9,10,11,12,13,14,15,16,17,18,19,20,21,22,23,24,25,26,27,28,29,30,31,32,33,40,41,42,43,44,45,46,47,48,50,54,55,57,59,63,64,67,69,73,74,81,84,88,92,93,95,97,98,99,100,101,103,114,122,126,127,128,131,132,134,135,136,146,150,151,152,153,154,156,162,163,176]
def qHX:C3 147 178 wr qvc [.tmp 6]:=c3 [6,3,1] Tryz.func147
noncomputable def qkN:OT:=zy 15 (zf 0 (zv 4))<|zy 16 (zl (zv 15))<|zy 17 (.op1 (.conv .i64) (zv 16))<|zy 18 (zI .geq (zv 17) (zK 38))<|zy 19 (zv 18)<| .take (some (19,false)) 20 (zv 2)<| .take (some (19,false)) 21 (zf 0 (zv 4))<| .take (some (19,false)) 22 (zl (zv 21))<| .take (some (19,false)) 23 (zN (zv 20))<| .step (.eff (some (19,false)) (some 24) (.indexAddr 175 (zt 23) (zt 22)) 0) false<| .step (zg 19 false 25 (zl (zv 24))) false<| .step (.eff (some (19,false)) (some 26) (.binOp .eql 174 (zt 25) (.const (.pointer none)) 174) 4) false<| .step (za 27 (.ite (zv 19) (zQ true) (zv 26))) false<| .done
theorem qHW:zj Tryz.prog 178 wr 9 (qP qct 1)=some qkN:=by kernel_rfl
noncomputable def qu9:OT:=zy 28 (zv 2)<|zy 29 (zf 0 (zv 4))<|zy 30 (zl (zv 29))<|zy 31 (zN (zv 28))<| .step (zE 32 (.indexAddr 175 (zt 31) (zt 30)) 0) false<| .step (za 33 (zl (zv 32))) false<| .step (zm 7 33) false<| .done
theorem qHV:zj Tryz.prog 178 wr 4 (qP qct 3)=some qu9:=by kernel_rfl
noncomputable def qu8:OT:=zy 42 (zv 7)<|zy 43 (zN (zv 42))<|zy 44 (zf 3 (zv 43))<|zy 45 (zl (zv 44))<|zy 46 (zf 4 (zv 4))<|zy 47 (zl (zv 46))<| .step (zE 48 (.call {callee:=.value (zt 45),args:=#[zt 47],argTypes:=#[3]}) 4) false<| .step (zm 8 48) false<| .done
theorem qHU:zj Tryz.prog 178 wr 6 (qP qct 6)=some qu8:=by kernel_rfl
noncomputable def qqF:IR:=.reg [za 34 (.op4 (.slMax 1) (zv 3) (zK 0) (zv 6) (zv 6)),zm 35 4,zE 36 (.buildSlice 40 1 #[(0,(zt 35))]) 40,zp 37 #[zt 34,zt 36] #[40,40] 40,zm 3 37]
noncomputable def qfX:IR:=.seq (.cond (zv 30) (zq [za 2 (zQ false)] <| .ret) .skip) (qqF)
noncomputable def qqE:IR:=.reg [za 9 (zI .add (zv 9) (zK 1))]
noncomputable def qqD:IR:=.seq (.block 1 (zq [zm 11 9,za 13 (zM 6 (zx 6 (zv 7) (zv 9))),zA 5 44,zm 4 11,zw 44 (zt 5) (zt 13),za 6 (zI .sub (zL (zv 3)) (zL (zo 5 (zv 5))))] <| .seq (.drw [za 22 (zI .lss (zv 6) (zK 0)),zg 22 false 25 (.op2 (.slLo 1) (zv 3) (zv 6)),zg 22 false 27 (zo 5 (zv 5)),zh 22 false 28 50 #[zt 25,zt 27] #[40,40] 4,za 30 (.ite (zv 22) (zQ true) (zn (zv 28)))]) (qfX))) (qqE)
noncomputable def qjz:IR:=zq [za 10 (zI .lss (zv 9) (zv 8))] <| .seq (.cond (zv 10) .skip (.exit 0)) (qqD)
noncomputable def qqC:IR:=zq [za 2 (zI .eql (zL (zv 3)) (zK 1))] <| .ret
noncomputable def qqG:IR:=zq [za 2 (zQ false),za 3 (.const (.slice none 0 0)),zm 7 0,za 8 (zL (zv 7)),za 9 (zK 0)] <| .seq (.block 0 (.loop qjz)) (qqC)
def qEs:List Nat:=zV 38 [1,12,14,15,16,17,18,19,20,21,23,24,26,29,31,32,33]
def qEr:C1 98 42 qEs qqG [.tmp 2]:=c1 [] Tryz.func98
noncomputable def qvd:IR:=zq [zE 3 (.box 44 (zt 0)) 0,za 4 (zQ false),za 5 (zl (zv 1)),za 6 (zM 6 (zv 3)),zc 7 147 #[zt 5,zt 6,zt 2] #[29,44,178] 4,za 4 (zn (zv 7))] <| .ret
def qHZ:List Nat:=zV 8 []
def qHY:C3 146 9 qHZ qvd [.tmp 4]:=c3 [] Tryz.func146
noncomputable def qve:IR:=zq [za 4 (zQ false),zm 5 0,zm 6 1,zc 7 224 #[zt 5,zt 6] #[29,98] 3,za 4 (zI .geq (zv 7) (zK 0))] <| .ret
def qH1:List Nat:=zV 8 [2,3]
def qH0:C2 145 9 qH1 qve [.tmp 4]:=c2 [] Tryz.func145
noncomputable def qtM:IR:=.reg [za 8 (zI .add (zv 8) (zK 1))]
noncomputable def qtL:IR:=.seq (.block 1 (zq [zm 5 8,zm 11 1,za 15 (zM 6 (zx 6 (zv 0) (zv 5))),zE 16 (.call {callee:=.value (zt 11),args:=#[zt 15],argTypes:=#[44]}) 4] <| .cond (zv 16) (zq [zm 4 5] <| .ret) .skip)) (qtM)
noncomputable def qko:IR:=zq [za 9 (zI .lss (zv 8) (zv 7))] <| .seq (.cond (zv 9) .skip (.exit 0)) (qtL)
noncomputable def qtK:IR:=zq [za 4 (.const (.int .i64 (-1)))] <| .ret
noncomputable def qtN:IR:=zq [za 4 (zK 0),za 7 (zL (zv 0)),za 8 (zK 0)] <| .seq (.block 0 (.loop qko)) (qtK)
def qGN:List Nat:=zV 17 [2,3,6,10,12,13,14]
def qGM:C2 224 19 qGN qtN [.tmp 4]:=c2 [] Tryz.func224
noncomputable def qry:IR:=zq [zc 26 144 #[] #[] 175,zA 5 175,zw 175 (zt 5) (zt 26),za 27 (zl (zv 2)),zE 28 (.makeFunc (.func 146) #[] #[zt 2,zt 5]) 98,zc 29 145 #[zt 27,zt 28] #[29,98] 4,za 4 (zn (zv 29))] <| .ret
noncomputable def qrz:IR:=zq [zE 2 (.box 29 (zt 0)) 0,za 4 (zQ false),za 7 (zL (zl (zv 2))),zc 8 127 #[zt 7,zO 1,zO 400] #[3,3,3] 4,za 10 (zn (zv 8)),zg 10 false 11 (zl (zv 2)),zh 10 false 12 98 #[zt 11] #[29] 4,za 15 (.ite (zv 10) (zQ true) (zn (zv 12))),zg 15 false 16 (zv 1),zg 15 false 22 (zM 6 (zx 6 (zl (zv 2)) (zI .sub (zL (zl (zv 2))) (zK 1)))),.eff (some (15,false)) (some 23) (.call {callee:=.value (zt 16),args:=#[zt 22],argTypes:=#[44]}) 4,za 25 (.ite (zv 15) (zQ true) (zn (zv 23)))] <| .seq (.cond (zv 25) (zq [za 4 (zQ false)] <| .ret) .skip) (qry)
def qE0:List Nat:=zV 30 [3,6,9,13,14,17,18,19,20,21,24]
def qEZ:C2 64 31 qE0 qrz [.tmp 4]:=c2 [] Tryz.func64
@[simp] theorem qJQ:qh Tryz.prog 127=true:=by kernel_rfl
@[simp] theorem qNe:qh Tryz.prog 22=true:=by kernel_rfl
@[simp] theorem qM9:qh Tryz.prog 24=true:=by kernel_rfl
@[simp] theorem qM8:qh Tryz.prog 280=true:=by kernel_rfl
@[simp] theorem qNd:qh Tryz.prog 220=true:=by kernel_rfl
@[simp] theorem qNc:qh Tryz.prog 223=true:=by kernel_rfl
@[simp] theorem qlV:qh Tryz.prog 225=true:=by kernel_rfl
@[simp] theorem qNa:qh Tryz.prog 226=true:=by kernel_rfl
@[simp] theorem qJP:qh Tryz.prog 218=true:=by kernel_rfl
@[simp] theorem qNg:qh Tryz.prog 145=true:=by kernel_rfl
@[simp] theorem qNf:qh Tryz.prog 147=true:=by kernel_rfl
@[simp] theorem qM7:qh Tryz.prog 98=true:=by kernel_rfl
@[simp] theorem qNb:qh Tryz.prog 224=true:=by kernel_rfl
@[simp] theorem qNh:qh Tryz.prog 144=true:=by kernel_rfl
def qdA (w:World) (n a b:Int):Calls Tryz.prog 127 #[.int .i64 n,.int .i64 a,.int .i64 b] w fun e w'=>e=.returned (.bool (decide (a<=n)&&decide (n<=b)))/\w'=w:=by
 refine qIi fun ρ r0 r1 r2=>?_;by_cases h:a<=n
 ·simp -implicitDefEqProofs [qkZ,r0,r1,r2,h]
 ·simp -implicitDefEqProofs [qkZ,r0,r1,r2,h]
def k8 {n:Nat} (h:n<256):IntKind.i64.wrap (n:Int)=(n:Int):=qH (by omega)
def vJ (x:NV):Value:=.agg (qk x).toArray
def Qs {x:NV} (h:qu x.kv=true):(vJ x).cells=(qk x).toArray:=by
 simp [vJ,qk,Value.cells,vN h]
section
variable {w:World} {x:NV}
theorem qCo (h:qu x.kv=true) (g:x.nd.d.kind<256):Calls Tryz.prog 65 #[vJ x] w fun e w'=>e=.returned (.bool (qf x.nd.d.kind))/\qc w w':=by
 refine qEX fun ρ r0=>?_;simp -implicitDefEqProofs [qrx];refine vO fun X w1 j c a _=>?_;rw [show qe ρ (.tmp 0)=vJ x by simp [r0],Qs h] at a;have c0:w1.cell? ⟨X,0,none⟩=some (.int .u8 (x.nd.d.kind:Int)):=by rw [a.cell];rfl
 simp -implicitDefEqProofs [c0,k8 g];refine (qdA w1 _ 1 10).mono ?_;rintro _ _ ⟨rfl,rfl⟩;simp -implicitDefEqProofs;refine ⟨?_,c⟩;simp only [qf];congr 1
 ·exact J5.2 (by omega)
 ·exact J5.2 (by omega)
theorem qCp (g:qu x.kv=true):Calls Tryz.prog 80 #[vJ x] w fun e w'=>e=.returned (.bool (qv 20 x.nd.d.kind))/\qc w w':=by
 refine qED fun ρ r0=>?_;simp -implicitDefEqProofs [qrb];refine vO fun X w1 h c a _=>?_;rw [show qe ρ (.tmp 0)=vJ x by simp [r0],Qs g] at a;have c0:w1.cell? ⟨X,0,none⟩=some (.int .u8 (x.nd.d.kind:Int)):=by rw [a.cell];rfl
 simp -implicitDefEqProofs [c0];refine ⟨?_,c⟩;simp only [qv];exact J5.2 (by omega)
theorem qCl (y:qu x.kv=true) (g:x.nd.d.kind<256):Calls Tryz.prog 222 #[vJ x] w fun e w'=>e=.returned (.bool (wR x.nd.d.kind))/\qc w w':=by
 refine qGQ fun ρ r0=>?_;simp -implicitDefEqProofs [qtP];refine vO fun X w1 H c a _=>?_;rw [show qe ρ (.tmp 0)=vJ x by simp [r0],Qs y] at a;have c0:w1.cell? ⟨X,0,none⟩=some (.int .u8 (x.nd.d.kind:Int)):=by rw [a.cell];rfl
 simp -implicitDefEqProofs [c0,k8 g];refine (qdA w1 _ 21 31).mono ?_;rintro _ _ ⟨rfl,rfl⟩;generalize x.nd.d.kind=k at g⊢;by_cases t:(21:Int)<=(k:Int)<;>by_cases j:(k:Int)<=31<;>by_cases o:(k:Int)=32<;>by_cases z:(k:Int)=34<;>by_cases E:(k:Int)=35<;>by_cases h:(k:Int)=37<;>
  first
  |(exfalso;omega)
  |(simp -implicitDefEqProofs [t,j,o,z,E,h]
    refine ⟨?_,c⟩;unfold wR
    first
    |(simp;omega)
    |(rw [uJ];simp;omega))
theorem qCm {P:Nat} {k:Nat} (h:qu x.kv=true) (g:Blk w P #[.int .u8 (k:Int)] 5):Calls Tryz.prog 279 #[vJ x,.pointer (some ⟨P,0,none⟩)] w fun e w'=>e=.returned (.bool (qv k x.nd.d.kind))/\qc w w':=by
 refine qFP fun ρ r0 r1=>?_;simp -implicitDefEqProofs [qsv];refine vO fun X w1 j a c _=>?_;rw [show qe ρ (.tmp 0)=vJ x by simp [r0],Qs h] at c;have c0:w1.cell? ⟨X,0,none⟩=some (.int .u8 (x.nd.d.kind:Int)):=by rw [c.cell];rfl
 have c1:w1.cell? ⟨P,0,none⟩=some (.int .u8 (k:Int)):=by rw [(g.ext a).cell];rfl
 simp -implicitDefEqProofs [c0,c1,r1];refine ⟨?_,a⟩;simp only [qv];exact J5.2 (by omega)
theorem qBZ {P:Nat} {m n:Int} (a:Blk w P #[.int .i64 m] 3):Calls Tryz.prog 278 #[.int .i64 n,.pointer (some ⟨P,0,none⟩)] w fun e w'=>e=.returned (.bool (jD m n))/\qc w w':=by
 refine qFR fun ρ r0 r1=>?_;have c1:w.cell? ⟨P,0,none⟩=some (.int .i64 m):=by rw [a.cell];rfl
 simp -implicitDefEqProofs [qsw,r0,r1,c1];refine (qdA w n 0 m).mono ?_;rintro _ _ ⟨rfl,rfl⟩;simp -implicitDefEqProofs;exact ⟨rfl,qO _⟩
theorem qCc (s:Bs):Calls Tryz.prog 221 #[.string (qb s)] w fun e w'=>e=.returned (.bool (yg.contains s))/\qc w w':=by
 refine qGS fun ρ r0=>?_;simp -implicitDefEqProofs [qtQ];refine jV yQ (by decide) rfl (by simp [Value.cells]) fun Z w1 g c a _=>?_;simp -implicitDefEqProofs [Value.cells,r0] at a⊢;refine (L01.qio s (qeR (l:=yg) (by simpa [yg,qi,qb] using a) (by decide))).mono ?_;rintro _ _ ⟨rfl,rfl⟩;simp -implicitDefEqProofs;exact c
theorem qCz (v:Value):Calls Tryz.prog 219 #[v] w fun e w'=>e=.returned (.bool true)/\qc w w':=by
 refine qGY fun ρ r0=>?_;simp -implicitDefEqProofs [qtW];exact qO _
theorem qCh (g:L01.G w) (s:Bs) (j:s.length<4294967281):Calls Tryz.prog 280 #[.string (qb s)] w fun e w'=>e=.returned (.bool (decide (s=[])||qI s))/\qc w w':=by
 refine qFN fun ρ r0=>?_;have c:(⟨#[]⟩:ByteArray)=qb []:=rfl;by_cases h:s=[]
 ·subst h;simp -implicitDefEqProofs [qjX,r0,c];exact qO _
 ·simp -implicitDefEqProofs [qjX,r0,c,jC,h];refine (qfq g s (by omega)).mono ?_;rintro _ w1 ⟨rfl,a⟩;simp -implicitDefEqProofs;exact a
theorem qCx (H:L01.G w) (O:kF w) (J:qu x.kv=true) (I:x.nd.d.name.length<4294967281) (U:x.nd.d.vr.length<4294967281) (E:x.nd.d.typ.length<4294967281):Calls Tryz.prog 226 #[vJ x] w fun e w'=>e=.returned (.bool (qaQ x.nd.d))/\qc w w':=by
 refine qGI fun ρ r0=>?_;have t:(⟨#[]⟩:ByteArray)=qb []:=rfl;simp -implicitDefEqProofs [qtH];refine vO fun X w1 S g k _=>?_;rw [show qe ρ (.tmp 0)=vJ x by simp [r0],Qs J] at k;have o:∀W,qc w1 W->W.cell? ⟨X,1,none⟩=some (.string (qb x.nd.d.name))/\W.cell? ⟨X,2,none⟩=some (.string (qb x.nd.d.vr))/\W.cell? ⟨X,3,none⟩=some (.string (qb x.nd.d.typ)):=fun W z=>by
  have:=(k.ext z);refine ⟨by rw [this.cell];rfl,by rw [this.cell];rfl,by rw [this.cell];rfl⟩
 have c:=o w1 (qO _);have j:=H.ext g;unfold qaQ;by_cases y:x.nd.d.vr=[]
 ·simp -implicitDefEqProofs [c,t,jC,y];refine (L01.qa1 j _).mono ?_;rintro _ w2 ⟨rfl,a⟩;have c2:=o w2 a;cases hn:qg x.nd.d.name with
  |false=>
   simp -implicitDefEqProofs;exact g.trans' a
  |true=>
   simp -implicitDefEqProofs [c2];refine (qCh (j.ext a) _ E).mono ?_;rintro _ w3 ⟨rfl,h⟩;simp -implicitDefEqProofs;exact (g.trans' a).trans' h
 ·simp -implicitDefEqProofs [c,t,jC,y,qtG];refine (qfq j _ (by omega)).mono ?_;rintro _ w2 ⟨rfl,a⟩;have c2:=o w2 a;cases hn:qI x.nd.d.vr with
  |false=>
   simp -implicitDefEqProofs;exact g.trans' a
  |true=>
   simp -implicitDefEqProofs [c2];refine (qpf (j.ext a) ((O.ext g).ext a) _ I).mono ?_;rintro _ w3 ⟨rfl,h⟩;have c3:=o w3 (a.trans' h);cases V:vx x.nd.d.name with
   |false=>
    simp -implicitDefEqProofs;exact (g.trans' a).trans' h
   |true=>
    simp -implicitDefEqProofs [c3,t,jC];exact (g.trans' a).trans' h
end
def qT (F:FuncId) (caps:Array Value):Value:=.func (.func F) #[] caps
def xZ (_:World) (v:Value) (f:Bs->Bool):Prop:=(v=qT 77 #[]/\f=qg)\/(v=qT 22 #[]/\f=qI)\/(v=qT 221 #[]/\f=yg.contains)\/(v=qT 219 #[]/\f=kD)
def xd (w:World) (v:Value) (f:Nat->Bool):Prop:=(v=qT 65 #[]/\f=qf)\/(v=qT 80 #[]/\f=qv 20)\/(v=qT 222 #[]/\f=wR)\/∃(P k:Nat),v=qT 279 #[.pointer (some ⟨P,0,none⟩)]/\Blk w P #[.int .u8 (k:Int)] 5/\f=qv k
def wy (w:World) (v:Value) (f:Int->Bool):Prop:=∃(P:Nat) (m:Int),v=qT 278 #[.pointer (some ⟨P,0,none⟩)]/\Blk w P #[.int .i64 m] 3/\f=jD m
section
variable {w w':World} {v:Value} {p:Nat->TypeId->Prop}
theorem xZ.at' {f:Bs->Bool} (h:xZ w v f):xZ w' v f:=h
theorem xd.at' {f:Nat->Bool} (h:xd w v f) (j:qz p w w') (g:∀k,p k 5):xd w' v f:=by
 rcases h with h|h|h|⟨P,k,c,o,a⟩
 ·exact .inl h
 ·exact .inr (.inl h)
 ·exact .inr (.inr (.inl h))
 ·exact .inr (.inr (.inr ⟨P,k,c,o.at' j (g P),a⟩))
theorem wy.at' {f:Int->Bool} (h:wy w v f) (j:qz p w w') (g:∀k,p k 3):wy w' v f:=by
 obtain ⟨P,m,c,o,a⟩:=h;exact ⟨P,m,c,o.at' j (g P),a⟩
theorem xZ.fn {f:Bs->Bool} (h:xZ w v f) (a:L01.G w):∃F caps,v=qT F caps/\qh Tryz.prog F=true/\∀s:Bs,s.length<4294967281->Calls Tryz.prog F (#[.string (qb s)]++caps) w fun e w'=>e=.returned (.bool (f s))/\qc w w':=by
 rcases h with ⟨rfl,rfl⟩|⟨rfl,rfl⟩|⟨rfl,rfl⟩|⟨rfl,rfl⟩
 ·exact ⟨77, #[],rfl,by kernel_rfl,fun s _=>by simpa using L01.qa1 a s⟩
 ·exact ⟨22, #[],rfl,by kernel_rfl,fun s c=>by simpa using qfq a s (by omega)⟩
 ·exact ⟨221, #[],rfl,by kernel_rfl,fun s c=>by simpa using qCc s⟩
 ·exact ⟨219, #[],rfl,by kernel_rfl,fun s c=>qCz (w:=w) (.string (qb s))⟩
theorem xd.fn {f:Nat->Bool} (h:xd w v f):∃F caps,v=qT F caps/\qh Tryz.prog F=true/\∀W,qc w W->∀x:NV,qu x.kv=true->x.nd.d.kind<256->Calls Tryz.prog F (#[vJ x]++caps) W fun e w'=>e=.returned (.bool (f x.nd.d.kind))/\qc W w':=by
 rcases h with ⟨rfl,rfl⟩|⟨rfl,rfl⟩|⟨rfl,rfl⟩|⟨P,k,rfl,j,rfl⟩
 ·exact ⟨65, #[],rfl,by kernel_rfl,fun W _ x a c=>by simpa using qCo a c⟩
 ·exact ⟨80, #[],rfl,by kernel_rfl,fun W _ x a _=>by simpa using qCp a⟩
 ·exact ⟨222, #[],rfl,by kernel_rfl,fun W _ x a c=>by simpa using qCl a c⟩
 ·exact ⟨279, #[.pointer (some ⟨P,0,none⟩)],rfl,by kernel_rfl,fun W g x a _=>by simpa using qCm a (j.ext g)⟩
theorem wy.fn {f:Int->Bool} (h:wy w v f):∃F caps,v=qT F caps/\qh Tryz.prog F=true/\∀W,qc w W->∀n:Int,Calls Tryz.prog F (#[.int .i64 n]++caps) W fun e w'=>e=.returned (.bool (f n))/\qc W w':=by
 obtain ⟨P,m,rfl,c,rfl⟩:=h;exact ⟨278, #[.pointer (some ⟨P,0,none⟩)],rfl,by kernel_rfl,fun W a n=>by simpa using qBZ (c.ext a)⟩
theorem qfN:xd w (qT 65 #[]) qf:=.inl ⟨rfl,rfl⟩
theorem qqa:xd w (qT 80 #[]) (qv 20):=.inr (.inl ⟨rfl,rfl⟩)
theorem qD9:xd w (qT 222 #[]) wR:=.inr (.inr (.inl ⟨rfl,rfl⟩))
theorem qnN:xZ w (qT 77 #[]) qg:=.inl ⟨rfl,rfl⟩
theorem qnM:xZ w (qT 22 #[]) qI:=.inr (.inl ⟨rfl,rfl⟩)
theorem qzK:xZ w (qT 221 #[]) yg.contains:=.inr (.inr (.inl ⟨rfl,rfl⟩))
theorem qzL:xZ w (qT 219 #[]) kD:=.inr (.inr (.inr ⟨rfl,rfl⟩))
theorem xd.is {f:Nat->Bool} (h:xd w v f):∃F caps,v=qT F caps:=by obtain ⟨F,caps,h,_⟩:=h.fn;exact ⟨F,caps,h⟩
theorem wy.is {f:Int->Bool} (h:wy w v f):∃F caps,v=qT F caps:=by obtain ⟨F,caps,h,_⟩:=h.fn;exact ⟨F,caps,h⟩
theorem xZ.is {f:Bs->Bool} (h:xZ w v f):∃F caps,v=qT F caps:=by
 rcases h with ⟨rfl,_⟩|⟨rfl,_⟩|⟨rfl,_⟩|⟨rfl,_⟩<;>exact ⟨_,_,rfl⟩
theorem qCn (k:Nat):Calls Tryz.prog 223 #[.int .u8 (k:Int)] w fun e w'=>∃v,e=.returned v/\xd w' v (qv k)/\qc w w':=by
 refine qGO fun ρ r0=>?_;simp -implicitDefEqProofs [qtO];refine vO fun X w1 g c a _=>?_;simp -implicitDefEqProofs [r0,Value.cells] at a⊢;exact ⟨.inr (.inr (.inr ⟨X,k,rfl,a,rfl⟩)),c⟩
theorem qB0 (m:Int):Calls Tryz.prog 220 #[.int .i64 m] w fun e w'=>∃v,e=.returned v/\wy w' v (jD m)/\qc w w':=by
 refine qGU fun ρ r0=>?_;simp -implicitDefEqProofs [qtR];refine vO fun X w1 g c a _=>?_;simp -implicitDefEqProofs [r0,Value.cells] at a⊢;exact ⟨⟨X,m,rfl,a,rfl⟩,c⟩
end
def xH {α:Type} (R:Value->α->Prop) (v:Value):Option α->Prop
 |none=>v=.nilFunc
 |some f=>R v f
def xH.imp {α:Type} {R R':Value->α->Prop} {v:Value} (h:∀f,R v f->R' v f):∀{o:Option α},xH R v o->xH R' v o
 |none,a=>a
 |some _,a=>h _ a
noncomputable def qd0:Code:=((Tryz.f144.body).getD .skip)
noncomputable def qvf:IR:=.ret
noncomputable def qvg:IR:=zq [zA 0 175,za 1 (.const (.func (.func 218) #[] #[])),zE 4 (.build 241 #[(0,(.func 77)),(2,(.func 22))]) 241,zA 2 241,zw 241 (zt 2) (zt 4),za 3 (.const (.func (.func 219) #[] #[]))] <| .seq (.raw (qP qd0 4)) (qvf)
def qgx:List Nat:=zV 113 []
def qH2:C0 144 113 qgx qvg [.cellN 0 38]:=c0 [4] Tryz.func144
def kG (w:World) (v:Value) (l:List (Nat->Bool)):Prop:=(v=.slice none 0 0/\l=[])\/∃B cs,v=.slice (some ⟨B,0,none⟩) l.length l.length/\Blk w B (List.toArray cs) 98/\zJ (xd w) cs l
def kG.nil {w:World}:kG w (.slice none 0 0) []:=.inl ⟨rfl,rfl⟩
def kG.cons {w:World} {v:Value} {l:List (Nat->Bool)} (h:kG w v l) (a:l≠[]):∃B cs,v=.slice (some ⟨B,0,none⟩) l.length l.length/\Blk w B (List.toArray cs) 98/\zJ (xd w) cs l:=by
 rcases h with ⟨_,h⟩|h
 ·exact absurd h a
 ·exact h
def x6:Nat->TypeId->Prop:=fun _ T=>T≠175
def kG.at' {w w':World} {v:Value} {l:List (Nat->Bool)} (h:kG w v l) (a:qz x6 w w'):kG w' v l:=by
 rcases h with h|⟨B,cs,g,j,c⟩
 ·exact .inl h
 ·exact .inr ⟨B,cs,g,j.at' a (by simp [x6]),c.imp fun _ _ h=>h.at' a fun _=>by simp [x6]⟩
def kG.isl {w:World} {v:Value} {l:List (Nat->Bool)} (h:kG w v l) (c:l.length<4611686018427387904:=by decide):qu v=true:=by
 rcases h with ⟨rfl,_⟩|⟨B,cs,rfl,g,a⟩
 ·rfl
 ·simp [qu];try omega
structure RowC (w:World) (nm vr ty nu fi mo:Value) (r:Row):Prop where
 name:xH (xZ w) nm r.name
 vr:xH (xZ w) vr r.vr
 typ:xH (xZ w) ty r.typ
 n:xH (wy w) nu r.n
 first:kG w fi r.first
 more:xH (xd w) mo r.more
def RowC.at' {w w':World} {nm vr ty nu fi mo:Value} {r:Row} (h:RowC w nm vr ty nu fi mo r) (a:qz x6 w w'):RowC w' nm vr ty nu fi mo r:=
 ⟨h.name.imp fun _ h=>h,h.vr.imp fun _ h=>h,h.typ.imp fun _ h=>h,h.n.imp fun _ h=>h.at' a fun _=>by simp [x6],h.first.at' a,h.more.imp fun _ h=>h.at' a fun _=>by simp [x6]⟩
def qfW:Value->Bool| .nilFunc=>true| .func .. =>true|_=>false
def yZ {v:Value} (h:qfW v=true):v.cells=#[v]/\v.oneCell=true:=by cases v<;>first|(cases h;done)|exact ⟨rfl,rfl⟩
def xH.fnS {w:World} {v:Value}:∀{o:Option (Bs->Bool)},xH (xZ w) v o->qfW v=true
 |none,h=>by cases h;rfl
 |some _,h=>by obtain ⟨F,caps,rfl⟩:=xZ.is (w:=w) h;rfl
def xH.fnN {w:World} {v:Value}:∀{o:Option (Int->Bool)},xH (wy w) v o->qfW v=true
 |none,h=>by cases h;rfl
 |some _,h=>by obtain ⟨F,caps,rfl⟩:=wy.is h;rfl
def xH.fnK {w:World} {v:Value}:∀{o:Option (Nat->Bool)},xH (xd w) v o->qfW v=true
 |none,h=>by cases h;rfl
 |some _,h=>by obtain ⟨F,caps,rfl⟩:=xd.is h;rfl
def kG.one {w:World} {v:Value} {l:List (Nat->Bool)} (h:kG w v l):v.cells=#[v]/\v.oneCell=true:=by
 rcases h with ⟨rfl,_⟩|⟨B,cs,rfl,_⟩<;>exact ⟨rfl,rfl⟩
def zZ (nm vr ty nu fi mo:Value) (r:Row):Array Value:=#[nm,vr,ty,nu,fi,mo,.int .i64 (r.least:Int),.int .i64 (r.most:Int)]
def RowC.cells {w:World} {nm vr ty nu fi mo:Value} {r:Row} (h:RowC w nm vr ty nu fi mo r):(Value.agg (zZ nm vr ty nu fi mo r)).cells=zZ nm vr ty nu fi mo r:=by
 have c:=(yZ h.name.fnS).1;have j:=(yZ h.vr.fnS).1;have a:=(yZ h.typ.fnS).1;have o:=(yZ h.n.fnN).1;have k:=h.first.one.1;have g:=(yZ h.more.fnK).1;simp [Value.cells,zZ,c,j,a,o,k,g]
def qcL (w:World) (v:Value) (r:Row):Prop:=∃nm vr ty nu fi mo,v=.agg (zZ nm vr ty nu fi mo r)/\RowC w nm vr ty nu fi mo r
def yo (w:World) (v:Value) (r:Row):Prop:=∃X nm vr ty nu fi mo,v=.pointer (some ⟨X,0,none⟩)/\Blk w X (zZ nm vr ty nu fi mo r) 241/\RowC w nm vr ty nu fi mo r
def qcL.at' {w w':World} {v:Value} {r:Row} (h:qcL w v r) (c:qz x6 w w'):qcL w' v r:=by
 obtain ⟨nm,vr,ty,nu,fi,mo,a,g⟩:=h;exact ⟨nm,vr,ty,nu,fi,mo,a,g.at' c⟩
def yo.at' {w w':World} {v:Value} {r:Row} (h:yo w v r) (a:qz x6 w w'):yo w' v r:=by
 obtain ⟨X,nm,vr,ty,nu,fi,mo,g,j,c⟩:=h;exact ⟨X,nm,vr,ty,nu,fi,mo,g,j.at' a (by simp [x6]),c.at' a⟩
def yo.ptr {w:World} {v:Value} {r:Row} (h:yo w v r):∃X,v=.pointer (some ⟨X,0,none⟩)/\yo w (.pointer (some ⟨X,0,none⟩)) r:=by
 obtain ⟨X,nm,vr,ty,nu,fi,mo,rfl,c,a⟩:=h;exact ⟨X,rfl,X,nm,vr,ty,nu,fi,mo,rfl,c,a⟩
def qaU (w:World) (v:Value):Option Row->Prop
 |none=>v=.pointer none
 |some r=>yo w v r
def qaU.at' {w w':World} {v:Value} (a:qz x6 w w'):∀{r:Option Row},qaU w v r->qaU w' v r
 |none,h=>h
 |some _,h=>yo.at' h a
def QL (w:World) (cs:List Value):Prop:=cs.length=38/\∀k,k<38->qaU w (cs.getD k undef) (z6 k)
def QL.at' {w w':World} {cs:List Value} (h:QL w cs) (c:qz x6 w w'):QL w' cs:=⟨h.1,fun k a=>qaU.at' c (h.2 k a)⟩
theorem qzE:wI Tryz.prog 239=some (98,1):=by kernel_rfl
theorem qzg:jT Tryz.prog 239 1=true:=by kernel_rfl
def qCr {w:World} {nm vr ty nu fi mo kv:Value} {r:Row} {l:List (Nat->Bool)} (h:RowC w nm vr ty nu fi mo r) (t:kG w kv l) (hb:l.length<4611686018427387904:=by decide):
  Calls Tryz.prog 218 #[.agg (zZ nm vr ty nu fi mo r),kv] w fun e w'=>∃v,e=.returned v/\yo w' v (qd r l)/\qc w w':=by
 have o:ql kv=l.length:=by
  rcases t with ⟨rfl,rfl⟩|⟨B,cs,rfl,_⟩<;>rfl
 have g:=t.isl hb;refine qG0 fun ρ r0 r1=>?_;simp -implicitDefEqProofs [qtX];refine vO fun X w1 H J y _=>?_;rw [show qe ρ (.tmp 0)=_ from r0,h.cells] at y;simp -implicitDefEqProofs [r0,r1,g,o];refine qW (B:=X) (i:=4) (by simp) y (by simp [zZ]) (by simpa [r1] using t.one.1) (by simpa [r1] using t.one.2) qzg fun w2 I Y=>?_;have E:Blk w2 X #[nm,vr,ty,nu,kv,mo,.int .i64 (r.least:Int),.int .i64 (r.most:Int)] 241:=by simpa [zZ,r1] using Y
 simp -implicitDefEqProofs;refine qW (B:=X) (i:=6) (by simp) E (by simp) (by simp [Value.cells]) (by simp) vp fun w3 O U=>?_;have a:Blk w3 X #[nm,vr,ty,nu,kv,mo,.int .i64 (l.length:Int),.int .i64 (r.most:Int)] 241:=by simpa using U
 simp -implicitDefEqProofs;refine qW (B:=X) (i:=7) (by simp) a (by simp) (by simp [Value.cells]) (by simp) vp fun V S Z=>?_;have j:Blk V X (zZ nm vr ty nu kv mo (qd r l)) 241:=by simpa [zZ,qd] using Z
 have c:qc w V:=S.ext (O.ext (I.ext J H) H) H;simp -implicitDefEqProofs;have k:qz x6 w V:=qz.ext c;have z:=h.at' k;exact ⟨⟨X,nm,vr,ty,nu,kv,mo,rfl,j,⟨z.name,z.vr,z.typ,z.n,t.at' k,z.more⟩⟩,c⟩
inductive SC where
 |nm|ty|op|an
def SC.f:SC->Bs->Bool| .nm=>qg| .ty=>qI| .op=>yg.contains| .an=>kD
inductive KC where
 |ex|bl|st|is (k:Nat)
def KC.f:KC->Nat->Bool| .ex=>qf| .bl=>qv 20| .st=>wR| .is k=>qv k
structure RC where
 name:Option SC:=none
 vr:Option SC:=none
 typ:Option SC:=none
 n:Option Int:=none
 first:List KC:=[]
 more:Option KC:=none
 least:Nat:=0
 most:Nat:=0
def RC.r (c:RC):Row:=⟨c.name.map SC.f,c.vr.map SC.f,c.typ.map SC.f,c.n.map jD,c.first.map KC.f,c.more.map KC.f,c.least,c.most⟩
def qlb (c:RC) (l:List KC):RC:={c with first:=l,least:=l.length,most:=l.length}
def qIL (c:RC) (l:List KC):(qlb c l).r=qd c.r (l.map KC.f):=by simp [qlb,RC.r,qd]
def tyC:RC:={name:=some .nm,typ:=some .ty}
inductive AC where
 |fx|an|num (m:Int)|knd (k:KC)|kids (l:List KC)|rowA (r:RC)|rowP (r:RC)|arr (l:List (Option RC))
def qmk (w:World) (cs:List Value) (l:List (Option RC)):Prop:=cs.length=38/\l.length=38/\∀k,k<38->qaU w (cs.getD k undef) ((l.getD k none).map RC.r)
def AC.holds (w:World) (v:Value):AC->Prop
 | .fx=>v=qT 218 #[]
 | .an=>v=qT 219 #[]
 | .num m=>wy w v (jD m)
 | .knd k=>xd w v k.f
 | .kids l=>kG w v (l.map KC.f)/\l.length<9
 | .rowA r=>qcL w v r.r
 | .rowP r=>yo w v r.r
 | .arr l=>∃cs:List Value,v=.agg cs.toArray/\qmk w cs l
def AC.at' {w w':World} {v:Value} (c:qz x6 w w'):∀{a:AC},a.holds w v->a.holds w' v
 | .fx,h=>h
 | .an,h=>h
 | .num _,h=>wy.at' h c fun _=>by simp [x6]
 | .knd _,h=>xd.at' h c fun _=>by simp [x6]
 | .kids _,h=>⟨kG.at' h.1 c,h.2⟩
 | .rowA _,h=>qcL.at' h c
 | .rowP _,h=>yo.at' h c
 | .arr _,⟨cs,o,g⟩=>⟨cs,o,g.1,g.2.1,fun k j=>qaU.at' c (g.2.2 k j)⟩
def QP (fs:List AC) (ds:List Nat) (t:Nat):Option AC:=bif ds.contains (t - 5)&&Nat.ble 5 t then fs[t - 5]? else none
def kOp (fs:List AC) (ds:List Nat):Operand->Option KC
 | .func 65=>some .ex
 | .func 80=>some .bl
 | .func 222=>some .st
 | .tmp t=>match QP fs ds t with|some (.knd k)=>some k|_=>none
 |_=>none
def sOp (fs:List AC) (ds:List Nat):Operand->Option SC
 | .func 77=>some .nm
 | .func 22=>some .ty
 | .func 221=>some .op
 | .tmp t=>match QP fs ds t with|some .an=>some .an|_=>none
 |_=>none
def nOp (fs:List AC) (ds:List Nat):Operand->Option Int
 | .tmp t=>match QP fs ds t with|some (.num m)=>some m|_=>none
 |_=>none
def lOp (fs:List AC) (ds:List Nat):Operand->Option (List KC)
 | .const (.slice none 0 0)=>some []
 | .tmp t=>match QP fs ds t with|some (.kids l)=>some l|_=>none
 |_=>none
def iOp:Operand->Option Nat
 | .const (.int .i64 (.ofNat n))=>some n
 |_=>none
def pOp (fs:List AC) (ds:List Nat):Operand->Option RC
 | .tmp t=>match QP fs ds t with|some (.rowP r)=>some r|_=>none
 |_=>none
def aOp (fs:List AC) (ds:List Nat):Operand->Option RC
 | .tmp t=>match QP fs ds t with|some (.rowA r)=>some r|_=>none
 |_=>none
def qnO (fs:List AC) (ds:List Nat) (c:RC) (o:Operand):Nat->Option RC
 |0=>(sOp fs ds o).map fun s=>{c with name:=some s}
 |1=>(sOp fs ds o).map fun s=>{c with vr:=some s}
 |2=>(sOp fs ds o).map fun s=>{c with typ:=some s}
 |3=>(nOp fs ds o).map fun s=>{c with n:=some s}
 |4=>(lOp fs ds o).map fun s=>{c with first:=s}
 |5=>(kOp fs ds o).map fun s=>{c with more:=some s}
 |6=>(iOp o).map fun s=>{c with least:=s}
 |7=>(iOp o).map fun s=>{c with most:=s}
 |_=>none
def qiA (fs:List AC) (ds:List Nat):List (Nat×Operand)->RC->Option RC
 |[],c=>some c
 |p::ps,c=>(qnO fs ds c p.2 p.1).bind (qiA fs ds ps)
def qg7 (fs:List AC) (ds:List Nat):List (Nat×Operand)->List (Option RC)->Option (List (Option RC))
 |[],l=>some l
 |p::ps,l=>bif Nat.blt p.1 38 then (pOp fs ds p.2).bind fun r=>qg7 fs ds ps (l.set p.1 (some r)) else none
def qfM (fs:List AC) (ds:List Nat):Nat->List (Nat×Operand)->Option (List KC)
 |_,[]=>some []
 |i,p::ps=>bif Nat.beq p.1 i then (kOp fs ds p.2).bind fun k=>(qfM fs ds (i+1) ps).map (k:: ·) else none
def qhO (fs:List AC) (ds:List Nat):St->Option AC
 | .asg none _ (.var 1)=>some .fx
 | .asg none _ (.var 3)=>some .an
 | .asg none _ (.op1 (.loadN 8) (.var 2))=>some (.rowA tyC)
 | .eff none (some _) (.call ⟨.value (.func 220),⟨[.const (.int .i64 n)]⟩,_⟩) _=>some (.num n)
 | .eff none (some _) (.call ⟨.value (.func 223),⟨[.const (.int .u8 (.ofNat k))]⟩,_⟩) _=>some (.knd (.is k))
 | .eff none (some _) (.build 241 ps) _=>(qiA fs ds ps.toList {}).map .rowA
 | .eff none (some _) (.call ⟨.value (.tmp f),⟨[a,o]⟩,_⟩) _=>match QP fs ds f with
  |some .fx=>(aOp fs ds a).bind fun r=>(lOp fs ds o).map fun l=> .rowP (qlb r l)
  |_=>none
 | .eff none (some _) (.box 241 a) _=>(aOp fs ds a).map .rowP
 | .eff none (some _) (.buildSlice 239 n ps) _=>(qfM fs ds 0 ps.toList).bind fun l=>bif Nat.beq n l.length&&Nat.blt n 9 then some (.kids l) else none
 | .eff none (some _) (.build 175 ps) _=>(qg7 fs ds ps.toList (List.replicate 38 none)).map .arr
 |_=>none
def qwG:St->Option Nat
 | .asg _ d _=>some d
 | .eff _ d _ _=>d
def Jb:List (Option St)->List (List Nat)->List AC->Option (List AC)
 |some s::ss,d::ds,fs=>match qwG s with
  |some t=>bif Nat.beq t (fs.length+5) then (qhO fs d s).bind fun F=>Jb ss ds (fs++[F]) else none
  |none=>none
 |[],_,fs=>some fs
 |_,_,_=>none
def qwk:∀(ss:List (Option St)) (ds:List (List Nat)) (fs r:List AC),Jb ss ds fs=some r->(∃q,r=fs++q)/\r.length=fs.length+ss.length/\
  ∀i s d,ss[i]? =some (some s)->ds[i]? =some d->∃p q F,r=p++F::q/\p.length=fs.length+i/\qhO p d s=some F/\qwG s=some (p.length+5)
 |[],_,fs,r,h=>by
  simp only [Jb,ub] at h;subst h;exact ⟨⟨[],by simp⟩,by simp,fun i s d h=>by simp at h⟩
 |none::_,ds,fs,r,h=>by cases ds<;>simp [Jb] at h
 |some s::_,[],fs,r,h=>by simp [Jb] at h
 |some s::ss,d::ds,fs,r,h=>by
  unfold Jb at h;split at h
  ·rename_i t E;cases a:Nat.beq t (fs.length+5) with
   |false=>rw [a] at h;cases h
   |true=>
    rw [a] at h;obtain ⟨F,o,h⟩:=uc.1 h;obtain ⟨⟨q,j⟩,k,H⟩:=qwk ss ds _ r h;have:=uo a;subst this;refine ⟨⟨F::q,by simp [j]⟩,by simp at k⊢;omega,fun i J O g c=>?_⟩;cases i with
    |zero=>
     cases g;cases c;exact ⟨fs,q,F,by simp [j],rfl,o,E⟩
    |succ i=>
     obtain ⟨p,q',F',I,y,z⟩:=H i J O g c;exact ⟨p,q',F',I,by simp at y;omega,z⟩
  ·cases h
noncomputable def qah:List (Option St):=(qc2 Tryz.prog 113 qgx (qP qd0 4)).getD []
noncomputable def qcB:List (List Nat):=qlJ (qP qd0 4)
noncomputable def qaI:List AC:=(Jb (qah.take 108) qcB []).getD []
def qIS:Jb (qah.take 108) qcB []=some qaI:=by
 have h:(Jb (qah.take 108) qcB []).isSome=true:=by kernel_rfl
 obtain ⟨r,a⟩:=VW.1 h;unfold qaI;rw [a];rfl
theorem qwi:qaI.length=108:=by kernel_rfl
def qKC:Option AC->List (Option RC)|some (.arr l)=>l|_=>[]
noncomputable def qhP:List (Option RC):=qKC qaI[107]?
theorem qIT:qaI[107]? =some (.arr qhP):=by kernel_rfl
theorem qyU:(List.range 38).map (fun k=>(qhP.getD k none).map RC.r)=(List.range 38).map z6:=by kernel_rfl
def qyV {k:Nat} (a:k<38):(qhP.getD k none).map RC.r=z6 k:=by
 have h:=congrArg (fun l=>l[k]?) qyU;simpa [a] using h
structure J144 (w0:World) (A T:Nat) (L:Nat->Bool) (ρ:qa) (w:World):Prop where
 ext:qc w0 w
 r0:ρ 0=.pointer (some ⟨A,0,none⟩)
 r1:ρ 1=qT 218 #[]
 r2:ρ 2=.pointer (some ⟨T,0,none⟩)
 r3:ρ 3=qT 219 #[]
 A0:w0.heap.size<=A
 bA:L 108=false->Blk w A (Array.replicate 38 (.pointer none)) 175
 fin:L 108=true->∃cs:List Value,Blk w A cs.toArray 175/\QL w cs
 ty:yo w (.pointer (some ⟨T,0,none⟩)) tyC.r
 facts:∀(k:Nat) (F:AC),qaI[k]? =some F->L k=true->F.holds w (ρ (k+5))
def qaj (i:Nat) (L:Nat->Bool):Nat->Bool:=fun k=>if k=i then true else L k
def J144.put {w0:World} {A T:Nat} {L:Nat->Bool} {ρ:qa} {w w':World} {v:Value} (h:J144 w0 A T L ρ w) (i:Nat) (F:AC) (t:qaI[i]? =some F) (g:qc w w') (z:F.holds w' v):J144 w0 A T (qaj i L) (qw ρ (i+5) v) w':=by
 have H:i<108:=by
  have:=(Jv.1 t).1
  rwa [qwi] at this
 have ne:∀k,k<5->qw ρ (i+5) v k=ρ k:=fun k j=>by simp [qw];omega
 have a:qaj i L 108=L 108:=by unfold qaj;rw [if_neg (by omega)]
 have o:qz x6 w w':=qz.ext g;refine ⟨h.ext.trans' g,by rw [ne 0 (by omega)];exact h.r0,by rw [ne 1 (by omega)];exact h.r1,by rw [ne 2 (by omega)];exact h.r2,by rw [ne 3 (by omega)];exact h.r3,h.A0,fun e=>(h.bA (a▸e)).ext g,fun e=>?_,h.ty.at' o,fun k F' c hL=>?_⟩
 ·obtain ⟨cs,E,y⟩:=h.fin (a▸e);exact ⟨cs,E.ext g,y.at' o⟩
 ·by_cases j:k=i
  ·subst j;rw [t] at c;cases c;simpa [qw] using z
  ·have e:qw ρ (i+5) v (k+5)=ρ (k+5):=by simp [qw,j]
   rw [e];exact AC.at' o (h.facts k F' c (by simpa [qaj,j] using hL))
section
variable {w0:World} {A T:Nat} {L:Nat->Bool} {ρ:qa} {w:World} {Q:Ks} {K:qa->World->Prop} {p:List AC} {ds:List Nat}
def QJ (p:List AC) (ds:List Nat) (ρ:qa) (w:World):Prop:=∀t a,QP p ds t=some a->a.holds w (ρ t)
theorem qqb (a:QJ p ds ρ w) {o:Operand} {k:KC} (h:kOp p ds o=some k):xd w (qe ρ o) k.f:=by
 unfold kOp at h;split at h<;>first|(cases h;done)|(cases h;first|exact qfN|exact qqa|exact qD9)|skip
 rename_i t;split at h
 ·rename_i g c;cases h;exact a t _ c
 ·cases h
theorem qip (a:QJ p ds ρ w) {o:Operand} {k:SC} (h:sOp p ds o=some k):xZ w (qe ρ o) k.f:=by
 unfold sOp at h;split at h<;>first|(cases h;done)|(cases h;first|exact qnN|exact qnM|exact qzK)|skip
 rename_i t;split at h
 ·rename_i c;cases h;have e:ρ t=qT 219 #[]:=a t _ c;show xZ w (ρ t) kD;rw [e];exact qzL
 ·cases h
theorem qDz (c:QJ p ds ρ w) {o:Operand} {m:Int} (h:nOp p ds o=some m):wy w (qe ρ o) (jD m):=by
 unfold nOp at h;split at h
 ·rename_i t;split at h
  ·rename_i a;cases h;exact c t _ a
  ·cases h
 ·cases h
theorem qp0 (a:QJ p ds ρ w) {o:Operand} {l:List KC} (h:lOp p ds o=some l):kG w (qe ρ o) (l.map KC.f)/\l.length<9:=by
 unfold lOp at h;split at h
 ·cases h;exact ⟨.nil,by decide⟩
 ·rename_i t;split at h
  ·rename_i c;cases h;exact a t _ c
  ·cases h
 ·cases h
theorem qCI (c:QJ p ds ρ w) {o:Operand} {r:RC} (h:pOp p ds o=some r):yo w (qe ρ o) r.r:=by
 unfold pOp at h;split at h
 ·rename_i t;split at h
  ·rename_i a;cases h;exact c t _ a
  ·cases h
 ·cases h
theorem qxS (c:QJ p ds ρ w) {o:Operand} {r:RC} (h:aOp p ds o=some r):qcL w (qe ρ o) r.r:=by
 unfold aOp at h;split at h
 ·rename_i t;split at h
  ·rename_i a;cases h;exact c t _ a
  ·cases h
 ·cases h
theorem qvX {o:Operand} {n:Nat} (h:iOp o=some n):qe ρ o=.int .i64 (n:Int):=by
 unfold iOp at h;split at h
 ·cases h;rfl
 ·cases h
theorem qwf {pl:Nat->Option (Nat×Nat)} {cs:List Value} {i:Nat} {v:Value} {rest:List (Nat×Value)} (c:pl i=some (i,1)) (a:v.cells=#[v]) (g:i<cs.length):
  Instr.fill pl cs.toArray ((i,v)::rest)=Instr.fill pl (cs.set i v).toArray rest:=by
 rw [Instr.fill,c];simp [a,show¬cs.length<i+1 by omega]
theorem qoh (O:QJ p ds ρ w) {pl:Nat->Option (Nat×Nat)} (hp:∀i,i<8->pl i=some (i,1)):∀(ps:List (Nat×Operand)) (c r:RC),qiA p ds ps c=some r->∀{nm vr ty nu fi mo:Value},RowC w nm vr ty nu fi mo c.r->
  ∃I z J y E H,Instr.fill pl (zZ nm vr ty nu fi mo c.r) (ps.map fun q=>(q.1,qe ρ q.2))=some (zZ I z J y E H r.r)/\RowC w I z J y E H r.r
 |[],c,r,h,nm,vr,ty,nu,fi,mo,j=>by
  cases h;exact ⟨nm,vr,ty,nu,fi,mo,rfl,j⟩
 |q::ps,c,r,h,nm,vr,ty,nu,fi,mo,j=>by
  obtain ⟨c1,t,h2⟩:=uc.1 h;obtain ⟨i,o⟩:=q;have go:∀{Y S ty1 V Z U:Value},i<8->(qe ρ o).cells=#[qe ρ o]->RowC w Y S ty1 V Z U c1.r->(zZ nm vr ty nu fi mo c.r).toList.set i (qe ρ o)=(zZ Y S ty1 V Z U c1.r).toList->
    ∃I z J y E H,Instr.fill pl (zZ nm vr ty nu fi mo c.r) (((i,o)::ps).map fun q=>(q.1,qe ρ q.2))=some (zZ I z J y E H r.r)/\RowC w I z J y E H r.r:=fun hi hv aa he=>by
   obtain ⟨a,b,d,e,f,g,h3,h4⟩:=qoh O hp ps c1 r h2 aa;refine ⟨a,b,d,e,f,g, ?_,h4⟩;rw [<-h3,List.map_cons];rw [show zZ nm vr ty nu fi mo c.r=(zZ nm vr ty nu fi mo c.r).toList.toArray from rfl,qwf (hp i hi) hv (by simpa [zZ] using hi),he]
  have one:∀{m:Nat},(Value.int .i64 (m:Int)).cells=#[.int .i64 (m:Int)]:=by simp [Value.cells]
  dsimp only at t;unfold qnO at t;split at t
  ·obtain ⟨s,k,rfl⟩:=ua.1 t;have h:=qip O k;exact go (by decide) (yZ (xH.fnS (w:=w) (o:=some s.f) h)).1 ⟨h,j.vr,j.typ,j.n,j.first,j.more⟩ rfl
  ·obtain ⟨s,k,rfl⟩:=ua.1 t;have h:=qip O k;exact go (by decide) (yZ (xH.fnS (w:=w) (o:=some s.f) h)).1 ⟨j.name,h,j.typ,j.n,j.first,j.more⟩ rfl
  ·obtain ⟨s,k,rfl⟩:=ua.1 t;have h:=qip O k;exact go (by decide) (yZ (xH.fnS (w:=w) (o:=some s.f) h)).1 ⟨j.name,j.vr,h,j.n,j.first,j.more⟩ rfl
  ·obtain ⟨s,k,rfl⟩:=ua.1 t;have h:=qDz O k;exact go (by decide) (yZ (xH.fnN (w:=w) (o:=some (jD s)) h)).1 ⟨j.name,j.vr,j.typ,h,j.first,j.more⟩ rfl
  ·obtain ⟨s,k,rfl⟩:=ua.1 t;have h:=(qp0 O k).1;exact go (by decide) h.one.1 ⟨j.name,j.vr,j.typ,j.n,h,j.more⟩ rfl
  ·obtain ⟨s,k,rfl⟩:=ua.1 t;have h:=qqb O k;exact go (by decide) (yZ (xH.fnK (w:=w) (o:=some s.f) h)).1 ⟨j.name,j.vr,j.typ,j.n,j.first,h⟩ rfl
  ·obtain ⟨s,k,rfl⟩:=ua.1 t;have e:=qvX (ρ:=ρ) k;exact go (by decide) (e▸one) ⟨j.name,j.vr,j.typ,j.n,j.first,j.more⟩ (by rw [e];rfl)
  ·obtain ⟨s,k,rfl⟩:=ua.1 t;have e:=qvX (ρ:=ρ) k;exact go (by decide) (e▸one) ⟨j.name,j.vr,j.typ,j.n,j.first,j.more⟩ (by rw [e];rfl)
  ·cases t
theorem qxC (E:QJ p ds ρ w) {pl:Nat->Option (Nat×Nat)} (z:∀i,i<38->pl i=some (i,1)):∀(ps:List (Nat×Operand)) (l r:List (Option RC)),qg7 p ds ps l=some r->∀{cs:List Value},qmk w cs l->
  ∃cs',Instr.fill pl cs.toArray (ps.map fun q=>(q.1,qe ρ q.2))=some cs'.toArray/\qmk w cs' r
 |[],l,r,h,cs,a=>by
  cases h;exact ⟨cs,rfl,a⟩
 |q::ps,l,r,h,cs,a=>by
  obtain ⟨i,o⟩:=q;unfold qg7 at h;cases g:Nat.blt i 38 with
  |false=>rw [show Nat.blt (i,o).1 38=false from g] at h;cases h
  |true=>
   rw [show Nat.blt (i,o).1 38=true from g] at h;have j:i<38:=uV g;obtain ⟨c,O,H⟩:=uc.1 h;have y:=qCI E O;obtain ⟨cs',I,S⟩:=qxC E z ps _ r H (cs:=cs.set i (qe ρ o)) ⟨by simp [a.1],by simp [a.2.1],fun k J=>by
    simp only [uW,List.getElem?_set];by_cases e:i=k
    ·subst e;have t:qaU w (qe ρ (i,o).2) (some c.r):=y;simpa [a.1,a.2.1,j] using t
    ·simpa [e] using a.2.2 k J⟩
   refine ⟨cs', ?_,S⟩;rw [<-I,List.map_cons,qwf (z i j) ?_ (by rw [a.1];exact j)];obtain ⟨X,_,_,_,_,_,_,e,_⟩:=y;rw [show qe ρ (i,o).2=_ from e];rfl
theorem qp9 (j:QJ p ds ρ w):∀(ps:List (Nat×Operand)) (i:Nat) (l:List KC),qfM p ds i ps=some l->ps.map (·.1)=List.range' i l.length/\(∀q∈ps,(qe ρ q.2).cells=#[qe ρ q.2])/\zJ (xd w) (ps.map fun q=>qe ρ q.2) (l.map KC.f)
 |[],i,l,h=>by
  cases h;exact ⟨rfl,by simp,trivial⟩
 |q::ps,i,l,h=>by
  unfold qfM at h;cases a:Nat.beq q.1 i with
  |false=>rw [a] at h;cases h
  |true=>
   rw [a] at h;obtain ⟨k,H,z⟩:=uc.1 h;obtain ⟨y,E,rfl⟩:=ua.1 z;obtain ⟨I,J,t⟩:=qp9 j ps _ y E;have g:=qqb j H;have e:=uo a;refine ⟨by simp [I,e,List.range'_succ],fun x c=>?_,g,t⟩;rcases wh.1 c with rfl|c
   ·exact (yZ (xH.fnK (w:=w) (o:=some k.f) g)).1
   ·exact J x c
theorem qmm:zR Tryz.prog 175=some (Array.replicate 38 (.pointer none)):=by kernel_rfl
theorem qIK {ps:List (Nat×Operand)} (h:∀q∈ps,(qe ρ q.2).cells=#[qe ρ q.2]):(ps.flatMap fun q=>(qe ρ q.2).cells.toList)=ps.map fun q=>qe ρ q.2:=by
 induction ps with
 |nil=>rfl
 |cons q ps c=>
  rw [JB,List.map_cons,h q (by simp),c fun x a=>h x (by simp [a])];rfl
def qfn:Nat->Option (Nat×Nat):=fun i=>(#[(0,1),(1,1),(2,1),(3,1),(4,1),(5,1),(6,1),(7,1)]:Array (Nat×Nat))[i]?
theorem qJ3 (l:List (Nat×Value)):Tryz.prog.built 241 l=Instr.fill qfn #[.nilFunc,.nilFunc,.nilFunc,.nilFunc,.slice none 0 0,.nilFunc,.int .i64 0,.int .i64 0] l:=by kernel_rfl
theorem qJ4 (l:List (Nat×Value)):Tryz.prog.built 175 l=Instr.fill (fun i=>some (i*1,1)) (Array.replicate 38 (.pointer none)) l:=by kernel_rfl
theorem qzv (i:Nat) (s:St) (hs:(qah.take 108)[i]? =some (some s)) (hd:qcB[i]? =some ds) (hL:∀d∈ds,L d=true) (J:J144 w0 A T L ρ w):s.wp Tryz.prog Q (J144 w0 A T (qaj i L)) ρ w:=by
 obtain ⟨p,q,F,h1,h2,c,o⟩:=(qwk _ _ _ _ qIS).2.2 i s ds hs hd;simp only [List.length_nil,ut] at h2;rw [h2] at o;have hF:qaI[i]? =some F:=by rw [h1,<-h2];simp
 have H:QJ p ds ρ w:=fun t a I=>by
  unfold QP at I;cases g:ds.contains (t - 5)&&Nat.ble 5 t with
  |false=>rw [g] at I;cases I
  |true=>
   rw [g] at I;simp only [j0,Jl] at g;have:=uV g.2;have h:=J.facts (t - 5) a (by
    have hlt:=(Jv.1 I).1;rw [h1,Ve hlt];exact I) (hL _ g.1)
   rwa [Nat.sub_add_cancel this] at h
 have put:=fun {w':World} {v:Value}=>J.put (w':=w') (v:=v) i F hF;unfold qhO at c;split at c
 ·cases c;cases o;simp -implicitDefEqProofs [St.wp,J.r1];exact put (qO _) rfl
 ·cases c;cases o;simp -implicitDefEqProofs [St.wp,J.r3];exact put (qO _) rfl
 ·cases c;cases o;obtain ⟨X,nm,vr,ty,nu,fi,mo,e,y,g⟩:=J.ty;cases e;have z:=yD y;simp [zZ] at z;simp -implicitDefEqProofs [St.wp,J.r2,z];exact put (qO _) ⟨nm,vr,ty,nu,fi,mo,rfl,g⟩
 ·cases c;cases o;simp -implicitDefEqProofs [St.wp];refine (qB0 _).mono ?_;rintro _ w1 ⟨v,rfl,O,j⟩;exact put j O
 ·cases c;cases o;simp -implicitDefEqProofs [St.wp];refine (qCn _).mono ?_;rintro _ w1 ⟨v,rfl,O,j⟩;exact put j O
 ·obtain ⟨r,E,rfl⟩:=ua.1 c;cases o;obtain ⟨nm,vr,ty,nu,fi,mo,e,g⟩:=qoh H (pl:=qfn) (fun i hi=>by unfold qfn;match i,hi with|0,_=>rfl|1,_=>rfl|2,_=>rfl|3,_=>rfl|4,_=>rfl|5,_=>rfl|6,_=>rfl|7,_=>rfl|n+8,h=>exact absurd h (by omega)) _ {} r E (nm:=.nilFunc) (vr:=.nilFunc) (ty:=.nilFunc) (nu:=.nilFunc) (fi:=.slice none 0 0) (mo:=.nilFunc) ⟨rfl,rfl,rfl,rfl,.nil,rfl⟩;simp -implicitDefEqProofs only [St.wp,gd,kk];rw [qwy,qJ3,Jz];have e':Instr.fill qfn #[.nilFunc,.nilFunc,.nilFunc,.nilFunc,.slice none 0 0,.nilFunc,.int .i64 0,.int .i64 0] _=_:=e;rw [e'];exact put (qO _) ⟨nm,vr,ty,nu,fi,mo,rfl,g⟩
 ·split at c
  ·rename_i hf;obtain ⟨r,E,c⟩:=uc.1 c;obtain ⟨l,Y,rfl⟩:=ua.1 c;cases o;obtain ⟨nm,vr,ty,nu,fi,mo,Z,g⟩:=qxS H E;obtain ⟨U,hlen⟩:=qp0 H Y;simp -implicitDefEqProofs only [St.wp,gd,kk];refine kL qJP (fs:=#[]) (caps:=#[]) (H _ .fx hf) ?_;have V:=qCr g U (by rw [uh];omega);rw [<-Z] at V;refine Calls.mono (show Calls Tryz.prog 218 (#[]++Array.map (qe ρ) ⟨[_,_]⟩++ #[]) w _ from by simpa using V) ?_;rintro _ w1 ⟨v,rfl,O,j⟩;exact put j (by rw [<-qIL] at O;exact O)
  ·cases c
 ·obtain ⟨r,E,rfl⟩:=ua.1 c;cases o;obtain ⟨nm,vr,ty,nu,fi,mo,Z,g⟩:=qxS H E;simp -implicitDefEqProofs only [St.wp,gd,kk];refine vO fun X w1 hX j y _=>?_;rw [Z,g.cells] at y;exact put j ⟨X,nm,vr,ty,nu,fi,mo,rfl,y,g.at' (qz.ext j)⟩
 ·rename_i n ps _;obtain ⟨l,Y,c⟩:=uc.1 c;cases y:Nat.beq n l.length&&Nat.blt n 9 with
  |false=>rw [y] at c;cases c
  |true=>
   rw [y] at c;cases c;cases o;simp only [j0] at y;have hn:=uo y.1;have V:n<9:=uV y.2;subst hn;obtain ⟨k1,k2,k3⟩:=qp9 H (ρ:=ρ) _ _ l Y;simp -implicitDefEqProofs only [St.wp,gd,kk];refine jV qzE (by simp;omega) (by rw [k1,Vk]) (fun q hq=>by rw [k2 q hq];rfl) fun B w1 hB j S _=>?_;rw [qIK k2] at S;refine put j ⟨.inr ⟨B,_,by simp,S,k3.imp fun _ _ h=>h.at' (qz.ext (p:=x6) j) fun _=>by simp [x6]⟩,V⟩
 ·obtain ⟨r,E,rfl⟩:=ua.1 c;cases o;obtain ⟨cs,e,g⟩:=qxC H (ρ:=ρ) (pl:=fun i=>some (i*1,1)) (fun i _=>by rw [y0]) _ _ r E (cs:=List.replicate 38 (.pointer none)) ⟨List.length_replicate,List.length_replicate,fun k U=>by rw [uW,uW,List.getElem?_replicate,List.getElem?_replicate,if_pos U,if_pos U];rfl⟩;simp -implicitDefEqProofs only [St.wp,gd,kk];rw [qwy,qJ4,Jz];have e':Instr.fill (fun i=>some (i*1,1)) (Array.replicate 38 (.pointer none)) _=_:=e;rw [e'];exact put (qO _) ⟨cs,rfl,g⟩
 ·cases c
theorem qJs:(qcB.getD 108 []).contains 107=true:=by kernel_rfl
theorem qzs (hd:qcB[108]? =some ds) (hL:∀d∈ds,L d=true) (g:J144 w0 A T L ρ w) (Z:L 108=false):(.eff none none (.store 175 (.tmp 0) (.tmp 112)) 0:St).wp Tryz.prog Q (J144 w0 A T (qaj 108 L)) ρ w:=by
 have H:L 107=true:=by
  have h:=qJs;rw [uW,hd] at h;exact hL _ (Jl.1 h)
 obtain ⟨cs,I,J,_,S⟩:=g.facts 107 _ qIT H;have j:QL w cs:=⟨J,fun k z=>qyV z▸S k z⟩;have o:∀c∈cs,c.cells=#[c]/\c.oneCell=true:=fun c E=>by
  obtain ⟨k,z,rfl⟩:=Vh.1 E;have t:=j.2 k (by rw [<-j.1];exact z);rw [uW,ug z] at t;simp only [Option.getD_some] at t;generalize cs[k]=c at t;cases Y:z6 k with
  |none=>rw [Y] at t;cases t;exact ⟨rfl,rfl⟩
  |some r=>
   rw [Y] at t;obtain ⟨X,_,_,_,_,_,_,rfl,_⟩:=t;exact ⟨rfl,rfl⟩
 have y:=qxQ fun c E=>(o c E).1;have a:qe ρ (.tmp 112)=.agg cs.toArray:=I;simp -implicitDefEqProofs [St.wp];refine jx (B:=A) (by simpa using g.r0) (g.bA Z) (by rw [a,y];simp [j.1]) ?_ (by kernel_rfl) fun W hO V=>?_
 ·rw [a,y];simpa using fun c E=>(o c E).2
 rw [a,y] at V;have hE:qc w0 W:=hO.ext g.ext g.A0;have O:qz x6 w W:=(qz.only hO (g.bA Z)).mono fun _ _ h=> .inr h;simp -implicitDefEqProofs;refine ⟨hE,g.r0,g.r1,g.r2,g.r3,g.A0,fun e=>by simp [qaj] at e,fun _=>⟨cs,V,j.at' O⟩,g.ty.at' O,fun k F U hL=>?_⟩;have z:k<108:=by
  have:=(Jv.1 U).1
  rwa [qwi] at this
 exact AC.at' O (g.facts k F U (by simpa [qaj,show k≠108 by omega] using hL))
end
theorem qxZ:zR Tryz.prog 241=some #[.nilFunc,.nilFunc,.nilFunc,.nilFunc,.slice none 0 0,.nilFunc,.int .i64 0,.int .i64 0]:=by kernel_rfl
theorem qzf:jT Tryz.prog 241 8=true:=by kernel_rfl
theorem qKm:Tryz.prog.built 241 [(0,.func (.func 77) #[] #[]),(2,.func (.func 22) #[] #[])]=some #[qT 77 #[],.nilFunc,qT 22 #[],.nilFunc,.slice none 0 0,.nilFunc,.int .i64 0,.int .i64 0]:=by kernel_rfl
theorem qno:qah.length=109:=by kernel_rfl
theorem qzm:qah[108]? =some (some (.eff none none (.store 175 (.tmp 0) (.tmp 112)) 0)):=by kernel_rfl
def qzl:qc2 Tryz.prog 113 qgx (qP qd0 4)=some qah:=by
 have h:(qc2 Tryz.prog 113 qgx (qP qd0 4)).isSome=true:=by kernel_rfl
 obtain ⟨r,a⟩:=VW.1 h;unfold qah;rw [a];rfl
def qB4 {w:World}:Calls Tryz.prog 144 #[] w fun e w'=>∃cs:List Value,e=.returned (.agg cs.toArray)/\QL w' cs/\qc w w':=by
 refine qH2 fun ρ=>?_;simp -implicitDefEqProofs [qvg];refine qX qmm fun A w1 V j g _=>?_;simp -implicitDefEqProofs [qKm];refine qX qxZ fun T w2 hT t H _=>?_;simp -implicitDefEqProofs;refine jx (B:=T) (by simp) H (by simp [Value.cells,qT]) (by simp [Value.cells,qT];exact ⟨rfl,rfl,rfl,rfl⟩) (by simpa [Value.cells,qT] using qzf) fun w3 o y=>?_;simp -implicitDefEqProofs [Value.cells,qT] at y;have J:qc w w3:=o.ext (j.trans' t) (by have:=j.size;omega);have I:=o.blk (g.ext t) (by have:=g.lt;omega);simp -implicitDefEqProofs;refine qBg qzl rfl (by kernel_rfl) (by kernel_rfl) (J144 w A T) ?_ ?_ ?_
 ·intro w' E _;exact ⟨J.trans' E,by simp,by simp [qT],by simp,by simp [qT],V,fun _=>I.ext E,fun e=>(by cases e),⟨T,qT 77 #[],.nilFunc,qT 22 #[],.nilFunc,.slice none 0 0,.nilFunc,rfl,(y.ext E),⟨qnN (w:=w),rfl,qnM (w:=w),rfl,.nil,rfl⟩⟩,fun k F _ hL=>by cases hL⟩
 ·intro L i s ds z O Y hL ρ w a;rcases JM i 108 with h|h
  ·exact qzv i s (by rw [JV h];exact z) O hL a
  ·have S:=(Jv.1 z).1;rw [qno] at S;obtain rfl:i=108:=by omega
   rw [qzm] at z;cases z;exact qzs O hL a Y
 ·intro L ρ Z hL a;obtain ⟨cs,U,c⟩:=a.fin (hL 108 (by rw [qno];decide));simp -implicitDefEqProofs [qvf];refine jh (by simpa using a.r0) U (by simp [c.1]) ?_;exact ⟨cs,by simp,c,a.ext⟩
end Go.L02
namespace Go.Eng
open Go.RowKit
section
variable {P:Program} {Q:Ks} {d:Option Nat} {ty:TypeId} {K:qa->World->Prop} {ρ:qa} {w:World}
def yY:Value->Bool| .nilFunc=>true|_=>false
def fnT (P:Program) (t:TypeId):Bool:=match P.underlying t with|some (.func ..)=>true|_=>false
theorem qn6 {t:TypeId} {v:Value} (c:fnT P t=true) (g:v=.nilFunc\/∃F a b,v=.func F a b):(Op.equal t v .nilFunc).run P w=.ok (yY v) w:=by
 unfold fnT at c;split at c
 ·rename_i j;have h:∀d:Nat,(Op.equalIn (d+1) t v .nilFunc).run P w=.ok (yY v) w:=fun d=>by
   rcases g with rfl|⟨F,a,b,rfl⟩<;>simp [Op.equalIn,run_underlying j,yY]
  simp [Op.equal,Op.maxDepth,h 9999]
 ·cases c
theorem qwv {t g:TypeId} {x:Operand} {v:Value} (j:fnT P t=true) (k:qe ρ x=v) (c:v=.nilFunc\/∃F a b,v=.func F a b) (h:K (qn ρ d (.bool (yY v))) w):qx P Q d (.binOp .eql t x (.const .nilFunc) g) ty K ρ w:=by
 refine jQ (v:=.bool (yY v)) (w':=w) ?_ h;have:=qn6 (w:=w) j c;rcases c with rfl|⟨F,a,b,rfl⟩<;>simp [execOp,qN,k,eqGuard,binOp,this]
theorem qwp {t g:TypeId} {x:Operand} {v:Value} (j:fnT P t=true) (k:qe ρ x=v) (c:v=.nilFunc\/∃F a b,v=.func F a b) (h:K (qn ρ d (.bool (!yY v))) w):qx P Q d (.binOp .neq t x (.const .nilFunc) g) ty K ρ w:=by
 refine jQ (v:=.bool (!yY v)) (w':=w) ?_ h;have:=qn6 (w:=w) j c;rcases c with rfl|⟨F,a,b,rfl⟩<;>simp [execOp,qN,k,eqGuard,binOp,this]
end
end Go.Eng
namespace Go.L02
open Go Go.Eng Go.RowKit
open Go.Proofs hiding encI
open Go.L01 (Bs Own.same Tok jb jh qg qi)
set_option maxRecDepth 100000
set_option maxHeartbeats 2000000
structure Rd (w:World) (v:Value) (xs:List NV):Prop where
 cells:Cells w v 6 (jH xs)
 kids:∀x∈xs,Cells w x.kv 1 (x.nd.kids.map encI)
def _root_.Go.Eng.Cells.ext {w w':World} {v:Value} {sz:Nat} {xs:List Value} (h:Cells w v sz xs) (c:qc w w'):Cells w' v sz xs:=⟨h.is,h.len,fun j a=>c.cell (h.cell j a)⟩
def Rd.ext {w w':World} {v:Value} {xs:List NV} (h:Rd w v xs) (a:qc w w'):Rd w' v xs:=⟨h.cells.ext a,fun x c=>(h.kids x c).ext a⟩
def qpt {xs:List NV} {k j:Nat} (a:k<xs.length) (g:j<6):(jH xs)[k*6+j]? =(qk xs[k])[j]? :=by
 induction xs generalizing k with
 |nil=>simp at a
 |cons x xs c=>
  have e:jH (x::xs)=qk x++jH xs:=rfl;have h:(qk x).length=6:=rfl;rw [e];cases k with
  |zero=>rw [Ve (by omega)];simp
  |succ k=>
   rw [JS (by omega),show (k+1)*6+j - (qk x).length=k*6+j by omega];simpa using c (k:=k) (by simpa using a)
section
variable {w:World} {v:Value} {xs:List NV}
theorem Rd.len (h:Rd w v xs):ql v=xs.length:=by have:=h.cells.len;rw [yV] at this;omega
theorem Rd.cell (h:Rd w v xs) {k j:Nat} (g:k<xs.length) (c:j<6):w.cell? (qQ v (k*6+j))=(qk xs[k])[j]? :=by
 have a:k*6+j<(jH xs).length:=by rw [yV];omega
 rw [h.cells.cell _ a,<-ug a,qpt g c]
theorem Rd.row (h:Rd w v xs) {k:Nat} (o:k<xs.length):Eng.jG w (qQ v (k*6)) 0 6=some (qk xs[k]):=by
 have:=qal (w:=w) (a:=qQ v (k*6)) (l:=qk xs[k]) (i:=0) fun j g=>by
  have c:j<6:=g;rw [qeT,ut,h.cell o c,ug g]
 exact this
end
structure DOk (d:D):Prop where
 kind:d.kind<256
 name:d.name.length<4294967281
 vr:d.vr.length<4294967281
 typ:d.typ.length<4294967281
theorem qv5:fnT Tryz.prog 34=true:=by kernel_rfl
theorem qv6:fnT Tryz.prog 238=true:=by kernel_rfl
def qxU (F:FuncId) (c:Array Value):qT F c=.nilFunc\/∃F' a b,qT F c=.func F' a b:=.inr ⟨_,_,_,rfl⟩
def qiZ {w:World} (k:L01.G w) {v:Value} {o:Option (Bs->Bool)} (s:Bs) (g:s.length<4294967281) (h:xH (xZ w) v o):Calls Tryz.prog 225 #[.string (qb s),v] w fun e w'=>e=.returned (.bool (qj s o))/\qc w w':=by
 have y:(⟨#[]⟩:ByteArray)=qb []:=rfl;refine qGK fun ρ r0 r1=>?_;simp -implicitDefEqProofs [qtJ,r0,r1];cases o with
 |none=>
  cases h;refine qwv qv5 (v:=.nilFunc) (by simp) (.inl rfl) ?_;simp -implicitDefEqProofs [yY,r0,y,jC,qj];exact qO _
 |some f=>
  obtain ⟨F,caps,rfl,a,j⟩:=xZ.fn h k;refine qwv qv5 (v:=qT F caps) (by simp) (qxU _ _) ?_;simp -implicitDefEqProofs [yY,qT,qtI,r0,r1];refine kL a (t:=9) (fs:=#[]) (caps:=caps) (by simp) ?_;simp -implicitDefEqProofs;refine (j s g).mono ?_;rintro _ w1 ⟨rfl,c⟩;simp -implicitDefEqProofs [qj];exact c
def qAD:∀(k:Nat) (r:Row),z6 k=some r->r.more=none->r.most<=r.first.length:=by
 intro k r h a;unfold z6 QY at h;rcases k with _|_|_|_|_|_|_|_|_|_|_|_|_|_|_|_|_|_|_|_|_|_|_|_|_|_|_|_|_|_|_|_|_|_|_|_|_|_|k<;>
  simp [Option.join] at h<;>subst h<;>first|(simp [qd];done)|(simp at a;done)|(simp;done)
theorem qmI:Tryz.prog.underlying 175=some (.array 38 174):=by kernel_rfl
theorem qmJ:Tryz.prog.underlying 174=some (.pointer 241):=by kernel_rfl
def qIt:∃inf,Tryz.prog.info? 174=some inf/\inf.size=1:=by
 have:(match Tryz.prog.info? 174 with|some inf=>inf.size==1|none=>false)=true:=by kernel_rfl
 cases h:Tryz.prog.info? 174 with
 |none=>rw [h] at this;cases this
 |some inf=>rw [h] at this;exact ⟨inf,rfl,by simpa using this⟩
def qAF {k:Nat} (h:38<=k):z6 k=none:=by
 unfold z6;have:QY[k]? =none:=u4 (by show QY.length<=k;exact h);rw [this];rfl
def qcm {v:Value} (h:qu v=true):ql v<=qy v:=by
 rcases xT h with ⟨b,o,n,c,rfl,a⟩|rfl|⟨b,o,s,rfl⟩
 ·exact a
 ·exact j1 _
 ·exact j1 _
def qlU {w:World} {v:Value} {xs:List Value} (h:Cells w v 1 xs) (l:Nat) (o:l<=xs.length):Cells w (qZ v 1 l (ql v) (qy v)) 1 (xs.drop l):=by
 have g:=h.len;have c:=qcm h.is;refine ⟨qaC h.is 1 l _ _ (by omega) c (j1 _),by rw [qc9 _ _ _ _ h.is];simp;omega,fun j k=>?_⟩;have a:l+j<xs.length:=by simp at k;omega
 rw [qda 1 l _ _ j h.is (by omega) (by omega),y0,h.cell (l+j) a];simp
def qAC:∀(k:Nat) (r:Row),z6 k=some r->r.most<=400:=by
 intro k r h;unfold z6 QY at h;rcases k with _|_|_|_|_|_|_|_|_|_|_|_|_|_|_|_|_|_|_|_|_|_|_|_|_|_|_|_|_|_|_|_|_|_|_|_|_|_|k<;>
  simp [Option.join] at h<;>subst h<;>first|(simp [qd];done)|(simp;done)
def RB (w:World) (b:Bool) (e:Ending) (w':World):Prop:=e=.returned (.bool b)/\qc w w'
structure RtS (w W:World) (lv:Value) (xs:List NV) (x:NV) (X Rw:Nat) (nm vr ty nu fi mo:Value) (r:Row):Prop where
 ext:qc w W
 rd:Rd W lv xs
 bX:Blk W X (qk x).toArray 44
 bR:Blk W Rw (zZ nm vr ty nu fi mo r) 241
 rc:RowC W nm vr ty nu fi mo r
 kv:Cells W x.kv 1 (x.nd.kids.map encI)
 g:L01.G W
 m:kF W
structure RtK (ρ:qa) (lv:Value) (X Rw:Nat):Prop where
 r0:ρ 0=lv
 r4:ρ 4=.pointer (some ⟨X,0,none⟩)
 r7:ρ 7=.pointer (some ⟨Rw,0,none⟩)
structure RtH (xs:List NV) (x:NV) (r:Row):Prop where
 d:DOk x.nd.d
 ds:∀y∈xs,DOk y.nd.d
 len:xs.length<=400
 hin:∀k∈x.nd.kids,0<=k/\k<xs.length
 row:z6 x.nd.d.kind=some r
section
variable {w W W':World} {lv:Value} {xs:List NV} {x:NV} {X Rw:Nat} {nm vr ty nu fi mo:Value} {r:Row} {ρ:qa}
theorem RtS.to (h:RtS w W lv xs x X Rw nm vr ty nu fi mo r) (a:qc W W'):RtS w W' lv xs x X Rw nm vr ty nu fi mo r:=
 ⟨h.ext.trans' a,h.rd.ext a,h.bX.ext a,h.bR.ext a,h.rc.at' (qz.ext a),h.kv.ext a,h.g.ext a,h.m.ext a⟩
theorem RtS.cX (h:RtS w W lv xs x X Rw nm vr ty nu fi mo r):W.cell? ⟨X,0,none⟩=some (.int .u8 (x.nd.d.kind:Int))/\W.cell? ⟨X,1,none⟩=some (.string (qb x.nd.d.name))/\W.cell? ⟨X,2,none⟩=some (.string (qb x.nd.d.vr))/\W.cell? ⟨X,3,none⟩=some (.string (qb x.nd.d.typ))/\W.cell? ⟨X,4,none⟩=some (.int .i64 x.nd.d.n)/\W.cell? ⟨X,5,none⟩=some x.kv:=
 ⟨by rw [h.bX.cell];rfl,by rw [h.bX.cell];rfl,by rw [h.bX.cell];rfl,by rw [h.bX.cell];rfl,by rw [h.bX.cell];rfl,by rw [h.bX.cell];rfl⟩
theorem RtS.cR (h:RtS w W lv xs x X Rw nm vr ty nu fi mo r):W.cell? ⟨Rw,0,none⟩=some nm/\W.cell? ⟨Rw,1,none⟩=some vr/\W.cell? ⟨Rw,2,none⟩=some ty/\W.cell? ⟨Rw,3,none⟩=some nu/\W.cell? ⟨Rw,4,none⟩=some fi/\W.cell? ⟨Rw,5,none⟩=some mo/\W.cell? ⟨Rw,6,none⟩=some (.int .i64 (r.least:Int))/\W.cell? ⟨Rw,7,none⟩=some (.int .i64 (r.most:Int)):=
 ⟨by rw [h.bR.cell];rfl,by rw [h.bR.cell];rfl,by rw [h.bR.cell];rfl,by rw [h.bR.cell];rfl,by rw [h.bR.cell];rfl,by rw [h.bR.cell];rfl,by rw [h.bR.cell];rfl,by rw [h.bR.cell];rfl⟩
theorem RtS.row (h:RtS w W lv xs x X Rw nm vr ty nu fi mo r):Eng.jG W ⟨X,0,none⟩ 0 6=some (qk x):=by
 have:=yD h.bX;simpa [qk] using this
theorem RtS.kl (h:RtS w W lv xs x X Rw nm vr ty nu fi mo r):ql x.kv=x.nd.kids.length:=by have:=h.kv.len;simpa using this.symm
theorem qp7 {k:Int} (h:0<=k/\k<xs.length):kK (xs.map (·.nd)) k=(xs[k.toNat]'(by omega)).nd.d.name:=by
 unfold kK;rw [JT,ug (by omega)];rfl
theorem qp8 {k:Int} (h:0<=k/\k<xs.length):jJ (xs.map (·.nd)) k=(xs[k.toNat]'(by omega)).nd.d.kind:=by
 unfold jJ;rw [JT,ug (by omega)];rfl
theorem qAz (hh:RtH xs x r) (h:RtS w W lv xs x X Rw nm vr ty nu fi mo r) (a:RtK ρ lv X Rw) (h32:x.nd.d.kind=32->1<=x.nd.kids.length) (hkl:x.nd.kids.length<=400):
  qcs.wp ⟨Tryz.prog,178,wr,[]⟩ (qB [.tmp 6] (RB w (vH (xs.map (·.nd)) x.nd))) (ji [.tmp 6] (RB w (vH (xs.map (·.nd)) x.nd))) ρ W:=by
 obtain ⟨c0,c1,c2,c3,c4,c5⟩:=h.cX;have e0:(⟨#[]⟩:ByteArray)=qb []:=rfl;have en:(⟨#[110,111,116]⟩:ByteArray)=qb [110,111,116]:=rfl;have Z:=h.kl;simp -implicitDefEqProofs [qcs,a.r4,c0];by_cases k5:x.nd.d.kind=5
 ·have es:vH (xs.map (·.nd)) x.nd=qaQ x.nd.d:=by unfold vH;rw [if_pos k5]
  rw [es];simp -implicitDefEqProofs [k5,a.r4,h.row];refine (qCx (x:=x) h.g h.m h.kv.is hh.d.name hh.d.vr hh.d.typ).mono ?_;rintro _ w2 ⟨rfl,hE⟩;simp -implicitDefEqProofs [RB];exact h.ext.trans' hE
 ·by_cases k6:x.nd.d.kind=6
  ·have es:vH (xs.map (·.nd)) x.nd=(decide (x.nd.d.name=[110,111,116])==decide (x.nd.kids.length=1)):=by unfold vH;rw [if_neg k5,if_pos k6]
   rw [es];simp -implicitDefEqProofs [k6,a.r4,c1,c5,h.kv.is,Z,en,jC,RB];refine ⟨?_,h.ext⟩;congr 1;rw [uJ];simp;omega
  ·by_cases U:x.nd.d.kind=32
   ·have es:vH (xs.map (·.nd)) x.nd=wY (xs.map (·.nd)) x.nd.kids.length 0 (x.nd.kids.drop 1):=by unfold vH;rw [if_neg k5,if_neg k6,if_pos U]
    have h1:=h32 U;rw [es];have V:=qaC h.kv.is 1 1 (ql x.kv) (qy x.kv) (by rw [Z];exact h1) (qcm h.kv.is) (j1 _);have o:=qlU h.kv 1 (by simpa using h1);generalize hb:wY (xs.map (·.nd)) x.nd.kids.length 0 (x.nd.kids.drop 1)=b;have h1':(1:Int)<=(x.nd.kids.length:Int):=by omega
    rw [Z] at V o;simp -implicitDefEqProofs [U,a.r4,c5,h.kv.is,Z,h1',V];generalize hkv:qZ x.kv 1 1 x.nd.kids.length (qy x.kv)=kv at V o;obtain ⟨I,hI⟩:∃I:Nat->qa->World->Prop,∀j S w',I j S w'↔(RtK S lv X Rw/\S 150=kv/\S 151=.int .i64 ((x.nd.kids.length - 1:Nat):Int)/\RtS w w' lv xs x X Rw nm vr ty nu fi mo r/\wY (xs.map (·.nd)) x.nd.kids.length j ((x.nd.kids.drop 1).drop j)=b):=⟨_,fun _ _ _=>Iff.rfl⟩;refine vD 152 (x.nd.kids.length - 1) I (by simp) ((hI _ _ _).2 ⟨⟨by simp [a.r0],by simp [a.r4],by simp [a.r7]⟩,by simp,by simp,h,hb⟩) ?_;clear a hb h c0 c1 c2 c3 c4 c5 o;rintro j S w' hj rj hIw;obtain ⟨a,O,z,h,hb⟩:=(hI _ _ _).1 hIw;obtain ⟨c0,c1,c2,c3,c4,c5⟩:=h.cX;have o:=qlU h.kv 1 (by simpa using h1);rw [Z,hkv] at o;have hkl1:ql kv=x.nd.kids.length - 1:=by have:=o.len;simpa using this.symm
    by_cases J:j<x.nd.kids.length - 1
    ·have hjl:j<(x.nd.kids.drop 1).length:=by simpa using J
     have hj1:j+1<x.nd.kids.length:=by omega
     have t:=o.cell j (by simpa using J);have hget:(List.drop 1 (List.map encI x.nd.kids))[j]'(by simpa using J)=encI (x.nd.kids[j+1]):=by simp
     rw [hget] at t;have hin:=hh.hin x.nd.kids[j+1] (wz _);have hdr:(x.nd.kids.drop 1).drop j=x.nd.kids[j+1]::(x.nd.kids.drop 1).drop (j+1):=by
      rw [u0 hjl];simp [JH]
     rw [hdr] at hb;have c:((qg (kK (xs.map (·.nd)) x.nd.kids[j+1])|| !(!decide (kK (xs.map (·.nd)) x.nd.kids[j+1]=[])||decide (j+2<x.nd.kids.length)))&&wY (xs.map (·.nd)) x.nd.kids.length (j+1) ((x.nd.kids.drop 1).drop (j+1)))=b:=hb;rw [qp7 hin] at c;generalize hk:x.nd.kids[j+1]=k at t hin c;have hkn:k.toNat<xs.length:=by omega
     have hkz:((k.toNat:Nat):Int)=k:=by omega
     have cn:w'.cell? (qQ lv (k.toNat*6+1))=some (.string (qb (xs[k.toNat]).nd.d.name)):=by rw [h.rd.cell hkn (by omega)];rfl
     have H:(j:Int)<((x.nd.kids.length - 1:Nat):Int):=by omega
     simp -implicitDefEqProofs [qkO,rj,z,H,qva,O,V,hkl1,J,t,encI,a.r0,h.rd.cells.is,h.rd.len,hin.1,hin.2,cn];refine (L01.qa1 h.g _).mono ?_;rintro _ w2 ⟨rfl,hE⟩;have h2:=h.to hE;obtain ⟨_,_,_,_,_,c5'⟩:=h2.cX;have Y:∀y:qa,y 0=lv->y 4=.pointer (some ⟨X,0,none⟩)->y 7=.pointer (some ⟨Rw,0,none⟩)->y 150=kv->y 151=.int .i64 ((x.nd.kids.length - 1:Nat):Int)->wY (xs.map (·.nd)) x.nd.kids.length (j+1) ((x.nd.kids.drop 1).drop (j+1))=b->I (j+1) y w2:=
      fun y a0 a4 a7 a150 a151 hb2=>(hI _ _ _).2 ⟨⟨a0,a4,a7⟩,a150,a151,h2,hb2⟩
     have hw:IntKind.i64.wrap ((x.nd.kids.length:Int) - 2)=(x.nd.kids.length:Int) - 2:=qH (by omega);have hwj:IntKind.i64.wrap ((j:Int)+1)=(j:Int)+1:=qH (by omega);generalize (xs[k.toNat]'hkn).nd.d.name=nm at c cn;cases hn:qg nm with
     |true=>
      rw [hn] at c;simp -implicitDefEqProofs [qkR,rj,hwj];exact Y _ (by simp [a.r0]) (by simp [a.r4]) (by simp [a.r7]) (by simp [O]) (by simp [z]) (by simpa using c)
     |false=>
      rw [hn] at c;by_cases hnm:nm=[]
      ·subst hnm;by_cases hj2:j+2<x.nd.kids.length
       ·have E:(j:Int)<(x.nd.kids.length:Int) - 2:=by omega
        simp -implicitDefEqProofs [e0,a.r4,c5',h.kv.is,Z,hw,E,RB];refine ⟨?_,h2.ext⟩;rw [<-c];simp [hj2]
       ·have E:¬(j:Int)<(x.nd.kids.length:Int) - 2:=by omega
        simp -implicitDefEqProofs [e0,a.r4,c5',h.kv.is,Z,hw,E,qkR,rj,hwj];exact Y _ (by simp [a.r0]) (by simp [a.r4]) (by simp [a.r7]) (by simp [O]) (by simp [z]) (by simpa [hj2] using c)
      ·simp -implicitDefEqProofs [e0,jC,hnm,RB];refine ⟨?_,h2.ext⟩;rw [<-c];simp [hnm]
    ·have H:¬(j:Int)<((x.nd.kids.length - 1:Nat):Int):=by omega
     have hd0:(x.nd.kids.drop 1).drop j=[]:=by rw [Vz];simp;omega
     rw [hd0] at hb;simp -implicitDefEqProofs [qkO,rj,z,H,J,qkQ,RB];exact ⟨hb.symm,h.ext⟩
   ·have es:vH (xs.map (·.nd)) x.nd=true:=by unfold vH;rw [if_neg k5,if_neg k6,if_neg U]
    rw [es];have k5':¬(x.nd.d.kind:Int)=5:=by omega
    have k6':¬(x.nd.d.kind:Int)=6:=by omega
    have k32':¬(x.nd.d.kind:Int)=32:=by omega
    simp -implicitDefEqProofs [k5',k6',k32',qkQ,RB];exact h.ext
theorem qD7 {w:World} {v:Value} {l:List (Nat->Bool)} (h:kG w v l) {i:Nat} (a:i<l.length):qu v=true/\ql v=l.length/\∃u,w.cell? (qQ v i)=some u/\xd w u l[i]:=by
 rcases h with ⟨_,rfl⟩|⟨B,cs,rfl,j,c⟩
 ·simp at a
 ·have g:=c.len;refine ⟨by simp [qu],rfl,cs[i]'(by omega), ?_,c.get i (by omega) a⟩;simp only [qQ,ut];rw [j.cell];simp [g,a]
theorem qD6 {w:World} {v:Value} {l:List (Nat->Bool)} (h:kG w v l):qu v=true/\ql v=l.length:=by
 rcases h with ⟨rfl,rfl⟩|⟨B,cs,rfl,c,a⟩
 ·exact ⟨rfl,rfl⟩
 ·exact ⟨by simp [qu],rfl⟩
theorem qAB (hh:RtH xs x r) (h:RtS w W lv xs x X Rw nm vr ty nu fi mo r) (a:RtK ρ lv X Rw) (h1:r.least<=x.nd.kids.length) (h2:x.nd.kids.length<=r.most):
  qkP.wp ⟨Tryz.prog,178,wr,[]⟩ (qB [.tmp 6] (RB w (qV (xs.map (·.nd)) r 0 x.nd.kids&&vH (xs.map (·.nd)) x.nd))) (ji [.tmp 6] (RB w (qV (xs.map (·.nd)) r 0 x.nd.kids&&vH (xs.map (·.nd)) x.nd))) ρ W:=by
 obtain ⟨c0,c1,c2,c3,c4,c5⟩:=h.cX;have hl:=h.kl;have hmost:r.most<=400:=qAC _ _ hh.row;have h32:x.nd.d.kind=32->1<=x.nd.kids.length:=fun e=>by
  have:=hh.row;rw [e] at this;have hr:r.least=2:=by
   have h3:z6 32=some {first:=[qv 20],more:=some (qv 33),least:=2,most:=400}:=rfl;rw [h3] at this;cases this;rfl
  omega
 generalize hb:(qV (xs.map (·.nd)) r 0 x.nd.kids&&vH (xs.map (·.nd)) x.nd)=b;simp -implicitDefEqProofs [qkP,a.r4,c5,h.kv.is,hl];obtain ⟨I,hI⟩:∃I:Nat->qa->World->Prop,∀j U w',I j U w'↔(RtK U lv X Rw/\U 97=x.kv/\U 98=.int .i64 (x.nd.kids.length:Int)/\RtS w w' lv xs x X Rw nm vr ty nu fi mo r/\(qV (xs.map (·.nd)) r j (x.nd.kids.drop j)&&vH (xs.map (·.nd)) x.nd)=b):=⟨_,fun _ _ _=>Iff.rfl⟩;refine vD 99 x.nd.kids.length I (by simp) ((hI _ _ _).2 ⟨⟨by simp [a.r0],by simp [a.r4],by simp [a.r7]⟩,by simp,by simp,h,hb⟩) ?_;clear a hb h c0 c1 c2 c3 c4 c5;rintro j U w' hj rj hIw;obtain ⟨a,Y,O,h,hb⟩:=(hI _ _ _).1 hIw;obtain ⟨d0,d1,d2,d3,d4,d5,d6,d7⟩:=h.cR;have hwj:IntKind.i64.wrap ((j:Int)+1)=(j:Int)+1:=qH (by omega);by_cases z:j<x.nd.kids.length
 ·have c:=h.kv.cell j (by simpa using z);have hget:(List.map encI x.nd.kids)[j]'(by simpa using z)=encI (x.nd.kids[j]):=by simp
  rw [hget] at c;have hin:=hh.hin x.nd.kids[j] (wz _);rw [u0 z] at hb;have y:(((match r.first[j]? with|some f=>f (jJ (xs.map (·.nd)) x.nd.kids[j])|none=>(match r.more with|some f=>f (jJ (xs.map (·.nd)) x.nd.kids[j])|none=>false))&&qV (xs.map (·.nd)) r (j+1) (x.nd.kids.drop (j+1)))&&vH (xs.map (·.nd)) x.nd)=b:=hb;rw [qp8 hin] at y;generalize hk:x.nd.kids[j]=k at c hin y;have aa:k.toNat<xs.length:=by omega
  have hkz:((k.toNat:Nat):Int)=k:=by omega
  have hrow:=h.rd.row aa;obtain ⟨hfi,hfl⟩:=qD6 h.rc.first;have H:(j:Int)<(x.nd.kids.length:Int):=by omega
  have go:∀(o:qa) (u:Value) (f:Nat->Bool),RtK o lv X Rw->o 97=x.kv->o 98=.int .i64 (x.nd.kids.length:Int)->o 99=.int .i64 (j:Int)->o 10=.int .i64 k->o 11=u->xd w' u f->((f (xs[k.toNat]'aa).nd.d.kind&&qV (xs.map (·.nd)) r (j+1) (x.nd.kids.drop (j+1)))&&vH (xs.map (·.nd)) x.nd)=b->
    qkV.wp ⟨Tryz.prog,178,wr,[]⟩ (qgw.wp ⟨Tryz.prog,178,wr,[]⟩ (fun g Z=>g 99=.int .i64 ((j:Int)+1)/\I (j+1) g Z) (((ji [.tmp 6] (RB w b)).blk 0 (qcs.wp ⟨Tryz.prog,178,wr,[]⟩ (qB [.tmp 6] (RB w b)) (ji [.tmp 6] (RB w b)))))) ((((ji [.tmp 6] (RB w b)).blk 0 (qcs.wp ⟨Tryz.prog,178,wr,[]⟩ (qB [.tmp 6] (RB w b)) (ji [.tmp 6] (RB w b))))).blk 1 (qgw.wp ⟨Tryz.prog,178,wr,[]⟩ (fun g Z=>g 99=.int .i64 ((j:Int)+1)/\I (j+1) g Z) (((ji [.tmp 6] (RB w b)).blk 0 (qcs.wp ⟨Tryz.prog,178,wr,[]⟩ (qB [.tmp 6] (RB w b)) (ji [.tmp 6] (RB w b))))))) o w':=by
   intro o u f E a97 a98 a99 a10 a11 hu J;obtain ⟨F,caps,rfl,hcb,hc⟩:=hu.fn;simp -implicitDefEqProofs [qkV,a11,qT,E.r0,a10,h.rd.cells.is,h.rd.len,hin.1,hin.2,hrow];refine kL hcb (t:=122) (fs:=#[]) (caps:=caps) (by simp) ?_;simp -implicitDefEqProofs;refine (hc w' (qO _) xs[k.toNat] (h.rd.kids _ (wz _)).is (hh.ds _ (wz _)).kind).mono ?_;rintro _ w2 ⟨rfl,hE⟩;have h2:=h.to hE;cases hf:f (xs[k.toNat]'aa).nd.d.kind with
   |false=>
    rw [hf] at J;simp -implicitDefEqProofs [RB];exact ⟨by rw [<-J];rfl,h2.ext⟩
   |true=>
    rw [hf] at J;simp -implicitDefEqProofs [qgw,a99,hwj,z];exact (hI _ _ _).2 ⟨⟨by simp [E.r0],by simp [E.r4],by simp [E.r7]⟩,by simp [a97],by simp [a98],h2,by simpa using J⟩
  by_cases V:j<r.first.length
  ·have S:(j:Int)<(r.first.length:Int):=by omega
   obtain ⟨_,_,u,hu,hku⟩:=qD7 h.rc.first V;have e1:r.first[j]? =some r.first[j]:=ug V;rw [e1] at y;simp -implicitDefEqProofs [qgt,rj,O,Y,H,z,qkS,h.kv.is,hl,c,encI,a.r7,d4,d5,hfi,hfl,S,V,hu];exact go _ u _ ⟨by simp [a.r0],by simp [a.r4],by simp [a.r7]⟩ (by simp [Y]) (by simp [O]) (by simp [rj]) (by simp) (by simp) hku y
  ·have S:¬(j:Int)<(r.first.length:Int):=by omega
   have e1:r.first[j]? =none:=u4 (by omega);rw [e1] at y;cases hm:r.more with
   |none=>
    have:=qAD _ _ hh.row hm;omega
   |some f=>
    rw [hm] at y;have hmo:=h.rc.more;rw [hm] at hmo;simp -implicitDefEqProofs [qgt,rj,O,Y,H,z,qkS,h.kv.is,hl,c,encI,a.r7,d4,d5,hfi,hfl,S,V];exact go _ mo f ⟨by simp [a.r0],by simp [a.r4],by simp [a.r7]⟩ (by simp [Y]) (by simp [O]) (by simp [rj]) (by simp) (by simp) hmo y
 ·have H:¬(j:Int)<(x.nd.kids.length:Int):=by omega
  have hd0:x.nd.kids.drop j=[]:=Vz.2 (by omega);rw [hd0] at hb;have J:vH (xs.map (·.nd)) x.nd=b:=by simpa [qV] using hb
  simp -implicitDefEqProofs [qgt,rj,O,H,z];rw [<-J];exact qAz hh h ⟨by simp [a.r0],by simp [a.r4],by simp [a.r7]⟩ h32 (by omega)
theorem qoe {num:Bool} (I:RtH xs x r) (h:RtS w W lv xs x X Rw nm vr ty nu fi mo r) (c:RtK ρ lv X Rw) (r8:ρ 8=.bool num) {b:Bool}
  (k:(qj x.nd.d.name r.name&&qj x.nd.d.vr r.vr&&qj x.nd.d.typ r.typ&&num&&(decide (r.least<=x.nd.kids.length)&&decide (x.nd.kids.length<=r.most))&&qV (xs.map (·.nd)) r 0 x.nd.kids&&vH (xs.map (·.nd)) x.nd)=b):
  qkU.wp ⟨Tryz.prog,178,wr,[]⟩ (qB [.tmp 6] (RB w b)) (ji [.tmp 6] (RB w b)) ρ W:=by
 obtain ⟨c0,c1,c2,c3,c4,c5⟩:=h.cX;obtain ⟨Z,d1,S,d3,d4,d5,U,Y⟩:=h.cR;have O:=h.kl;have fin:∀(t:qa) (W2:World),qc W W2->t 95=.bool true->b=false->qgv.wp ⟨Tryz.prog,178,wr,[]⟩ (qB [.tmp 6] (RB w b)) (ji [.tmp 6] (RB w b)) t W2:=by
  intro t W2 o e1 V;subst V;simp -implicitDefEqProofs [qgv,e1,RB];exact h.ext.trans' o
 simp -implicitDefEqProofs [-qM,vj,vk,vi,qkU,c.r4,c.r7,c1,Z];refine qbf (.bool (qj x.nd.d.name r.name)) qlV (fun w' a=>?_) ?_
 ·simp;refine (qiZ (h.to a).g _ I.d.name (h.to a).rc.name).mono ?_;rintro _ w2 ⟨rfl,o⟩;exact ⟨rfl,a.trans' o⟩
 cases y:qj x.nd.d.name r.name with
 |false=>
  rw [y] at k;simp -implicitDefEqProofs [-qM,vj,vk,vi];intro W2 j;exact fin _ W2 j (by simp) (by rw [<-k];rfl)
 |true=>
 simp -implicitDefEqProofs [-qM,vj,vk,vi,c.r4,c.r7,c2,d1];refine qbf (.bool (qj x.nd.d.vr r.vr)) qlV (fun w' a=>?_) ?_
 ·simp;refine (qiZ (h.to a).g _ I.d.vr (h.to a).rc.vr).mono ?_;rintro _ w2 ⟨rfl,o⟩;exact ⟨rfl,a.trans' o⟩
 cases z:qj x.nd.d.vr r.vr with
 |false=>
  rw [y,z] at k;simp -implicitDefEqProofs [-qM,vj,vk,vi];intro W2 j;exact fin _ W2 j (by simp) (by rw [<-k];rfl)
 |true=>
 simp -implicitDefEqProofs [-qM,vj,vk,vi,c.r4,c.r7,c3,S];refine qbf (.bool (qj x.nd.d.typ r.typ)) qlV (fun w' a=>?_) ?_
 ·simp;refine (qiZ (h.to a).g _ I.d.typ (h.to a).rc.typ).mono ?_;rintro _ w2 ⟨rfl,o⟩;exact ⟨rfl,a.trans' o⟩
 cases H:qj x.nd.d.typ r.typ with
 |false=>
  rw [y,z,H] at k;simp -implicitDefEqProofs [-qM,vj,vk,vi];intro W2 j;exact fin _ W2 j (by simp) (by rw [<-k];rfl)
 |true=>
 cases num with
 |false=>
  rw [y,z,H] at k;simp -implicitDefEqProofs [-qM,vj,vk,vi,r8];intro W2 j;exact fin _ W2 j (by simp) (by rw [<-k];rfl)
 |true=>
 simp -implicitDefEqProofs [-qM,vj,vk,vi,r8,c.r4,c.r7,c5,h.kv.is,O,U,Y];refine qbf (.bool (decide (r.least<=x.nd.kids.length)&&decide (x.nd.kids.length<=r.most))) qJQ (fun w' a=>?_) ?_
 ·simp;refine (qdA w' _ _ _).mono ?_;rintro _ _ ⟨rfl,rfl⟩;refine ⟨?_,a⟩;simp
 cases E:(decide (r.least<=x.nd.kids.length)&&decide (x.nd.kids.length<=r.most)) with
 |false=>
  rw [y,z,H,E] at k;simp -implicitDefEqProofs [-qM,vj,vk,vi];intro W2 j;exact fin _ W2 j (by simp) (by rw [<-k];rfl)
 |true=>
  rw [y,z,H,E] at k;simp only [j0,kr] at E;simp -implicitDefEqProofs [-qM,vj,vk,vi];intro W2 j;have J:(qV (xs.map (·.nd)) r 0 x.nd.kids&&vH (xs.map (·.nd)) x.nd)=b:=k;simp -implicitDefEqProofs [qgv];rw [<-J];exact qAB I (h.to j) ⟨by simp [c.r0],by simp [c.r4],by simp [c.r7]⟩ E.1 E.2
theorem qAA (j:RtH xs x r) (h:RtS w W lv xs x X Rw nm vr ty nu fi mo r) (a:RtK ρ lv X Rw):
  qkT.wp ⟨Tryz.prog,178,wr,[]⟩ (qB [.tmp 6] (RB w (jg (xs.map (·.nd)) x.nd))) (ji [.tmp 6] (RB w (jg (xs.map (·.nd)) x.nd))) ρ W:=by
 obtain ⟨c0,c1,c2,c3,c4,c5⟩:=h.cX;obtain ⟨Z,d1,O,I,S,V,U,Y⟩:=h.cR;generalize k:jg (xs.map (·.nd)) x.nd=b;unfold jg at k;rw [j.row] at k;simp -implicitDefEqProofs [qkT,a.r4,a.r7,c4,I];cases hn:r.n with
 |none=>
  have c:=h.rc.n;rw [hn] at c;cases c;refine qwp qv6 (v:=.nilFunc) (by simp) (.inl rfl) ?_;simp -implicitDefEqProofs [yY];refine qoe (num:=decide (x.nd.d.n=0)) j h ⟨by simp [a.r0],by simp [a.r4],by simp [a.r7]⟩ (by simp;rw [uJ];simp) ?_;simpa [hn] using k
 |some f=>
  have c:=h.rc.n;rw [hn] at c;obtain ⟨F,caps,rfl,z,J⟩:=wy.fn c;refine qwp qv6 (v:=qT F caps) (by simp) (qxU _ _) ?_;simp -implicitDefEqProofs [yY,qT];refine vZ qHU (fun W'=>Blk W' X (qk x).toArray 44/\Blk W' Rw (zZ nm vr ty (qT F caps) fi mo r) 241) fun w3 g _=>⟨⟨h.bX.ext g,h.bR.ext g⟩, ?_⟩;have o:=h.to g;have H:∀W',(Blk W' X (qk x).toArray 44/\Blk W' Rw (zZ nm vr ty (qT F caps) fi mo r) 241)->W'.cell? ⟨X,4,none⟩=some (.int .i64 x.nd.d.n)/\W'.cell? ⟨Rw,3,none⟩=some (qT F caps):=fun W' j=>⟨by rw [j.1.cell];rfl,by rw [j.2.cell];rfl⟩;have y:Blk w3 X (qk x).toArray 44/\Blk w3 Rw (zZ nm vr ty (qT F caps) fi mo r) 241:=⟨o.bX,o.bR⟩;simp+contextual -implicitDefEqProofs [qu8,H,y,a.r4,a.r7];refine kL z (t:=45) (fs:=#[]) (caps:=caps) (by simp [qT]) ?_;simp -implicitDefEqProofs;refine (J w3 g x.nd.d.n).mono ?_;rintro _ w4 ⟨rfl,E⟩;simp -implicitDefEqProofs;refine qoe (num:=f x.nd.d.n) j (o.to E) ⟨by simp [a.r0],by simp [a.r4],by simp [a.r7]⟩ (by simp) ?_;simpa [hn] using k
end
section
variable {w:World} {lv:Value} {xs:List NV} {x:NV} {A:Nat} {cs:List Value} {R:Ending->World->Prop}
theorem qB6 (hG:L01.G w) (hM:kF w) (hR:Rd w lv xs) (hx:Cells w x.kv 1 (x.nd.kids.map encI)) (hd:DOk x.nd.d) (hds:∀y∈xs,DOk y.nd.d) (V:xs.length<=400) (hin:∀k∈x.nd.kids,0<=k/\k<xs.length) (hA:Blk w A cs.toArray 175) (hT:QL w cs):
  Calls Tryz.prog 147 #[lv,vJ x,.pointer (some ⟨A,0,none⟩)] w (RB w (jg (xs.map (·.nd)) x.nd)):=by
 generalize H:RB w (jg (xs.map (·.nd)) x.nd)=R;have J:=hd.kind;refine qHX fun ρ r0 r1 r2=>?_;simp -implicitDefEqProofs [qvc];refine vO fun X w1 hX j I _=>?_;rw [show qe ρ (.tmp 1)=vJ x by simp [r1],Qs hx.is] at I;simp -implicitDefEqProofs;refine vZ qHW (fun W=>Blk W X (qk x).toArray 44) fun w2 c _=>⟨I.ext c, ?_⟩;have E:=I.ext c;have aa:=hA.ext (j.trans' c);have cX:∀W,Blk W X (qk x).toArray 44->W.cell? ⟨X,0,none⟩=some (.int .u8 (x.nd.d.kind:Int)):=fun W h=>by rw [h.cell];rfl
 by_cases hk:38<=x.nd.d.kind
 ·have z:(38:Int)<=(x.nd.d.kind:Int):=by omega
  simp+contextual -implicitDefEqProofs [qkN,cX,E,k8 J,z,r2,qgu];rw [<-H];refine ⟨?_,j.trans' c⟩;simp [jg,qAF hk]
 ·have z:¬(38:Int)<=(x.nd.d.kind:Int):=by omega
  obtain ⟨inf,Y,U⟩:=qIt;simp+contextual -implicitDefEqProofs [qkN,cX,E,k8 J,z,r2];refine qgK qmI Y U (B:=A) (o:=0) (k:=x.nd.d.kind) (by simp) (by simp;rfl) (by omega) ?_;have S:x.nd.d.kind<cs.length:=by rw [hT.1];omega
  have cA:∀W,Blk W A cs.toArray 175->W.cell? ⟨A,x.nd.d.kind,none⟩=some (cs.getD x.nd.d.kind undef):=fun W h=>by
   rw [h.cell,uW,ug S];simp [S]
  have g:=hT.2 x.nd.d.kind (by omega);simp -implicitDefEqProofs [cA w2 aa];cases hr:z6 x.nd.d.kind with
  |none=>
   rw [hr] at g;have e:cs.getD x.nd.d.kind undef=.pointer none:=g;refine qws qmJ (p:=none) (by simp;simpa using e) ?_;simp -implicitDefEqProofs [qgu];rw [<-H];refine ⟨?_,j.trans' c⟩;simp [jg,hr]
  |some r=>
   rw [hr] at g;obtain ⟨Rw,nm,vr,ty,nu,fi,mo,e,hbR,hRC⟩:=g;refine qws qmJ (p:=some ⟨Rw,0,none⟩) (by simp;simpa using e) ?_;simp -implicitDefEqProofs [qgu,qvb];refine vZ qHV (fun W=>Blk W X (qk x).toArray 44) fun w3 t _=>⟨E.ext t, ?_⟩;have Z:=E.ext t;have hA3:=aa.ext t;simp+contextual -implicitDefEqProofs [qu9,cX,Z,k8 J,z,r2];refine qgK qmI Y U (B:=A) (o:=0) (k:=x.nd.d.kind) (by simp) (by simp;rfl) (by omega) ?_;have ab:=cA w3 hA3;rw [e] at ab;have O:=hbR.ext (((j.trans' c).trans' t));have a:=(j.trans' c).trans' t;simp -implicitDefEqProofs [ab];rw [<-H];exact qAA ⟨hd,hds,V,hin,hr⟩ ⟨a,hR.ext a,Z,O,hRC.at' (qz.ext a),hx.ext a,hG.ext a,hM.ext a⟩ ⟨by simp [r0],by simp,by simp⟩
end
@[simp] theorem qJR:qh Tryz.prog 50=true:=by kernel_rfl
def qCu {w:World} {a b:Value} {xs ys:List Int} (y:Cells w a 1 (xs.map encI)) (J:Cells w b 1 (ys.map encI)) (hbd:xs.length<4611686018427387904):Calls Tryz.prog 50 #[a,b] w fun e w'=>e=.returned (.bool (decide (xs=ys)))/\qc w w':=by
 have o:ql a=xs.length:=by simpa using y.len.symm
 have E:ql b=ys.length:=by simpa using J.len.symm
 refine qFe fun ρ r0 r1=>?_;simp -implicitDefEqProofs [qrT,r0,r1,y.is,J.is,o,E];by_cases t:xs.length=ys.length
 ·simp -implicitDefEqProofs [t,qrP,r0,y.is,o];obtain ⟨I,U⟩:∃I:Nat->qa->World->Prop,∀j c w',I j c w'↔(c 0=a/\c 1=b/\c 12=.int .i64 (ys.length:Int)/\qc w w'/\xs.take j=ys.take j):=⟨_,fun _ _ _=>Iff.rfl⟩;refine vD 13 ys.length I (by simp) ((U _ _ _).2 ⟨by simp [r0],by simp [r1],by simp,qO _,by simp⟩) ?_;rintro j c w' hj V Y;obtain ⟨r0,r1,h,z,k⟩:=(U _ _ _).1 Y;have S:IntKind.i64.wrap ((j:Int)+1)=(j:Int)+1:=qH (by omega);by_cases g:j<ys.length
  ·have ca:=(y.ext z).cell j (by simpa [t] using g);have Z:=(J.ext z).cell j (by simpa using g);simp only [u6,encI] at ca Z;simp -implicitDefEqProofs [qjS,V,h,g,qrR,r0,r1,y.is,o,J.is,E,t,ca,Z];intro w2 H;by_cases O:xs[j]=ys[j]
   ·simp -implicitDefEqProofs [qjT,qrS,O,V,S];refine (U _ _ _).2 ⟨by simp [r0],by simp [r1],by simp [h],z.trans' H, ?_⟩;rw [uG (by omega),uG (by omega),k,O]
   ·simp -implicitDefEqProofs [qjT,O];exact ⟨fun e=>O (by simp [e]),z.trans' H⟩
  ·simp -implicitDefEqProofs [qjS,V,h,g,qrQ];refine ⟨?_,z⟩;rw [ul (by omega),ul (by omega)] at k;exact k
 ·simp -implicitDefEqProofs [t];exact ⟨fun e=>t (by rw [e]),qO _⟩
def qCT {base e:Nat} {w:World} {v:Value} {xs:List Value} (h:Own base e 1 w v xs) (l:Nat) (c:l<=xs.length):Own base e 1 w (qZ v 1 0 l l) (xs.take l):=by
 rcases h with ⟨rfl,rfl⟩|⟨g,off,n,cap,cur,rfl,j,o,a,y,z,t,k⟩
 ·have:l=0:=by simpa using c
  subst this;exact .inl ⟨by simp [qZ],rfl⟩
 ·have hn:n=xs.length:=by omega
  have es:qZ (.slice (some ⟨g,off,none⟩) n cap) 1 0 l l=.slice (some ⟨g,off,none⟩) l l:=by
   simp [qZ]
  rw [es];refine .inr ⟨g,off,l,l,cur,rfl,j,o,by simp;omega,j1 _,by omega,by omega, ?_⟩;rw [<-k,Vm];congr 1;omega
def Qr:Option (List Int)->Bool|some o=>decide (o.length=1)|none=>false
theorem qbP:zR Tryz.prog 44=some #[.int .u8 0,.string ⟨#[]⟩,.string ⟨#[]⟩,.string ⟨#[]⟩,.int .i64 0,.slice none 0 0]:=by kernel_rfl
def qB8 {w:World} {lv:Value} {xs:List NV} (hR:Rd w lv xs) (hlen:xs.length<=1000000) (hkl:∀x∈xs,x.nd.kids.length<=1000000):Calls Tryz.prog 98 #[lv] w fun e w'=>e=.returned (.bool (xO (xs.map (·.nd))))/\qc w w':=by
 have hl:=hR.len;have his:=hR.cells.is;generalize O:vW (xs.map (·.nd)) 0 []=b;have hp:xO (xs.map (·.nd))=Qr b:=by unfold xO;rw [O];cases b<;>rfl
 rw [hp];clear hp;refine qEr fun ρ r0=>?_;simp -implicitDefEqProofs [qqG,r0,his,hl];generalize ab:(fun (e:Ending) (w':World)=>e=.returned (.bool (Qr b))/\qc w w')=R;obtain ⟨I,hI⟩:∃I:Nat->qa->World->Prop,∀j g w',I j g w'↔(g 7=lv/\g 8=.int .i64 (xs.length:Int)/\∃os:List Int,Own w.heap.size 3 1 w' (g 3) (os.map encI)/\os.length<=j/\qc w w'/\vW ((xs.drop j).map (·.nd)) j os=b):=⟨_,fun _ _ _=>Iff.rfl⟩;refine vD 9 xs.length I (by simp) ((hI _ _ _).2 ⟨by simp,by simp,[],by simpa using Own.nil _ _ _ _,j1 _,qO _,O⟩) ?_;clear O r0;rintro j g w' hj rj hIw;obtain ⟨r7,r8,os,U,hol,hE,O⟩:=(hI _ _ _).1 hIw;have Y:=hR.ext hE;generalize J:g 3=v3 at U;have H:=U.isl;have hoc:=L01.jR U;have E:ql v3=os.length:=by simpa using hoc.len.symm
 have hwj:IntKind.i64.wrap ((j:Int)+1)=(j:Int)+1:=qH (by omega);by_cases t:j<xs.length
 ·rw [u0 t] at O;have V:=Y.row t;have hk:=Y.kids xs[j] (wz _);have hkL:ql xs[j].kv=xs[j].nd.kids.length:=by simpa using hk.len.symm
  have hklj:=hkl xs[j] (wz _);have z:=vN hk.is;have hko:=xS hk.is;generalize xs[j]=x at V hk hkL hklj z hko O;have a:(if x.nd.kids.length<=os.length/\os.drop (os.length - x.nd.kids.length)=x.nd.kids then vW ((xs.drop (j+1)).map (·.nd)) (j+1) (os.take (os.length - x.nd.kids.length)++[(j:Int)]) else none)=b:=O;have o:(j:Int)<(xs.length:Int):=by omega
  simp -implicitDefEqProofs [qjz,rj,r8,o,t,qqD,r7,Y.cells.is,hl,V];refine qX qbP fun X w1 hX hE1 hb1 _=>?_;simp -implicitDefEqProofs;refine jx (B:=X) (by simp) hb1 (by simp [Value.cells,qk,z]) (by simp [Value.cells,qk,z,hko]) (by simpa [Value.cells,qk,z] using qbW) fun w2 hO2 hb2=>?_;simp -implicitDefEqProofs [Value.cells,qk,z] at hb2;have c:qc w' w2:=hO2.ext hE1 hX;have c5:w2.cell? ⟨X,5,none⟩=some x.kv:=by rw [hb2.cell];rfl
  have hw:IntKind.i64.wrap ((os.length:Int) - (x.nd.kids.length:Int))=(os.length:Int) - (x.nd.kids.length:Int):=qH (by omega);simp -implicitDefEqProofs [-qM,vj,vk,vi,J,H,E,c5,hk.is,hkL,hw];by_cases y:x.nd.kids.length<=os.length
  ·have hn:¬((os.length:Int) - (x.nd.kids.length:Int)<0):=by omega
   have hn0:(0:Int)<=(os.length:Int) - (x.nd.kids.length:Int):=by omega
   have hn1:(os.length:Int) - (x.nd.kids.length:Int)<=(os.length:Int):=by omega
   have hnn:((os.length:Int) - (x.nd.kids.length:Int)).toNat=os.length - x.nd.kids.length:=by omega
   simp -implicitDefEqProofs [-qM,vj,vk,vi,y,hn,J,H,E,hn0,hn1,hnn,c5];refine qbf (.bool (decide (os.drop (os.length - x.nd.kids.length)=x.nd.kids))) qJR (fun w3 aa=>?_) ?_
   ·simp;have hd:=qlU (hoc.ext (c.trans' aa)) (os.length - x.nd.kids.length) (by simp);rw [E,<-List.map_drop] at hd;refine (qCu hd (hk.ext (c.trans' aa)) (by simp;omega)).mono ?_;rintro _ w4 ⟨rfl,S⟩;exact ⟨rfl,aa.trans' S⟩
   by_cases he:os.drop (os.length - x.nd.kids.length)=x.nd.kids
   ·rw [if_pos ⟨y,he⟩] at a;simp -implicitDefEqProofs [-qM,vj,vk,vi,he];intro w3 k;have hE03:=(hE.trans' c).trans' k;have ho3:=qCT ((U.ext c).ext k) (os.length - x.nd.kids.length) (by simp);have hcap:=qcm H;rw [E] at hcap;have hn2:(os.length:Int) - (x.nd.kids.length:Int)<=(qy v3:Int):=by omega
    simp -implicitDefEqProofs [qfX,qqF,J,H,y,hn0,hnn,hn2];refine jV QU (by decide) (by decide) (by simp [Value.cells]) fun Z w4 hZ S hb4 _=>?_;simp -implicitDefEqProofs [Value.cells] at hb4⊢;refine qbz qb6 (W0:=w) (hE03.trans' S) (sv:=qZ v3 1 0 (os.length - x.nd.kids.length) (os.length - x.nd.kids.length)) (xv:=.slice (some ⟨Z,0,none⟩) 1 1) (by simp) (by simp) (ho3.ext S) (Blk.cells (cs:=[encI (j:Int)]) (by simpa [encI] using hb4) rfl) (by simp [encI,Value.oneCell']) (by simp;omega) (by simp;omega) fun v' w5 hE5 ho5 _ _=>?_;simp -implicitDefEqProofs [qqE,rj,hwj,t];exact (hI _ _ _).2 ⟨by simp [r7],by simp [r8],os.take (os.length - x.nd.kids.length)++[(j:Int)],by simpa [List.map_take] using ho5,by simp;omega,hE5,a⟩
   ·rw [if_neg (fun h=>he h.2)] at a;subst a;simp -implicitDefEqProofs [-qM,vj,vk,vi,he];intro w3 k;simp -implicitDefEqProofs [qfX];rw [<-ab];exact ⟨rfl,(hE.trans' c).trans' k⟩
  ·rw [if_neg (fun h=>y h.1)] at a;subst a;have hn:((os.length:Int) - (x.nd.kids.length:Int)<0):=by omega
   simp -implicitDefEqProofs [-qM,vj,vk,vi,hn,y];intro w3 k;simp -implicitDefEqProofs [qfX];rw [<-ab];exact ⟨rfl,(hE.trans' c).trans' k⟩
 ·have hd0:xs.drop j=[]:=Vz.2 (by omega);rw [hd0] at O;have a:some os=b:=O;subst a;have o:¬(j:Int)<(xs.length:Int):=by omega
  simp -implicitDefEqProofs [qjz,rj,r8,o,t,qqC,J,H,E];rw [<-ab];refine ⟨?_,hE⟩;simp only [Qr];congr 2;rw [uJ];simp;omega
def qCq {w:World} {lv:Value} {xs:List NV} (S:Rd w lv xs) (aa:xs.length<=1000000) {F:FuncId} {caps:Array Value} (V:qh Tryz.prog F=true) {p:NV->Bool} (hc:∀W,qc w W->∀x∈xs,Calls Tryz.prog F (#[vJ x]++caps) W fun e w'=>e=.returned (.bool (p x))/\qc W w'):
  Calls Tryz.prog 224 #[lv,qT F caps] w fun e w'=>∃n:Int,e=.returned (.int .i64 n)/\decide (0<=n)=xs.any p/\qc w w':=by
 have Y:=S.len;refine qGM fun ρ r0 r1=>?_;simp -implicitDefEqProofs [qtN,r0,S.cells.is,Y];generalize z:(fun (e:Ending) (w':World)=>∃n:Int,e=.returned (.int .i64 n)/\decide (0<=n)=xs.any p/\qc w w')=R;obtain ⟨I,J⟩:∃I:Nat->qa->World->Prop,∀j c w',I j c w'↔(c 0=lv/\c 1=qT F caps/\c 7=.int .i64 (xs.length:Int)/\qc w w'/\(xs.take j).any p=false):=⟨_,fun _ _ _=>Iff.rfl⟩;refine vD 8 xs.length I (by simp) ((J _ _ _).2 ⟨by simp [r0],by simp [r1],by simp,qO _,by simp⟩) ?_;clear r0 r1;rintro j c w' hj O U;obtain ⟨r0,r1,r7,o,a⟩:=(J _ _ _).1 U;have H:IntKind.i64.wrap ((j:Int)+1)=(j:Int)+1:=qH (by omega);have k:=S.ext o;by_cases h:j<xs.length
 ·have g:(j:Int)<(xs.length:Int):=by omega
  have y:=k.row h;simp -implicitDefEqProofs [qko,O,r7,g,h,qtL,r0,r1,k.cells.is,Y,y];refine kL V (t:=11) (fs:=#[]) (caps:=caps) (by simp [qT]) ?_;simp -implicitDefEqProofs;refine (hc w' o xs[j] (wz _)).mono ?_;rintro _ w2 ⟨rfl,E⟩;cases Z:p xs[j] with
  |true=>
   simp -implicitDefEqProofs;rw [<-z];refine ⟨j,rfl, ?_,o.trans' E⟩;rw [List.any_eq_true.2 ⟨xs[j],wz _,Z⟩];simp
  |false=>
   simp -implicitDefEqProofs [qtM,O,H,h];refine (J _ _ _).2 ⟨by simp [r0],by simp [r1],by simp [r7],o.trans' E, ?_⟩;rw [uG h,List.any_append,a];simp [Z]
 ·have g:¬(j:Int)<(xs.length:Int):=by omega
  rw [ul (by omega)] at a;simp -implicitDefEqProofs [qko,O,r7,g,h,qtK];rw [<-z];exact ⟨-1,rfl,by rw [a];rfl,o⟩
def qCw {w:World} {lv:Value} {xs:List NV} (j:Rd w lv xs) (a:xs.length<=1000000) {F:FuncId} {caps:Array Value} (c:qh Tryz.prog F=true) {p:NV->Bool} (h:∀W,qc w W->∀x∈xs,Calls Tryz.prog F (#[vJ x]++caps) W fun e w'=>e=.returned (.bool (p x))/\qc W w'):
  Calls Tryz.prog 145 #[lv,qT F caps] w fun e w'=>e=.returned (.bool (xs.any p))/\qc w w':=by
 refine qH0 fun ρ r0 r1=>?_;simp -implicitDefEqProofs [qve,r0,r1];refine (qCq j a c h).mono ?_;rintro _ w2 ⟨n,rfl,hn,g⟩;simp -implicitDefEqProofs;exact ⟨hn,g⟩
def qoX:∀(l:List Nd) (i:Nat) (o:List Int),(∀k∈o,0<=k/\k<i)->vW l i o≠none->∀x∈l,∀k∈x.kids,0<=k/\k<i+l.length
 |[],_,_,_,_,x,c,_,_=>by cases c
 |y::l,i,o,g,h,x,c,k,a=>by
  rw [qeP] at h;split at h
  ·rename_i j;rcases wh.1 c with rfl|c
   ·rw [<-j.2] at a;have:=g k (JX a);simp;omega
   ·have:=qoX l (i+1) _ (fun k a=>by
     rcases uC.1 a with a|a
     ·have:=g k (JI a);omega
     ·rw [uH.1 a];omega) h x c k a
    simp;omega
  ·exact absurd rfl h
def qBT {l:List Nd} (h:xO l=true):∀x∈l,∀k∈x.kids,0<=k/\k<(l.length:Int):=by
 intro x g k a;have c:vW l 0 []≠none:=fun e=>by unfold xO at h;rw [e] at h;cases h
 have:=qoX l 0 [] (by simp) c x g k a;omega
def qB5 {w:World} {lv:Value} {xs:List NV} {x:NV} {A Lb:Nat} {cs:List Value} (O:L01.G w) (U:kF w) (H:Rd w lv xs) (t:Blk w Lb #[lv] 29) (z:x∈xs) (c:∀y∈xs,DOk y.nd.d) (j:xs.length<=400) (I:xO (xs.map (·.nd))=true) (J:Blk w A cs.toArray 175) (Y:QL w cs):
  Calls Tryz.prog 146 #[vJ x,.pointer (some ⟨Lb,0,none⟩),.pointer (some ⟨A,0,none⟩)] w fun e w'=>e=.returned (.bool (!jg (xs.map (·.nd)) x.nd))/\qc w w':=by
 have h:=H.kids x z;refine qHY fun ρ r0 r1 r2=>?_;simp -implicitDefEqProofs [qvd];refine vO fun X w1 Z a o _=>?_;rw [show qe ρ (.tmp 0)=vJ x by simp [r0],Qs h.is] at o;have V:w1.cell? ⟨Lb,0,none⟩=some lv:=by rw [(t.ext a).cell];rfl
 have g:Eng.jG w1 ⟨X,0,none⟩ 0 6=some (qk x):=by
  have:=yD o;simpa [qk] using this
 simp -implicitDefEqProofs [r1,r2,V,g];refine (qB6 (O.ext a) (U.ext a) (H.ext a) (h.ext a) (c x z) c j (fun k S=>?_) (J.ext a) (Y.at' (qz.ext a))).mono ?_
 ·have:=qBT I x.nd (un.2 ⟨x,z,rfl⟩) k S;simpa using this
 rintro _ w2 ⟨rfl,E⟩;simp -implicitDefEqProofs;exact a.trans' E
def QL.cells {w:World} {cs:List Value} (g:QL w cs):∀c∈cs,c.cells=#[c]/\c.oneCell=true:=fun c o=>by
 obtain ⟨k,h,rfl⟩:=Vh.1 o;have a:=g.2 k (by rw [<-g.1];exact h);rw [uW,ug h] at a;simp only [Option.getD_some] at a;generalize cs[k]=c at a;cases j:z6 k with
 |none=>rw [j] at a;cases a;exact ⟨rfl,rfl⟩
 |some r=>
  rw [j] at a;obtain ⟨X,_,_,_,_,_,_,rfl,_⟩:=a;exact ⟨rfl,rfl⟩
def qiY {w:World} {lv rv:Value} {xs:List NV} {root:Nat->Bool} (hG:L01.G w) (hM:kF w) (V:Rd w lv xs) (hds:∀y∈xs,DOk y.nd.d) (hkl:∀x∈xs,x.nd.kids.length<=1000000) (hr:xd w rv root):
  Calls Tryz.prog 64 #[lv,rv] w fun e w'=>e=.returned (.bool (whole (xs.map (·.nd)) root))/\qc w w':=by
 have hl:=V.len;have Z:=V.cells.is;obtain ⟨F,caps,hrv,hcb,hc⟩:=hr.fn;refine qEZ fun ρ r0 r1=>?_;simp -implicitDefEqProofs [qrz];refine vO fun B w1 hB aa hb1 _=>?_;have J:Blk w1 B #[lv] 29:=by simpa [r0,vN Z] using hb1
 have cB:∀W,qc w1 W->W.cell? ⟨B,0,none⟩=some lv:=fun W hE=>by rw [(J.ext hE).cell];rfl
 simp -implicitDefEqProofs [cB w1 (qO _),Z,hl];refine (qdA w1 _ 1 400).mono ?_;rintro _ w1' ⟨rfl,hw1⟩;obtain rfl:=hw1.symm;generalize o:whole (xs.map (·.nd)) root=b;unfold whole at o;rw [uh] at o;have hin:((decide (1<=(xs.length:Int))&&decide ((xs.length:Int)<=400)):Bool)=(decide (1<=xs.length)&&decide (xs.length<=400)):=by
  congr 1<;>exact J5.2 (by omega)
 cases ab:(decide (1<=xs.length)&&decide (xs.length<=400)) with
 |false=>
  rw [ab] at o hin;subst o;simp -implicitDefEqProofs [hin];exact aa
 |true=>
 rw [ab] at hin;have h:=ab;simp only [j0,kr] at h;rw [h.1|>Vo,h.2|>Vo] at o;simp -implicitDefEqProofs [hin,cB w1 (qO _)];refine (qB8 (V.ext aa) (by omega) hkl).mono ?_;rintro _ w2 ⟨rfl,z⟩;have j:=aa.trans' z;cases hp:xO (xs.map (·.nd)) with
 |false=>
  rw [hp] at o;have U:b=false:=by rw [<-o];rfl
  subst U;simp -implicitDefEqProofs;exact j
 |true=>
 rw [hp] at o;have hrow:=(V.ext j).row (k:=xs.length - 1) (by omega);have hwl:IntKind.i64.wrap ((xs.length:Int) - 1)=((xs.length - 1:Nat):Int):=by rw [qH (by omega)];omega
 have hltl:((xs.length - 1:Nat):Int)<(xs.length:Int):=by omega
 have g:xs.length - 1<xs.length:=by omega
 simp -implicitDefEqProofs [r1,hrv,cB w2 z,Z,hl,hwl,hltl,g,hrow];refine kL hcb (t:=16) (fs:=#[]) (caps:=caps) (by simp [qT]) ?_;simp -implicitDefEqProofs;have O:=wz g;refine (hc w2 j xs[xs.length - 1] (V.kids _ O).is (hds _ O).kind).mono ?_;rintro _ w3 ⟨rfl,ac⟩;have S:=j.trans' ac;have hrk:yf (xs.map (·.nd))=(xs[xs.length - 1]'g).nd.d.kind:=by
  unfold yf;rw [Vf,uh,JT,ug g];rfl
 cases hro:root (xs[xs.length - 1]'g).nd.d.kind with
 |false=>
  rw [hrk,hro] at o;have U:b=false:=by rw [<-o];rfl
  subst U;simp -implicitDefEqProofs;exact S
 |true=>
 rw [hrk,hro] at o;simp -implicitDefEqProofs [qry];refine qB4.mono ?_;rintro _ w4 ⟨cs,rfl,hT,Y⟩;simp -implicitDefEqProofs;refine qX qmm fun A w5 hA hE5 hbA _=>?_;simp -implicitDefEqProofs;have I:=hT.cells;have H:=qxQ fun c hc=>(I c hc).1;refine jx (B:=A) (by simp) hbA (by simp [H,hT.1]) ?_ (by simp [H,hT.1];kernel_rfl) fun w6 hO6 hb6=>?_
 ·simp only [qe,qn,qw];simpa [H] using fun c hc=>(I c hc).2
 have hb6':Blk w6 A cs.toArray 175:=by simpa [H] using hb6
 have E:qc w4 w6:=hO6.ext hE5 hA;have a:=(S.trans' Y).trans' E;have cB6:=cB w6 (((z.trans' ac).trans' Y).trans' E);have hB6:=J.ext (((z.trans' ac).trans' Y).trans' E);simp -implicitDefEqProofs [cB6];refine (qCw (p:=fun y=> !jg (xs.map (·.nd)) y.nd) (F:=146) (caps:=#[.pointer (some ⟨B,0,none⟩),.pointer (some ⟨A,0,none⟩)]) (V.ext a) (by omega) (by kernel_rfl) fun W hW y hy=>?_).mono ?_
 ·simpa using qB5 (hG.ext (a.trans' hW)) (hM.ext (a.trans' hW)) (V.ext (a.trans' hW)) (hB6.ext hW) hy hds h.2 hp (hb6'.ext hW) (hT.at' (qz.ext (E.trans' hW)))
 rintro _ w7 ⟨rfl,hE7⟩;simp -implicitDefEqProofs;refine ⟨?_,a.trans' hE7⟩;rw [<-o];simp [List.all_map,Function.comp_def];rw [List.any_eq_not_all_not];simp
end Go.L02
namespace Go.L02
open Go.Eng
open Go.L01 (Bs Tok)
def Sh (s:Bs):Prop:=s.length<=1000000
structure DS (d:D):Prop where
 kind:d.kind<=37
 name:Sh d.name
 vr:Sh d.vr
 typ:Sh d.typ
inductive TOk:T->Prop
 |mk {d:D} {ks:List T}:DS d->(∀t∈ks,TOk t)->TOk (T.mk d ks)
def yz:Sh []:=by simp [Sh]
def Al {α:Type} (P:α->Prop) (m:M α):Prop:=∀i f a j f',m i f=.ok a j f'->P a
section
variable {L:List Tok} {α β:Type} {P:α->Prop} {Q:β->Prop}
theorem qKR {m:M α}:Al (fun _=>True) m:=fun _ _ _ _ _ _=>trivial
theorem xX {a:α} (h:P a):Al P (ret a):=fun i f b j c e=>by
 simp only [ret,Rs.ok.injEq] at e;obtain ⟨rfl,_,_⟩:=e;exact h
theorem ql9:Al P (oof:M α):=fun i f b j a e=>by cases e
theorem zG {m:M α} {k:α->M β} (t:Al P m) (o:∀a,P a->Al Q (k a)):Al Q (bnd m k):=by
 intro i f b j y h;cases c:m i f with
 |oof=>rw [kM c] at h;cases h
 |no g=>rw [xx c] at h;cases h
 |ok a l g=>
  rw [jq c] at h;exact o a (t _ _ _ _ _ c) _ _ _ _ _ h
theorem qaS {m:M α} {k:α->M β} (c:∀a,Al Q (k a)):Al Q (bnd m k):=zG qKR fun a _=>c a
theorem Qb {s:Bs} {x y:M β} (a:Al Q x) (c:Al Q y):Al Q (qm L s x y):=by
 intro i f b j g h;unfold qm at h;split at h
 ·exact a _ _ _ _ _ h
 ·exact c _ _ _ _ _ h
end
section
variable {L:List Tok} (hL:xn L) (hn:L.length<=20000)
include hL in
theorem qm3 (i:Nat):(tk L i).text.length<=20:=by
 unfold tk;rw [uW];by_cases h:i<L.length
 ·rw [ug h];exact hL _ (wz h)
 ·rw [u4 (by omega)];simp
include hL in
theorem qhM (i:Nat):Sh (tk L i).text:=Nat.le_trans (qm3 hL i) (by omega)
include hL in
theorem qma:Al (fun s:Bs=>s.length<=20) (name L):=by
 intro i f a j c h;unfold name at h;split at h
 ·simp only [Rs.ok.injEq] at h;obtain ⟨rfl,_,_⟩:=h;exact qm3 hL i
 ·cases h
include hL in
theorem qxM:Al Sh (name L):=fun i f a j c h=>Nat.le_trans (qma hL i f a j c h) (by omega)
theorem qqp:∀(l:List Tok),(∀t∈l,t.text.length<=20)->(ja l).length<=20*l.length
 |[],_=>by simp [ja]
 |t::l,h=>by
  have c:=qqp l fun t a=>h t (by simp [a]);have g:=h t (by simp);have e:ja (t::l)=t.text++ja l:=by simp [ja]
  rw [e,kh,List.length_cons];omega
include hL hn in
theorem qxJ (n:Nat):Al Sh (xh L n):=by
 intro i f a j z h;unfold xh at h;cases c:kind L n i f with
 |oof=>rw [c] at h;cases h
 |no g=>rw [c] at h;cases h
 |ok u l g=>
  rw [c] at h;simp only [Rs.andThen,Rs.ok.injEq] at h;obtain ⟨rfl,_,_⟩:=h;have y:(jW L i l).length<=20000:=by simp [jW];omega
  have o:=qqp (jW L i l) fun t k=>hL t (JI (JX k));unfold Sh;omega
include hL hn in
theorem qxK (n:Nat):Al Sh (jF L n):=zG (qxJ hL hn n) fun _ h=>qaS fun _=>xX h
include hL in
theorem qKN:Al Sh (op L):=by
 intro i f a j c h;unfold op at h;split at h
 ·simp only [Rs.ok.injEq] at h;obtain ⟨rfl,_,_⟩:=h;exact qhM hL i
 ·refine zG (Q:=Sh) (qma hL) (fun s k=>Qb (zG (qma hL) fun u g=>xX ?_) (xX ?_)) _ _ _ _ _ h
  ·unfold Sh;simp;omega
  ·unfold Sh;omega
def yK (l:List T):Prop:=∀t∈l,TOk t
theorem ts0:yK []:=by simp [yK]
theorem ts1 {t:T} (h:TOk t):yK [t]:=by simpa [yK] using h
theorem tsC {t:T} {l:List T} (h:TOk t) (c:yK l):yK (t::l):=by
 intro u a;rcases wh.1 a with rfl|a
 ·exact h
 ·exact c u a
theorem ts2 {t u:T} (h:TOk t) (a:TOk u):yK [t,u]:=tsC h (ts1 a)
theorem tok {d:D} {ks:List T} (h:DS d) (a:yK ks):TOk (T.mk d ks):=.mk h a
theorem TOk.ks {t:T} (h:TOk t):yK t.kids:=by cases h with|mk c a=>exact a
theorem TOk.ds {t:T} (h:TOk t):DS t.d:=by cases h with|mk a c=>exact a
theorem ds0 {k:Nat} (h:k<=37:=by decide) {n:Int}:DS {kind:=k,n:=n}:=⟨h,yz,yz,yz⟩
theorem dsN {k:Nat} {s:Bs} (a:Sh s) (h:k<=37:=by decide):DS {kind:=k,name:=s}:=⟨h,a,yz,yz⟩
section
variable {e b s:M T} {p:M (T×Nat)}
theorem qxN (c:Al TOk e):∀n,Al yK (more L e n)
 |0=>ql9
 |n+1=>Qb (zG c fun a h=>zG (qxN c n) fun _ g=>xX (tsC h g)) (xX ts0)
theorem qmb (c:Al TOk e) (n:Nat):Al yK (xW L n e):=qaS fun _=>Qb (xX ts0) (zG (zG c fun a j=>zG (qxN c n) fun _ g=>xX (tsC j g)) fun _ h=>qaS fun _=>xX h)
include hL hn in
theorem qKP (g:Al TOk e) (n:Nat):Al TOk (wM L n e):=zG (qxM hL) fun _ c=>Qb (zG (qxJ hL hn n) fun _ h=>qaS fun _=>zG (qmb g n) fun _ a=>xX (tok ⟨by simp,c,yz,h⟩ a))
 (zG (qmb g n) fun _ a=>xX (tok ⟨by simp,c,yz,yz⟩ a))
include hL in
theorem qxL (g:Al TOk e) (n:Nat) {o:Bs} (h:Sh o):Al TOk (z7 L n e o):=zG (qKN hL) fun _ c=>zG (qmb g n) fun _ a=>xX (tok ⟨by simp,c,h,yz⟩ a)
include hL hn in
theorem qKM (a:Al TOk e) (n:Nat):Al TOk (bnd (jF L n) (z7 L n e)):=zG (qxK hL hn n) fun _ h=>qxL hL a n h
theorem qhb {b:Bool} {m:M T} (h:Al TOk m):Al (fun x:T×Bool=>TOk x.1) (vS b m):=zG h fun _ h=>xX h
include hL hn in
theorem qKO (o:Al TOk e) (n:Nat):Al (fun x:T×Bool=>TOk x.1) (xq L n e):=by
 have vr:∀i,TOk (T.mk {kind:=4,name:=(tk L i).text} []):=fun i=>tok (dsN (qhM hL i)) ts0;intro i f a j t h;unfold xq at h;split at h
 ·exact qhb (qKP hL hn o n) _ _ _ _ _ h
 ·split at h
  ·cases c:jF L n i f with
   |oof=>rw [c] at h;cases h
   |no g=>rw [c] at h;simp only [Rs.ok.injEq] at h;obtain ⟨rfl,_,_⟩:=h;exact vr i
   |ok s k g=>
    rw [c] at h;exact qhb (b:=true) (qxL hL o n (qxK hL hn n _ _ _ _ _ c)) _ _ _ _ _ h
  ·split at h
   ·simp only [Rs.ok.injEq] at h;obtain ⟨rfl,_,_⟩:=h;exact vr i
   ·exact qhb (qKM hL hn o n) _ _ _ _ _ h
include hL hn in
theorem qKK (g:Al TOk e) (n:Nat):Al (fun x:T×Bool=>TOk x.1) (xi L n e):=by
 intro i f a j o h;unfold xi at h;split at h
 ·simp only [Rs.ok.injEq] at h;obtain ⟨rfl,_,_⟩:=h;exact tok ds0 ts0
 ·refine Qb (Q:=fun x:T×Bool=>TOk x.1) (xX (tok ds0 ts0)) (Qb (xX (tok ds0 ts0)) (Qb (xX (tok ds0 ts0)) ?_)) _ _ _ _ _ h;intro i f a j o h;by_cases k:qo L i [[117,112],[100,111,119,110]]=true
  ·simp only [k,kk] at h;have y:vS false (Qf L e) i f=bnd (needs L [[40]]) (fun _=>bnd e fun t=>bnd (needs L [[41]]) fun _=>ret (T.mk {kind:=if qo L i [[100,111,119,110]] then 10 else 9} [t],false)) (i+1) f:=by
    show bnd (bnd _ _) _ (i+1) f=_;simp only [sq,wv,y9]
   rw [y] at h;refine qaS (Q:=fun x:T×Bool=>TOk x.1) (fun _=>zG g fun t c=>qaS fun _=>xX (tok ⟨?_,yz,yz,yz⟩ (ts1 c))) _ _ _ _ _ h;show (if _ then 10 else 9)<=37;split<;>decide
  ·simp only [k,uf,km] at h;exact Qb (Q:=fun x:T×Bool=>TOk x.1) (qhb (zG g fun _ c=>qaS fun _=>xX c)) (qKO hL hn g n) _ _ _ _ _ h
include hL in
theorem ql8 (c:Al TOk e):∀n t g,TOk t->Al (fun x:T×Nat=>TOk x.1) (ya L e n t g)
 |0,_,_,_=>ql9
 |n+1,t,g,a=>Qb (zG c fun k h=>qaS fun _=>ql8 c n _ _ (tok ds0 (ts2 a h))) (Qb (zG (qxM hL) fun s j=>ql8 c n _ _ (tok (dsN j) (ts1 a))) (xX a))
include hL hn in
theorem qKL (a:Al TOk e) (n:Nat):Al (fun x:T×Nat=>TOk x.1) (wK L n e):=zG (qKK hL hn a n) fun p c=>ql8 hL a n _ _ c
include hL in
theorem qKQ (g:Al (fun x:T×Nat=>TOk x.1) p):Al TOk (wu L p):=Qb (zG g fun x c=>xX (tok (dsN (by simp [Sh])) (ts1 c))) (zG g fun x c=>by
 intro i f a j t h;by_cases k:qo L i jU=true
 ·simp only [k,kk] at h;exact zG (Q:=TOk) g (fun y o=>xX (tok (dsN (qhM hL i)) (ts2 c o))) _ _ _ _ _ h
 ·simp only [k,uf,km,Rs.ok.injEq] at h;obtain ⟨rfl,_,_⟩:=h;exact c)
include hL hn in
theorem qxO:∀n,Al TOk (jj L n)
 |0=>ql9
 |n+1=>qKQ hL (qKL hL hn (qxO n) n)
end
mutual
theorem qm1:∀(t:T) (b:Nat),TOk t->∀x∈t.flat b,DS x.d
 | .mk d ks,b,h,x,a=>by
  simp only [T.flat,uC,uH] at a;rcases a with a|rfl
  ·exact tok_flats ks b h.ks x a
  ·exact h.ds
theorem tok_flats:∀(c:List T) (b:Nat),yK c->∀x∈flats b c,DS x.d
 |[],_,_,x,a=>by simp [flats] at a
 |t::c,b,h,x,a=>by
  simp only [flats,uC] at a;rcases a with a|a
  ·exact qm1 t b (h t (by simp)) x a
  ·exact tok_flats c _ (fun u g=>h u (by simp [g])) x a
end
mutual
theorem qjt:∀(t:T) (b:Nat),∀x∈t.flat b,x.kids.length<t.size
 | .mk d ks,b,x,a=>by
  simp only [T.flat,uC,uH] at a;rcases a with a|rfl
  ·have:=kids_flats ks b x a;simp only [T.size];omega
  ·have:(qt b ks).length<=sizes ks:=roots_sizes ks b;simp only [T.size];omega
theorem kids_flats:∀(c:List T) (b:Nat),∀x∈flats b c,x.kids.length<sizes c
 |[],_,x,a=>by simp [flats] at a
 |t::c,b,x,a=>by
  simp only [flats,uC] at a;simp only [sizes];rcases a with a|a
  ·have:=qjt t b x a;omega
  ·have:=kids_flats c _ x a;omega
theorem roots_sizes:∀(a:List T) (b:Nat),(qt b a).length<=sizes a
 |[],_=>by simp [qt]
 |t::a,b=>by
  have:=roots_sizes a (b+t.size);have:=t.size_pos;simp only [qt,sizes,List.length_cons];omega
end
end
end Go.L02
namespace Go.L02
open Go Go.Eng Go.RowKit
open Go.Proofs hiding encI
open Go.L01 (Bd Bs Own.same SlK Tok fV jA jX jY jZ jb jh qF qbG qi qp vc vu xb zz)
set_option maxRecDepth 100000
set_option maxHeartbeats 2000000
def Src (L:List Tok) (n:Nat) (m:Mod):Prop:=∃i f j g,qDc L n i f=.ok m j g/\j<=L.length
structure PaS (L:List Tok) (n:Nat) (B P Lv Ln Ou:Nat) (w:World) (tv:Value) (i f:Nat) (nv lv rv:Value) (xs:List NV) (css:List (List Value)) (ls:List Int) (ms:List Mod) (w':World):Prop where
 st:PSt B B w' tv nv L i f xs
 ln:xs.length<=2*i+2
 sp:vQ lv xs
 bP:Blk w' P #[.pointer (some ⟨B,0,none⟩)] 83
 bL:Blk w' Lv #[tv] 48
 bN:Blk w' Ln #[lv] 40
 bO:Blk w' Ou #[rv] 23
 ol:Own w.heap.size 3 1 w' lv (ls.map encI)
 oo:Own w.heap.size 66 7 w' rv css.flatten
 all:zJ (Ji (wg (fun k=>lv.ownBlock≠some k) w' nv xs) w') css ms
 sm:qz (fun k T=>qeD k T/\k<w.heap.size) w w'
 bl:Below B w w'
 src:∀m∈ms,Src L n m
section
variable {L:List Tok} {n B P Lv Ln Ou:Nat} {w w1 w2 w3:World} {tv nv lv lv' rv rv':Value} {i f:Nat} {xs:List NV} {css:List (List Value)} {ls:List Int} {ms:List Mod}
theorem PaS.ext (h:PaS L n B P Lv Ln Ou w tv i f nv lv rv xs css ls ms w1) (a:qc w1 w2):PaS L n B P Lv Ln Ou w tv i f nv lv rv xs css ls ms w2:=by
 have c:qz (fun _ _=>True) w1 w2:=qz.ext a;refine ⟨h.st.ext a,h.ln,h.sp,h.bP.ext a,h.bL.ext a,h.bN.ext a,h.bO.ext a,h.ol.ext a,h.oo.ext a, ?_,h.sm.trans (qz.ext a),h.bl.trans (qlf a (J0 h.st.blk.lt)),h.src⟩;exact h.all.imp fun _ _ h=>h.at' c (fun _=>trivial) (fun _=>trivial) (fun _=>trivial) (fun _=>trivial) fun _ _ h=>h.at' c (fun _=>trivial) fun _ _=>trivial
theorem PaS.line (h:PaS L n B P Lv Ln Ou w tv i f nv lv rv xs css ls ms w1) {x:Int} (z:w1.grownBy w2 lv.ownBlock) (ho:Own w.heap.size 3 1 w2 lv' ((ls++[x]).map encI)) (V:lv'.ownBlock=lv.ownBlock\/lv'.ownBlock=some w1.heap.size) (Y:B<=Ln) (S:B<=w.heap.size) (I:Only Ln w2 w3) (U:Blk w3 Ln #[lv'] 40):
  PaS L n B P Lv Ln Ou w tv i f nv lv' rv xs css (ls++[x]) ms w3:=by
 have c:=qz.grown h.ol z;have o:=h.bN.at' c (.inr (by decide));have a:=qz.only I o;have j:=h.st.kidLt;have O:∀k,k<w1.heap.size->lv.ownBlock≠some k->(lv.ownBlock≠some k/\lv'.ownBlock≠some k):=fun k g t=>⟨t,fun e=>by
  rcases V with E|E
  ·exact t (E▸e)
  ·rw [E] at e;cases e;omega⟩
 refine ⟨(h.st.grown h.ol z h.sp (by decide) (by decide) (by decide)).only (cs:=#[lv]) (T:=40) I (fun _=>o.heap) (by decide) (by decide) (by decide) (by decide),h.ln,fun y J k g=>(O k (j y J k g) (h.sp y J k g)).2,
  (h.bP.at' c (.inr (by decide))).at' a (.inr (by decide)),(h.bL.at' c (.inr (by decide))).at' a (.inr (by decide)),U,(h.bO.at' c (.inr (by decide))).at' a (.inr (by decide)),
  ho.at' a fun k _=> .inr (by decide),(h.oo.at' c fun k _=> .inr (by decide)).at' a fun k _=> .inr (by decide), ?_, ?_,(h.bl.trans (qv1 (v:=lv) z (fun k g=>Nat.le_trans S (h.ol.blk k g).1) (J0 h.st.blk.lt))).trans (yh I Y),h.src⟩
 ·refine h.all.imp fun _ _ hm=>?_;have t:Ji (wg (fun k=>lv.ownBlock≠some k/\lv'.ownBlock≠some k) w2 nv xs) w2 _ _:=hm.at' c (fun _=> .inr (by decide)) (fun _=> .inr (by decide)) (fun _=> .inr (by decide)) (fun _=> .inr (by decide)) fun v l H=>
   (wg.mono (q':=fun k=>lv.ownBlock≠some k/\lv'.ownBlock≠some k) H j O).at2 c (fun k g=> .inl g.1) fun k _=> .inr (by decide)
  exact t.at' a (fun _=> .inr (by decide)) (fun _=> .inr (by decide)) (fun _=> .inr (by decide)) (fun _=> .inr (by decide)) fun v l H=>
   (H.mono (fun x Z k g=>Jy (j x Z k g) z.size) fun k _ g=>g.2).at2 a (fun k _=> .inr (by decide)) fun k _=> .inr (by decide)
 ·refine (h.sm.trans ((c.mono fun k T g=>?_).trans (a.mono fun k T g=>?_)))
  ·exact .inl fun e=>by have:=(h.ol.blk k e).1;have:=g.2;omega
  ·rcases g.1 with rfl|rfl|rfl<;>exact .inr (by decide)
end
@[simp] theorem qNK:qh Tryz.prog 17=true:=by kernel_rfl
def qgD (e l:Int):Value:=.agg #[.int .i64 e,.int .i64 l]
def RdN (w:World) (v:Value) (l:List Nd):Prop:=∃xs:List NV,xs.map (·.nd)=l/\Rd w v xs
def yM (w:World) (v:Value) (l:List Nd):Prop:=∃(xs:List NV) (b b':Nat),xs.map (·.nd)=l/\Own b 44 6 w v (jH xs)/\∀x∈xs,Own b' 3 1 w x.kv (x.nd.kids.map encI)
def yM.rdN {w:World} {v:Value} {l:List Nd} (h:yM w v l):RdN w v l:=by
 obtain ⟨xs,b,k,c,g,a⟩:=h;exact ⟨xs,c,L01.jR g,fun x j=>L01.jR (a x j)⟩
def yM.at' {w w':World} {v:Value} {l:List Nd} {p:Nat->TypeId->Prop} (h:yM w v l) (c:qz p w w') (a:∀k,p k 44) (j:∀k,p k 3):yM w' v l:=by
 obtain ⟨xs,b,o,y,g,t⟩:=h;exact ⟨xs,b,o,y,g.at' c fun k _=>a k,fun x z=>(t x z).at' c fun k _=>j k⟩
def yM.ext {w w':World} {v:Value} {l:List Nd} (h:yM w v l) (a:qc w w'):yM w' v l:=by
 obtain ⟨xs,b,o,g,j,c⟩:=h;exact ⟨xs,b,o,g,j.ext a,fun x k=>(c x k).ext a⟩
def Qd (l:List Nd):Prop:=(∀x∈l,DOk x.d)/\∀x∈l,x.kids.length<=1000000
def DS.ok {d:D} (h:DS d):DOk d:=by
 obtain ⟨j,c,a,g⟩:=h;unfold Sh at c a g;exact ⟨by omega,by omega,by omega,by omega⟩
def qDs {t:T} (h:TOk t) (c:t.size<=1000000):Qd (t.flat 0):=⟨fun x a=>(qm1 t 0 h x a).ok,fun x a=>by have:=qjt t 0 x a;omega⟩
def Qd.ds {xs:List NV} {l:List Nd} (h:Qd l) (e:xs.map (·.nd)=l):∀y∈xs,DOk y.nd.d:=fun y a=>h.1 y.nd (by rw [<-e];exact un.2 ⟨y,a,rfl⟩)
def Qd.kl {xs:List NV} {l:List Nd} (h:Qd l) (e:xs.map (·.nd)=l):∀y∈xs,y.nd.kids.length<=1000000:=fun y a=>h.2 y.nd (by rw [<-e];exact un.2 ⟨y,a,rfl⟩)
def qov {w:World} {v:Value} {b g:Nat} {xs:List NV} (h:Own b 44 6 w v (jH xs)) (a:∀x∈xs,Own g 3 1 w x.kv (x.nd.kids.map encI)):Rd w v xs:=⟨L01.jR h,fun x c=>L01.jR (a x c)⟩
def x9 (ts:List Tok):Rs T:=bnd (jj ts (ts.length+3)) (fun t=>bnd (fin ts) fun _=>ret t) 0 0
def xQ (s:Bs):List Nd×Int×Int:=
 match qp s with
 | .bad e l=>([],e,l)
 | .ok ts _=>match x9 ts with
  | .ok t _ _=>if whole (t.flat 0) qf then (t.flat 0,0,0) else ([],21,1)
  | .no g=>([],20,qbo ts g)
  | .oof=>([],0,0)
theorem z26:zR Tryz.prog 26=some #[.int .i64 0,.int .i64 0]:=by kernel_rfl
theorem qbX:jT Tryz.prog 26 2=true:=by kernel_rfl
theorem qxd:Tryz.prog.built 26 []=some #[.int .i64 0,.int .i64 0]:=by kernel_rfl
theorem qxc (a b:Int):Tryz.prog.built 26 [(0,.int .i64 a),(1,.int .i64 b)]=some #[.int .i64 a,.int .i64 b]:=by kernel_rfl
def qbN.more {B P:Nat} {tv:Value} {W w2:World} {ok:Bool} {g:Nat} {Ok:World->Prop} {e:Ending} {L:List Tok} {cs:Array Value} (o:∀w2,Ok w2->∃(i f:Nat) (nv:Value) (ys:List NV),PSt B B w2 tv nv L i f ys) (S:Blk W P cs 83) (h:qbN B tv W ok g Ok e w2):
  qbN B tv W ok g (fun w2=>Ok w2/\Blk w2 P cs 83/\(ok=false->g<=L.length)) e w2:=by
 obtain ⟨z,H,I⟩:=h;have k:=S.at' z (.inr (.inr rfl));refine ⟨z,H, ?_⟩;rcases I with ⟨a,b,c⟩|⟨a,b,j,t,E,O,c⟩
 ·exact .inl ⟨a,b,c,k,fun e=>by rw [a] at e;cases e⟩
 ·refine .inr ⟨a,b,j,t,E,O,c,k,fun _=>?_⟩;obtain ⟨i,f,nv,ys,y⟩:=o w2 c;have e:=y.blk.heap;rw [E.heap] at e;simp only [ub,Obj.cells.injEq] at e;have J:=congrArg (fun a:Array Value=>a[2]?) e.1;simp at J;have:=y.fl;omega
def qDd (c:List Tok):(zr c (jj c (c.length+3))=true/\∃t j g,x9 c=.ok t j g)\/(zr c (jj c (c.length+3))=false/\((∃g,x9 c=.no g/\xG c (jj c (c.length+3))=g)\/x9 c=.oof)):=by
 have h:zr c (jj c (c.length+3))=(match x9 c with| .ok _ _ _=>true|_=>false):=by
  unfold zr;rw [show bnd (jj c (c.length+3)) (fun a=>bnd (fin c) fun _=>ret a) 0 0=x9 c from rfl];cases x9 c<;>rfl
 have k:xG c (jj c (c.length+3))=(match x9 c with| .no g=>g| .ok _ _ g=>g| .oof=>0):=by
  unfold xG;rw [show bnd (jj c (c.length+3)) (fun a=>bnd (fin c) fun _=>ret a) 0 0=x9 c from rfl];cases x9 c<;>rfl
 rw [h,k];cases x9 c with
 |ok t j g=>exact .inl ⟨rfl,t,j,g,rfl⟩
 |no g=>exact .inr ⟨rfl,.inl ⟨g,rfl,rfl⟩⟩
 |oof=>exact .inr ⟨rfl,.inr rfl⟩
def qIY (a:List Tok):x9 a≠ .oof:=by
 intro h;unfold x9 at h;cases c:jj a (a.length+3) 0 0 with
 |oof=>exact qlg (j1 _) 0 c
 |no g=>rw [xx c] at h;cases h
 |ok t j g=>
  rw [jq c] at h;unfold bnd fin at h;by_cases k:j<a.length
  ·simp [k,Rs.andThen] at h
  ·simp [k,Rs.andThen,ret] at h
def qIX {a:List Tok} {t:T} {j g:Nat} (h:x9 a=.ok t j g):∃c,jj a (a.length+3) 0 0=.ok t j c:=by
 unfold x9 at h;cases k:jj a (a.length+3) 0 0 with
 |oof=>rw [kM k] at h;cases h
 |no g=>rw [xx k] at h;cases h
 |ok z y c=>
  rw [jq k] at h;unfold bnd fin at h;by_cases o:y<a.length
  ·simp [o,Rs.andThen] at h
  ·simp [o,Rs.andThen,ret] at h;obtain ⟨rfl,rfl,_⟩:=h;exact ⟨c,rfl⟩
def qCC {w:World} (hG:L01.G w) (hM:kF w) (s:Bs) (hs:s.length<4611686018427387904):Calls Tryz.prog 17 #[.string (qb s)] w fun e w'=>∃v,e=.returned (.tuple #[v,qgD (xQ s).2.1 (xQ s).2.2])/\yM w' v (xQ s).1/\qc w w':=by
 generalize hRR:(fun (e:Ending) (w':World)=>∃v,e=.returned (.tuple #[v,qgD (xQ s).2.1 (xQ s).2.2])/\yM w' v (xQ s).1/\qc w w')=R;have ac:∀W,yM W (.slice none 0 0) []:=fun W=>⟨[],0,0,rfl,Own.nil _ _ _ _,by simp⟩;refine qG9 fun ρ r0=>?_;simp -implicitDefEqProofs [quF];refine qX z26 fun Fr w0 hFr hE0 hb0 _=>?_;simp -implicitDefEqProofs [r0];refine (L01.qhT (hG.ext hE0) s hs).mono ?_;rintro _ w1 ⟨v,rfl,hv,hE1⟩;simp -implicitDefEqProofs [fV];refine qX z26 fun F w2 hF hE2 hb2 _=>?_;simp -implicitDefEqProofs;refine jx (B:=F) (by simp) hb2 (by simp [Value.cells]) (by simp [Value.cells]) (by simpa [Value.cells] using qbX) fun w3 hO3 aa=>?_;simp [Value.cells] at aa;have J:qc w1 w3:=hO3.ext hE2 hF;have hE3:qc w w3:=(hE0.trans' hE1).trans' J;have S:=(hb0.ext hE1).ext J;have hc0:w3.cell? ⟨F,0,none⟩=some (.int .i64 (qp s).err):=by rw [aa.cell];rfl
 have fin:∀(ρ2:qa) (W W':World) (e l:Int) (v:Value),qc w W->ρ2 2=v->ρ2 3=.pointer (some ⟨Fr,0,none⟩)->Only Fr W W'->Blk W' Fr #[.int .i64 e,.int .i64 l] 26->(xQ s).2=(e,l)->yM W' v (xQ s).1->qB [.tmp 2,.cellN 3 2] R ρ2 W':=by
  intro ρ2 W W' e l v hE e2 e3 hO hb h1 h2;refine L01.jZ e2 e3 hb (by simp) ?_;rw [<-hRR];refine ⟨v, ?_,h2,hO.ext hE hFr⟩;rw [h1];rfl
 simp -implicitDefEqProofs [hc0];cases H:qp s with
 |bad e l=>
  have he:=qij H;have Y:xQ s=([],e,l):=by unfold xQ;rw [H]
  simp -implicitDefEqProofs [L01.Res.err,he];refine vZ qG8 (fun W=>Blk W F #[.int .i64 e,.int .i64 l] 26) fun w4 ab _=>?_;rw [H] at aa;have hF4:Blk w4 F #[.int .i64 e,.int .i64 l] 26:=aa.ext ab;refine ⟨hF4, ?_⟩;have cF:∀W,Blk W F #[.int .i64 e,.int .i64 l] 26->Eng.jG W ⟨F,0,none⟩ 0 2=some [.int .i64 e,.int .i64 l]:=fun W h=>by
   have:=yD h;simpa using this
  simp+contextual -implicitDefEqProofs [qub,cF,hF4];refine jx (B:=Fr) (by simp) (S.ext ab) (by simp [Value.cells]) (by simp [Value.cells]) (by simpa [Value.cells] using qbX) fun w5 hO5 hb5=>?_;simp [Value.cells] at hb5;simp -implicitDefEqProofs [quf];exact fin _ w4 w5 e l (.slice none 0 0) (hE3.trans' ab) (by simp) (by simp) hO5 hb5 (by rw [Y]) (by rw [Y];exact ac _)
 |ok a cs=>
  rw [H] at hv;have hv':Own w0.heap.size 53 3 w1 v (qF a):=hv;have ae:=Q7 H;have hL:=qid ae;have hNum:=qDn ae;have htl:a.length<=20000:=by have:=(L01.qih s).1;rw [H] at this;exact this
  have his:=hv'.isl;have hic:=vN his;have Y:xQ s=(match x9 a with| .ok t _ _=>if whole (t.flat 0) qf then (t.flat 0,0,0) else ([],21,1)| .no g=>([],20,qbo a g)| .oof=>([],0,0)):=by unfold xQ;rw [H]
  simp -implicitDefEqProofs [L01.Res.err,quc,qw9 his];refine vO fun B w4 hB ab hb4 _=>?_;simp -implicitDefEqProofs [Value.cells,hic] at hb4⊢;refine qX z83 fun P w5 hP hE5 hb5 _=>?_;simp -implicitDefEqProofs;refine jx (B:=P) (by simp) hb5 (by simp [Value.cells]) (by simp [Value.cells]) (by simpa [Value.cells] using qnj) fun w6 hO6 hb6=>?_;simp -implicitDefEqProofs [Value.cells] at hb6;have cP:w6.cell? ⟨P,0,none⟩=some (.pointer (some ⟨B,0,none⟩)):=by rw [hb6.cell];rfl
  have hE46:qc w4 w6:=hO6.ext hE5 hP;have hE36:qc w3 w6:=ab.trans' hE46;have hv6:=(hv'.ext J).ext hE36;have hB6:=hb4.ext hE46;have hS:PSt B B w6 v (.slice none 0 0) a 0 0 []:=⟨hB6,Own.down hv6 (uz _),Own.nil _ _ _ _,by simp,j1 _,J0 hB6.lt,htl,uz _,uz _⟩;simp -implicitDefEqProofs [cP];have hkn:jj a (a.length+3) 0 0≠ .oof:=qlg (j1 _) 0;have hB3:w3.heap.size<=B:=hB;have hFB:F<B:=by have:=aa.lt;omega
  have hFrB:Fr<B:=by have:=S.lt;omega
  refine (qo2 hS (ok:=zr a (jj a (a.length+3))) (g:=xG a (jj a (a.length+3))) (Ok:=fun w2=>qmi aT a B v (jj a (a.length+3)) w2/\Blk w2 P #[.pointer (some ⟨B,0,none⟩)] 83/\(zr a (jj a (a.length+3))=false->xG a (jj a (a.length+3))<=a.length)) (by kernel_rfl) fun W hE=>
   (qCF (qpa hL hNum (a.length+3)) hkn (hS.ext hE) (hb6.ext hE)).mono fun e w2 h=>qbN.more (fun w2 ⟨i,f,nv,ys,h,_⟩=>⟨i,f,nv,ys,h⟩) (hb6.ext hE) h).mono ?_
  rintro _ w7 ⟨rfl,hBl,w8,⟨⟨i8,f8,nv8,ys,Z,hnd8⟩,hP8,hfl⟩,o,hfar⟩;have ad:qc w3 w7:=qle hE36 hBl hB3;have V:qc w w7:=hE3.trans' ad;have O:=S.ext ad;rcases qDd a with ⟨E,t,j,g,hT⟩|⟨E,hno⟩
  ·rw [E] at o;obtain ⟨g',hex⟩:=qIX hT;obtain ⟨U,hjl⟩:=hnd8 t j g' E hex;change ys.map (·.nd)=t.flat 0 at U;have hP7:=hP8.at' o ⟨by decide,.inl rfl⟩;have hB7:=Z.blk.at' o ⟨by decide,.inl rfl⟩;have cP7:w7.cell? ⟨P,0,none⟩=some (.pointer (some ⟨B,0,none⟩)):=by rw [hP7.cell];rfl
   have cB7:w7.cell? ⟨B,3,none⟩=some nv8:=by rw [hB7.cell];rfl
   have hrd:Rd w7 nv8 ys:=qov (Z.own.at' o fun k _=>⟨by decide,.inl rfl⟩) fun x hx=>(Z.kid x hx).at' o fun k _=>⟨by decide,.inl rfl⟩;have htk:TOk t:=qxO hL htl _ _ _ _ _ _ hex;have hsz:=qeL (L:=a) (a.length+3) 0 0 t j g' hex;have hnok:=qDs htk (by omega);have hds:=hnok.ds U;have hkl:=hnok.kl U;simp -implicitDefEqProofs [E,qud,cP7,cB7];refine (qiY (hG.ext V) (hM.ext V) hrd hds hkl (qfN (w:=w7))).mono ?_;rintro _ w9 ⟨rfl,y⟩;rw [U];have c:xQ s=if whole (t.flat 0) qf then (t.flat 0,0,0) else ([],21,1):=by rw [Y,hT]
   cases hw:whole (t.flat 0) qf with
   |true=>
    rw [hw] at c;have cP9:=y.cell cP7;have cB9:=y.cell cB7;simp -implicitDefEqProofs [que,cP9,cB9,qxd];refine jx (B:=Fr) (by simp) (O.ext y) (by simp [Value.cells]) (by simp [Value.cells]) (by simpa [Value.cells] using qbX) fun w10 I z=>?_;simp [Value.cells] at z;simp -implicitDefEqProofs;refine fin _ w9 w10 0 0 nv8 (V.trans' y) (by simp) (by simp) I z (by rw [c];rfl) ?_;rw [c];have smF:=qz.only I (O.ext y);exact ⟨ys,_,_,U,((Z.own.at' o fun k _=>⟨by decide,.inl rfl⟩).ext y).at' smF fun k _=> .inr (by decide),fun x hx=>(((Z.kid x hx).at' o fun k _=>⟨by decide,.inl rfl⟩).ext y).at' smF fun k _=> .inr (by decide)⟩
   |false=>
    rw [hw] at c;simp -implicitDefEqProofs [qxc];refine jx (B:=Fr) (by simp) (O.ext y) (by simp [Value.cells]) (by simp [Value.cells]) (by simpa [Value.cells] using qbX) fun w10 I z=>?_;simp [Value.cells] at z;simp -implicitDefEqProofs;exact fin _ w9 w10 21 1 (.slice none 0 0) (V.trans' y) (by simp) (by simp) I z (by rw [c];rfl) (by rw [c];exact ac _)
  ·obtain ⟨g,hT,hg⟩:∃g,x9 a=.no g/\xG a (jj a (a.length+3))=g:=hno.resolve_right (qIY a);obtain ⟨a8,b8,hB7⟩:=hfar E;rw [E] at o;have hP7:=hP8.at' o ⟨by decide,.inr (by decide)⟩;have cP7:w7.cell? ⟨P,0,none⟩=some (.pointer (some ⟨B,0,none⟩)):=by rw [hP7.cell];rfl
   have cB7:w7.cell? ⟨B,2,none⟩=some (.int .i64 (xG a (jj a (a.length+3)):Int)):=by rw [hB7.cell];rfl
   have hv7:Own w0.heap.size 53 3 w7 v (qF a):=(hv'.ext J).ext ad;have c:xQ s=([],20,qbo a g):=by rw [Y,hT]
   simp -implicitDefEqProofs [E,cP7,cB7];refine (qCk hv7 htl (hfl E)).mono ?_;rintro _ w8' ⟨rfl,hw8⟩;obtain rfl:=hw8.symm;simp -implicitDefEqProofs [qxc];refine jx (B:=Fr) (by simp) O (by simp [Value.cells]) (by simp [Value.cells]) (by simpa [Value.cells] using qbX) fun w9 hO9 hb9=>?_;simp [Value.cells] at hb9;simp -implicitDefEqProofs;exact fin _ w7 w9 20 (qbo a g) (.slice none 0 0) V (by simp) (by simp) hO9 (by rw [<-hg];exact hb9) (by rw [c]) (by rw [c];exact ac _)
def qCD {w:World} (c:L01.G w) (k:kF w) (s:Bs) (h:s.length<4611686018427387904):Calls Tryz.prog 17 #[.string (qb s)] w fun e w'=>∃v,e=.returned (.tuple #[v,qgD (xQ s).2.1 (xQ s).2.2])/\RdN w' v (xQ s).1/\qc w w':=(qCC c k s h).mono fun _ _ ⟨v,g,j,a⟩=>⟨v,g,j.rdN,a⟩
end Go.L02
namespace Go.Eng
end Go.Eng
namespace Go.L02
open Go Go.Eng Go.RowKit
open Go.Proofs hiding encI
open Go.L01 (Bs Own.same Tok jb jh qg qi)
set_option maxRecDepth 100000
set_option maxHeartbeats 2000000
def kE {α:Type} (sz:Nat) (C:List Value->α->Prop) (w:World) (v:Value) (l:List α):Prop:=∃css:List (List Value),Cells w v sz css.flatten/\zJ C css l
def Qc (w:World) (cs:List Value) (s:Sig):Prop:=∃av sv,cs=[.bool s.iter,av,.string (qb s.result),sv]/\Cells w av 1 (s.args.map qi)/\Cells w sv 1 (s.signals.map qi)
def qbK (w:World) (cs:List Value) (n:Need):Prop:=∃c,cs=.string (qb n.op)::c/\Qc w c n.sig
def qbJ (w:World) (cs:List Value) (o:Opn):Prop:=∃c,cs=.string (qb o.name)::c/\Qc w c o.sig
def qbI (w:World) (cs:List Value) (r:Rout):Prop:=∃c pv ndv,cs=.string (qb r.name)::(c++[pv,ndv])/\Qc w c r.sig/\Cells w pv 1 (r.params.map qi)/\RdN w ndv r.nodes
def qbL (w:World) (cs:List Value) (m:Mod):Prop:=∃needv opv rv,cs=[.string (qb m.face.name),.int .u8 (m.face.kind:Int),.bool m.face.param,needv,opv,.string (qb m.rep),rv]/\kE 5 (qbK w) w needv m.face.needs/\kE 5 (qbJ w) w opv m.face.ops/\kE 7 (qbI w) w rv m.routs
section
variable {w w':World} {cs:List Value} {v:Value}
theorem Qc.ext {s:Sig} (h:Qc w cs s) (a:qc w w'):Qc w' cs s:=by
 obtain ⟨g,sv,e,c,j⟩:=h;exact ⟨g,sv,e,c.ext a,j.ext a⟩
theorem qbK.ext {s:Need} (h:qbK w cs s) (g:qc w w'):qbK w' cs s:=by
 obtain ⟨c,e,a⟩:=h;exact ⟨c,e,a.ext g⟩
theorem qbJ.ext {s:Opn} (h:qbJ w cs s) (g:qc w w'):qbJ w' cs s:=by
 obtain ⟨c,e,a⟩:=h;exact ⟨c,e,a.ext g⟩
theorem RdN.ext {l:List Nd} (h:RdN w v l) (a:qc w w'):RdN w' v l:=by
 obtain ⟨xs,e,h⟩:=h;exact ⟨xs,e,h.ext a⟩
theorem qbI.ext {s:Rout} (h:qbI w cs s) (a:qc w w'):qbI w' cs s:=by
 obtain ⟨c,o,g,e,k,t,j⟩:=h;exact ⟨c,o,g,e,k.ext a,t.ext a,j.ext a⟩
theorem kE.ext {α:Type} {sz:Nat} {C C':List Value->α->Prop} {l:List α} (h:kE sz C w v l) (j:qc w w') (o:∀c a,C c a->C' c a):kE sz C' w' v l:=by
 obtain ⟨css,g,k⟩:=h;exact ⟨css,g.ext j,k.imp o⟩
theorem qbL.ext {m:Mod} (h:qbL w cs m) (g:qc w w'):qbL w' cs m:=by
 obtain ⟨a,b,c,e,k,o,j⟩:=h;exact ⟨a,b,c,e,k.ext g fun _ _ h=>h.ext g,o.ext g fun _ _ h=>h.ext g,j.ext g fun _ _ h=>h.ext g⟩
end
def Qc.len {w:World} {cs:List Value} {s:Sig} (h:Qc w cs s):cs.length=4:=by obtain ⟨a,sv,rfl,_⟩:=h;rfl
def Qc.row {w:World} {cs:List Value} {s:Sig} (h:Qc w cs s):∀c∈cs,c.cells=#[c]/\c.oneCell=true:=by
 obtain ⟨k,sv,rfl,a,j⟩:=h;intro c g;simp only [wh,uI,wm] at g;rcases g with rfl|rfl|rfl|rfl
 ·exact ⟨rfl,rfl⟩
 ·exact ⟨vN a.is,xS a.is⟩
 ·exact ⟨rfl,rfl⟩
 ·exact ⟨vN j.is,xS j.is⟩
def qv7 {α:Type} {sz:Nat}:∀{css:List (List α)},(∀c∈css,c.length=sz)->∀{k j:Nat} (a:k<css.length),j<sz->css.flatten[k*sz+j]? =css[k][j]?
 |[],_,k,_,a,_=>by simp at a
 |c::css,h,k,j,a,g=>by
  have t:=h c (by simp);rw [List.flatten_cons];cases k with
  |zero=>rw [Ve (by omega)];simp
  |succ k=>
   have e:(k+1)*sz+j=c.length+(k*sz+j):=by rw [Nat.succ_mul];omega
   rw [e,JS (by omega),VN];simpa using qv7 (css:=css) (fun d o=>h d (by simp [o])) (k:=k) (by simpa using a) g
section
variable {α:Type} {sz:Nat} {C:List Value->α->Prop} {w:World} {v:Value} {l:List α}
theorem kE.is (h:kE sz C w v l):qu v=true:=by obtain ⟨css,a,_⟩:=h;exact a.is
theorem kE.len (h:kE sz C w v l) (y:∀c a,C c a->c.length=sz) (t:0<sz):ql v=l.length:=by
 obtain ⟨css,o,g⟩:=h;have k:=qk8 (n:=sz) (zJ.left (P:=fun c=>c.length=sz) y g);have j:=o.len;rw [k,g.len] at j;exact (Nat.eq_of_mul_eq_mul_right t j).symm
theorem kE.at (h:kE sz C w v l) (U:∀c a,C c a->c.length=sz) {k:Nat} (O:k<l.length):∃c,C c l[k]/\c.length=sz/\Eng.jG w (qQ v (k*sz)) 0 sz=some c/\∀j,j<sz->w.cell? (qQ v (k*sz+j))=c[j]? :=by
 obtain ⟨css,S,I⟩:=h;have g:=zJ.left (P:=fun c=>c.length=sz) U I;have J:=I.len;have t:k<css.length:=by omega
 have o:∀j,j<sz->w.cell? (qQ v (k*sz+j))=css[k][j]? :=fun j E=>by
  have z:=qk8 (n:=sz) g;have y:k*sz+j<css.flatten.length:=by
   rw [z];have:(k+1)*sz<=css.length*sz:=Vn _ t;rw [Nat.succ_mul] at this;omega
  rw [S.cell _ y,<-ug y,qv7 g t E]
 refine ⟨css[k],I.get k t O,g _ (wz _), ?_,o⟩;have H:=g _ (wz t);have:=qal (w:=w) (a:=qQ v (k*sz)) (l:=css[k]) (i:=0) fun j E=>by
  rw [qeT,ut,o j (by omega),ug E]
 rw [H] at this;exact this
end
def qbK.len {w:World} {c:List Value} {n:Need} (h:qbK w c n):c.length=5:=by obtain ⟨c,rfl,h⟩:=h;simp [h.len]
def qbJ.len {w:World} {c:List Value} {n:Opn} (h:qbJ w c n):c.length=5:=by obtain ⟨c,rfl,h⟩:=h;simp [h.len]
def qbI.len {w:World} {c:List Value} {n:Rout} (h:qbI w c n):c.length=7:=by obtain ⟨c,g,a,rfl,h,_⟩:=h;simp [h.len]
structure FmS (w W:World) (m:Mod) (X F:Nat) (needv opv rv:Value):Prop where
 ext:qc w W
 bX:Blk W X #[.string (qb m.face.name),.int .u8 (m.face.kind:Int),.bool m.face.param,needv,opv,.string (qb m.rep),rv] 66
 bF:Blk W F #[.string (qb m.face.name),.int .u8 (m.face.kind:Int),.bool m.face.param,needv,opv] 63
 needs:kE 5 (qbK W) W needv m.face.needs
 ops:kE 5 (qbJ W) W opv m.face.ops
 routs:kE 7 (qbI W) W rv m.routs
 g:L01.G W
 m:kF W
section
variable {w W W':World} {m:Mod} {X F:Nat} {needv opv rv:Value} {ρ:qa} {b:Bool}
theorem FmS.cX (h:FmS w W m X F needv opv rv):W.cell? ⟨X,5,none⟩=some (.string (qb m.rep))/\W.cell? ⟨X,6,none⟩=some rv:=⟨by rw [h.bX.cell];rfl,by rw [h.bX.cell];rfl⟩
theorem FmS.cF (h:FmS w W m X F needv opv rv):W.cell? ⟨F,0,none⟩=some (.string (qb m.face.name))/\W.cell? ⟨F,1,none⟩=some (.int .u8 (m.face.kind:Int))/\W.cell? ⟨F,3,none⟩=some needv/\W.cell? ⟨F,4,none⟩=some opv:=⟨by rw [h.bF.cell];rfl,by rw [h.bF.cell];rfl,by rw [h.bF.cell];rfl,by rw [h.bF.cell];rfl⟩
theorem FmS.ol (h:FmS w W m X F needv opv rv):ql opv=m.face.ops.length:=h.ops.len (fun _ _ h=>h.len) (by decide)
theorem FmS.nl (h:FmS w W m X F needv opv rv):ql needv=m.face.needs.length:=h.needs.len (fun _ _ h=>h.len) (by decide)
end
def qJN {w:World} {Mb:Nat} {ps:List (ByteArray×Value)} (h:MapB w Mb ps) (a:Addr) (g:a.block=Mb):w.cell? a=none:=by
 obtain ⟨es,c,j,_⟩:=h.ex;subst g;unfold World.cell?;rw [j]
def qJM {w w':World} {Mb:Nat} {ps:List (ByteArray×Value)} (h:MapB w Mb ps) (j:Only Mb w w') {a:Addr} {v:Value} (g:w.cell? a=some v):w'.cell? a=some v:=by
 have c:a.block≠Mb:=fun e=>by rw [qJN h a e] at g;cases g
 rw [<-g];unfold World.cell?;rw [j.block a.block c]
def Cells.map {w w':World} {Mb:Nat} {ps:List (ByteArray×Value)} {v:Value} {sz:Nat} {xs:List Value} (h:Cells w v sz xs) (g:MapB w Mb ps) (c:Only Mb w w'):Cells w' v sz xs:=⟨h.is,h.len,fun j a=>qJM g c (h.cell j a)⟩
section
variable {w w0 W W':World} {m:Mod} {X F:Nat} {needv opv rv:Value} {ρ:qa} {b:Bool}
end
section
variable {w w0 W W':World} {m:Mod} {X F:Nat} {needv opv rv nsv:Value} {ρ:qa} {b:Bool}
end
def qbL.row {w:World} {cs:List Value} {m:Mod} (h:qbL w cs m):cs.length=7/\∀c∈cs,c.cells=#[c]/\c.oneCell=true:=by
 obtain ⟨needv,opv,rv,rfl,g,k,a⟩:=h;refine ⟨rfl, ?_⟩;intro c j;simp only [wh,uI,wm] at j;rcases j with rfl|rfl|rfl|rfl|rfl|rfl|rfl
 ·exact ⟨rfl,rfl⟩
 ·exact ⟨rfl,rfl⟩
 ·exact ⟨rfl,rfl⟩
 ·exact ⟨vN g.is,xS g.is⟩
 ·exact ⟨vN k.is,xS k.is⟩
 ·exact ⟨rfl,rfl⟩
 ·exact ⟨vN a.is,xS a.is⟩
end Go.L02
namespace Go.L02
open Go.Eng
open Go.L01 (Bs Tok jm jw qG qg qp right)
set_option maxRecDepth 10000
def qaB (P:Nat->Prop) (h:∀k,k<38->P k) (c:∀k,38<=k->P k) (k:Nat):P k:=by
 by_cases a:k<38
 ·exact h k a
 ·exact c k (by omega)
def qaz {k:Nat} (h:38<=k):jS k=63:=by
 unfold jS qf;rw [if_neg (by omega),if_neg (by omega),if_neg (by simp;omega),if_neg (by omega),if_neg (by omega),if_neg (by simp;omega)]
def qqB {k:Nat} (h:38<=k):qf k=false:=by unfold qf;simp;omega
def qEm {k:Nat} (h:38<=k):wR k=false:=by
 unfold wR;simp only [yt,Jr,uS];omega
def qwa:∀k,xV (jS k) 101=qf k:=qaB _ (by decide) fun k h=>by rw [qaz h,qqB h];decide
def qIM:∀k,xV (jS k) 113=qv 20 k:=qaB _ (by decide) fun k h=>by rw [qaz h];simp [xV,qv];omega
def qqt:∀k,decide (jS k=113)=qv 20 k:=qaB _ (by decide) fun k h=>by rw [qaz h];simp [qv];omega
def qEj:∀k,decide (jS k=99)=qv 5 k:=qaB _ (by decide) fun k h=>by rw [qaz h];simp [qv];omega
def qKI:∀k,([101,99]:Bs).contains (jS k)=qf k:=qaB _ (by decide) fun k h=>by rw [qaz h,qqB h];decide
def qKH:∀k,([115]:Bs).contains (jS k)=wR k:=qaB _ (by decide) fun k h=>by rw [qaz h,qEm h];decide
def qKG:∀k,([119]:Bs).contains (jS k)=qv 33 k:=qaB _ (by decide) fun k h=>by rw [qaz h];simp [qv];omega
def qKJ:∀k,([97]:Bs).contains (jS k)=qv 36 k:=qaB _ (by decide) fun k h=>by rw [qaz h];simp [qv];omega
def qfK (l:List Nd) (f:Nat->Bool) (r:Row) (h:r.more=some f):∀(ks:List Int) (i:Nat),r.first.length<=i->qV l r i ks=ks.all fun k=>f (jJ l k)
 |[],_,_=>rfl
 |k::ks,i,a=>by
  unfold qV;have:r.first[i]? =none:=u4 a;rw [this,h];simp only [List.all_cons,qfK l f r h ks (i+1) (by omega)]
def qbp (ks:List Int):Bool:=decide (ks=[])
def kJ (l:List Nd) (f:Nat->Bool):List Int->Bool|[a]=>f (jJ l a)|_=>false
def xr (l:List Nd) (f g:Nat->Bool):List Int->Bool|[a,b]=>f (jJ l a)&&g (jJ l b)|_=>false
def kX (l:List Nd) (f g h:Nat->Bool):List Int->Bool|[a,b,c]=>f (jJ l a)&&(g (jJ l b)&&h (jJ l c))|_=>false
def qcl (l:List Nd) (r:Row) (h:r.first=[]) (ks:List Int):(decide (0<=ks.length)&&decide (ks.length<=0)&&qV l r 0 ks)=qbp ks:=by
 cases ks<;>simp [qV,qbp]
def Qx (l:List Nd) (r:Row) (f:Nat->Bool) (h:r.first=[f]) (ks:List Int):(decide (1<=ks.length)&&decide (ks.length<=1)&&qV l r 0 ks)=kJ l f ks:=by
 match ks with
 |[]=>simp [kJ]
 |[a]=>simp [kJ,qV,h]
 |a::b::ks=>simp [kJ]
def qfO (l:List Nd) (r:Row) (f g:Nat->Bool) (h:r.first=[f,g]) (ks:List Int):(decide (2<=ks.length)&&decide (ks.length<=2)&&qV l r 0 ks)=xr l f g ks:=by
 match ks with
 |[]=>simp [xr]
 |[a]=>simp [xr]
 |[a,b]=>simp [xr,qV,h]
 |a::b::c::ks=>simp [xr]
def qEa (l:List Nd) (r:Row) (f g k:Nat->Bool) (h:r.first=[f,g,k]) (ks:List Int):(decide (3<=ks.length)&&decide (ks.length<=3)&&qV l r 0 ks)=kX l f g k ks:=by
 match ks with
 |[]=>simp [kX]
 |[a]=>simp [kX]
 |[a,b]=>simp [kX]
 |[a,b,c]=>simp [kX,qV,h]
 |a::b::c::d::ks=>simp [kX]
section
variable (l:List Nd) (x:Nd)
theorem Q9 (p:UInt8):jP (vw l x) [p]=kJ l (fun k=>xV (jS k) p) x.kids:=by
 unfold vw
 match x.kids with
 |[]=>rfl
 |[a]=>simp [jP,kJ]
 |a::b::ks=>simp [jP,kJ]
theorem qd6 (p q:UInt8):jP (vw l x) [p,q]=xr l (fun k=>xV (jS k) p) (fun k=>xV (jS k) q) x.kids:=by
 unfold vw
 match x.kids with
 |[]=>rfl
 |[a]=>simp [jP,xr]
 |[a,b]=>simp [jP,xr]
 |a::b::c::ks=>simp [jP,xr]
theorem qwb (p q r:UInt8):jP (vw l x) [p,q,r]=kX l (fun k=>xV (jS k) p) (fun k=>xV (jS k) q) (fun k=>xV (jS k) r) x.kids:=by
 unfold vw
 match x.kids with
 |[]=>rfl
 |[a]=>simp [jP,kX]
 |[a,b]=>simp [jP,kX]
 |[a,b,c]=>simp [jP,kX]
 |a::b::c::d::ks=>simp [jP,kX]
theorem qby:decide (vw l x=[])=qbp x.kids:=by unfold vw qbp;simp
theorem qlj (p:UInt8):decide (vw l x=[p])=kJ l (fun k=>decide (jS k=p)) x.kids:=by
 unfold vw
 match x.kids with
 |[]=>rfl
 |[a]=>simp [kJ]
 |a::b::ks=>simp [kJ]
theorem qI1 (p q:UInt8):decide (vw l x=[p,q])=xr l (fun k=>decide (jS k=p)) (fun k=>decide (jS k=q)) x.kids:=by
 unfold vw
 match x.kids with
 |[]=>rfl
 |[a]=>simp [xr]
 |[a,b]=>simp [xr,ux]
 |a::b::c::ks=>simp [xr]
theorem qg9 (s:Bs) (ks:List Int):we (ks.map fun k=>jS (jJ l k)) s=ks.all fun k=>s.contains (jS (jJ l k)):=by
 unfold we;rw [List.all_map];rfl
theorem qfJ:(vw l x).length=x.kids.length:=by simp [vw]
end
def vy (r:Row) (d:D):Bool:=qj d.name r.name&&(qj d.vr r.vr&&(qj d.typ r.typ&&(match r.n with|none=>decide (d.n=0)|some f=>f d.n)))
def vI (l:List Nd) (x:Nd) (r:Row) (a:z6 x.d.kind=some r):jg l x=(vy r x.d&&((decide (r.least<=x.kids.length)&&decide (x.kids.length<=r.most)&&qV l r 0 x.kids)&&vH l x)):=by
 unfold jg vy;rw [a];simp only [ui];rfl
def vX (l:List Nd) (x:Nd) (c:x.d.kind≠5) (g:x.d.kind≠6) (a:x.d.kind≠32):vH l x=true:=by
 unfold vH;rw [if_neg c,if_neg g,if_neg a]
def qqA:qv 20=fun k=>xV (jS k) 113:=by funext k;rw [qIM]
def wT:qf=fun k=>xV (jS k) 101:=by funext k;rw [qwa]
def qjy:qv 20=fun k=>decide (jS k=113):=by funext k;rw [qqt]
def qqz:qv 5=fun k=>decide (jS k=99):=by funext k;rw [qEj]
def qBb (l:List Nd) (x:Nd) (h:x.d.kind=1):jg l x=qA l x:=by
 rw [vI l x (qd {n:=some (jD 1000000000)} []) (by rw [h];rfl),vX l x (by omega) (by omega) (by omega),kA];have a:=qcl l (qd {n:=some (jD 1000000000)} []) rfl x.kids;rw [show (decide ((qd {n:=some (jD 1000000000)} []).least<=x.kids.length)&&decide (x.kids.length<=(qd {n:=some (jD 1000000000)} []).most)&&qV l (qd {n:=some (jD 1000000000)} []) 0 x.kids)=_ from a];unfold qA vy;simp only [h,Nat.reduceEqDiff,km,kk,wm,uu,uK,uL,qby,qd,qj,qS,uj,uv,ud,kA,jD]
 skip
 skip
 simp only [ui,ux,uD]
def qA9 (l:List Nd) (x:Nd) (h:x.d.kind=2):jg l x=qA l x:=by
 rw [vI l x (qd {n:=some (jD 1)} []) (by rw [h];rfl),vX l x (by omega) (by omega) (by omega),kA];have a:=qcl l (qd {n:=some (jD 1)} []) rfl x.kids;rw [show (decide ((qd {n:=some (jD 1)} []).least<=x.kids.length)&&decide (x.kids.length<=(qd {n:=some (jD 1)} []).most)&&qV l (qd {n:=some (jD 1)} []) 0 x.kids)=_ from a];unfold qA vy;simp only [h,Nat.reduceEqDiff,km,kk,wm,uu,uK,uL,qby,qd,qj,qS,uj,uv,ud,kA,jD];have hn:(decide (0<=x.d.n)&&decide (x.d.n<=1))=(decide (x.d.n=0)||decide (x.d.n=1)):=by rw [uJ];simp;omega
 rw [hn];simp only [ui]
def qAY (l:List Nd) (x:Nd) (h:x.d.kind=3):jg l x=qA l x:=by
 rw [vI l x (qd {} []) (by rw [h];rfl),vX l x (by omega) (by omega) (by omega),kA];have a:=qcl l (qd {} []) rfl x.kids;rw [show (decide ((qd {} []).least<=x.kids.length)&&decide (x.kids.length<=(qd {} []).most)&&qV l (qd {} []) 0 x.kids)=_ from a];unfold qA vy;simp only [h,Nat.reduceEqDiff,km,kk,wm,uu,uK,uL,qby,qd,qj,qS,uj,uv,ud,kA,jD]
 skip
 skip
 simp only [ui,ux,uD]
def qAR (l:List Nd) (x:Nd) (h:x.d.kind=4):jg l x=qA l x:=by
 rw [vI l x (qd {name:=some qg} []) (by rw [h];rfl),vX l x (by omega) (by omega) (by omega),kA];have a:=qcl l (qd {name:=some qg} []) rfl x.kids;rw [show (decide ((qd {name:=some qg} []).least<=x.kids.length)&&decide (x.kids.length<=(qd {name:=some qg} []).most)&&qV l (qd {name:=some qg} []) 0 x.kids)=_ from a];unfold qA vy;simp only [h,Nat.reduceEqDiff,km,kk,wm,uu,uK,uL,qby,qd,qj,qS,uj,uv,ud,kA,jD]
 skip
 skip
 simp only [ui,ux,uD]
def qAO (l:List Nd) (x:Nd) (h:x.d.kind=7):jg l x=qA l x:=by
 rw [vI l x (qd {} [qf,qf]) (by rw [h];rfl),vX l x (by omega) (by omega) (by omega),kA];have a:=qfO l (qd {} [qf,qf]) _ _ rfl x.kids;rw [show (decide ((qd {} [qf,qf]).least<=x.kids.length)&&decide (x.kids.length<=(qd {} [qf,qf]).most)&&qV l (qd {} [qf,qf]) 0 x.kids)=_ from a];unfold qA vy;simp only [h,Nat.reduceEqDiff,km,kk,wm,uu,uK,uL,qd6,<-wT,qd,qj,qS,uj,uv,ud,kA,jD]
 skip
 skip
 simp only [ui,ux,uD]
def qAN (l:List Nd) (x:Nd) (h:x.d.kind=8):jg l x=qA l x:=by
 rw [vI l x (qd {name:=some qg} [qf]) (by rw [h];rfl),vX l x (by omega) (by omega) (by omega),kA];have a:=Qx l (qd {name:=some qg} [qf]) _ rfl x.kids;rw [show (decide ((qd {name:=some qg} [qf]).least<=x.kids.length)&&decide (x.kids.length<=(qd {name:=some qg} [qf]).most)&&qV l (qd {name:=some qg} [qf]) 0 x.kids)=_ from a];unfold qA vy;simp only [h,Nat.reduceEqDiff,km,kk,wm,uu,uK,uL,Q9,<-wT,qd,qj,qS,uj,uv,ud,kA,jD]
 skip
 skip
 simp only [ui,ux,uD]
def qAM (l:List Nd) (x:Nd) (h:x.d.kind=9):jg l x=qA l x:=by
 rw [vI l x (qd {} [qf]) (by rw [h];rfl),vX l x (by omega) (by omega) (by omega),kA];have a:=Qx l (qd {} [qf]) _ rfl x.kids;rw [show (decide ((qd {} [qf]).least<=x.kids.length)&&decide (x.kids.length<=(qd {} [qf]).most)&&qV l (qd {} [qf]) 0 x.kids)=_ from a];unfold qA vy;simp only [h,Nat.reduceEqDiff,km,kk,wm,uu,uK,uL,Q9,<-wT,qd,qj,qS,uj,uv,ud,kA,jD]
 skip
 skip
 simp only [ui,ux,uD]
def qBa (l:List Nd) (x:Nd) (h:x.d.kind=10):jg l x=qA l x:=by
 rw [vI l x (qd {} [qf]) (by rw [h];rfl),vX l x (by omega) (by omega) (by omega),kA];have a:=Qx l (qd {} [qf]) _ rfl x.kids;rw [show (decide ((qd {} [qf]).least<=x.kids.length)&&decide (x.kids.length<=(qd {} [qf]).most)&&qV l (qd {} [qf]) 0 x.kids)=_ from a];unfold qA vy;simp only [h,Nat.reduceEqDiff,km,kk,wm,uu,uK,uL,Q9,<-wT,qd,qj,qS,uj,uv,ud,kA,jD]
 skip
 skip
 simp only [ui,ux,uD]
def qA7 (l:List Nd) (x:Nd) (h:x.d.kind=21):jg l x=qA l x:=by
 rw [vI l x (qd {name:=some qg,typ:=some qI} [qf]) (by rw [h];rfl),vX l x (by omega) (by omega) (by omega),kA];have a:=Qx l (qd {name:=some qg,typ:=some qI} [qf]) _ rfl x.kids;rw [show (decide ((qd {name:=some qg,typ:=some qI} [qf]).least<=x.kids.length)&&decide (x.kids.length<=(qd {name:=some qg,typ:=some qI} [qf]).most)&&qV l (qd {name:=some qg,typ:=some qI} [qf]) 0 x.kids)=_ from a];unfold qA vy;simp only [h,Nat.reduceEqDiff,km,kk,wm,uu,uK,uL,Q9,<-wT,qd,qj,qS,uj,uv,ud,kA,jD]
 skip
 skip
 simp only [ui,ux,uD]
def qA6 (l:List Nd) (x:Nd) (h:x.d.kind=22):jg l x=qA l x:=by
 rw [vI l x (qd {name:=some qg} [qf]) (by rw [h];rfl),vX l x (by omega) (by omega) (by omega),kA];have a:=Qx l (qd {name:=some qg} [qf]) _ rfl x.kids;rw [show (decide ((qd {name:=some qg} [qf]).least<=x.kids.length)&&decide (x.kids.length<=(qd {name:=some qg} [qf]).most)&&qV l (qd {name:=some qg} [qf]) 0 x.kids)=_ from a];unfold qA vy;simp only [h,Nat.reduceEqDiff,km,kk,wm,uu,uK,uL,Q9,<-wT,qd,qj,qS,uj,uv,ud,kA,jD]
 skip
 skip
 simp only [ui,ux,uD]
def qA5 (l:List Nd) (x:Nd) (h:x.d.kind=23):jg l x=qA l x:=by
 rw [vI l x (qd {} [qf,qf,qf]) (by rw [h];rfl),vX l x (by omega) (by omega) (by omega),kA];have a:=qEa l (qd {} [qf,qf,qf]) _ _ _ rfl x.kids;rw [show (decide ((qd {} [qf,qf,qf]).least<=x.kids.length)&&decide (x.kids.length<=(qd {} [qf,qf,qf]).most)&&qV l (qd {} [qf,qf,qf]) 0 x.kids)=_ from a];unfold qA vy;simp only [h,Nat.reduceEqDiff,km,kk,wm,uu,uK,uL,qwb,<-wT,qd,qj,qS,uj,uv,ud,kA,jD]
 skip
 skip
 simp only [ui,ux,uD]
def qA4 (l:List Nd) (x:Nd) (h:x.d.kind=24):jg l x=qA l x:=by
 rw [vI l x (qd {name:=some qg} [qf,qf]) (by rw [h];rfl),vX l x (by omega) (by omega) (by omega),kA];have a:=qfO l (qd {name:=some qg} [qf,qf]) _ _ rfl x.kids;rw [show (decide ((qd {name:=some qg} [qf,qf]).least<=x.kids.length)&&decide (x.kids.length<=(qd {name:=some qg} [qf,qf]).most)&&qV l (qd {name:=some qg} [qf,qf]) 0 x.kids)=_ from a];unfold qA vy;simp only [h,Nat.reduceEqDiff,km,kk,wm,uu,uK,uL,qd6,<-wT,qd,qj,qS,uj,uv,ud,kA,jD]
 skip
 skip
 simp only [ui,ux,uD]
def qA3 (l:List Nd) (x:Nd) (h:x.d.kind=25):jg l x=qA l x:=by
 rw [vI l x (qd {} [qv 5]) (by rw [h];rfl),vX l x (by omega) (by omega) (by omega),kA];have a:=Qx l (qd {} [qv 5]) _ rfl x.kids;rw [show (decide ((qd {} [qv 5]).least<=x.kids.length)&&decide (x.kids.length<=(qd {} [qv 5]).most)&&qV l (qd {} [qv 5]) 0 x.kids)=_ from a];unfold qA vy;simp only [h,Nat.reduceEqDiff,km,kk,wm,uu,uK,uL,qlj,<-qqz,qd,qj,qS,uj,uv,ud,kA,jD]
 skip
 skip
 simp only [ui,ux,uD]
def qA1 (l:List Nd) (x:Nd) (h:x.d.kind=27):jg l x=qA l x:=by
 rw [vI l x (qd {} [qf,qv 20]) (by rw [h];rfl),vX l x (by omega) (by omega) (by omega),kA];have a:=qfO l (qd {} [qf,qv 20]) _ _ rfl x.kids;rw [show (decide ((qd {} [qf,qv 20]).least<=x.kids.length)&&decide (x.kids.length<=(qd {} [qf,qv 20]).most)&&qV l (qd {} [qf,qv 20]) 0 x.kids)=_ from a];unfold qA vy;simp only [h,Nat.reduceEqDiff,km,kk,wm,uu,uK,uL,qd6,<-wT,<-qqA,qd,qj,qS,uj,uv,ud,kA,jD]
 skip
 skip
 simp only [ui,ux,uD]
def qA0 (l:List Nd) (x:Nd) (h:x.d.kind=28):jg l x=qA l x:=by
 rw [vI l x (qd {name:=some qg,typ:=some qI} [qv 5,qv 20]) (by rw [h];rfl),vX l x (by omega) (by omega) (by omega),kA];have a:=qfO l (qd {name:=some qg,typ:=some qI} [qv 5,qv 20]) _ _ rfl x.kids;rw [show (decide ((qd {name:=some qg,typ:=some qI} [qv 5,qv 20]).least<=x.kids.length)&&decide (x.kids.length<=(qd {name:=some qg,typ:=some qI} [qv 5,qv 20]).most)&&qV l (qd {name:=some qg,typ:=some qI} [qv 5,qv 20]) 0 x.kids)=_ from a];unfold qA vy;simp only [h,Nat.reduceEqDiff,km,kk,wm,uu,uK,uL,qI1,<-qqz,<-qjy,qd,qj,qS,uj,uv,ud,kA,jD]
 skip
 skip
 simp only [ui,ux,uD]
def qAX (l:List Nd) (x:Nd) (h:x.d.kind=30):jg l x=qA l x:=by
 rw [vI l x (qd {} [qf]) (by rw [h];rfl),vX l x (by omega) (by omega) (by omega),kA];have a:=Qx l (qd {} [qf]) _ rfl x.kids;rw [show (decide ((qd {} [qf]).least<=x.kids.length)&&decide (x.kids.length<=(qd {} [qf]).most)&&qV l (qd {} [qf]) 0 x.kids)=_ from a];unfold qA vy;simp only [h,Nat.reduceEqDiff,km,kk,wm,uu,uK,uL,Q9,<-wT,qd,qj,qS,uj,uv,ud,kA,jD]
 skip
 skip
 simp only [ui,ux,uD]
def qAW (l:List Nd) (x:Nd) (h:x.d.kind=31):jg l x=qA l x:=by
 rw [vI l x (qd {name:=some qg} []) (by rw [h];rfl),vX l x (by omega) (by omega) (by omega),kA];have a:=qcl l (qd {name:=some qg} []) rfl x.kids;rw [show (decide ((qd {name:=some qg} []).least<=x.kids.length)&&decide (x.kids.length<=(qd {name:=some qg} []).most)&&qV l (qd {name:=some qg} []) 0 x.kids)=_ from a];unfold qA vy;simp only [h,Nat.reduceEqDiff,km,kk,wm,uu,uK,uL,qby,qd,qj,qS,uj,uv,ud,kA,jD]
 skip
 skip
 simp only [ui,ux,uD]
def qAV (l:List Nd) (x:Nd) (h:x.d.kind=34):jg l x=qA l x:=by
 rw [vI l x (qd {} []) (by rw [h];rfl),vX l x (by omega) (by omega) (by omega),kA];have a:=qcl l (qd {} []) rfl x.kids;rw [show (decide ((qd {} []).least<=x.kids.length)&&decide (x.kids.length<=(qd {} []).most)&&qV l (qd {} []) 0 x.kids)=_ from a];unfold qA vy;simp only [h,Nat.reduceEqDiff,km,kk,wm,uu,uK,uL,qby,qd,qj,qS,uj,uv,ud,kA,jD]
 skip
 skip
 simp only [ui,ux,uD]
def qAT (l:List Nd) (x:Nd) (h:x.d.kind=36):jg l x=qA l x:=by
 rw [vI l x (qd {name:=some qg,vr:=some qg,typ:=some qI} [qv 20]) (by rw [h];rfl),vX l x (by omega) (by omega) (by omega),kA];have a:=Qx l (qd {name:=some qg,vr:=some qg,typ:=some qI} [qv 20]) _ rfl x.kids;rw [show (decide ((qd {name:=some qg,vr:=some qg,typ:=some qI} [qv 20]).least<=x.kids.length)&&decide (x.kids.length<=(qd {name:=some qg,vr:=some qg,typ:=some qI} [qv 20]).most)&&qV l (qd {name:=some qg,vr:=some qg,typ:=some qI} [qv 20]) 0 x.kids)=_ from a];unfold qA vy;simp only [h,Nat.reduceEqDiff,km,kk,wm,uu,uK,uL,qlj,<-qjy,qd,qj,qS,uj,uv,ud,kA,jD]
 skip
 skip
 simp only [ui,ux,uD]
def qAS (l:List Nd) (x:Nd) (h:x.d.kind=37):jg l x=qA l x:=by
 rw [vI l x (qd {} [qf]) (by rw [h];rfl),vX l x (by omega) (by omega) (by omega),kA];have a:=Qx l (qd {} [qf]) _ rfl x.kids;rw [show (decide ((qd {} [qf]).least<=x.kids.length)&&decide (x.kids.length<=(qd {} [qf]).most)&&qV l (qd {} [qf]) 0 x.kids)=_ from a];unfold qA vy;simp only [h,Nat.reduceEqDiff,km,kk,wm,uu,uK,uL,Q9,<-wT,qd,qj,qS,uj,uv,ud,kA,jD]
 skip
 skip
 simp only [ui,ux,uD]
def qA8 (l:List Nd) (x:Nd) (h:x.d.kind=20) (a:x.kids.length<=400):jg l x=qA l x:=by
 rw [vI l x {more:=some wR,most:=400} (by rw [h];rfl),vX l x (by omega) (by omega) (by omega),kA];unfold qA vy;rw [qfK l wR _ rfl x.kids 0 (by simp)];have c:we (vw l x) [115]=x.kids.all fun k=>wR (jJ l k):=by unfold vw;rw [qg9];simp only [qKH]
 simp only [h,Nat.reduceEqDiff,km,kk,wm,uu,c,qj,qS,uj,ud,a,uz,y4];simp only [ui,ux,uD]
def qAQ (l:List Nd) (x:Nd) (h:x.d.kind=5):jg l x=qA l x:=by
 rw [vI l x {name:=some kD,vr:=some kD,typ:=some kD,more:=some qf,most:=6} (by rw [h];rfl)];unfold qA vy vH qaQ;rw [qfK l qf _ rfl x.kids 0 (by simp)];have c:we (vw l x) [101,99]=x.kids.all fun k=>qf (jJ l k):=by unfold vw;rw [qg9];simp only [qKI]
 simp only [h,Nat.reduceEqDiff,km,kk,wm,uu,c,qj,qS,kD,uv,uj,ud,uz,y4,qfJ];by_cases a:x.d.vr=[]
 ·simp only [a,kk,y4,ud];simp only [ui,ux,uD]
 ·simp only [a,km];simp only [ui,ux,uD]
def qC3 (s:Bs):yg.contains s=(decide (s=[110,111,116])||jU.contains s):=by
 unfold yg jU;simp only [List.contains_cons];congr 1;rw [uJ];simp
def qAP (l:List Nd) (x:Nd) (h:x.d.kind=6):jg l x=qA l x:=by
 rw [vI l x {name:=some yg.contains,first:=[qf,qf],least:=1,most:=2} (by rw [h];rfl)];unfold qA vy vH;simp only [h,Nat.reduceEqDiff,km,kk,wm,uu,qj,qS,uv,uj,ud,Q9,qd6,<-wT,qC3];have g:x.d.name=[110,111,116]->jU.contains x.d.name=false:=by intro h;rw [h];decide
 match hk:x.kids with
 |[]=>simp [kJ,xr]
 |[a]=>
  simp only [kJ,xr,qV,List.length_cons,List.length_nil,ut,j1,y4,ud,kA,List.getElem?_cons_zero];by_cases hn:x.d.name=[110,111,116] <;>cases j:jU.contains x.d.name<;>simp_all [ui]
 |[a,b]=>
  simp only [kJ,xr,qV,List.length_cons,List.length_nil,ut,j1,y4,ud,kA,List.getElem?_cons_zero,List.getElem?_cons_succ];by_cases hn:x.d.name=[110,111,116] <;>cases j:jU.contains x.d.name<;>simp_all [ui]
 |a::b::c::ks=>simp [kJ,xr]
def qA2 (l:List Nd) (x:Nd) (h:x.d.kind=26):jg l x=qA l x:=by
 rw [vI l x {first:=[qf,qv 20,qv 20],least:=2,most:=3} (by rw [h];rfl),vX l x (by omega) (by omega) (by omega),kA];unfold qA vy;simp only [h,Nat.reduceEqDiff,km,kk,wm,uu,qj,qS,uv,uj,ud,qd6,qwb,<-wT,<-qqA]
 match hk:x.kids with
 |[]=>simp [xr,kX]
 |[a]=>simp [xr,kX]
 |[a,b]=>simp [xr,kX,qV,ui]
 |[a,b,c]=>simp [xr,kX,qV,ui]
 |a::b::c::d::ks=>simp [xr,kX]
def qAZ (l:List Nd) (x:Nd) (h:x.d.kind=29):jg l x=qA l x:=by
 rw [vI l x {first:=[qf],most:=1} (by rw [h];rfl),vX l x (by omega) (by omega) (by omega),kA];unfold qA vy;simp only [h,Nat.reduceEqDiff,km,kk,wm,uu,qj,qS,uv,uj,ud,Q9,qby,<-wT]
 match hk:x.kids with
 |[]=>simp [qbp,kJ,qV,ui]
 |[a]=>simp [qbp,kJ,qV,ui]
 |a::b::ks=>simp [qbp,kJ]
def qiE (l:List Nd) (x:Nd) (h:x.d.kind=33):qA l x=(jg l x&&(decide (x.d.name=[])||qg x.d.name)):=by
 rw [vI l x (qd {name:=some kD} [qv 20]) (by rw [h];rfl),vX l x (by omega) (by omega) (by omega),kA];have a:=Qx l (qd {name:=some kD} [qv 20]) _ rfl x.kids;rw [show (decide ((qd {name:=some kD} [qv 20]).least<=x.kids.length)&&decide (x.kids.length<=(qd {name:=some kD} [qv 20]).most)&&qV l (qd {name:=some kD} [qv 20]) 0 x.kids)=_ from a];unfold qA vy;simp only [h,Nat.reduceEqDiff,km,kk,wm,uu,qlj,<-qjy,qd,qj,qS,kD,uj,uv,ud,kA];simp only [ui,ux,uD]
def qp4 (l:List Nd) (f g:Nat->Bool) (r:Row) (c:r.first=[f]) (h:r.more=some g) (a:Int) (ks:List Int):qV l r 0 (a::ks)=(f (jJ l a)&&ks.all fun k=>g (jJ l k)):=by
 unfold qV;rw [qfK l g r h ks 1 (by simp [c]),c];rfl
def qAU (l:List Nd) (x:Nd) (h:x.d.kind=35) (c:x.kids.length<=400):jg l x=qA l x:=by
 rw [vI l x {first:=[qf],more:=some (qv 36),least:=2,most:=400} (by rw [h];rfl),vX l x (by omega) (by omega) (by omega),kA];unfold qA vy;simp only [h,Nat.reduceEqDiff,km,kk,wm,uu,qj,qS,uv,uj,ud,c,y4,kA,qfJ];unfold vw
 match hk:x.kids with
 |[]=>simp
 |a::ks=>
  rw [qp4 l qf (qv 36) _ rfl rfl];simp only [List.map_cons,List.take_succ_cons,List.take_zero,List.drop_succ_cons,List.drop_zero,jP,qwa,kA,qg9,qKJ,List.length_cons];have:decide (1<ks.length+1)=decide (2<=ks.length+1):=by congr 1
  rw [this];simp only [ui,ux,uD]
def qcI (l:List Nd) (x:Nd):Bool:=qS x.d false false false false&&(match x.kids with|a::b::ks=>qv 20 (jJ l a)&&(b::ks).all fun k=>qv 33 (jJ l k)|_=>false)
def qiF (l:List Nd) (x:Nd) (h:x.d.kind=32) (c:x.kids.length<=400):jg l x=(qcI l x&&wY l x.kids.length 0 (x.kids.drop 1)):=by
 rw [vI l x {first:=[qv 20],more:=some (qv 33),least:=2,most:=400} (by rw [h];rfl)];unfold vy vH qcI;simp only [h,Nat.reduceEqDiff,km,kk,wm,uu,qj,qS,uv,uj,ud,c,y4,kA]
 match hk:x.kids with
 |[]=>simp
 |[a]=>simp
 |a::b::ks=>
  rw [qp4 l (qv 20) (qv 33) _ rfl rfl];simp only [List.length_cons,show decide (2<=ks.length+1+1)=true by simp,ud,ui]
def qoo (l:List Nd) (x:Nd) (h:x.d.kind=32):qA l x=(qcI l x&&qd7 l x):=by
 unfold qA qcI;simp only [h,Nat.reduceEqDiff,km,kk,wm,uu,qfJ];unfold vw
 match hk:x.kids with
 |[]=>simp
 |[a]=>simp
 |a::b::ks=>
  simp only [List.map_cons,List.getD_cons_zero,List.drop_succ_cons,List.drop_zero,qqt,List.length_cons,show decide (2<=ks.length+1+1)=true by simp,ud];rw [show we (jS (jJ l b)::ks.map fun k=>jS (jJ l k)) [119]=we ((b::ks).map fun k=>jS (jJ l k)) [119] from rfl,qg9];simp only [qKG];simp only [ui,ux,uD]
def qon (l:List Nd) (x:Nd) (g:x.kids.length<=400) (j:x.d.kind≠32) (k:x.d.kind≠33):jg l x=qA l x:=by
 have a:z6 x.d.kind=none->jg l x=false:=by intro h;unfold jg;rw [h]
 by_cases o:38<=x.d.kind
 ·rw [a (by unfold z6;rw [u4 (by simpa [QY] using o)];rfl)];unfold qA;simp only [show∀n,n<38->¬x.d.kind=n from fun n h=>by omega]
  symm
  rw [if_neg (by omega),if_neg (by omega),if_neg (by omega),if_neg (by omega),if_neg (by omega),if_neg (by omega),if_neg (by omega),if_neg (by omega),if_neg (by omega),if_neg (by omega),if_neg (by omega),if_neg (by omega),if_neg (by omega),if_neg (by omega),if_neg (by omega),if_neg (by omega),if_neg (by omega),if_neg (by omega),if_neg (by omega),if_neg (by omega),if_neg (by omega),if_neg (by omega),if_neg (by omega)]
 ·have c:x.d.kind<38:=by omega
  generalize hn:x.d.kind=n at j k c
  match n,j,k,c with
  |0,_,_,_=>rw [a (by rw [hn];rfl)];unfold qA;simp [hn]
  |1,_,_,_=>exact qBb l x hn
  |2,_,_,_=>exact qA9 l x hn
  |3,_,_,_=>exact qAY l x hn
  |4,_,_,_=>exact qAR l x hn
  |5,_,_,_=>exact qAQ l x hn
  |6,_,_,_=>exact qAP l x hn
  |7,_,_,_=>exact qAO l x hn
  |8,_,_,_=>exact qAN l x hn
  |9,_,_,_=>exact qAM l x hn
  |10,_,_,_=>exact qBa l x hn
  |11,_,_,_=>rw [a (by rw [hn];rfl)];unfold qA;simp [hn]
  |12,_,_,_=>rw [a (by rw [hn];rfl)];unfold qA;simp [hn]
  |13,_,_,_=>rw [a (by rw [hn];rfl)];unfold qA;simp [hn]
  |14,_,_,_=>rw [a (by rw [hn];rfl)];unfold qA;simp [hn]
  |15,_,_,_=>rw [a (by rw [hn];rfl)];unfold qA;simp [hn]
  |16,_,_,_=>rw [a (by rw [hn];rfl)];unfold qA;simp [hn]
  |17,_,_,_=>rw [a (by rw [hn];rfl)];unfold qA;simp [hn]
  |18,_,_,_=>rw [a (by rw [hn];rfl)];unfold qA;simp [hn]
  |19,_,_,_=>rw [a (by rw [hn];rfl)];unfold qA;simp [hn]
  |20,_,_,_=>exact qA8 l x hn g
  |21,_,_,_=>exact qA7 l x hn
  |22,_,_,_=>exact qA6 l x hn
  |23,_,_,_=>exact qA5 l x hn
  |24,_,_,_=>exact qA4 l x hn
  |25,_,_,_=>exact qA3 l x hn
  |26,_,_,_=>exact qA2 l x hn
  |27,_,_,_=>exact qA1 l x hn
  |28,_,_,_=>exact qA0 l x hn
  |29,_,_,_=>exact qAZ l x hn
  |30,_,_,_=>exact qAX l x hn
  |31,_,_,_=>exact qAW l x hn
  |34,_,_,_=>exact qAV l x hn
  |35,_,_,_=>exact qAU l x hn g
  |36,_,_,_=>exact qAT l x hn
  |37,_,_,_=>exact qAS l x hn
  |32,h,_,_=>exact absurd rfl h
  |33,_,h,_=>exact absurd rfl h
  |n+38,_,_,h=>omega
end Go.L02
namespace Go.L02
open Go.Eng
open Go.L01 (Bs Tok jm jw qG qg qp right)
mutual
def T.kids_le:∀(t:T) (b:Nat),∀x∈t.flat b,x.kids.length<t.size
 | .mk d ks,b,x,a=>by
  simp only [T.flat,uC,uH] at a;simp only [T.size];rcases a with a|rfl
  ·have:=kids_les ks b x a;omega
  ·have h:∀ks:List T,ks.length<=sizes ks:=by
    intro ks
    induction ks with
    |nil=>simp [sizes]
    |cons t ks c=>have:=t.size_pos;simp only [sizes,List.length_cons];omega
   have:=h ks;simp only [kp];omega
def kids_les:∀(c:List T) (b:Nat),∀x∈flats b c,x.kids.length<sizes c
 |[],b,x,a=>by simp [flats] at a
 |t::c,b,x,a=>by
  simp only [flats,uC] at a;simp only [sizes];rcases a with a|a
  ·have:=T.kids_le t b x a;omega
  ·have:=kids_les c _ x a;omega
end
mutual
def T.parent:∀(t:T) (b j:Nat),b<=j->j+1<b+t.size->∃x∈t.flat b,(j:Int)∈x.kids
 | .mk d ks,b,j,a,c=>by
  simp only [T.size] at c;rcases parents ks b j a (by omega) with h|⟨x,g,h⟩
  ·exact ⟨⟨d,qt b ks⟩,by simp [T.flat],h⟩
  ·exact ⟨x,by simp [T.flat,g],h⟩
def parents:∀(a:List T) (b j:Nat),b<=j->j<b+sizes a->(j:Int)∈qt b a\/∃x∈flats b a,(j:Int)∈x.kids
 |[],b,j,k,c=>by simp [sizes] at c;omega
 |t::a,b,j,k,c=>by
  simp only [sizes] at c;by_cases o:j<b+t.size
  ·by_cases y:j+1=b+t.size
   ·left;simp only [qt,wh];left;omega
   ·obtain ⟨x,g,h⟩:=T.parent t b j k (by omega);exact .inr ⟨x,by simp [flats,g],h⟩
  ·rcases parents a (b+t.size) j (by omega) (by omega) with h|⟨x,g,h⟩
   ·exact .inl (by simp [qt,h])
   ·exact .inr ⟨x,by simp [flats,g],h⟩
end
theorem qEn:qg []=false:=rfl
def qp5 (l:List Nd) (r:Row):∀(ks:List Int) (i:Nat),qV l r i ks=true->∀k∈ks,∃f∈r.first++r.more.toList,f (jJ l k)=true
 |[],_,_,k,c=>by simp at c
 |a::ks,i,h,k,c=>by
  unfold qV at h;simp only [j0] at h;rcases wh.1 c with rfl|c
  ·have g:=h.1;split at g
   ·rename_i f j;exact ⟨f,by simp [JD j],g⟩
   ·split at g
    ·rename_i f j;exact ⟨f,by simp [j],g⟩
    ·cases g
  ·exact qp5 l r ks (i+1) h.2 k c
def qAE:(QY.zipIdx.all fun p=>decide (p.2=32)||(match p.1 with|none=>true|some r=>(r.first++r.more.toList).all fun f=> !f 33))=true:=by decide
def qC8 {l:List Nd} {x:Nd} (h:jg l x=true) {k:Int} (y:k∈x.kids) (t:jJ l k=33):x.d.kind=32:=by
 unfold jg at h;split at h
 ·cases h
 ·rename_i r c;simp only [j0] at h;obtain ⟨f,z,g⟩:=qp5 l r _ _ h.1.2 k y;rw [t] at g;unfold z6 at c;cases j:QY[x.d.kind]? with
  |none=>rw [j] at c;cases c
  |some o=>
   rw [j] at c;simp only [Option.join] at c;have a:=um.1 qAE (o,x.d.kind) (List.mem_zipIdx_iff_getElem?.2 (by simpa using j));simp only [uk,kr] at a;rcases a with h|h
   ·exact h
   ·have E:o=some r:=by simpa using c
    rw [E] at h;have:=um.1 h f z;rw [g] at this;cases this
def qet (l:List Nd) (n:Nat):∀(ks:List Int) (i:Nat),wY l n i ks=true↔∀j (a:j<ks.length),qg (kK l ks[j])=true\/(kK l ks[j]=[]/\n<=i+j+2)
 |[],i=>by simp [wY]
 |k::ks,i=>by
  unfold wY;simp only [j0,qet l n ks (i+1),uk,uE,yt,Vb,kr,uS];constructor
  ·rintro ⟨c,g⟩ j a;cases j with
   |zero=>simpa using c.imp id fun h=>⟨h.1,by omega⟩
   |succ j=>
    have:=g j (by simpa using a);simpa using this.imp id fun h=>⟨h.1,by omega⟩
  ·intro h;refine ⟨?_,fun j a=>?_⟩
   ·have:=h 0 (by simp);simpa using this.imp id fun h=>⟨h.1,by omega⟩
   ·have:=h (j+1) (by simpa using a);simpa using this.imp id fun h=>⟨h.1,by omega⟩
def qgH (l:List Nd) (x:Nd):qd7 l x=true↔∀j (a:j<(x.kids.drop 1).length),j+2<x.kids.length->kK l ((x.kids.drop 1)[j])≠[]:=by
 unfold qd7;rw [um];constructor
 ·intro h j a g;have:=h ((x.kids.drop 1)[j]) (by
   rw [VK];exact ⟨j,by omega,rfl⟩)
  simpa using this
 ·intro h k c;rw [VK] at c;obtain ⟨j,a,rfl⟩:=c;have:=h j (by omega) (by omega);simpa using this
def qD8 {l:List Nd} {k:Int} {c:Nat} (h:jJ l k=c) (g:c≠0):∃y∈l,l[k.toNat]? =some y/\y.d.kind=c/\kK l k=y.d.name:=by
 unfold jJ at h;split at h
 ·rename_i y a;exact ⟨y,JD a,a,h,by unfold kK;rw [a]⟩
 ·exact absurd h.symm g
def qAK {l:List Nd} (hp:xO l=true) (Z:l.length<=400) (aa:yf l≠33):l.all (jg l)=l.all (qA l):=by
 obtain ⟨t,rfl⟩:=qoW hp;rw [qiD] at aa;have z:∀x∈t.flat 0,x.kids.length<=400:=fun x c=>by
  have:=T.kids_le t 0 x c;rw [T.flat_len] at Z;omega
 rw [uJ,um,um];constructor
 ·intro h x c;by_cases O:x.d.kind=32
  ·have o:=h x c;rw [qiF _ x O (z x c),j0] at o;rw [qoo _ x O,j0];refine ⟨o.1,(qgH _ _).2 fun j H E U=>?_⟩;rcases (qet _ _ _ _).1 o.2 j H with g|⟨_,g⟩
   ·rw [U,qEn] at g;cases g
   ·omega
  ·by_cases E:x.d.kind=33
   ·rw [qiE _ x E,h x c,ud];obtain ⟨j,H,rfl⟩:=JW c;have hroot:j+1<t.size:=by
     rw [T.flat_len] at H;by_cases hl:j+1=t.size
     ·have U:=qla t 0;rw [Vf,T.flat_len] at U;have g:t.size - 1=j:=by omega
      rw [g] at U;have V:(t.flat 0)[j]? =some (t.flat 0)[j]:=ug _;rw [U] at V;simp only [ub] at V;rw [<-V] at E;exact absurd E aa
     ·omega
    obtain ⟨p,J,Y⟩:=T.parent t 0 j (by omega) (by omega);have I:jJ (t.flat 0) (j:Int)=33:=by
     unfold jJ;rw [Int.toNat_natCast,ug H];exact E
    have h32:=qC8 (h p J) Y I;have o:=h p J;rw [qiF _ p h32 (z p J),j0] at o;have hkd:(j:Int)∈p.kids.drop 1:=by
     have S:=o.1;unfold qcI at S;simp only [j0] at S
     match hm:p.kids,Y,S.2 with
     |a::b::ks,Y,k=>
      rcases wh.1 Y with rfl|Y
      ·simp only [j0] at k;rw [I] at k;exact absurd k.1 (by decide)
      ·simpa using Y
    obtain ⟨i,hi,he⟩:=JW hkd;have hn:kK (t.flat 0) (j:Int)=((t.flat 0)[j]).d.name:=by
     unfold kK;rw [Int.toNat_natCast,ug H]
    rcases (qet _ _ _ _).1 o.2 i hi with g|⟨g,_⟩
    ·rw [he,hn] at g;rw [g,Bool.or_true]
    ·rw [he,hn] at g;simp [g]
   ·rw [<-qon _ x (z x c) O E];exact h x c
 ·intro h x c;by_cases O:x.d.kind=32
  ·have o:=h x c;rw [qoo _ x O,j0] at o;rw [qiF _ x O (z x c),j0];refine ⟨o.1,(qet _ _ _ _).2 fun j H=>?_⟩;have S:=o.1;unfold qcI at S;simp only [j0] at S;have I:jJ (t.flat 0) ((x.kids.drop 1)[j])=33:=by
    match hm:x.kids,H,S.2 with
    |a::b::ks,H,k=>
     simp only [j0] at k;have:=um.1 k.2 ((b::ks)[j]'(by simpa using H)) (wz _);simpa [qv] using this
   obtain ⟨y,hy,E,U,g⟩:=qD8 I (by decide);have V:=h y hy;rw [qiE _ y U,j0,uk] at V;rw [g];rcases V.2 with h7|h7
   ·right;have h8:y.d.name=[]:=by simpa using h7
    refine ⟨h8, ?_⟩;by_cases hc:j+2<x.kids.length
    ·exact absurd (g.trans h8) ((qgH _ _).1 o.2 j H hc)
    ·omega
   ·exact .inl h7
  ·by_cases E:x.d.kind=33
   ·have:=h x c;rw [qiE _ x E,j0] at this;exact this.1
   ·rw [qon _ x (z x c) O E];exact h x c
def qyi (l:List Nd) (root:Nat->Bool) (k:root 33=false):whole l root=(qar l&&root (yf l)):=by
 unfold whole qar;by_cases g:xO l=true
 ·by_cases j:l.length<=400
  ·by_cases a:root (yf l)=true
   ·have c:yf l≠33:=fun h=>by rw [h,k] at a;cases a
    rw [qAK g j c,a];simp only [kA]
   ·have:root (yf l)=false:=by simpa using a
    rw [this];simp
  ·simp [j]
 ·have:xO l=false:=by simpa using g
  rw [this];simp
def xf (l:List Nd) (i:Nat) (u:T):Prop:=∃pre post,l=pre++(u.flat pre.length++post)/\i+1=pre.length+u.size
def qxA (t:T):xf (t.flat 0) (t.size - 1) t:=⟨[],[],by simp,by have:=t.size_pos;simp;omega⟩
def T.flat_eq (u:T) (b:Nat):u.flat b=flats b u.kids++[⟨u.d,qt b u.kids⟩]:=by cases u;rfl
def T.size_eq (u:T):u.size=sizes u.kids+1:=by cases u;rfl
section
variable {l:List Nd} {i:Nat} {u:T}
theorem xf.lt (h:xf l i u):i<l.length:=by
 obtain ⟨a,post,rfl,h⟩:=h;rw [kh,kh,T.flat_len];omega
theorem xf.le (h:xf l i u):u.size<=i+1:=by obtain ⟨a,post,rfl,h⟩:=h;omega
theorem xf.node (h:xf l i u):l[i]? =some ⟨u.d,qt (i+1 - u.size) u.kids⟩:=by
 obtain ⟨a,post,rfl,h⟩:=h;have j:=u.size_eq;rw [JS (by omega),u.flat_eq,uB,JS (by rw [flats_len];omega),flats_len];have c:i - a.length - sizes u.kids=0:=by omega
 have g:i+1 - u.size=a.length:=by omega
 rw [c,g];rfl
theorem qe8:∀(ks:List T) (b j:Nat) (h:j<ks.length),(qt b ks)[j]? =some (((b+sizes (ks.take (j+1)):Nat):Int) - 1)
 |[],_,_,h=>by simp at h
 |k::ks,b,0,_=>by simp [qt,sizes]
 |k::ks,b,j+1,h=>by
  simp only [qt,List.getElem?_cons_succ];rw [qe8 ks (b+k.size) j (by simpa using h),List.take_succ_cons,sizes];congr 2;omega
theorem xf.kid (h:xf l i u) {j:Nat} (c:j<u.kids.length):xf l (i+sizes (u.kids.take (j+1)) - u.size) u.kids[j]:=by
 have k:=h.le;obtain ⟨a,post,rfl,h⟩:=h;have e:u.kids=u.kids.take j++(u.kids[j]::u.kids.drop (j+1)):=by rw [<-u0 c,Jw]
 have o:sizes (u.kids.take (j+1))=sizes (u.kids.take j)+u.kids[j].size:=by rw [uG c,yy];simp [sizes]
 have y:u.size=sizes u.kids+1:=u.size_eq;have t:sizes u.kids=sizes (u.kids.take j)+(u.kids[j].size+sizes (u.kids.drop (j+1))):=by conv=>lhs;rw [e,yy,sizes]
 have g:=u.kids[j].size_pos;refine ⟨a++flats a.length (u.kids.take j),flats (a.length+(sizes (u.kids.take j)+u.kids[j].size)) (u.kids.drop (j+1))++([⟨u.d,qt a.length u.kids⟩]++post), ?_, ?_⟩
 ·rw [u.flat_eq]
  conv=>lhs;rw [e]
  rw [qd4,flats,kh,flats_len];simp only [uB,uN];rw [<-e]
 ·rw [kh,flats_len,o];omega
theorem xf.uniq:∀(n:Nat) {i:Nat} {u v:T},u.size<=n->xf l i u->xf l i v->u=v
 |0,_,u,_,hn,_,_=>by have:=u.size_pos;omega
 |n+1,i,u,v,hn,h,g=>by
  have e:=h.node.symm.trans g.node;simp only [ub,Nd.mk.injEq] at e;obtain ⟨z,er⟩:=e;have c:u.kids.length=v.kids.length:=by
   have:=congrArg List.length er
   rwa [kp,kp] at this
  have y:u.kids=v.kids:=by
   refine VD c fun j k o=>?_;have a:=h.kid k;have b:=g.kid o;have g1:=qe8 u.kids (i+1 - u.size) j k;have H:=qe8 v.kids (i+1 - v.size) j o;rw [er,H] at g1;have l1:=h.le;have V:=g.le;have I:i+sizes (u.kids.take (j+1)) - u.size=i+sizes (v.kids.take (j+1)) - v.size:=by
    have O:0<sizes (u.kids.take (j+1)):=by rw [uG k,yy];have:=u.kids[j].size_pos;simp [sizes];omega
    have J:0<sizes (v.kids.take (j+1)):=by rw [uG o,yy];have:=v.kids[j].size_pos;simp [sizes];omega
    have Z:sizes (u.kids.take (j+1))<=sizes u.kids:=by have:=congrArg sizes (Jw (j+1) u.kids);rw [yy] at this;omega
    simp only [ub] at g1;have S:=h.le;have Y:=g.le;have E:=u.size_eq;have U:=v.size_eq;omega
   rw [<-I] at b;have t:u.kids[j].size<=n:=by
    have E:=u.size_eq;have:u.kids[j].size<=sizes u.kids:=by
     conv=>rhs;rw [<-Jw j u.kids,u0 k,yy,sizes]
     omega
    omega
   exact xf.uniq n t a b
  cases u;cases v;simp only [T.d,T.kids] at z y;rw [z,y]
end
def ind (a b k:Int):Nat:=if a<=k/\k<b then 1 else 0
end Go.L02
namespace Go.L02
open Go Go.Eng Go.RowKit
open Go.Proofs hiding encI
open Go.L01 (Bs Own.same Tok jb jh qg qi)
set_option maxRecDepth 100000
set_option maxHeartbeats 2000000
def QF {w:World} {B:Nat} {a b:Array Value} {T:TypeId} (h:Blk w B a T) (e:a.toList=b.toList):Blk w B b T:=(y5.1 e)▸h
section
variable {w:World} {lv:Value} {xs:List NV}
end
noncomputable def qs1:IR:=.reg [za 10 (zI .add (zv 10) (zK 1))]
noncomputable def qs0:IR:=.seq (.block 1 (.reg [za 7 (zl (zx 1 (zv 8) (zv 10))),zm 14 5,zm 15 1,zm 16 7,zE 17 (.call {callee:=.value (zt 15),args:=#[zt 16],argTypes:=#[3]}) 9,zE 18 (.buildSlice 51 1 #[(0,(zt 17))]) 51,zp 19 #[zt 14,zt 18] #[51,51] 51,zm 5 19])) (qs1)
noncomputable def qkb:IR:=zq [za 11 (zI .lss (zv 10) (zv 9))] <| .seq (.cond (zv 11) .skip (.exit 0)) (qs0)
noncomputable def qsZ:IR:=zq [zm 21 5,zc 22 34 #[zt 21,zY #[44,32]] #[51,9] 9,zm 4 22] <| .ret
noncomputable def qs2:IR:=zq [za 4 (.const (zs #[])),za 5 (.const (.slice none 0 0)),zm 8 0,za 9 (zL (zv 8)),za 10 (zK 0)] <| .seq (.block 0 (.loop qkb)) (qsZ)
def qGh:List Nat:=zV 23 [2,3,6,12,13,20]
def qGg:C2 243 23 qGh qs2 [.tmp 4]:=c2 [] Tryz.func243
noncomputable def qux:IR:=zq [zm 19 0,zm 20 1,zc 21 82 #[zt 19,zt 20] #[110,3] 9,zm 4 21] <| .ret
noncomputable def qkD:IR:=zq [za 4 (.const (zs #[])),za 13 (zB .eql (zo 0 (zx 6 (zo 2 (zN (zv 0))) (zv 1))) (.const (zu 6)))] <| .seq (.cond (zv 13) (zq [zm 14 0,zm 15 1,zc 16 82 #[zt 14,zt 15] #[110,3] 9,za 4 (zS .add (zS .add (.const (zs #[40])) (zv 16)) (.const (zs #[41])))] <| .ret) .skip) (qux)
def qHi:List Nat:=[0,1,4,13,14,15,16,19,20,21]
def qHh:C2 173 22 qHi qkD [.tmp 4]:=c2 [] Tryz.func173
noncomputable def qjK:IR:=zq [za 4 (.const (zs #[102,97,108,115,101]))] <| .ret
noncomputable def qq1:IR:=.ret
noncomputable def qq0:IR:=.seq (.drw [zm 49 0,za 53 (zl (zx 1 (zo 5 (zv 5)) (zK 0))),zc 54 173 #[zt 49,zt 53] #[110,3] 9,za 59 (zS .add (zS .add (zS .add (zv 54) (.const (zs #[32]))) (zo 1 (zv 5))) (.const (zs #[32]))),zm 60 0,za 64 (zl (zx 1 (zo 5 (zv 5)) (zK 1))),zc 65 173 #[zt 60,zt 64] #[110,3] 9,za 4 (zS .add (zv 59) (zv 65))]) (qq1)
noncomputable def qqZ:IR:=.ret
noncomputable def qqY:IR:=.ret
noncomputable def qqX:IR:=zq [zm 106 0,za 110 (zl (zx 1 (zo 5 (zv 5)) (zK 0))),zc 111 82 #[zt 106,zt 110] #[110,3] 9,za 4 (zS .add (zS .add (.const (zs #[100,111,119,110,40])) (zv 111)) (.const (zs #[41])))] <| .ret
noncomputable def qq2:IR:=zq [za 4 (.const (zs #[])),za 12 (zM 6 (zx 6 (zo 2 (zN (zv 0))) (zv 1))),zA 5 44,zw 44 (zt 5) (zt 12),za 14 (zo 0 (zv 5))] <| .seq (.block 0 (zq [za 15 (zB .eql (zv 14) (.const (zu 1)))] <| .cond (zv 15) (zq [za 18 (zo 4 (zv 5)),zc 19 171 #[zt 18] #[3] 9,zm 4 19] <| .ret) (zq [za 20 (zB .eql (zv 14) (.const (zu 2)))] <| .cond (zv 20) (zq [za 24 (zI .eql (zo 4 (zv 5)) (zK 1))] <| .seq (.cond (zv 24) (zq [za 4 (.const (zs #[116,114,117,101]))] <| .ret) .skip) (qjK)) (zq [za 25 (zB .eql (zv 14) (.const (zu 3)))] <| .cond (zv 25) (zq [za 4 (.const (zs #[110,105,108]))] <| .ret) (zq [za 27 (zB .eql (zv 14) (.const (zu 4)))] <| .cond (zv 27) (zq [za 4 (zo 1 (zv 5))] <| .ret) (zq [za 31 (zB .eql (zv 14) (.const (zu 5)))] <| .cond (zv 31) (zq [zm 33 0,za 34 (zM 6 (zv 5)),zc 35 172 #[zt 33,zt 34] #[110,44] 9,zm 4 35] <| .ret) (zq [za 36 (zB .eql (zv 14) (.const (zu 6)))] <| .cond (zv 36) (zq [za 41 (zI .eql (zL (zo 5 (zv 5))) (zK 1))] <| .seq (.cond (zv 41) (zq [zm 42 0,za 46 (zl (zx 1 (zo 5 (zv 5)) (zK 0))),zc 47 173 #[zt 42,zt 46] #[110,3] 9,za 4 (zS .add (.const (zs #[110,111,116,32])) (zv 47))] <| .ret) .skip) (qq0)) (zq [za 67 (zB .eql (zv 14) (.const (zu 7)))] <| .cond (zv 67) (.seq (.drw [zm 69 0,za 73 (zl (zx 1 (zo 5 (zv 5)) (zK 0))),zc 74 173 #[zt 69,zt 73] #[110,3] 9,za 75 (zS .add (zv 74) (.const (zs #[91]))),zm 76 0,za 80 (zl (zx 1 (zo 5 (zv 5)) (zK 1))),zc 81 82 #[zt 76,zt 80] #[110,3] 9,za 4 (zS .add (zS .add (zv 75) (zv 81)) (.const (zs #[93])))]) (qqZ)) (zq [za 84 (zB .eql (zv 14) (.const (zu 8)))] <| .cond (zv 84) (.seq (.drw [zm 86 0,za 90 (zl (zx 1 (zo 5 (zv 5)) (zK 0))),zc 91 173 #[zt 86,zt 90] #[110,3] 9,za 4 (zS .add (zS .add (zv 91) (.const (zs #[46]))) (zo 1 (zv 5)))]) (qqY)) (zq [za 96 (zB .eql (zv 14) (.const (zu 9)))] <| .cond (zv 96) (zq [zm 98 0,za 102 (zl (zx 1 (zo 5 (zv 5)) (zK 0))),zc 103 82 #[zt 98,zt 102] #[110,3] 9,za 4 (zS .add (zS .add (.const (zs #[117,112,40])) (zv 103)) (.const (zs #[41])))] <| .ret) .skip)))))))))) (qqX)
def qEA:List Nat:=[0,1,4,5,12,14,15,18,19,20,24,25,27,31,33,34,35,36,41,42,46,47,49,53,54,59,60,64,65,67,69,73,74,75,76,80,81,84,86,90,91,96,98,102,103,106,110,111]
def qEz:C2 82 114 qEA qq2 [.tmp 4]:=c2 [] Tryz.func82
noncomputable def qkE:IR:=zq [za 28 (zS .add (zv 5) (.const (zs #[40]))),za 30 (zo 5 (zv 3)),zm 31 0,zE 32 (.makeFunc (.func 82) #[zt 31] #[]) 117,zc 33 243 #[zt 30,zt 32] #[40,117] 9,za 4 (zS .add (zS .add (zv 28) (zv 33)) (.const (zs #[41])))] <| .ret
noncomputable def quz:IR:=zq [zE 3 (.box 44 (zt 1)) 0,za 4 (.const (zs #[])),za 5 (zo 1 (zv 3))] <| .seq (.block 0 (zq [za 8 (zS .neq (zo 2 (zv 3)) (.const (zs #[])))] <| .cond (zv 8) (.reg [za 5 (zS .add (zS .add (zo 2 (zv 3)) (.const (zs #[36]))) (zv 5))]) (zq [za 17 (zS .neq (zo 3 (zv 3)) (.const (zs #[])))] <| .cond (zv 17) (.reg [za 5 (zS .add (zv 5) (zS .add (zS .add (.const (zs #[123])) (zo 3 (zv 3))) (.const (zs #[125]))))]) .skip))) (qkE)
def quy:List Nat:=[0,1,3,4,5,8,17,28,30,31,32,33]
def qHj:C2 172 36 quy quz [.tmp 4]:=c2 [] Tryz.func172
noncomputable def qsr:IR:=zq [zm 7 0,zE 8 (.build 116 #[(1,(zt 7))]) 116,zE 9 (.box 116 (zt 8)) 110,za 12 (zI .sub (zL (zv 0)) (zK 1)),zc 13 82 #[zt 9,zt 12] #[110,3] 9,zm 2 13,za 3 (zK 0)] <| .ret
noncomputable def qsu:IR:=zq [za 2 (.const (zs #[])),za 3 (zK 0),zm 4 0,zc 5 64 #[zt 4,(.func 65)] #[29,98] 4,za 6 (zn (zv 5))] <| .seq (.cond (zv 6) (zq [za 2 (.const (zs #[])),za 3 (zK 21)] <| .ret) .skip) (qsr)
def qFI:List Nat:=zV 14 [1,10,11]
def qFH:C1 28 14 qFI qsu [.tmp 2,.tmp 3]:=c1 [] Tryz.func28
end Go.L02
namespace Go.L02
open Go.Eng
open Go.L01 (Bs Tok jm jw qG qg qp right)
def jl (sep:Bs):List Bs->Bs
 |[]=>[]
 |[x]=>x
 |x::y::ys=>x++(sep++jl sep (y::ys))
def yE (ss:List Bs) (i:Nat):Bs:=ss.getD i []
def wO (ks:List T) (i:Nat):Nat:=match ks[i]? with|some t=>t.d.kind|none=>0
def x8 (k:Nat) (s:Bs):Bs:=if k=6 then [40]++(s++[41]) else s
def zF (d:D):Bs:=if d.vr≠[] then d.vr++([36]++d.name) else if d.typ≠[] then d.name++([123]++(d.typ++[125])) else d.name
def zU (d:D) (ks:List T) (ss:List Bs):Bs:=
 if d.kind=1 then Lib.itoa d.n
 else if d.kind=2 then (if d.n=1 then [116,114,117,101] else [102,97,108,115,101])
 else if d.kind=3 then [110,105,108]
 else if d.kind=4 then d.name
 else if d.kind=5 then zF d++([40]++(jl [44,32] ss++[41]))
 else if d.kind=6 then (if ks.length=1 then [110,111,116,32]++x8 (wO ks 0) (yE ss 0) else x8 (wO ks 0) (yE ss 0)++([32]++(d.name++([32]++x8 (wO ks 1) (yE ss 1)))))
 else if d.kind=7 then x8 (wO ks 0) (yE ss 0)++([91]++(yE ss 1++[93]))
 else if d.kind=8 then x8 (wO ks 0) (yE ss 0)++([46]++d.name)
 else if d.kind=9 then [117,112,40]++(yE ss 0++[41])
 else [100,111,119,110,40]++(yE ss 0++[41])
mutual
def xt:T->Bs| .mk d ks=>zU d ks (xts ks)
def xts:List T->List Bs|[]=>[] |t::ts=>xt t::xts ts
end
def ot (t:T):Bs:=x8 t.d.kind (xt t)
def qzM (l:List Bs):List Bs:=l.dropLast++(match l.getLast? with|some s=>[s++[59]] |none=>[])
def qde:List (List Bs)->List Bs
 |[]=>[]
 |[l]=>l
 |l::m::ls=>qzM l++qde (m::ls)
def qgB (l:List Bs):List Bs:=l.map ([32,32]++ ·)
def xk (ks:List T) (i:Nat):Bs:=match ks[i]? with|some t=>xt t|none=>[]
def ok (ks:List T) (i:Nat):Bs:=match ks[i]? with|some t=>ot t|none=>[]
def qDS (d:D) (ks:List T):Bs:=
 if d.kind=21 then [118,97,114,32]++(d.name++([58,32]++(d.typ++([32,58,61,32]++xk ks 0))))
 else if d.kind=22 then d.name++([32,58,61,32]++xk ks 0)
 else if d.kind=23 then ok ks 0++([91]++(xk ks 1++([93,32,58,61,32]++xk ks 2)))
 else if d.kind=24 then ok ks 0++([46]++(d.name++([32,58,61,32]++xk ks 1)))
 else if d.kind=25 then xk ks 0
 else if d.kind=37 then [112,117,116,32]++xk ks 0
 else if d.kind=30 then [121,105,101,108,100,32]++xk ks 0
 else if d.kind=31 then [115,105,103,110,97,108,32]++d.name
 else if d.kind=34 then [98,114,101,97,107]
 else if ks.length=0 then [114,101,116,117,114,110] else [114,101,116,117,114,110,32]++xk ks 0
def qyj (s:Bs):Bs:=if s=[] then [111,116,104,101,114,115] else s
mutual
def stL:T->List Bs
 | .mk d ks=>
  if d.kind=26 then condL [105,102] ks++[[101,110,100]]
  else if d.kind=27 then ([119,104,105,108,101,32]++(xk ks 0++[32,100,111]))::(blkL 1 ks++[[101,110,100]])
  else if d.kind=28 then ([102,111,114,32]++(d.name++([58,32]++(d.typ++([32,105,110,32]++(xk ks 0++[32,100,111]))))))::(blkL 1 ks++[[101,110,100]])
  else if d.kind=32 then [98,101,103,105,110]::(blkL 0 ks++([101,120,99,101,112,116]::(whensT ks++[[101,110,100]])))
  else if d.kind=35 then ([116,97,103,99,97,115,101,32]++xk ks 0)::(armsT ks++[[101,110,100]])
  else [qDS d ks]
def qc7:List T->List (List Bs)|[]=>[] |t::ts=>stL t::qc7 ts
def blkL:Nat->List T->List Bs
 |_,[]=>[]
 |0,.mk _ qs::_=>qgB (qde (qc7 qs))
 |i+1,_::ks=>blkL i ks
def condL:Bs->List T->List Bs
 |word,[c,.mk _ qs]=>(word++([32]++(xt c++[32,116,104,101,110])))::qgB (qde (qc7 qs))
 |word,[c,.mk _ qs,.mk _ rs]=>(word++([32]++(xt c++[32,116,104,101,110])))::(qgB (qde (qc7 qs))++elseL (qgB (qde (qc7 rs))) rs)
 |_,_=>[]
def elseL:List Bs->List T->List Bs
 |ls,[.mk d ks]=>if d.kind=26 then condL [101,108,115,101,105,102] ks else [101,108,115,101]::ls
 |ls,_=>[101,108,115,101]::ls
def whensT:List T->List Bs|[]=>[] |_::ts=>whensL ts
def armsT:List T->List Bs|[]=>[] |_::ts=>armsL ts
def whensL:List T->List Bs
 |[]=>[]
 | .mk d ks::ts=>([119,104,101,110,32]++(qyj d.name++[58]))::(blkL 0 ks++whensL ts)
def armsL:List T->List Bs
 |[]=>[]
 | .mk d ks::ts=>([116,97,103,32]++(d.name++([40]++(d.vr++([58,32]++(d.typ++[41,58]))))))::(blkL 0 ks++armsL ts)
end
def qbA:List Nd->List T->List T
 |[],st=>st
 |x::xs,st=>qbA xs (st.take (st.length - x.kids.length)++[T.mk x.d (st.drop (st.length - x.kids.length))])
mutual
def qwN:∀(t:T) (b:Nat) (xs:List Nd) (st:List T),qbA (t.flat b++xs) st=qbA xs (st++[t])
 | .mk d ks,b,xs,st=>by
  simp only [T.flat];rw [uB,decF_flats ks b _ st];simp [qbA,kp]
def decF_flats:∀(a:List T) (b:Nat) (xs:List Nd) (st:List T),qbA (flats b a++xs) st=qbA xs (st++a)
 |[],b,xs,st=>by simp [flats]
 |t::a,b,xs,st=>by
  simp only [flats];rw [uB,qwN t b _ st,decF_flats a];simp
end
def qhF (l:List Nd):T:=(qbA l []).headD (.mk {kind:=0} [])
def qhE (t:T):qhF (t.flat 0)=t:=by
 have:=qwN t 0 [] [];simp only [uy] at this;unfold qhF;rw [this];rfl
end Go.L02
