/- Lemmas for a claim about layer 2 (tree). No conditions but those they state. -/
import Derived.Test.YtbcmiempigoooaaGreatDoorBaq
import Derived.Shelf.Strings.Cut
import Derived.Test.YtbcmiempigoooaaGreatDoorProg
import Derived.KernelRfl
import Derived.Lib.ItoaNum
set_option linter.all false
namespace Go.Proofs
open Go.Shelf
def Tryz.lays145_ren:Go.Shelf.Ren:=⟨fun|145=>76|220=>161|219=>230|217=>282|225=>283|224=>284|267=>285|266=>330|314=>331|n=>n,fun|9=>9|4=>4|59=>107|3=>3|5=>5|46=>266|146=>300|51=>285|n=>n,fun|1=>0|n=>n⟩
theorem Tryz.lays145:Go.Proofs.Lays.n145 Tryz.prog Tryz.lays145_ren:={
 mixed:=by kernel_rfl
 f145:=Tryz.func76.trans (congrArg some (by kernel_rfl))
 f217:=Tryz.func282.trans (congrArg some (by kernel_rfl))
 f219:=Tryz.func230.trans (congrArg some (by kernel_rfl))
 f220:=Tryz.func161.trans (congrArg some (by kernel_rfl))
 f224:=Tryz.func284.trans (congrArg some (by kernel_rfl))
 f225:=Tryz.func283.trans (congrArg some (by kernel_rfl))
 f266:=Tryz.func330.trans (congrArg some (by kernel_rfl))
 f267:=Tryz.func285.trans (congrArg some (by kernel_rfl))
 f314:=Tryz.func331.trans (congrArg some (by kernel_rfl))
 t3:=Tryz.underlying3
 a3:=Tryz.isAgg3
 z3:=Tryz.sizeOf3
 v3:=Tryz.zeroValue3
 t4:=Tryz.underlying4
 a4:=Tryz.isAgg4
 z4:=Tryz.sizeOf4
 v4:=Tryz.zeroValue4
 t5:=Tryz.underlying5
 a5:=Tryz.isAgg5
 z5:=Tryz.sizeOf5
 v5:=Tryz.zeroValue5
 t9:=Tryz.underlying9
 a9:=Tryz.isAgg9
 z9:=Tryz.sizeOf9
 v9:=Tryz.zeroValue9
 t46:=Tryz.underlying266
 a46:=Tryz.isAgg266
 z46:=Tryz.sizeOf266
 v46:=Tryz.zeroValue266
 t51:=Tryz.underlying285
 a51:=Tryz.isAgg285
 z51:=Tryz.sizeOf285
 v51:=Tryz.zeroValue285
 t59:=Tryz.underlying107
 a59:=Tryz.isAgg107
 z59:=Tryz.sizeOf107
 v59:=Tryz.zeroValue107
 t146:=Tryz.underlying300
 a146:=Tryz.isAgg300
 z146:=Tryz.sizeOf300
 v146:=Tryz.zeroValue300
 g1:=by kernel_rfl}
theorem Tryz.cut (s sep:ByteArray) (m:Int) (w:World) (c:s.size<4294967281) (a:w.cell? ⟨0,0,none⟩=some (.int .i64 m)):
  Calls Tryz.prog 76 #[.string s, .string sep] w fun e w'=>e= .returned (.tuple #[.string ⟨(Lib.cut s.data.toList sep.data.toList).1.toArray⟩, .string ⟨(Lib.cut s.data.toList sep.data.toList).2.1.toArray⟩, .bool (Lib.cut s.data.toList sep.data.toList).2.2])∧∃n,w'=w.drewN n:=Any.strings_Cut Tryz.lays145 s sep m w c a
end Go.Proofs
namespace Go.L02
open Go Go.Eng Go.RowKit
open Go.Proofs hiding encI
open Go.L01 (Bd Bs Own.same SlK Tok fV jE jM jO jT jn jx qB qP qR qcj qi qo qr vE vx)
set_option maxRecDepth 100000
set_option maxHeartbeats 2000000
theorem qpr (c:UInt8):∀s:Bs,Lib.index s [c]=match s.findIdx? (fun b=>decide (b=c)) with|none=> -1|some k=>(k:Int)
 |[]=>by simp [Lib.index]
 |b::l=>by
  rw [Lib.index,List.findIdx?_cons];by_cases h:b=c
  ·subst h;simp [List.isPrefixOf]
  ·have a:¬c=b:=fun e=>h e.symm;rw [qpr c l];simp only [List.isPrefixOf,h,a,beq_iff_eq,Bool.and_true,if_false,decide_false,Bool.false_eq_true];cases l.findIdx? (fun b=>decide (b=c)) with
   |none=>rfl
   |some k=>
    simp only [Option.map_some];rw [if_neg (by omega)]
    push_cast
    rfl
theorem qAq (s:Bs):Lib.cut s [95]=match qca s with|none=>(s,[],false)|some k=>(s.take k,s.drop (k+1),true):=by
 unfold Lib.cut qca;rw [qpr];cases s.findIdx? (fun c=>decide (c=95)) with
 |none=>rfl
 |some k=>simp
def xA (w:World):Prop:=∃m,w.cell? ⟨0,0,none⟩=some (.int .i64 m)
theorem xA.ext {w w':World} (h:xA w) (a:qc w w'):xA w':=by
 obtain ⟨m,h⟩:=h;exact ⟨m,a.cell h⟩
theorem qlb {w:World} (q:L01.G w) (E:xA w) (s:Bs) (y:s.length<4294967281):Calls Tryz.prog 24 #[.string (qb s)] w fun e w'=>e= .returned (.bool (wa s))∧qc w w':=by
 refine qx0 fun ρ r0=> ?_;simp -implicitDefEqProofs [qnL,r0];refine (qk5 s w).mono ?_;rintro _ w1 ⟨rfl,j⟩;cases h:ke.contains s with
 |true=>
  have e:wa s=true:=by unfold wa;rw [h];rfl
  simp -implicitDefEqProofs [e];exact j
 |false=>
  have e:wa s=(match qca s with|none=>qo s|some k=>qo (s.take k)&&qo (s.drop (k+1))):=by unfold wa;rw [h];rfl
  simp -implicitDefEqProofs [qnK,r0];obtain ⟨m,H⟩:=E.ext j;refine (Tryz.cut (qb s) (qb [95]) m w1 y H).mono ?_;rintro _ w2 ⟨rfl,n,rfl⟩;have a:qc w (w1.drewN n):=j.trans' ⟨rfl,rfl,rfl,Nat.le_refl _,fun _ _=>rfl⟩;have z:Lib.cut (qb s).data.toList (qb [95]).data.toList=_:=qAq s;rw [z];cases t:qca s with
  |none=>
   rw [t] at e;simp -implicitDefEqProofs;refine (L01.Qf (q.ext a) s).mono ?_;rintro _ w3 ⟨rfl,c⟩;have g:wa s=qo s:=e;cases hn:qo s with
   |true=>
    rw [hn] at g;simp -implicitDefEqProofs [g];exact a.trans' c
   |false=>
    rw [hn] at g;simp -implicitDefEqProofs [g];exact a.trans' c
  |some k=>
   rw [t] at e;simp -implicitDefEqProofs;refine (L01.Qf (q.ext a) (s.take k)).mono ?_;rintro _ w3 ⟨rfl,c⟩;have g:wa s=(qo (s.take k)&&qo (s.drop (k+1))):=e;cases hn:qo (s.take k) with
   |true=>
    rw [hn] at g;simp -implicitDefEqProofs;refine (L01.Qf ((q.ext a).ext c) (s.drop (k+1))).mono ?_;rintro _ I ⟨rfl,o⟩;simp -implicitDefEqProofs [g];exact (a.trans' c).trans' o
   |false=>
    rw [hn] at g;simp -implicitDefEqProofs [g];exact a.trans' c
noncomputable def qhj:IR:=zq [za 6 (zQ false),za 6 (.ite (zI .geq (zv 0) (zv 1)) (zI .leq (zv 0) (zv 2)) (zQ false))] <| .ret
def qza:List Nat:=[0,1,2,6]
theorem qy9:C3 127 15 qza qhj [.tmp 6]:=c3 [] Tryz.func127
noncomputable def qnZ:IR:=zq [zm 9 1,zm 10 0,zE 11 (.call {callee:= .value (zt 9),args:= #[zt 10],argTypes:= #[9]}) 4,zm 4 11] <| .ret
noncomputable def qn0:IR:=zq [za 4 (zQ false),zm 5 1,zE 6 (.binOp .eql 34 (zt 5) (.const .nilFunc) 34) 4] <| .seq (.cond (zv 6) (zq [za 4 (zS .eql (zv 0) (.const (zs #[])))] <| .ret) .skip) (qnZ)
def qyd:List Nat:=zV 12 [2,3,7,8]
theorem qyc:C2 225 12 qyd qn0 [.tmp 4]:=c2 [] Tryz.func225
noncomputable def qnX:IR:=zq [za 15 (zo 2 (zv 1)),zc 16 22 #[zt 15] #[9] 4,zm 17 16,zg 17 true 19 (zo 1 (zv 1)),zh 17 true 20 24 #[zt 19] #[9] 4,za 2 (.ite (.ite (zv 17) (zv 20) (zQ false)) (zS .eql (zo 3 (zv 1)) (.const (zs #[]))) (zQ false))] <| .ret
noncomputable def qnY:IR:=zq [zE 1 (.box 44 (zt 0)) 0,za 2 (zQ false),za 5 (zS .eql (zo 2 (zv 1)) (.const (zs #[])))] <| .seq (.cond (zv 5) (zq [za 7 (zo 1 (zv 1)),zc 8 77 #[zt 7] #[9] 4,zm 9 8,zg 9 true 11 (zo 3 (zv 1)),zh 9 true 12 280 #[zt 11] #[9] 4,za 2 (.ite (zv 9) (zv 12) (zQ false))] <| .ret) .skip) (qnX)
def qyb:List Nat:=zV 21 [3,4,6,10,13,14,18]
theorem qya:C1 226 27 qyb qnY [.tmp 2]:=c1 [] Tryz.func226
noncomputable def qgN:IR:=zq [za 2 (zQ false),za 5 (zS .eql (zv 0) (.const (zs #[]))),zg 5 false 6 (zv 0),zh 5 false 7 22 #[zt 6] #[9] 4,za 2 (.ite (zv 5) (zQ true) (zv 7))] <| .ret
def qxG:List Nat:=zV 8 [1,3,4]
theorem qxF:C1 280 9 qxG qgN [.tmp 2]:=c1 [] Tryz.func280
noncomputable def qn8:IR:=zq [zE 1 (.box 3 (zt 0)) 0,za 2 (.const .nilFunc),zE 3 (.makeFunc (.func 278) #[] #[zt 1]) 238,zm 2 3] <| .ret
def qyn:List Nat:=zV 4 []
theorem qym:C1 220 4 qyn qn8 [.tmp 2]:=c1 [] Tryz.func220
noncomputable def qnt:IR:=zq [za 3 (zQ false),zm 4 0,za 5 (zl (zv 1)),zc 6 127 #[zt 4,zO 0,zt 5] #[3,3,3] 4,zm 3 6] <| .ret
def qxK:List Nat:=zV 7 [2]
theorem qxJ:C2 278 7 qxK qnt [.tmp 3]:=c2 [] Tryz.func278
noncomputable def qn5:IR:=zq [zE 1 (.box 5 (zt 0)) 0,za 2 (.const .nilFunc),zE 3 (.makeFunc (.func 279) #[] #[zt 1]) 98,zm 2 3] <| .ret
def qyh:List Nat:=zV 4 []
theorem qyg:C1 223 4 qyh qn5 [.tmp 2]:=c1 [] Tryz.func223
noncomputable def qns:IR:=zq [zE 2 (.box 44 (zt 0)) 0,za 3 (zQ false),za 3 (zB .eql (zo 0 (zv 2)) (zl (zv 1)))] <| .ret
def qxI:List Nat:=zV 4 []
theorem qxH:C2 279 8 qxI qns [.tmp 3]:=c2 [] Tryz.func279
noncomputable def qn7:IR:=zq [za 2 (zQ false),zE 3 (.buildSlice 51 11 #[(0,(zY #[110,111,116])),(1,(zY #[43])),(2,(zY #[45])),(3,(zY #[42])),(4,(zY #[47])),(5,(zY #[109,111,100])),(6,(zY #[60])),(7,(zY #[60,61])),(8,(zY #[61])),(9,(zY #[97,110,100])),(10,(zY #[111,114]))]) 51,zm 4 0,zc 5 160 #[zt 3,zt 4] #[51,9] 4,zm 2 5] <| .ret
def qyl:List Nat:=zV 6 [1]
theorem qyk:C1 221 6 qyl qn7 [.tmp 2]:=c1 [] Tryz.func221
noncomputable def qn6:IR:=zq [zE 1 (.box 44 (zt 0)) 0,za 2 (zQ false),za 3 (zo 0 (zv 1)),za 7 (.op1 (.conv .i64) (zv 3)),zc 8 127 #[zt 7,zO 21,zO 31] #[3,3,3] 4,za 2 (.ite (.ite (.ite (.ite (zv 8) (zQ true) (zB .eql (zv 3) (.const (zu 32)))) (zQ true) (zB .eql (zv 3) (.const (zu 34)))) (zQ true) (zB .eql (zv 3) (.const (zu 35)))) (zQ true) (zB .eql (zv 3) (.const (zu 37))))] <| .ret
def qyj:List Nat:=zV 9 [4,5,6]
theorem qyi:C1 222 25 qyj qn6 [.tmp 2]:=c1 [] Tryz.func222
noncomputable def qmF:IR:=zq [zE 1 (.box 44 (zt 0)) 0,za 2 (zQ false),za 5 (.op1 (.conv .i64) (zo 0 (zv 1))),zc 6 127 #[zt 5,zO 1,zO 10] #[3,3,3] 4,zm 2 6] <| .ret
def qwY:List Nat:=zV 7 [3,4]
theorem qwX:C1 65 7 qwY qmF [.tmp 2]:=c1 [] Tryz.func65
noncomputable def qmx:IR:=zq [zE 1 (.box 44 (zt 0)) 0,za 2 (zQ false),za 2 (zB .eql (zo 0 (zv 1)) (.const (zu 20)))] <| .ret
def qwM:List Nat:=zV 3 []
theorem qwL:C1 80 6 qwM qmx [.tmp 2]:=c1 [] Tryz.func80
noncomputable def qob:IR:=zq [zE 2 (.box 241 (zt 0)) 0,za 4 (.const (.pointer none)),zm 5 1,za 7 (zL (zv 1)),za 9 (zL (zv 1)),za 10 (zf 4 (zv 2)),zw 239 (zt 10) (zt 5),za 11 (zf 6 (zv 2)),zw 3 (zt 11) (zt 7),za 12 (zf 7 (zv 2)),zw 3 (zt 12) (zt 9),zm 4 2] <| .ret
def qyr:List Nat:=zV 13 [3,6,8]
theorem qyq:C2 218 13 qyr qob [.tmp 4]:=c2 [] Tryz.func218
noncomputable def qoa:IR:=zq [za 2 (zQ false),za 2 (zQ true)] <| .ret
def qyp:List Nat:=[0,2]
theorem qyo:C1 219 3 qyp qoa [.tmp 2]:=c1 [] Tryz.func219
noncomputable def qaI:Code:=((Tryz.f147.body).getD .skip)
noncomputable def qhg:IR:=zq [zm 122 11,za 126 (zM 6 (zx 6 (zv 0) (zv 10))),zE 127 (.call {callee:= .value (zt 122),args:= #[zt 126],argTypes:= #[44]}) 4,za 128 (zn (zv 127))] <| .cond (zv 128) (zq [za 6 (zQ false)] <| .ret) .skip
noncomputable def qdW:IR:= .reg [za 99 (zI .add (zv 99) (zK 1))]
noncomputable def qhd:IR:= .seq (.block 1 (zq [zm 101 99,za 103 (zl (zx 1 (zv 97) (zv 99))),zm 9 101,zm 10 103,za 11 (zo 5 (zN (zv 7))),za 114 (zI .lss (zv 9) (zL (zo 4 (zN (zv 7)))))] <| .seq (.cond (zv 114) (.reg [za 11 (zl (zx 1 (zo 4 (zN (zv 7))) (zv 9)))]) .skip) (qhg))) (qdW)
noncomputable def qdT:IR:=zq [za 100 (zI .lss (zv 99) (zv 98))] <| .seq (.cond (zv 100) .skip (.exit 0)) (qhd)
noncomputable def qhc:IR:= .reg [za 152 (zI .add (zv 152) (zK 1))]
noncomputable def qoO:IR:= .seq (.block 4 (zq [zm 154 152,za 156 (zl (zx 1 (zv 150) (zv 152))),zm 12 154,zm 13 156,za 14 (zo 1 (zx 6 (zv 0) (zv 13))),zm 162 14,zc 163 77 #[zt 162] #[9] 4,za 176 (.ite (zn (zv 163)) (.ite (zS .neq (zv 14) (.const (zs #[]))) (zQ true) (zI .lss (zv 12) (zI .sub (zL (zo 5 (zv 4))) (zK 2)))) (zQ false))] <| .cond (zv 176) (zq [za 6 (zQ false)] <| .ret) .skip)) (qhc)
noncomputable def qg9:IR:=zq [za 153 (zI .lss (zv 152) (zv 151))] <| .seq (.cond (zv 153) .skip (.exit 3)) (qoO)
noncomputable def qhb:IR:=zq [za 6 (zQ true)] <| .ret
noncomputable def qaH:IR:=zq [za 131 (zo 0 (zv 4))] <| .seq (.block 2 (zq [za 132 (zB .eql (zv 131) (.const (zu 5)))] <| .cond (zv 132) (zq [za 134 (zM 6 (zv 4)),zc 135 226 #[zt 134] #[44] 4,zm 6 135] <| .ret) (zq [za 136 (zB .eql (zv 131) (.const (zu 6)))] <| .cond (zv 136) (zq [za 6 (.op2 (.bbin .eql) (zS .eql (zo 1 (zv 4)) (.const (zs #[110,111,116]))) (zI .eql (zL (zo 5 (zv 4))) (zK 1)))] <| .ret) (zq [za 146 (zB .eql (zv 131) (.const (zu 32)))] <| .cond (zv 146) (zq [za 150 (.op2 (.slLo 1) (zo 5 (zv 4)) (zK 1)),za 151 (zL (zv 150)),za 152 (zK 0)] <| .block 3 (.loop qg9)) .skip)))) (qhb)
noncomputable def qha:IR:=zq [za 97 (zo 5 (zv 4)),za 98 (zL (zv 97)),za 99 (zK 0)] <| .seq (.block 0 (.loop qdT)) (qaH)
noncomputable def qdV:IR:= .seq (.cond (zv 95) (zq [za 6 (zQ false)] <| .ret) .skip) (qha)
noncomputable def qhf:IR:= .seq (.drw [za 50 (zo 1 (zv 4)),za 54 (zo 0 (zN (zv 7))),zc 55 225 #[zt 50,zt 54] #[9,34] 4,za 57 (zn (zv 55)),zg 57 false 59 (zo 2 (zv 4)),zg 57 false 63 (zo 1 (zN (zv 7))),zh 57 false 64 225 #[zt 59,zt 63] #[9,34] 4,za 67 (.ite (zv 57) (zQ true) (zn (zv 64))),zg 67 false 69 (zo 3 (zv 4)),zg 67 false 73 (zo 2 (zN (zv 7))),zh 67 false 74 225 #[zt 69,zt 73] #[9,34] 4,za 81 (.ite (.ite (zv 67) (zQ true) (zn (zv 74))) (zQ true) (zn (zv 8))),zg 81 false 84 (zL (zo 5 (zv 4))),zg 81 false 88 (zo 6 (zN (zv 7))),zg 81 false 92 (zo 7 (zN (zv 7))),zh 81 false 93 127 #[zt 84,zt 88,zt 92] #[3,3,3] 4,za 95 (.ite (zv 81) (zQ true) (zn (zv 93)))]) (qdV)
noncomputable def qhe:IR:=zq [za 8 (zI .eql (zo 4 (zv 4)) (zK 0)),za 40 (zo 3 (zN (zv 7))),zE 41 (.binOp .neq 238 (zt 40) (.const .nilFunc) 238) 4] <| .seq (.cond (zv 41) (.raw (qI qaI 6)) .skip) (qhf)
noncomputable def qoP:IR:= .seq (.raw (qI qaI 3)) (qhe)
noncomputable def qdU:IR:= .seq (.cond (zv 27) (zq [za 6 (zQ false)] <| .ret) .skip) (qoP)
noncomputable def qoQ:IR:=zq [zE 4 (.box 44 (zt 1)) 0,za 6 (zQ false)] <| .seq (.raw (qI qaI 1)) (qdU)
def x7:List Nat:=[0,1,2,4,6,7,8,9,10,11,12,13,14,15,16,17,18,19,20,21,22,23,24,25,26,27,28,29,30,31,32,33,40,41,42,43,44,45,46,47,48,50,54,55,57,59,63,64,67,69,73,74,81,84,88,92,93,95,97,98,99,100,101,103,114,122,126,127,128,131,132,134,135,136,146,150,151,152,153,154,156,162,163,176]
theorem qyU:C3 147 178 x7 qoQ [.tmp 6]:=c3 [6,3,1] Tryz.func147
noncomputable def qg8:OT:=zy 15 (zf 0 (zv 4))<|zy 16 (zl (zv 15))<|zy 17 (.op1 (.conv .i64) (zv 16))<|zy 18 (zI .geq (zv 17) (zK 38))<|zy 19 (zv 18)<| .take (some (19,false)) 20 (zv 2)<| .take (some (19,false)) 21 (zf 0 (zv 4))<| .take (some (19,false)) 22 (zl (zv 21))<| .take (some (19,false)) 23 (zN (zv 20))<| .step (.eff (some (19,false)) (some 24) (.indexAddr 175 (zt 23) (zt 22)) 0) false<| .step (zg 19 false 25 (zl (zv 24))) false<| .step (.eff (some (19,false)) (some 26) (.binOp .eql 174 (zt 25) (.const (.pointer none)) 174) 4) false<| .step (za 27 (.ite (zv 19) (zQ true) (zv 26))) false<| .done
theorem qyT:vT Tryz.prog 178 x7 9 (qI qaI 1)=some qg8:=by kernel_rfl
noncomputable def qoN:OT:=zy 28 (zv 2)<|zy 29 (zf 0 (zv 4))<|zy 30 (zl (zv 29))<|zy 31 (zN (zv 28))<| .step (zE 32 (.indexAddr 175 (zt 31) (zt 30)) 0) false<| .step (za 33 (zl (zv 32))) false<| .step (zm 7 33) false<| .done
theorem qyS:vT Tryz.prog 178 x7 4 (qI qaI 3)=some qoN:=by kernel_rfl
noncomputable def qoM:OT:=zy 42 (zv 7)<|zy 43 (zN (zv 42))<|zy 44 (zf 3 (zv 43))<|zy 45 (zl (zv 44))<|zy 46 (zf 4 (zv 4))<|zy 47 (zl (zv 46))<| .step (zE 48 (.call {callee:= .value (zt 45),args:= #[zt 47],argTypes:= #[3]}) 4) false<| .step (zm 8 48) false<| .done
theorem qyR:vT Tryz.prog 178 x7 6 (qI qaI 6)=some qoM:=by kernel_rfl
noncomputable def qmf:IR:= .reg [za 34 (.op4 (.slMax 1) (zv 3) (zK 0) (zv 6) (zv 6)),zm 35 4,zE 36 (.buildSlice 40 1 #[(0,(zt 35))]) 40,zp 37 #[zt 34,zt 36] #[40,40] 40,zm 3 37]
noncomputable def qdH:IR:= .seq (.cond (zv 30) (zq [za 2 (zQ false)] <| .ret) .skip) (qmf)
noncomputable def qme:IR:= .reg [za 9 (zI .add (zv 9) (zK 1))]
noncomputable def qmd:IR:= .seq (.block 1 (zq [zm 11 9,za 13 (zM 6 (zx 6 (zv 7) (zv 9))),zA 5 44,zm 4 11,zw 44 (zt 5) (zt 13),za 6 (zI .sub (zL (zv 3)) (zL (zo 5 (zv 5))))] <| .seq (.drw [za 22 (zI .lss (zv 6) (zK 0)),zg 22 false 25 (.op2 (.slLo 1) (zv 3) (zv 6)),zg 22 false 27 (zo 5 (zv 5)),zh 22 false 28 50 #[zt 25,zt 27] #[40,40] 4,za 30 (.ite (zv 22) (zQ true) (zn (zv 28)))]) (qdH))) (qme)
noncomputable def qgA:IR:=zq [za 10 (zI .lss (zv 9) (zv 8))] <| .seq (.cond (zv 10) .skip (.exit 0)) (qmd)
noncomputable def qmc:IR:=zq [za 2 (zI .eql (zL (zv 3)) (zK 1))] <| .ret
noncomputable def qmg:IR:=zq [za 2 (zQ false),za 3 (.const (.slice none 0 0)),zm 7 0,za 8 (zL (zv 7)),za 9 (zK 0)] <| .seq (.block 0 (.loop qgA)) (qmc)
def qwE:List Nat:=zV 38 [1,12,14,15,16,17,18,19,20,21,23,24,26,29,31,32,33]
theorem qwD:C1 98 42 qwE qmg [.tmp 2]:=c1 [] Tryz.func98
noncomputable def qoR:IR:=zq [zE 3 (.box 44 (zt 0)) 0,za 4 (zQ false),za 5 (zl (zv 1)),za 6 (zM 6 (zv 3)),zc 7 147 #[zt 5,zt 6,zt 2] #[29,44,178] 4,za 4 (zn (zv 7))] <| .ret
def qyW:List Nat:=zV 8 []
theorem qyV:C3 146 9 qyW qoR [.tmp 4]:=c3 [] Tryz.func146
noncomputable def qoS:IR:=zq [za 4 (zQ false),zm 5 0,zm 6 1,zc 7 224 #[zt 5,zt 6] #[29,98] 3,za 4 (zI .geq (zv 7) (zK 0))] <| .ret
def qyY:List Nat:=zV 8 [2,3]
theorem qyX:C2 145 9 qyY qoS [.tmp 4]:=c2 [] Tryz.func145
noncomputable def qn3:IR:= .reg [za 8 (zI .add (zv 8) (zK 1))]
noncomputable def qn2:IR:= .seq (.block 1 (zq [zm 5 8,zm 11 1,za 15 (zM 6 (zx 6 (zv 0) (zv 5))),zE 16 (.call {callee:= .value (zt 11),args:= #[zt 15],argTypes:= #[44]}) 4] <| .cond (zv 16) (zq [zm 4 5] <| .ret) .skip)) (qn3)
noncomputable def qgZ:IR:=zq [za 9 (zI .lss (zv 8) (zv 7))] <| .seq (.cond (zv 9) .skip (.exit 0)) (qn2)
noncomputable def qn1:IR:=zq [za 4 (.const (.int .i64 (-1)))] <| .ret
noncomputable def qn4:IR:=zq [za 4 (zK 0),za 7 (zL (zv 0)),za 8 (zK 0)] <| .seq (.block 0 (.loop qgZ)) (qn1)
def qyf:List Nat:=zV 17 [2,3,6,10,12,13,14]
theorem qye:C2 224 19 qyf qn4 [.tmp 4]:=c2 [] Tryz.func224
noncomputable def qmG:IR:=zq [zc 26 144 #[] #[] 175,zA 5 175,zw 175 (zt 5) (zt 26),za 27 (zl (zv 2)),zE 28 (.makeFunc (.func 146) #[] #[zt 2,zt 5]) 98,zc 29 145 #[zt 27,zt 28] #[29,98] 4,za 4 (zn (zv 29))] <| .ret
noncomputable def qmH:IR:=zq [zE 2 (.box 29 (zt 0)) 0,za 4 (zQ false),za 7 (zL (zl (zv 2))),zc 8 127 #[zt 7,zO 1,zO 400] #[3,3,3] 4,za 10 (zn (zv 8)),zg 10 false 11 (zl (zv 2)),zh 10 false 12 98 #[zt 11] #[29] 4,za 15 (.ite (zv 10) (zQ true) (zn (zv 12))),zg 15 false 16 (zv 1),zg 15 false 22 (zM 6 (zx 6 (zl (zv 2)) (zI .sub (zL (zl (zv 2))) (zK 1)))), .eff (some (15,false)) (some 23) (.call {callee:= .value (zt 16),args:= #[zt 22],argTypes:= #[44]}) 4,za 25 (.ite (zv 15) (zQ true) (zn (zv 23)))] <| .seq (.cond (zv 25) (zq [za 4 (zQ false)] <| .ret) .skip) (qmG)
def qw0:List Nat:=zV 30 [3,6,9,13,14,17,18,19,20,21,24]
theorem qwZ:C2 64 31 qw0 qmH [.tmp 4]:=c2 [] Tryz.func64
@[simp] theorem qAM:qf Tryz.prog 127=true:=by kernel_rfl
@[simp] theorem qDH:qf Tryz.prog 22=true:=by kernel_rfl
@[simp] theorem qDC:qf Tryz.prog 24=true:=by kernel_rfl
@[simp] theorem qDB:qf Tryz.prog 280=true:=by kernel_rfl
@[simp] theorem qDG:qf Tryz.prog 220=true:=by kernel_rfl
@[simp] theorem qDF:qf Tryz.prog 223=true:=by kernel_rfl
@[simp] theorem qih:qf Tryz.prog 225=true:=by kernel_rfl
@[simp] theorem qDD:qf Tryz.prog 226=true:=by kernel_rfl
@[simp] theorem qAL:qf Tryz.prog 218=true:=by kernel_rfl
@[simp] theorem qDJ:qf Tryz.prog 145=true:=by kernel_rfl
@[simp] theorem qDI:qf Tryz.prog 147=true:=by kernel_rfl
@[simp] theorem qDA:qf Tryz.prog 98=true:=by kernel_rfl
@[simp] theorem qDE:qf Tryz.prog 224=true:=by kernel_rfl
@[simp] theorem qDK:qf Tryz.prog 144=true:=by kernel_rfl
theorem qbJ (w:World) (n a b:Int):Calls Tryz.prog 127 #[.int .i64 n, .int .i64 a, .int .i64 b] w fun e w'=>e= .returned (.bool (decide (a≤n)&&decide (n≤b)))∧w'=w:=by
 refine qy9 fun ρ r0 r1 r2=> ?_;by_cases h:a≤n
 ·simp -implicitDefEqProofs [qhj,r0,r1,r2,h]
 ·simp -implicitDefEqProofs [qhj,r0,r1,r2,h]
theorem k8 {n:Nat} (h:n<256):IntKind.i64.wrap (n:Int)=(n:Int):=jG (by omega)
def xb (x:NV):Value:= .agg (qj x).toArray
theorem Qy {x:NV} (h:qt x.kv=true):(xb x).cells=(qj x).toArray:=by
 simp [xb,qj,Value.cells,zH h]
section
variable {w:World} {x:NV}
theorem quP (g:qt x.kv=true) (h:x.nd.d.kind<256):Calls Tryz.prog 65 #[xb x] w fun e w'=>e= .returned (.bool (js x.nd.d.kind))∧qc w w':=by
 refine qwX fun ρ r0=> ?_;simp -implicitDefEqProofs [qmF];refine vY fun X w1 j c a _=> ?_;rw [show qd ρ (.tmp 0)=xb x by simp [r0],Qy g] at a;have c0:w1.cell? ⟨X,0,none⟩=some (.int .u8 (x.nd.d.kind:Int)):=by rw [a.cell];rfl
 simp -implicitDefEqProofs [c0,k8 h];refine (qbJ w1 _ 1 10).mono ?_;rintro _ _ ⟨rfl,rfl⟩;simp -implicitDefEqProofs;refine ⟨?_,c⟩;simp only [js];congr 1
 ·exact decide_eq_decide.2 (by omega)
 ·exact decide_eq_decide.2 (by omega)
theorem quQ (g:qt x.kv=true):Calls Tryz.prog 80 #[xb x] w fun e w'=>e= .returned (.bool (vy 20 x.nd.d.kind))∧qc w w':=by
 refine qwL fun ρ r0=> ?_;simp -implicitDefEqProofs [qmx];refine vY fun X w1 h c a _=> ?_;rw [show qd ρ (.tmp 0)=xb x by simp [r0],Qy g] at a;have c0:w1.cell? ⟨X,0,none⟩=some (.int .u8 (x.nd.d.kind:Int)):=by rw [a.cell];rfl
 simp -implicitDefEqProofs [c0];refine ⟨?_,c⟩;simp only [vy];exact decide_eq_decide.2 (by omega)
theorem quM (q:qt x.kv=true) (g:x.nd.d.kind<256):Calls Tryz.prog 222 #[xb x] w fun e w'=>e= .returned (.bool (qaD x.nd.d.kind))∧qc w w':=by
 refine qyi fun ρ r0=> ?_;simp -implicitDefEqProofs [qn6];refine vY fun X w1 E c a _=> ?_;rw [show qd ρ (.tmp 0)=xb x by simp [r0],Qy q] at a;have c0:w1.cell? ⟨X,0,none⟩=some (.int .u8 (x.nd.d.kind:Int)):=by rw [a.cell];rfl
 simp -implicitDefEqProofs [c0,k8 g];refine (qbJ w1 _ 21 31).mono ?_;rintro _ _ ⟨rfl,rfl⟩;generalize x.nd.d.kind=k at g⊢;by_cases z:(21:Int)≤(k:Int)<;>by_cases o:(k:Int)≤31<;>by_cases h:(k:Int)=32<;>by_cases j:(k:Int)=34<;>by_cases t:(k:Int)=35<;>by_cases y:(k:Int)=37<;>
  first
  |(exfalso;omega)
  |(simp -implicitDefEqProofs [z,o,h,j,t,y]
    refine ⟨?_,c⟩;unfold qaD
    first
    |(simp;omega)
    |(rw [Bool.eq_iff_iff];simp;omega))
theorem quN {P:Nat} {k:Nat} (h:qt x.kv=true) (g:Blk w P #[.int .u8 (k:Int)] 5):Calls Tryz.prog 279 #[xb x, .pointer (some ⟨P,0,none⟩)] w fun e w'=>e= .returned (.bool (vy k x.nd.d.kind))∧qc w w':=by
 refine qxH fun ρ r0 r1=> ?_;simp -implicitDefEqProofs [qns];refine vY fun X w1 j a c _=> ?_;rw [show qd ρ (.tmp 0)=xb x by simp [r0],Qy h] at c;have c0:w1.cell? ⟨X,0,none⟩=some (.int .u8 (x.nd.d.kind:Int)):=by rw [c.cell];rfl
 have c1:w1.cell? ⟨P,0,none⟩=some (.int .u8 (k:Int)):=by rw [(g.ext a).cell];rfl
 simp -implicitDefEqProofs [c0,c1,r1];refine ⟨?_,a⟩;simp only [vy];exact decide_eq_decide.2 (by omega)
theorem qus {P:Nat} {m n:Int} (a:Blk w P #[.int .i64 m] 3):Calls Tryz.prog 278 #[.int .i64 n, .pointer (some ⟨P,0,none⟩)] w fun e w'=>e= .returned (.bool (yf m n))∧qc w w':=by
 refine qxJ fun ρ r0 r1=> ?_;have c1:w.cell? ⟨P,0,none⟩=some (.int .i64 m):=by rw [a.cell];rfl
 simp -implicitDefEqProofs [qnt,r0,r1,c1];refine (qbJ w n 0 m).mono ?_;rintro _ _ ⟨rfl,rfl⟩;simp -implicitDefEqProofs;exact ⟨rfl,qV _⟩
theorem quF (s:Bs):Calls Tryz.prog 221 #[.string (qb s)] w fun e w'=>e= .returned (.bool (Qv.contains s))∧qc w w':=by
 refine qyk fun ρ r0=> ?_;simp -implicitDefEqProofs [qn7];refine xc qah (by decide) rfl (by simp [Value.cells]) fun Z w1 g c a _=> ?_;simp -implicitDefEqProofs [Value.cells,r0] at a⊢;refine (L01.qfw s (qcN (l:=Qv) (by simpa [Qv,qi,qb] using a) (by decide))).mono ?_;rintro _ _ ⟨rfl,rfl⟩;simp -implicitDefEqProofs;exact c
theorem quY (v:Value):Calls Tryz.prog 219 #[v] w fun e w'=>e= .returned (.bool true)∧qc w w':=by
 refine qyo fun ρ r0=> ?_;simp -implicitDefEqProofs [qoa];exact qV _
theorem quJ (g:L01.G w) (s:Bs) (j:s.length<4294967281):Calls Tryz.prog 280 #[.string (qb s)] w fun e w'=>e= .returned (.bool (decide (s=[])||xN s))∧qc w w':=by
 refine qxF fun ρ r0=> ?_;have c:(⟨#[]⟩:ByteArray)=qb []:=rfl;by_cases h:s=[]
 ·subst h;simp -implicitDefEqProofs [qgN,r0,c];exact qV _
 ·simp -implicitDefEqProofs [qgN,r0,c,xH,h];refine (qdf g s (by omega)).mono ?_;rintro _ w1 ⟨rfl,a⟩;simp -implicitDefEqProofs;exact a
theorem quW (H:L01.G w) (I:xA w) (E:qt x.kv=true) (J:x.nd.d.name.length<4294967281) (O:x.nd.d.vr.length<4294967281) (y:x.nd.d.typ.length<4294967281):Calls Tryz.prog 226 #[xb x] w fun e w'=>e= .returned (.bool (qcc x.nd.d))∧qc w w':=by
 refine qya fun ρ r0=> ?_;have q:(⟨#[]⟩:ByteArray)=qb []:=rfl;simp -implicitDefEqProofs [qnY];refine vY fun X w1 U g k _=> ?_;rw [show qd ρ (.tmp 0)=xb x by simp [r0],Qy E] at k;have o:∀W,qc w1 W→W.cell? ⟨X,1,none⟩=some (.string (qb x.nd.d.name))∧W.cell? ⟨X,2,none⟩=some (.string (qb x.nd.d.vr))∧W.cell? ⟨X,3,none⟩=some (.string (qb x.nd.d.typ)):=fun W z=>by
  have:=(k.ext z);refine ⟨by rw [this.cell];rfl,by rw [this.cell];rfl,by rw [this.cell];rfl⟩
 have c:=o w1 (qV _);have j:=H.ext g;unfold qcc;by_cases t:x.nd.d.vr=[]
 ·simp -implicitDefEqProofs [c,q,xH,t];refine (L01.Qf j _).mono ?_;rintro _ w2 ⟨rfl,a⟩;have c2:=o w2 a;cases hn:qo x.nd.d.name with
  |false=>
   simp -implicitDefEqProofs;exact g.trans' a
  |true=>
   simp -implicitDefEqProofs [c2];refine (quJ (j.ext a) _ y).mono ?_;rintro _ w3 ⟨rfl,h⟩;simp -implicitDefEqProofs;exact (g.trans' a).trans' h
 ·simp -implicitDefEqProofs [c,q,xH,t,qnX];refine (qdf j _ (by omega)).mono ?_;rintro _ w2 ⟨rfl,a⟩;have c2:=o w2 a;cases hn:xN x.nd.d.vr with
  |false=>
   simp -implicitDefEqProofs;exact g.trans' a
  |true=>
   simp -implicitDefEqProofs [c2];refine (qlb (j.ext a) ((I.ext g).ext a) _ J).mono ?_;rintro _ w3 ⟨rfl,h⟩;have c3:=o w3 (a.trans' h);cases S:wa x.nd.d.name with
   |false=>
    simp -implicitDefEqProofs;exact (g.trans' a).trans' h
   |true=>
    simp -implicitDefEqProofs [c3,q,xH];exact (g.trans' a).trans' h
end
def qF (F:FuncId) (caps:Array Value):Value:= .func (.func F) #[] caps
def zP (_:World) (v:Value) (f:Bs→Bool):Prop:=(v=qF 77 #[]∧f=qo)∨(v=qF 22 #[]∧f=xN)∨(v=qF 221 #[]∧f=Qv.contains)∨(v=qF 219 #[]∧f=y8)
def vz (w:World) (v:Value) (f:Nat→Bool):Prop:=(v=qF 65 #[]∧f=js)∨(v=qF 80 #[]∧f=vy 20)∨(v=qF 222 #[]∧f=qaD)∨∃(P k:Nat),v=qF 279 #[.pointer (some ⟨P,0,none⟩)]∧Blk w P #[.int .u8 (k:Int)] 5∧f=vy k
def kb (w:World) (v:Value) (f:Int→Bool):Prop:=∃(P:Nat) (m:Int),v=qF 278 #[.pointer (some ⟨P,0,none⟩)]∧Blk w P #[.int .i64 m] 3∧f=yf m
section
variable {w w':World} {v:Value} {p:Nat→TypeId→Prop}
theorem zP.at' {f:Bs→Bool} (h:zP w v f):zP w' v f:=h
theorem vz.at' {f:Nat→Bool} (h:vz w v f) (c:qv p w w') (g:∀k,p k 5):vz w' v f:=by
 rcases h with h|h|h|⟨P,k,o,j,a⟩
 ·exact .inl h
 ·exact .inr (.inl h)
 ·exact .inr (.inr (.inl h))
 ·exact .inr (.inr (.inr ⟨P,k,o,j.at' c (g P),a⟩))
theorem kb.at' {f:Int→Bool} (h:kb w v f) (c:qv p w w') (g:∀k,p k 3):kb w' v f:=by
 obtain ⟨P,m,o,j,a⟩:=h;exact ⟨P,m,o,j.at' c (g P),a⟩
theorem zP.fn {f:Bs→Bool} (h:zP w v f) (c:L01.G w):∃F caps,v=qF F caps∧qf Tryz.prog F=true∧∀s:Bs,s.length<4294967281→Calls Tryz.prog F (#[.string (qb s)]++caps) w fun e w'=>e= .returned (.bool (f s))∧qc w w':=by
 rcases h with ⟨rfl,rfl⟩|⟨rfl,rfl⟩|⟨rfl,rfl⟩|⟨rfl,rfl⟩
 ·exact ⟨77, #[],rfl,by kernel_rfl,fun s _=>by simpa using L01.Qf c s⟩
 ·exact ⟨22, #[],rfl,by kernel_rfl,fun s a=>by simpa using qdf c s (by omega)⟩
 ·exact ⟨221, #[],rfl,by kernel_rfl,fun s a=>by simpa using quF s⟩
 ·exact ⟨219, #[],rfl,by kernel_rfl,fun s a=>quY (w:=w) (.string (qb s))⟩
theorem vz.fn {f:Nat→Bool} (h:vz w v f):∃F caps,v=qF F caps∧qf Tryz.prog F=true∧∀W,qc w W→∀x:NV,qt x.kv=true→x.nd.d.kind<256→Calls Tryz.prog F (#[xb x]++caps) W fun e w'=>e= .returned (.bool (f x.nd.d.kind))∧qc W w':=by
 rcases h with ⟨rfl,rfl⟩|⟨rfl,rfl⟩|⟨rfl,rfl⟩|⟨P,k,rfl,j,rfl⟩
 ·exact ⟨65, #[],rfl,by kernel_rfl,fun W _ x a c=>by simpa using quP a c⟩
 ·exact ⟨80, #[],rfl,by kernel_rfl,fun W _ x a _=>by simpa using quQ a⟩
 ·exact ⟨222, #[],rfl,by kernel_rfl,fun W _ x a c=>by simpa using quM a c⟩
 ·exact ⟨279, #[.pointer (some ⟨P,0,none⟩)],rfl,by kernel_rfl,fun W g x a _=>by simpa using quN a (j.ext g)⟩
theorem kb.fn {f:Int→Bool} (h:kb w v f):∃F caps,v=qF F caps∧qf Tryz.prog F=true∧∀W,qc w W→∀n:Int,Calls Tryz.prog F (#[.int .i64 n]++caps) W fun e w'=>e= .returned (.bool (f n))∧qc W w':=by
 obtain ⟨P,m,rfl,c,rfl⟩:=h;exact ⟨278, #[.pointer (some ⟨P,0,none⟩)],rfl,by kernel_rfl,fun W a n=>by simpa using qus (c.ext a)⟩
theorem qgu:vz w (qF 65 #[]) js:= .inl ⟨rfl,rfl⟩
theorem qlZ:vz w (qF 80 #[]) (vy 20):= .inr (.inl ⟨rfl,rfl⟩)
theorem qwr:vz w (qF 222 #[]) qaD:= .inr (.inr (.inl ⟨rfl,rfl⟩))
theorem qj1:zP w (qF 77 #[]) qo:= .inl ⟨rfl,rfl⟩
theorem qj0:zP w (qF 22 #[]) xN:= .inr (.inl ⟨rfl,rfl⟩)
theorem qs0:zP w (qF 221 #[]) Qv.contains:= .inr (.inr (.inl ⟨rfl,rfl⟩))
theorem qs1:zP w (qF 219 #[]) y8:= .inr (.inr (.inr ⟨rfl,rfl⟩))
theorem vz.is {f:Nat→Bool} (h:vz w v f):∃F caps,v=qF F caps:=by obtain ⟨F,caps,h,_⟩:=h.fn;exact ⟨F,caps,h⟩
theorem kb.is {f:Int→Bool} (h:kb w v f):∃F caps,v=qF F caps:=by obtain ⟨F,caps,h,_⟩:=h.fn;exact ⟨F,caps,h⟩
theorem zP.is {f:Bs→Bool} (h:zP w v f):∃F caps,v=qF F caps:=by
 rcases h with ⟨rfl,_⟩|⟨rfl,_⟩|⟨rfl,_⟩|⟨rfl,_⟩<;>exact ⟨_,_,rfl⟩
theorem quO (k:Nat):Calls Tryz.prog 223 #[.int .u8 (k:Int)] w fun e w'=>∃v,e= .returned v∧vz w' v (vy k)∧qc w w':=by
 refine qyg fun ρ r0=> ?_;simp -implicitDefEqProofs [qn5];refine vY fun X w1 g c a _=> ?_;simp -implicitDefEqProofs [r0,Value.cells] at a⊢;exact ⟨.inr (.inr (.inr ⟨X,k,rfl,a,rfl⟩)),c⟩
theorem qut (m:Int):Calls Tryz.prog 220 #[.int .i64 m] w fun e w'=>∃v,e= .returned v∧kb w' v (yf m)∧qc w w':=by
 refine qym fun ρ r0=> ?_;simp -implicitDefEqProofs [qn8];refine vY fun X w1 g c a _=> ?_;simp -implicitDefEqProofs [r0,Value.cells] at a⊢;exact ⟨⟨X,m,rfl,a,rfl⟩,c⟩
end
def zi {α:Type} (R:Value→α→Prop) (v:Value):Option α→Prop
 |none=>v= .nilFunc
 |some f=>R v f
theorem zi.imp {α:Type} {R R':Value→α→Prop} {v:Value} (h:∀f,R v f→R' v f):∀{o:Option α},zi R v o→zi R' v o
 |none,a=>a
 |some _,a=>h _ a
noncomputable def qb1:Code:=((Tryz.f144.body).getD .skip)
noncomputable def qoT:IR:= .ret
noncomputable def qoU:IR:=zq [zA 0 175,za 1 (.const (.func (.func 218) #[] #[])),zE 4 (.build 241 #[(0,(.func 77)),(2,(.func 22))]) 241,zA 2 241,zw 241 (zt 2) (zt 4),za 3 (.const (.func (.func 219) #[] #[]))] <| .seq (.raw (qI qb1 4)) (qoT)
def qdX:List Nat:=zV 113 []
theorem qyZ:C0 144 113 qdX qoU [.cellN 0 38]:=c0 [4] Tryz.func144
def xr (w:World) (v:Value) (l:List (Nat→Bool)):Prop:=(v= .slice none 0 0∧l=[])∨∃B cs,v= .slice (some ⟨B,0,none⟩) l.length l.length∧Blk w B (List.toArray cs) 98∧vq (vz w) cs l
theorem xr.nil {w:World}:xr w (.slice none 0 0) []:= .inl ⟨rfl,rfl⟩
theorem xr.cons {w:World} {v:Value} {l:List (Nat→Bool)} (h:xr w v l) (a:l≠[]):∃B cs,v= .slice (some ⟨B,0,none⟩) l.length l.length∧Blk w B (List.toArray cs) 98∧vq (vz w) cs l:=by
 rcases h with ⟨_,h⟩|h
 ·exact absurd h a
 ·exact h
def zX:Nat→TypeId→Prop:=fun _ T=>T≠175
theorem xr.at' {w w':World} {v:Value} {l:List (Nat→Bool)} (h:xr w v l) (a:qv zX w w'):xr w' v l:=by
 rcases h with h|⟨B,cs,g,j,c⟩
 ·exact .inl h
 ·exact .inr ⟨B,cs,g,j.at' a (by simp [zX]),c.imp fun _ _ h=>h.at' a fun _=>by simp [zX]⟩
theorem xr.isl {w:World} {v:Value} {l:List (Nat→Bool)} (h:xr w v l) (g:l.length<4611686018427387904:=by decide):qt v=true:=by
 rcases h with ⟨rfl,_⟩|⟨B,cs,rfl,c,a⟩
 ·rfl
 ·simp [qt];try omega
structure RowC (w:World) (nm vr ty nu fi mo:Value) (r:Row):Prop where
 name:zi (zP w) nm r.name
 vr:zi (zP w) vr r.vr
 typ:zi (zP w) ty r.typ
 n:zi (kb w) nu r.n
 first:xr w fi r.first
 more:zi (vz w) mo r.more
theorem RowC.at' {w w':World} {nm vr ty nu fi mo:Value} {r:Row} (h:RowC w nm vr ty nu fi mo r) (a:qv zX w w'):RowC w' nm vr ty nu fi mo r:=
 ⟨h.name.imp fun _ h=>h,h.vr.imp fun _ h=>h,h.typ.imp fun _ h=>h,h.n.imp fun _ h=>h.at' a fun _=>by simp [zX],h.first.at' a,h.more.imp fun _ h=>h.at' a fun _=>by simp [zX]⟩
def qdG:Value→Bool| .nilFunc=>true| .func .. =>true|_=>false
theorem wv {v:Value} (h:qdG v=true):v.cells= #[v]∧v.oneCell=true:=by cases v<;>first|(cases h;done)|exact ⟨rfl,rfl⟩
theorem zi.fnS {w:World} {v:Value}:∀{o:Option (Bs→Bool)},zi (zP w) v o→qdG v=true
 |none,h=>by cases h;rfl
 |some _,h=>by obtain ⟨F,caps,rfl⟩:=zP.is (w:=w) h;rfl
theorem zi.fnN {w:World} {v:Value}:∀{o:Option (Int→Bool)},zi (kb w) v o→qdG v=true
 |none,h=>by cases h;rfl
 |some _,h=>by obtain ⟨F,caps,rfl⟩:=kb.is h;rfl
theorem zi.fnK {w:World} {v:Value}:∀{o:Option (Nat→Bool)},zi (vz w) v o→qdG v=true
 |none,h=>by cases h;rfl
 |some _,h=>by obtain ⟨F,caps,rfl⟩:=vz.is h;rfl
theorem xr.one {w:World} {v:Value} {l:List (Nat→Bool)} (h:xr w v l):v.cells= #[v]∧v.oneCell=true:=by
 rcases h with ⟨rfl,_⟩|⟨B,cs,rfl,_⟩<;>exact ⟨rfl,rfl⟩
def vv (nm vr ty nu fi mo:Value) (r:Row):Array Value:= #[nm,vr,ty,nu,fi,mo, .int .i64 (r.least:Int), .int .i64 (r.most:Int)]
theorem RowC.cells {w:World} {nm vr ty nu fi mo:Value} {r:Row} (h:RowC w nm vr ty nu fi mo r):(Value.agg (vv nm vr ty nu fi mo r)).cells=vv nm vr ty nu fi mo r:=by
 have j:=(wv h.name.fnS).1;have o:=(wv h.vr.fnS).1;have a:=(wv h.typ.fnS).1;have g:=(wv h.n.fnN).1;have k:=h.first.one.1;have c:=(wv h.more.fnK).1;simp [Value.cells,vv,j,o,a,g,k,c]
def qa0 (w:World) (v:Value) (r:Row):Prop:=∃nm vr ty nu fi mo,v= .agg (vv nm vr ty nu fi mo r)∧RowC w nm vr ty nu fi mo r
def kM (w:World) (v:Value) (r:Row):Prop:=∃X nm vr ty nu fi mo,v= .pointer (some ⟨X,0,none⟩)∧Blk w X (vv nm vr ty nu fi mo r) 241∧RowC w nm vr ty nu fi mo r
theorem qa0.at' {w w':World} {v:Value} {r:Row} (h:qa0 w v r) (a:qv zX w w'):qa0 w' v r:=by
 obtain ⟨nm,vr,ty,nu,fi,mo,c,g⟩:=h;exact ⟨nm,vr,ty,nu,fi,mo,c,g.at' a⟩
theorem kM.at' {w w':World} {v:Value} {r:Row} (h:kM w v r) (a:qv zX w w'):kM w' v r:=by
 obtain ⟨X,nm,vr,ty,nu,fi,mo,g,j,c⟩:=h;exact ⟨X,nm,vr,ty,nu,fi,mo,g,j.at' a (by simp [zX]),c.at' a⟩
theorem kM.ptr {w:World} {v:Value} {r:Row} (h:kM w v r):∃X,v= .pointer (some ⟨X,0,none⟩)∧kM w (.pointer (some ⟨X,0,none⟩)) r:=by
 obtain ⟨X,nm,vr,ty,nu,fi,mo,rfl,c,a⟩:=h;exact ⟨X,rfl,X,nm,vr,ty,nu,fi,mo,rfl,c,a⟩
def Qb (w:World) (v:Value):Option Row→Prop
 |none=>v= .pointer none
 |some r=>kM w v r
theorem Qb.at' {w w':World} {v:Value} (a:qv zX w w'):∀{r:Option Row},Qb w v r→Qb w' v r
 |none,h=>h
 |some _,h=>kM.at' h a
def yc (w:World) (cs:List Value):Prop:=cs.length=38∧∀k,k<38→Qb w (cs.getD k undef) (xu k)
theorem yc.at' {w w':World} {cs:List Value} (h:yc w cs) (a:qv zX w w'):yc w' cs:=⟨h.1,fun k c=>Qb.at' a (h.2 k c)⟩
theorem qsQ:xX Tryz.prog 239=some (98,1):=by kernel_rfl
theorem qss:jo Tryz.prog 239 1=true:=by kernel_rfl
theorem quS {w:World} {nm vr ty nu fi mo kv:Value} {r:Row} {l:List (Nat→Bool)} (h:RowC w nm vr ty nu fi mo r) (o:xr w kv l) (Z:l.length<4611686018427387904:=by decide):
  Calls Tryz.prog 218 #[.agg (vv nm vr ty nu fi mo r),kv] w fun e w'=>∃v,e= .returned v∧kM w' v (jU r l)∧qc w w':=by
 have t:qh kv=l.length:=by
  rcases o with ⟨rfl,rfl⟩|⟨B,cs,rfl,_⟩<;>rfl
 have c:=o.isl Z;refine qyq fun ρ r0 r1=> ?_;simp -implicitDefEqProofs [qob];refine vY fun X w1 I E k _=> ?_;rw [show qd ρ (.tmp 0)=_ from r0,h.cells] at k;simp -implicitDefEqProofs [r0,r1,c,t];refine qS (B:=X) (i:=4) (by simp) k (by simp [vv]) (by simpa [r1] using o.one.1) (by simpa [r1] using o.one.2) qss fun w2 S U=> ?_;have z:Blk w2 X #[nm,vr,ty,nu,kv,mo, .int .i64 (r.least:Int), .int .i64 (r.most:Int)] 241:=by simpa [vv,r1] using U
 simp -implicitDefEqProofs;refine qS (B:=X) (i:=6) (by simp) z (by simp) (by simp [Value.cells]) (by simp) jS fun w3 Y V=> ?_;have a:Blk w3 X #[nm,vr,ty,nu,kv,mo, .int .i64 (l.length:Int), .int .i64 (r.most:Int)] 241:=by simpa using V
 simp -implicitDefEqProofs;refine qS (B:=X) (i:=7) (by simp) a (by simp) (by simp [Value.cells]) (by simp) jS fun H J O=> ?_;have q:Blk H X (vv nm vr ty nu kv mo (jU r l)) 241:=by simpa [vv,jU] using O
 have j:qc w H:=J.ext (Y.ext (S.ext E I) I) I;simp -implicitDefEqProofs;have y:qv zX w H:=qv.ext j;have g:=h.at' y;exact ⟨⟨X,nm,vr,ty,nu,kv,mo,rfl,q,⟨g.name,g.vr,g.typ,g.n,o.at' y,g.more⟩⟩,j⟩
inductive SC where
 |nm|ty|op|an
def SC.f:SC→Bs→Bool| .nm=>qo| .ty=>xN| .op=>Qv.contains| .an=>y8
inductive KC where
 |ex|bl|st|is (k:Nat)
def KC.f:KC→Nat→Bool| .ex=>js| .bl=>vy 20| .st=>qaD| .is k=>vy k
structure RC where
 name:Option SC:=none
 vr:Option SC:=none
 typ:Option SC:=none
 n:Option Int:=none
 first:List KC:=[]
 more:Option KC:=none
 least:Nat:=0
 most:Nat:=0
def RC.r (c:RC):Row:=⟨c.name.map SC.f,c.vr.map SC.f,c.typ.map SC.f,c.n.map yf,c.first.map KC.f,c.more.map KC.f,c.least,c.most⟩
def qhp (c:RC) (l:List KC):RC:={c with first:=l,least:=l.length,most:=l.length}
theorem qzB (c:RC) (l:List KC):(qhp c l).r=jU c.r (l.map KC.f):=by simp [qhp,RC.r,jU]
def tyC:RC:={name:=some .nm,typ:=some .ty}
inductive AC where
 |fx|an|num (m:Int)|knd (k:KC)|kids (l:List KC)|rowA (r:RC)|rowP (r:RC)|arr (l:List (Option RC))
def qiF (w:World) (cs:List Value) (l:List (Option RC)):Prop:=cs.length=38∧l.length=38∧∀k,k<38→Qb w (cs.getD k undef) ((l.getD k none).map RC.r)
def AC.holds (w:World) (v:Value):AC→Prop
 | .fx=>v=qF 218 #[]
 | .an=>v=qF 219 #[]
 | .num m=>kb w v (yf m)
 | .knd k=>vz w v k.f
 | .kids l=>xr w v (l.map KC.f)∧l.length<9
 | .rowA r=>qa0 w v r.r
 | .rowP r=>kM w v r.r
 | .arr l=>∃cs:List Value,v= .agg cs.toArray∧qiF w cs l
theorem AC.at' {w w':World} {v:Value} (c:qv zX w w'):∀{a:AC},a.holds w v→a.holds w' v
 | .fx,h=>h
 | .an,h=>h
 | .num _,h=>kb.at' h c fun _=>by simp [zX]
 | .knd _,h=>vz.at' h c fun _=>by simp [zX]
 | .kids _,h=>⟨xr.at' h.1 c,h.2⟩
 | .rowA _,h=>qa0.at' h c
 | .rowP _,h=>kM.at' h c
 | .arr _,⟨cs,j,g⟩=>⟨cs,j,g.1,g.2.1,fun k o=>Qb.at' c (g.2.2 k o)⟩
def yh (fs:List AC) (ds:List Nat) (t:Nat):Option AC:=bif ds.contains (t - 5)&&Nat.ble 5 t then fs[t - 5]? else none
def kOp (fs:List AC) (ds:List Nat):Operand→Option KC
 | .func 65=>some .ex
 | .func 80=>some .bl
 | .func 222=>some .st
 | .tmp t=>match yh fs ds t with|some (.knd k)=>some k|_=>none
 |_=>none
def sOp (fs:List AC) (ds:List Nat):Operand→Option SC
 | .func 77=>some .nm
 | .func 22=>some .ty
 | .func 221=>some .op
 | .tmp t=>match yh fs ds t with|some .an=>some .an|_=>none
 |_=>none
def nOp (fs:List AC) (ds:List Nat):Operand→Option Int
 | .tmp t=>match yh fs ds t with|some (.num m)=>some m|_=>none
 |_=>none
def lOp (fs:List AC) (ds:List Nat):Operand→Option (List KC)
 | .const (.slice none 0 0)=>some []
 | .tmp t=>match yh fs ds t with|some (.kids l)=>some l|_=>none
 |_=>none
def iOp:Operand→Option Nat
 | .const (.int .i64 (.ofNat n))=>some n
 |_=>none
def pOp (fs:List AC) (ds:List Nat):Operand→Option RC
 | .tmp t=>match yh fs ds t with|some (.rowP r)=>some r|_=>none
 |_=>none
def aOp (fs:List AC) (ds:List Nat):Operand→Option RC
 | .tmp t=>match yh fs ds t with|some (.rowA r)=>some r|_=>none
 |_=>none
def qj2 (fs:List AC) (ds:List Nat) (c:RC) (o:Operand):Nat→Option RC
 |0=>(sOp fs ds o).map fun s=>{c with name:=some s}
 |1=>(sOp fs ds o).map fun s=>{c with vr:=some s}
 |2=>(sOp fs ds o).map fun s=>{c with typ:=some s}
 |3=>(nOp fs ds o).map fun s=>{c with n:=some s}
 |4=>(lOp fs ds o).map fun s=>{c with first:=s}
 |5=>(kOp fs ds o).map fun s=>{c with more:=some s}
 |6=>(iOp o).map fun s=>{c with least:=s}
 |7=>(iOp o).map fun s=>{c with most:=s}
 |_=>none
def qfH (fs:List AC) (ds:List Nat):List (Nat×Operand)→RC→Option RC
 |[],c=>some c
 |p::ps,c=>(qj2 fs ds c p.2 p.1).bind (qfH fs ds ps)
def qes (fs:List AC) (ds:List Nat):List (Nat×Operand)→List (Option RC)→Option (List (Option RC))
 |[],l=>some l
 |p::ps,l=>bif Nat.blt p.1 38 then (pOp fs ds p.2).bind fun r=>qes fs ds ps (l.set p.1 (some r)) else none
def qdz (fs:List AC) (ds:List Nat):Nat→List (Nat×Operand)→Option (List KC)
 |_,[]=>some []
 |i,p::ps=>bif Nat.beq p.1 i then (kOp fs ds p.2).bind fun k=>(qdz fs ds (i+1) ps).map (k:: ·) else none
def qeZ (fs:List AC) (ds:List Nat):St→Option AC
 | .asg none _ (.var 1)=>some .fx
 | .asg none _ (.var 3)=>some .an
 | .asg none _ (.op1 (.loadN 8) (.var 2))=>some (.rowA tyC)
 | .eff none (some _) (.call ⟨.value (.func 220),⟨[.const (.int .i64 n)]⟩,_⟩) _=>some (.num n)
 | .eff none (some _) (.call ⟨.value (.func 223),⟨[.const (.int .u8 (.ofNat k))]⟩,_⟩) _=>some (.knd (.is k))
 | .eff none (some _) (.build 241 ps) _=>(qfH fs ds ps.toList {}).map .rowA
 | .eff none (some _) (.call ⟨.value (.tmp f),⟨[a,o]⟩,_⟩) _=>match yh fs ds f with
  |some .fx=>(aOp fs ds a).bind fun r=>(lOp fs ds o).map fun l=> .rowP (qhp r l)
  |_=>none
 | .eff none (some _) (.box 241 a) _=>(aOp fs ds a).map .rowP
 | .eff none (some _) (.buildSlice 239 n ps) _=>(qdz fs ds 0 ps.toList).bind fun l=>bif Nat.beq n l.length&&Nat.blt n 9 then some (.kids l) else none
 | .eff none (some _) (.build 175 ps) _=>(qes fs ds ps.toList (List.replicate 38 none)).map .arr
 |_=>none
def qqb:St→Option Nat
 | .asg _ d _=>some d
 | .eff _ d _ _=>d
def yu:List (Option St)→List (List Nat)→List AC→Option (List AC)
 |some s::ss,d::ds,fs=>match qqb s with
  |some t=>bif Nat.beq t (fs.length+5) then (qeZ fs d s).bind fun F=>yu ss ds (fs++[F]) else none
  |none=>none
 |[],_,fs=>some fs
 |_,_,_=>none
theorem qpN:∀(ss:List (Option St)) (ds:List (List Nat)) (fs r:List AC),yu ss ds fs=some r→(∃q,r=fs++q)∧r.length=fs.length+ss.length∧
  ∀i s d,ss[i]? =some (some s)→ds[i]? =some d→∃p q F,r=p++F::q∧p.length=fs.length+i∧qeZ p d s=some F∧qqb s=some (p.length+5)
 |[],_,fs,r,h=>by
  simp only [yu,Option.some.injEq] at h;subst h;exact ⟨⟨[],by simp⟩,by simp,fun i s d h=>by simp at h⟩
 |none::_,ds,fs,r,h=>by cases ds<;>simp [yu] at h
 |some s::_,[],fs,r,h=>by simp [yu] at h
 |some s::ss,d::ds,fs,r,h=>by
  unfold yu at h;split at h
  ·rename_i t z;cases a:Nat.beq t (fs.length+5) with
   |false=>rw [a] at h;cases h
   |true=>
    rw [a] at h;obtain ⟨F,o,h⟩:=Option.bind_eq_some_iff.1 h;obtain ⟨⟨q,c⟩,I,J⟩:=qpN ss ds _ r h;have:=Nat.eq_of_beq_eq_true a;subst this;refine ⟨⟨F::q,by simp [c]⟩,by simp at I⊢;omega,fun i y H g j=> ?_⟩;cases i with
    |zero=>
     cases g;cases j;exact ⟨fs,q,F,by simp [c],rfl,o,z⟩
    |succ i=>
     obtain ⟨p,q',F',O,E,k⟩:=J i y H g j;exact ⟨p,q',F',O,by simp at E;omega,k⟩
  ·cases h
noncomputable def yE:List (Option St):=(qab Tryz.prog 113 qdX (qI qb1 4)).getD []
noncomputable def qaR:List (List Nat):=qee (qI qb1 4)
noncomputable def yX:List AC:=(yu (yE.take 108) qaR []).getD []
theorem qzF:yu (yE.take 108) qaR []=some yX:=by
 have h:(yu (yE.take 108) qaR []).isSome=true:=by kernel_rfl
 obtain ⟨r,a⟩:=Option.isSome_iff_exists.1 h;unfold yX;rw [a];rfl
theorem qpL:yX.length=108:=by kernel_rfl
def qBt:Option AC→List (Option RC)|some (.arr l)=>l|_=>[]
noncomputable def qe0:List (Option RC):=qBt yX[107]?
theorem qzG:yX[107]? =some (.arr qe0):=by kernel_rfl
theorem qr5:(List.range 38).map (fun k=>(qe0.getD k none).map RC.r)=(List.range 38).map xu:=by kernel_rfl
theorem qr6 {k:Nat} (a:k<38):(qe0.getD k none).map RC.r=xu k:=by
 have h:=congrArg (fun l=>l[k]?) qr5;simpa [a] using h
structure J144 (w0:World) (A T:Nat) (L:Nat→Bool) (ρ:qa) (w:World):Prop where
 ext:qc w0 w
 r0:ρ 0= .pointer (some ⟨A,0,none⟩)
 r1:ρ 1=qF 218 #[]
 r2:ρ 2= .pointer (some ⟨T,0,none⟩)
 r3:ρ 3=qF 219 #[]
 A0:w0.heap.size≤A
 bA:L 108=false→Blk w A (Array.replicate 38 (.pointer none)) 175
 fin:L 108=true→∃cs:List Value,Blk w A cs.toArray 175∧yc w cs
 ty:kM w (.pointer (some ⟨T,0,none⟩)) tyC.r
 facts:∀(k:Nat) (F:AC),yX[k]? =some F→L k=true→F.holds w (ρ (k+5))
def xD (i:Nat) (L:Nat→Bool):Nat→Bool:=fun k=>if k=i then true else L k
theorem J144.put {w0:World} {A T:Nat} {L:Nat→Bool} {ρ:qa} {w w':World} {v:Value} (h:J144 w0 A T L ρ w) (i:Nat) (F:AC) (q:yX[i]? =some F) (g:qc w w') (y:F.holds w' v):J144 w0 A T (xD i L) (qn ρ (i+5) v) w':=by
 have E:i<108:=by
  have:=(List.getElem?_eq_some_iff.1 q).1
  rwa [qpL] at this
 have ne:∀k,k<5→qn ρ (i+5) v k=ρ k:=fun k j=>by simp [qn];omega
 have a:xD i L 108=L 108:=by unfold xD;rw [if_neg (by omega)]
 have o:qv zX w w':=qv.ext g;refine ⟨h.ext.trans' g,by rw [ne 0 (by omega)];exact h.r0,by rw [ne 1 (by omega)];exact h.r1,by rw [ne 2 (by omega)];exact h.r2,by rw [ne 3 (by omega)];exact h.r3,h.A0,fun e=>(h.bA (a▸e)).ext g,fun e=> ?_,h.ty.at' o,fun k F' c hL=> ?_⟩
 ·obtain ⟨cs,z,t⟩:=h.fin (a▸e);exact ⟨cs,z.ext g,t.at' o⟩
 ·by_cases j:k=i
  ·subst j;rw [q] at c;cases c;simpa [qn] using y
  ·have e:qn ρ (i+5) v (k+5)=ρ (k+5):=by simp [qn,j]
   rw [e];exact AC.at' o (h.facts k F' c (by simpa [xD,j] using hL))
section
variable {w0:World} {A T:Nat} {L:Nat→Bool} {ρ:qa} {w:World} {Q:Ks} {K:qa→World→Prop} {p:List AC} {ds:List Nat}
def ya (p:List AC) (ds:List Nat) (ρ:qa) (w:World):Prop:=∀t a,yh p ds t=some a→a.holds w (ρ t)
theorem ql0 (c:ya p ds ρ w) {o:Operand} {k:KC} (h:kOp p ds o=some k):vz w (qd ρ o) k.f:=by
 unfold kOp at h;split at h<;>first|(cases h;done)|(cases h;first|exact qgu|exact qlZ|exact qwr)|skip
 rename_i t;split at h
 ·rename_i g a;cases h;exact c t _ a
 ·cases h
theorem qfx (c:ya p ds ρ w) {o:Operand} {k:SC} (h:sOp p ds o=some k):zP w (qd ρ o) k.f:=by
 unfold sOp at h;split at h<;>first|(cases h;done)|(cases h;first|exact qj1|exact qj0|exact qs0)|skip
 rename_i t;split at h
 ·rename_i a;cases h;have e:ρ t=qF 219 #[]:=c t _ a;show zP w (ρ t) y8;rw [e];exact qs1
 ·cases h
theorem qvK (c:ya p ds ρ w) {o:Operand} {m:Int} (h:nOp p ds o=some m):kb w (qd ρ o) (yf m):=by
 unfold nOp at h;split at h
 ·rename_i t;split at h
  ·rename_i a;cases h;exact c t _ a
  ·cases h
 ·cases h
theorem qlT (c:ya p ds ρ w) {o:Operand} {l:List KC} (h:lOp p ds o=some l):xr w (qd ρ o) (l.map KC.f)∧l.length<9:=by
 unfold lOp at h;split at h
 ·cases h;exact ⟨.nil,by decide⟩
 ·rename_i t;split at h
  ·rename_i a;cases h;exact c t _ a
  ·cases h
 ·cases h
theorem qu5 (c:ya p ds ρ w) {o:Operand} {r:RC} (h:pOp p ds o=some r):kM w (qd ρ o) r.r:=by
 unfold pOp at h;split at h
 ·rename_i t;split at h
  ·rename_i a;cases h;exact c t _ a
  ·cases h
 ·cases h
theorem qq3 (c:ya p ds ρ w) {o:Operand} {r:RC} (h:aOp p ds o=some r):qa0 w (qd ρ o) r.r:=by
 unfold aOp at h;split at h
 ·rename_i t;split at h
  ·rename_i a;cases h;exact c t _ a
  ·cases h
 ·cases h
theorem qpt {o:Operand} {n:Nat} (h:iOp o=some n):qd ρ o= .int .i64 (n:Int):=by
 unfold iOp at h;split at h
 ·cases h;rfl
 ·cases h
theorem qpK {pl:Nat→Option (Nat×Nat)} {cs:List Value} {i:Nat} {v:Value} {rest:List (Nat×Value)} (a:pl i=some (i,1)) (c:v.cells= #[v]) (g:i<cs.length):
  Instr.fill pl cs.toArray ((i,v)::rest)=Instr.fill pl (cs.set i v).toArray rest:=by
 rw [Instr.fill,a];simp [c,show¬cs.length<i+1 by omega]
theorem qkp (O:ya p ds ρ w) {pl:Nat→Option (Nat×Nat)} (hp:∀i,i<8→pl i=some (i,1)):∀(ps:List (Nat×Operand)) (c r:RC),qfH p ds ps c=some r→∀{nm vr ty nu fi mo:Value},RowC w nm vr ty nu fi mo c.r→
  ∃z y J H E I,Instr.fill pl (vv nm vr ty nu fi mo c.r) (ps.map fun q=>(q.1,qd ρ q.2))=some (vv z y J H E I r.r)∧RowC w z y J H E I r.r
 |[],c,r,h,nm,vr,ty,nu,fi,mo,j=>by
  cases h;exact ⟨nm,vr,ty,nu,fi,mo,rfl,j⟩
 |q::ps,c,r,h,nm,vr,ty,nu,fi,mo,j=>by
  obtain ⟨c1,t,h2⟩:=Option.bind_eq_some_iff.1 h;obtain ⟨i,o⟩:=q;have go:∀{S U ty1 Y V Z:Value},i<8→(qd ρ o).cells= #[qd ρ o]→RowC w S U ty1 Y V Z c1.r→(vv nm vr ty nu fi mo c.r).toList.set i (qd ρ o)=(vv S U ty1 Y V Z c1.r).toList→
    ∃z y J H E I,Instr.fill pl (vv nm vr ty nu fi mo c.r) (((i,o)::ps).map fun q=>(q.1,qd ρ q.2))=some (vv z y J H E I r.r)∧RowC w z y J H E I r.r:=fun hi hv aa he=>by
   obtain ⟨a,b,d,e,f,g,h3,h4⟩:=qkp O hp ps c1 r h2 aa;refine ⟨a,b,d,e,f,g, ?_,h4⟩;rw [←h3,List.map_cons];rw [show vv nm vr ty nu fi mo c.r=(vv nm vr ty nu fi mo c.r).toList.toArray from rfl,qpK (hp i hi) hv (by simpa [vv] using hi),he]
  have one:∀{m:Nat},(Value.int .i64 (m:Int)).cells= #[.int .i64 (m:Int)]:=by simp [Value.cells]
  dsimp only at t;unfold qj2 at t;split at t
  ·obtain ⟨s,k,rfl⟩:=Option.map_eq_some_iff.1 t;have h:=qfx O k;exact go (by decide) (wv (zi.fnS (w:=w) (o:=some s.f) h)).1 ⟨h,j.vr,j.typ,j.n,j.first,j.more⟩ rfl
  ·obtain ⟨s,k,rfl⟩:=Option.map_eq_some_iff.1 t;have h:=qfx O k;exact go (by decide) (wv (zi.fnS (w:=w) (o:=some s.f) h)).1 ⟨j.name,h,j.typ,j.n,j.first,j.more⟩ rfl
  ·obtain ⟨s,k,rfl⟩:=Option.map_eq_some_iff.1 t;have h:=qfx O k;exact go (by decide) (wv (zi.fnS (w:=w) (o:=some s.f) h)).1 ⟨j.name,j.vr,h,j.n,j.first,j.more⟩ rfl
  ·obtain ⟨s,k,rfl⟩:=Option.map_eq_some_iff.1 t;have h:=qvK O k;exact go (by decide) (wv (zi.fnN (w:=w) (o:=some (yf s)) h)).1 ⟨j.name,j.vr,j.typ,h,j.first,j.more⟩ rfl
  ·obtain ⟨s,k,rfl⟩:=Option.map_eq_some_iff.1 t;have h:=(qlT O k).1;exact go (by decide) h.one.1 ⟨j.name,j.vr,j.typ,j.n,h,j.more⟩ rfl
  ·obtain ⟨s,k,rfl⟩:=Option.map_eq_some_iff.1 t;have h:=ql0 O k;exact go (by decide) (wv (zi.fnK (w:=w) (o:=some s.f) h)).1 ⟨j.name,j.vr,j.typ,j.n,j.first,h⟩ rfl
  ·obtain ⟨s,k,rfl⟩:=Option.map_eq_some_iff.1 t;have e:=qpt (ρ:=ρ) k;exact go (by decide) (e▸one) ⟨j.name,j.vr,j.typ,j.n,j.first,j.more⟩ (by rw [e];rfl)
  ·obtain ⟨s,k,rfl⟩:=Option.map_eq_some_iff.1 t;have e:=qpt (ρ:=ρ) k;exact go (by decide) (e▸one) ⟨j.name,j.vr,j.typ,j.n,j.first,j.more⟩ (by rw [e];rfl)
  ·cases t
theorem qqP (z:ya p ds ρ w) {pl:Nat→Option (Nat×Nat)} (E:∀i,i<38→pl i=some (i,1)):∀(ps:List (Nat×Operand)) (l r:List (Option RC)),qes p ds ps l=some r→∀{cs:List Value},qiF w cs l→
  ∃cs',Instr.fill pl cs.toArray (ps.map fun q=>(q.1,qd ρ q.2))=some cs'.toArray∧qiF w cs' r
 |[],l,r,h,cs,a=>by
  cases h;exact ⟨cs,rfl,a⟩
 |q::ps,l,r,h,cs,a=>by
  obtain ⟨i,o⟩:=q;unfold qes at h;cases g:Nat.blt i 38 with
  |false=>rw [show Nat.blt (i,o).1 38=false from g] at h;cases h
  |true=>
   rw [show Nat.blt (i,o).1 38=true from g] at h;have t:i<38:=Nat.le_of_ble_eq_true g;obtain ⟨c,S,J⟩:=Option.bind_eq_some_iff.1 h;have y:=qu5 z S;obtain ⟨cs',H,I⟩:=qqP z E ps _ r J (cs:=cs.set i (qd ρ o)) ⟨by simp [a.1],by simp [a.2.1],fun k O=>by
    simp only [List.getD_eq_getElem?_getD,List.getElem?_set];by_cases e:i=k
    ·subst e;have j:Qb w (qd ρ (i,o).2) (some c.r):=y;simpa [a.1,a.2.1,t] using j
    ·simpa [e] using a.2.2 k O⟩
   refine ⟨cs', ?_,I⟩;rw [←H,List.map_cons,qpK (E i t) ?_ (by rw [a.1];exact t)];obtain ⟨X,_,_,_,_,_,_,e,_⟩:=y;rw [show qd ρ (i,o).2=_ from e];rfl
theorem qlY (g:ya p ds ρ w):∀(ps:List (Nat×Operand)) (i:Nat) (l:List KC),qdz p ds i ps=some l→ps.map (·.1)=List.range' i l.length∧(∀q∈ps,(qd ρ q.2).cells= #[qd ρ q.2])∧vq (vz w) (ps.map fun q=>qd ρ q.2) (l.map KC.f)
 |[],i,l,h=>by
  cases h;exact ⟨rfl,by simp,trivial⟩
 |q::ps,i,l,h=>by
  unfold qdz at h;cases c:Nat.beq q.1 i with
  |false=>rw [c] at h;cases h
  |true=>
   rw [c] at h;obtain ⟨k,J,z⟩:=Option.bind_eq_some_iff.1 h;obtain ⟨H,t,rfl⟩:=Option.map_eq_some_iff.1 z;obtain ⟨y,E,I⟩:=qlY g ps _ H t;have j:=ql0 g J;have e:=Nat.eq_of_beq_eq_true c;refine ⟨by simp [y,e,List.range'_succ],fun x a=> ?_,j,I⟩;rcases List.mem_cons.1 a with rfl|a
   ·exact (wv (zi.fnK (w:=w) (o:=some k.f) j)).1
   ·exact E x a
theorem qiH:vh Tryz.prog 175=some (Array.replicate 38 (.pointer none)):=by kernel_rfl
theorem qzA {ps:List (Nat×Operand)} (h:∀q∈ps,(qd ρ q.2).cells= #[qd ρ q.2]):(ps.flatMap fun q=>(qd ρ q.2).cells.toList)=ps.map fun q=>qd ρ q.2:=by
 induction ps with
 |nil=>rfl
 |cons q ps a=>
  rw [List.flatMap_cons,List.map_cons,h q (by simp),a fun x c=>h x (by simp [c])];rfl
def qdb:Nat→Option (Nat×Nat):=fun i=>(#[(0,1),(1,1),(2,1),(3,1),(4,1),(5,1),(6,1),(7,1)]:Array (Nat×Nat))[i]?
theorem qAY (l:List (Nat×Value)):Tryz.prog.built 241 l=Instr.fill qdb #[.nilFunc, .nilFunc, .nilFunc, .nilFunc, .slice none 0 0, .nilFunc, .int .i64 0, .int .i64 0] l:=by kernel_rfl
theorem qAZ (l:List (Nat×Value)):Tryz.prog.built 175 l=Instr.fill (fun i=>some (i*1,1)) (Array.replicate 38 (.pointer none)) l:=by kernel_rfl
theorem qsH (i:Nat) (s:St) (hs:(yE.take 108)[i]? =some (some s)) (hd:qaR[i]? =some ds) (hL:∀d∈ds,L d=true) (I:J144 w0 A T L ρ w):s.wp Tryz.prog Q (J144 w0 A T (xD i L)) ρ w:=by
 obtain ⟨p,q,F,h1,Y,c,j⟩:=(qpN _ _ _ _ qzF).2.2 i s ds hs hd;simp only [List.length_nil,Nat.zero_add] at Y;rw [Y] at j;have hF:yX[i]? =some F:=by rw [h1,←Y];simp
 have H:ya p ds ρ w:=fun t a J=>by
  unfold yh at J;cases g:ds.contains (t - 5)&&Nat.ble 5 t with
  |false=>rw [g] at J;cases J
  |true=>
   rw [g] at J;simp only [Bool.and_eq_true,List.contains_iff_mem] at g;have:=Nat.le_of_ble_eq_true g.2;have h:=I.facts (t - 5) a (by
    have aa:=(List.getElem?_eq_some_iff.1 J).1;rw [h1,List.getElem?_append_left aa];exact J) (hL _ g.1)
   rwa [Nat.sub_add_cancel this] at h
 have put:=fun {w':World} {v:Value}=>I.put (w':=w') (v:=v) i F hF;unfold qeZ at c;split at c
 ·cases c;cases j;simp -implicitDefEqProofs [St.wp,I.r1];exact put (qV _) rfl
 ·cases c;cases j;simp -implicitDefEqProofs [St.wp,I.r3];exact put (qV _) rfl
 ·cases c;cases j;obtain ⟨X,nm,vr,ty,nu,fi,mo,e,y,g⟩:=I.ty;cases e;have z:=kW y;simp [vv] at z;simp -implicitDefEqProofs [St.wp,I.r2,z];exact put (qV _) ⟨nm,vr,ty,nu,fi,mo,rfl,g⟩
 ·cases c;cases j;simp -implicitDefEqProofs [St.wp];refine (qut _).mono ?_;rintro _ w1 ⟨v,rfl,O,o⟩;exact put o O
 ·cases c;cases j;simp -implicitDefEqProofs [St.wp];refine (quO _).mono ?_;rintro _ w1 ⟨v,rfl,O,o⟩;exact put o O
 ·obtain ⟨r,E,rfl⟩:=Option.map_eq_some_iff.1 c;cases j;obtain ⟨nm,vr,ty,nu,fi,mo,e,g⟩:=qkp H (pl:=qdb) (fun i hi=>by unfold qdb;match i,hi with|0,_=>rfl|1,_=>rfl|2,_=>rfl|3,_=>rfl|4,_=>rfl|5,_=>rfl|6,_=>rfl|7,_=>rfl|n+8,h=>exact absurd h (by omega)) _ {} r E (nm:= .nilFunc) (vr:= .nilFunc) (ty:= .nilFunc) (nu:= .nilFunc) (fi:= .slice none 0 0) (mo:= .nilFunc) ⟨rfl,rfl,rfl,rfl, .nil,rfl⟩;simp -implicitDefEqProofs only [St.wp,gd,if_true];rw [qp2,qAY,Array.toList_map];have e':Instr.fill qdb #[.nilFunc, .nilFunc, .nilFunc, .nilFunc, .slice none 0 0, .nilFunc, .int .i64 0, .int .i64 0] _=_:=e;rw [e'];exact put (qV _) ⟨nm,vr,ty,nu,fi,mo,rfl,g⟩
 ·split at c
  ·rename_i hf;obtain ⟨r,E,c⟩:=Option.bind_eq_some_iff.1 c;obtain ⟨l,hl,rfl⟩:=Option.map_eq_some_iff.1 c;cases j;obtain ⟨nm,vr,ty,nu,fi,mo,Z,g⟩:=qq3 H E;obtain ⟨V,hlen⟩:=qlT H hl;simp -implicitDefEqProofs only [St.wp,gd,if_true];refine xT qAL (fs:= #[]) (caps:= #[]) (H _ .fx hf) ?_;have U:=quS g V (by rw [List.length_map];omega);rw [←Z] at U;refine Calls.mono (show Calls Tryz.prog 218 (#[]++Array.map (qd ρ) ⟨[_,_]⟩++ #[]) w _ from by simpa using U) ?_;rintro _ w1 ⟨v,rfl,O,o⟩;exact put o (by rw [←qzB] at O;exact O)
  ·cases c
 ·obtain ⟨r,E,rfl⟩:=Option.map_eq_some_iff.1 c;cases j;obtain ⟨nm,vr,ty,nu,fi,mo,Z,g⟩:=qq3 H E;simp -implicitDefEqProofs only [St.wp,gd,if_true];refine vY fun X w1 hX o y _=> ?_;rw [Z,g.cells] at y;exact put o ⟨X,nm,vr,ty,nu,fi,mo,rfl,y,g.at' (qv.ext o)⟩
 ·rename_i n ps _;obtain ⟨l,hl,c⟩:=Option.bind_eq_some_iff.1 c;cases y:Nat.beq n l.length&&Nat.blt n 9 with
  |false=>rw [y] at c;cases c
  |true=>
   rw [y] at c;cases c;cases j;simp only [Bool.and_eq_true] at y;have hn:=Nat.eq_of_beq_eq_true y.1;have U:n<9:=Nat.le_of_ble_eq_true y.2;subst hn;obtain ⟨k1,k2,k3⟩:=qlY H (ρ:=ρ) _ _ l hl;simp -implicitDefEqProofs only [St.wp,gd,if_true];refine xc qsQ (by simp;omega) (by rw [k1,List.range_eq_range']) (fun q hq=>by rw [k2 q hq];rfl) fun B w1 hB o S _=> ?_;rw [qzA k2] at S;refine put o ⟨.inr ⟨B,_,by simp,S,k3.imp fun _ _ h=>h.at' (qv.ext (p:=zX) o) fun _=>by simp [zX]⟩,U⟩
 ·obtain ⟨r,E,rfl⟩:=Option.map_eq_some_iff.1 c;cases j;obtain ⟨cs,e,g⟩:=qqP H (ρ:=ρ) (pl:=fun i=>some (i*1,1)) (fun i _=>by rw [Nat.mul_one]) _ _ r E (cs:=List.replicate 38 (.pointer none)) ⟨List.length_replicate,List.length_replicate,fun k V=>by rw [List.getD_eq_getElem?_getD,List.getD_eq_getElem?_getD,List.getElem?_replicate,List.getElem?_replicate,if_pos V,if_pos V];rfl⟩;simp -implicitDefEqProofs only [St.wp,gd,if_true];rw [qp2,qAZ,Array.toList_map];have e':Instr.fill (fun i=>some (i*1,1)) (Array.replicate 38 (.pointer none)) _=_:=e;rw [e'];exact put (qV _) ⟨cs,rfl,g⟩
 ·cases c
theorem qAi:(qaR.getD 108 []).contains 107=true:=by kernel_rfl
theorem qsE (hd:qaR[108]? =some ds) (hL:∀d∈ds,L d=true) (g:J144 w0 A T L ρ w) (Z:L 108=false):(.eff none none (.store 175 (.tmp 0) (.tmp 112)) 0:St).wp Tryz.prog Q (J144 w0 A T (xD 108 L)) ρ w:=by
 have H:L 107=true:=by
  have h:=qAi;rw [List.getD_eq_getElem?_getD,hd] at h;exact hL _ (List.contains_iff_mem.1 h)
 obtain ⟨cs,E,J,_,O⟩:=g.facts 107 _ qzG H;have j:yc w cs:=⟨J,fun k y=>qr6 y▸O k y⟩;have o:∀c∈cs,c.cells= #[c]∧c.oneCell=true:=fun c z=>by
  obtain ⟨k,y,rfl⟩:=List.mem_iff_getElem.1 z;have t:=j.2 k (by rw [←j.1];exact y);rw [List.getD_eq_getElem?_getD,List.getElem?_eq_getElem y] at t;simp only [Option.getD_some] at t;generalize cs[k]=c at t;cases S:xu k with
  |none=>rw [S] at t;cases t;exact ⟨rfl,rfl⟩
  |some r=>
   rw [S] at t;obtain ⟨X,_,_,_,_,_,_,rfl,_⟩:=t;exact ⟨rfl,rfl⟩
 have q:=qq1 fun c z=>(o c z).1;have a:qd ρ (.tmp 112)= .agg cs.toArray:=E;simp -implicitDefEqProofs [St.wp];refine jg (B:=A) (by simpa using g.r0) (g.bA Z) (by rw [a,q];simp [j.1]) ?_ (by kernel_rfl) fun W Y V=> ?_
 ·rw [a,q];simpa using fun c z=>(o c z).2
 rw [a,q] at V;have hE:qc w0 W:=Y.ext g.ext g.A0;have I:qv zX w W:=(qv.only Y (g.bA Z)).mono fun _ _ h=> .inr h;simp -implicitDefEqProofs;refine ⟨hE,g.r0,g.r1,g.r2,g.r3,g.A0,fun e=>by simp [xD] at e,fun _=>⟨cs,V,j.at' I⟩,g.ty.at' I,fun k F U hL=> ?_⟩;have y:k<108:=by
  have:=(List.getElem?_eq_some_iff.1 U).1
  rwa [qpL] at this
 exact AC.at' I (g.facts k F U (by simpa [xD,show k≠108 by omega] using hL))
end
theorem qrb:vh Tryz.prog 241=some #[.nilFunc, .nilFunc, .nilFunc, .nilFunc, .slice none 0 0, .nilFunc, .int .i64 0, .int .i64 0]:=by kernel_rfl
theorem qsr:jo Tryz.prog 241 8=true:=by kernel_rfl
theorem qBh:Tryz.prog.built 241 [(0, .func (.func 77) #[] #[]),(2, .func (.func 22) #[] #[])]=some #[qF 77 #[], .nilFunc,qF 22 #[], .nilFunc, .slice none 0 0, .nilFunc, .int .i64 0, .int .i64 0]:=by kernel_rfl
theorem qjB:yE.length=109:=by kernel_rfl
theorem qsy:yE[108]? =some (some (.eff none none (.store 175 (.tmp 0) (.tmp 112)) 0)):=by kernel_rfl
theorem qsx:qab Tryz.prog 113 qdX (qI qb1 4)=some yE:=by
 have h:(qab Tryz.prog 113 qdX (qI qb1 4)).isSome=true:=by kernel_rfl
 obtain ⟨r,a⟩:=Option.isSome_iff_exists.1 h;unfold yE;rw [a];rfl
theorem qux {w:World}:Calls Tryz.prog 144 #[] w fun e w'=>∃cs:List Value,e= .returned (.agg cs.toArray)∧yc w' cs∧qc w w':=by
 refine qyZ fun ρ=> ?_;simp -implicitDefEqProofs [qoU];refine qK qiH fun A w1 S c g _=> ?_;simp -implicitDefEqProofs [qBh];refine qK qrb fun T w2 Z t I _=> ?_;simp -implicitDefEqProofs;refine jg (B:=T) (by simp) I (by simp [Value.cells,qF]) (by simp [Value.cells,qF];exact ⟨rfl,rfl,rfl,rfl⟩) (by simpa [Value.cells,qF] using qsr) fun w3 q o=> ?_;simp -implicitDefEqProofs [Value.cells,qF] at o;have H:qc w w3:=q.ext (c.trans' t) (by have:=c.size;omega);have E:=q.blk (g.ext t) (by have:=g.lt;omega);simp -implicitDefEqProofs;refine qkA qsx rfl (by kernel_rfl) (by kernel_rfl) (J144 w A T) ?_ ?_ ?_
 ·intro w' z _;exact ⟨H.trans' z,by simp,by simp [qF],by simp,by simp [qF],S,fun _=>E.ext z,fun e=>(by cases e),⟨T,qF 77 #[], .nilFunc,qF 22 #[], .nilFunc, .slice none 0 0, .nilFunc,rfl,(o.ext z),⟨qj1 (w:=w),rfl,qj0 (w:=w),rfl, .nil,rfl⟩⟩,fun k F _ hL=>by cases hL⟩
 ·intro L i s ds y J V hL ρ w a;rcases Nat.lt_or_ge i 108 with h|h
  ·exact qsH i s (by rw [List.getElem?_take_of_lt h];exact y) J hL a
  ·have O:=(List.getElem?_eq_some_iff.1 y).1;rw [qjB] at O;obtain rfl:i=108:=by omega
   rw [qsy] at y;cases y;exact qsE J hL a V
 ·intro L ρ Y hL a;obtain ⟨cs,U,j⟩:=a.fin (hL 108 (by rw [qjB];decide));simp -implicitDefEqProofs [qoT];refine qR (by simpa using a.r0) U (by simp [j.1]) ?_;exact ⟨cs,by simp,j,a.ext⟩
end Go.L02
namespace Go.Eng
open Go.RowKit
section
variable {P:Program} {Q:Ks} {d:Option Nat} {ty:TypeId} {K:qa→World→Prop} {ρ:qa} {w:World}
def wu:Value→Bool| .nilFunc=>true|_=>false
def fnT (P:Program) (t:TypeId):Bool:=match P.underlying t with|some (.func ..)=>true|_=>false
theorem qkg {t:TypeId} {v:Value} (c:fnT P t=true) (j:v= .nilFunc∨∃F a b,v= .func F a b):(Op.equal t v .nilFunc).run P w= .ok (wu v) w:=by
 unfold fnT at c;split at c
 ·rename_i g;have h:∀d:Nat,(Op.equalIn (d+1) t v .nilFunc).run P w= .ok (wu v) w:=fun d=>by
   rcases j with rfl|⟨F,a,b,rfl⟩<;>simp [Op.equalIn,run_underlying g,wu]
  simp [Op.equal,Op.maxDepth,h 9999]
 ·cases c
theorem qpY {t k:TypeId} {x:Operand} {v:Value} (g:fnT P t=true) (j:qd ρ x=v) (c:v= .nilFunc∨∃F a b,v= .func F a b) (h:K (qk ρ d (.bool (wu v))) w):qm P Q d (.binOp .eql t x (.const .nilFunc) k) ty K ρ w:=by
 refine jk (v:= .bool (wu v)) (w':=w) ?_ h;have:=qkg (w:=w) g c;rcases c with rfl|⟨F,a,b,rfl⟩<;>simp [execOp,qA,j,eqGuard,binOp,this]
theorem qpU {t k:TypeId} {x:Operand} {v:Value} (g:fnT P t=true) (j:qd ρ x=v) (c:v= .nilFunc∨∃F a b,v= .func F a b) (h:K (qk ρ d (.bool (!wu v))) w):qm P Q d (.binOp .neq t x (.const .nilFunc) k) ty K ρ w:=by
 refine jk (v:= .bool (!wu v)) (w':=w) ?_ h;have:=qkg (w:=w) g c;rcases c with rfl|⟨F,a,b,rfl⟩<;>simp [execOp,qA,j,eqGuard,binOp,this]
end
end Go.Eng
namespace Go.L02
open Go Go.Eng Go.RowKit
open Go.Proofs hiding encI
open Go.L01 (Bs Own.same Tok qP qR qi qo)
set_option maxRecDepth 100000
set_option maxHeartbeats 2000000
structure Rd (w:World) (v:Value) (xs:List NV):Prop where
 cells:Cells w v 6 (ji xs)
 kids:∀x∈xs,Cells w x.kv 1 (x.nd.kids.map encI)
theorem _root_.Go.Eng.Cells.ext {w w':World} {v:Value} {sz:Nat} {xs:List Value} (h:Cells w v sz xs) (a:qc w w'):Cells w' v sz xs:=⟨h.is,h.len,fun j c=>a.cell (h.cell j c)⟩
theorem Rd.ext {w w':World} {v:Value} {xs:List NV} (h:Rd w v xs) (a:qc w w'):Rd w' v xs:=⟨h.cells.ext a,fun x c=>(h.kids x c).ext a⟩
theorem qvv {xs:List NV} {k j:Nat} (a:k<xs.length) (h:j<6):(ji xs)[k*6+j]? =(qj xs[k])[j]? :=by
 induction xs generalizing k with
 |nil=>simp at a
 |cons x xs c=>
  have e:ji (x::xs)=qj x++ji xs:=rfl;have g:(qj x).length=6:=rfl;rw [e];cases k with
  |zero=>rw [List.getElem?_append_left (by omega)];simp
  |succ k=>
   rw [List.getElem?_append_right (by omega),show (k+1)*6+j - (qj x).length=k*6+j by omega];simpa using c (k:=k) (by simpa using a)
section
variable {w:World} {v:Value} {xs:List NV}
theorem Rd.len (h:Rd w v xs):qh v=xs.length:=by have:=h.cells.len;rw [yo] at this;omega
theorem Rd.cell (h:Rd w v xs) {k j:Nat} (g:k<xs.length) (c:j<6):w.cell? (qM v (k*6+j))=(qj xs[k])[j]? :=by
 have a:k*6+j<(ji xs).length:=by rw [yo];omega
 rw [h.cells.cell _ a,←List.getElem?_eq_getElem a,qvv g c]
theorem Rd.row (h:Rd w v xs) {k:Nat} (o:k<xs.length):Eng.jq w (qM v (k*6)) 0 6=some (qj xs[k]):=by
 have:=qal (w:=w) (a:=qM v (k*6)) (l:=qj xs[k]) (i:=0) fun j g=>by
  have c:j<6:=g;rw [qfm,Nat.zero_add,h.cell o c,List.getElem?_eq_getElem g]
 exact this
end
structure DOk (d:D):Prop where
 kind:d.kind<256
 name:d.name.length<4294967281
 vr:d.vr.length<4294967281
 typ:d.typ.length<4294967281
theorem qpA:fnT Tryz.prog 34=true:=by kernel_rfl
theorem qpB:fnT Tryz.prog 238=true:=by kernel_rfl
theorem qq5 (F:FuncId) (c:Array Value):qF F c= .nilFunc∨∃F' a b,qF F c= .func F' a b:= .inr ⟨_,_,_,rfl⟩
theorem qf2 {w:World} (q:L01.G w) {v:Value} {o:Option (Bs→Bool)} (s:Bs) (c:s.length<4294967281) (h:zi (zP w) v o):Calls Tryz.prog 225 #[.string (qb s),v] w fun e w'=>e= .returned (.bool (vQ s o))∧qc w w':=by
 have k:(⟨#[]⟩:ByteArray)=qb []:=rfl;refine qyc fun ρ r0 r1=> ?_;simp -implicitDefEqProofs [qn0,r0,r1];cases o with
 |none=>
  cases h;refine qpY qpA (v:= .nilFunc) (by simp) (.inl rfl) ?_;simp -implicitDefEqProofs [wu,r0,k,xH,vQ];exact qV _
 |some f=>
  obtain ⟨F,caps,rfl,a,j⟩:=zP.fn h q;refine qpY qpA (v:=qF F caps) (by simp) (qq5 _ _) ?_;simp -implicitDefEqProofs [wu,qF,qnZ,r0,r1];refine xT a (t:=9) (fs:= #[]) (caps:=caps) (by simp) ?_;simp -implicitDefEqProofs;refine (j s c).mono ?_;rintro _ w1 ⟨rfl,g⟩;simp -implicitDefEqProofs [vQ];exact g
theorem qtV:∀(k:Nat) (r:Row),xu k=some r→r.more=none→r.most≤r.first.length:=by
 intro k r h a;unfold xu qbr at h;rcases k with _|_|_|_|_|_|_|_|_|_|_|_|_|_|_|_|_|_|_|_|_|_|_|_|_|_|_|_|_|_|_|_|_|_|_|_|_|_|k<;>
  simp [Option.join] at h<;>subst h<;>first|(simp [jU];done)|(simp at a;done)|(simp;done)
theorem qi0:Tryz.prog.underlying 175=some (.array 38 174):=by kernel_rfl
theorem qi1:Tryz.prog.underlying 174=some (.pointer 241):=by kernel_rfl
theorem qzl:∃inf,Tryz.prog.info? 174=some inf∧inf.size=1:=by
 have:(match Tryz.prog.info? 174 with|some inf=>inf.size==1|none=>false)=true:=by kernel_rfl
 cases h:Tryz.prog.info? 174 with
 |none=>rw [h] at this;cases this
 |some inf=>rw [h] at this;exact ⟨inf,rfl,by simpa using this⟩
theorem qtW {k:Nat} (h:38≤k):xu k=none:=by
 unfold xu;have:qbr[k]? =none:=List.getElem?_eq_none (by show qbr.length≤k;exact h);rw [this];rfl
theorem qgy {v:Value} (h:qt v=true):qh v≤qx v:=by
 rcases xy h with ⟨b,o,n,c,rfl,a⟩|rfl|⟨b,o,s,rfl⟩
 ·exact a
 ·exact Nat.le_refl _
 ·exact Nat.le_refl _
theorem qig {w:World} {v:Value} {xs:List Value} (h:Cells w v 1 xs) (l:Nat) (o:l≤xs.length):Cells w (qL v 1 l (qh v) (qx v)) 1 (xs.drop l):=by
 have g:=h.len;have c:=qgy h.is;refine ⟨QA h.is 1 l _ _ (by omega) c (Nat.le_refl _),by rw [qcP _ _ _ _ h.is];simp;omega,fun j k=> ?_⟩;have a:l+j<xs.length:=by simp at k;omega
 rw [qcQ 1 l _ _ j h.is (by omega) (by omega),Nat.mul_one,h.cell (l+j) a];simp
theorem qtU:∀(k:Nat) (r:Row),xu k=some r→r.most≤400:=by
 intro k r h;unfold xu qbr at h;rcases k with _|_|_|_|_|_|_|_|_|_|_|_|_|_|_|_|_|_|_|_|_|_|_|_|_|_|_|_|_|_|_|_|_|_|_|_|_|_|k<;>
  simp [Option.join] at h<;>subst h<;>first|(simp [jU];done)|(simp;done)
def RB (w:World) (b:Bool) (e:Ending) (w':World):Prop:=e= .returned (.bool b)∧qc w w'
structure RtS (w W:World) (lv:Value) (xs:List NV) (x:NV) (X Rw:Nat) (nm vr ty nu fi mo:Value) (r:Row):Prop where
 ext:qc w W
 rd:Rd W lv xs
 bX:Blk W X (qj x).toArray 44
 bR:Blk W Rw (vv nm vr ty nu fi mo r) 241
 rc:RowC W nm vr ty nu fi mo r
 kv:Cells W x.kv 1 (x.nd.kids.map encI)
 g:L01.G W
 m:xA W
structure RtK (ρ:qa) (lv:Value) (X Rw:Nat):Prop where
 r0:ρ 0=lv
 r4:ρ 4= .pointer (some ⟨X,0,none⟩)
 r7:ρ 7= .pointer (some ⟨Rw,0,none⟩)
structure RtH (xs:List NV) (x:NV) (r:Row):Prop where
 d:DOk x.nd.d
 ds:∀y∈xs,DOk y.nd.d
 len:xs.length≤400
 hin:∀k∈x.nd.kids,0≤k∧k<xs.length
 row:xu x.nd.d.kind=some r
section
variable {w W W':World} {lv:Value} {xs:List NV} {x:NV} {X Rw:Nat} {nm vr ty nu fi mo:Value} {r:Row} {ρ:qa}
theorem RtS.to (h:RtS w W lv xs x X Rw nm vr ty nu fi mo r) (a:qc W W'):RtS w W' lv xs x X Rw nm vr ty nu fi mo r:=
 ⟨h.ext.trans' a,h.rd.ext a,h.bX.ext a,h.bR.ext a,h.rc.at' (qv.ext a),h.kv.ext a,h.g.ext a,h.m.ext a⟩
theorem RtS.cX (h:RtS w W lv xs x X Rw nm vr ty nu fi mo r):W.cell? ⟨X,0,none⟩=some (.int .u8 (x.nd.d.kind:Int))∧W.cell? ⟨X,1,none⟩=some (.string (qb x.nd.d.name))∧W.cell? ⟨X,2,none⟩=some (.string (qb x.nd.d.vr))∧W.cell? ⟨X,3,none⟩=some (.string (qb x.nd.d.typ))∧W.cell? ⟨X,4,none⟩=some (.int .i64 x.nd.d.n)∧W.cell? ⟨X,5,none⟩=some x.kv:=
 ⟨by rw [h.bX.cell];rfl,by rw [h.bX.cell];rfl,by rw [h.bX.cell];rfl,by rw [h.bX.cell];rfl,by rw [h.bX.cell];rfl,by rw [h.bX.cell];rfl⟩
theorem RtS.cR (h:RtS w W lv xs x X Rw nm vr ty nu fi mo r):W.cell? ⟨Rw,0,none⟩=some nm∧W.cell? ⟨Rw,1,none⟩=some vr∧W.cell? ⟨Rw,2,none⟩=some ty∧W.cell? ⟨Rw,3,none⟩=some nu∧W.cell? ⟨Rw,4,none⟩=some fi∧W.cell? ⟨Rw,5,none⟩=some mo∧W.cell? ⟨Rw,6,none⟩=some (.int .i64 (r.least:Int))∧W.cell? ⟨Rw,7,none⟩=some (.int .i64 (r.most:Int)):=
 ⟨by rw [h.bR.cell];rfl,by rw [h.bR.cell];rfl,by rw [h.bR.cell];rfl,by rw [h.bR.cell];rfl,by rw [h.bR.cell];rfl,by rw [h.bR.cell];rfl,by rw [h.bR.cell];rfl,by rw [h.bR.cell];rfl⟩
theorem RtS.row (h:RtS w W lv xs x X Rw nm vr ty nu fi mo r):Eng.jq W ⟨X,0,none⟩ 0 6=some (qj x):=by
 have:=kW h.bX;simpa [qj] using this
theorem RtS.kl (h:RtS w W lv xs x X Rw nm vr ty nu fi mo r):qh x.kv=x.nd.kids.length:=by have:=h.kv.len;simpa using this.symm
theorem qwp {k:Int} (h:0≤k∧k<xs.length):yU (xs.map (·.nd)) k=(xs[k.toNat]'(by omega)).nd.d.name:=by
 unfold yU;rw [List.getElem?_map,List.getElem?_eq_getElem (by omega)];rfl
theorem qwq {k:Int} (h:0≤k∧k<xs.length):yV (xs.map (·.nd)) k=(xs[k.toNat]'(by omega)).nd.d.kind:=by
 unfold yV;rw [List.getElem?_map,List.getElem?_eq_getElem (by omega)];rfl
theorem qtR (hh:RtH xs x r) (h:RtS w W lv xs x X Rw nm vr ty nu fi mo r) (a:RtK ρ lv X Rw) (h32:x.nd.d.kind=32→1≤x.nd.kids.length) (hkl:x.nd.kids.length≤400):
  qaH.wp ⟨Tryz.prog,178,x7,[]⟩ (qz [.tmp 6] (RB w (vJ (xs.map (·.nd)) x.nd))) (jd [.tmp 6] (RB w (vJ (xs.map (·.nd)) x.nd))) ρ W:=by
 obtain ⟨c0,c1,c2,c3,c4,c5⟩:=h.cX;have e0:(⟨#[]⟩:ByteArray)=qb []:=rfl;have en:(⟨#[110,111,116]⟩:ByteArray)=qb [110,111,116]:=rfl;have Z:=h.kl;simp -implicitDefEqProofs [qaH,a.r4,c0];by_cases k5:x.nd.d.kind=5
 ·have es:vJ (xs.map (·.nd)) x.nd=qcc x.nd.d:=by unfold vJ;rw [if_pos k5]
  rw [es];simp -implicitDefEqProofs [k5,a.r4,h.row];refine (quW (x:=x) h.g h.m h.kv.is hh.d.name hh.d.vr hh.d.typ).mono ?_;rintro _ w2 ⟨rfl,hE⟩;simp -implicitDefEqProofs [RB];exact h.ext.trans' hE
 ·by_cases k6:x.nd.d.kind=6
  ·have es:vJ (xs.map (·.nd)) x.nd=(decide (x.nd.d.name=[110,111,116])==decide (x.nd.kids.length=1)):=by unfold vJ;rw [if_neg k5,if_pos k6]
   rw [es];simp -implicitDefEqProofs [k6,a.r4,c1,c5,h.kv.is,Z,en,xH,RB];refine ⟨?_,h.ext⟩;congr 1;rw [Bool.eq_iff_iff];simp;omega
  ·by_cases S:x.nd.d.kind=32
   ·have es:vJ (xs.map (·.nd)) x.nd=yd (xs.map (·.nd)) x.nd.kids.length 0 (x.nd.kids.drop 1):=by unfold vJ;rw [if_neg k5,if_neg k6,if_pos S]
    have h1:=h32 S;rw [es];have U:=QA h.kv.is 1 1 (qh x.kv) (qx x.kv) (by rw [Z];exact h1) (qgy h.kv.is) (Nat.le_refl _);have q:=qig h.kv 1 (by simpa using h1);generalize Y:yd (xs.map (·.nd)) x.nd.kids.length 0 (x.nd.kids.drop 1)=b;have h1':(1:Int)≤(x.nd.kids.length:Int):=by omega
    rw [Z] at U q;simp -implicitDefEqProofs [S,a.r4,c5,h.kv.is,Z,h1',U];generalize hkv:qL x.kv 1 1 x.nd.kids.length (qx x.kv)=kv at U q;obtain ⟨I,hI⟩:∃I:Nat→qa→World→Prop,∀j H w',I j H w'↔(RtK H lv X Rw∧H 150=kv∧H 151= .int .i64 ((x.nd.kids.length - 1:Nat):Int)∧RtS w w' lv xs x X Rw nm vr ty nu fi mo r∧yd (xs.map (·.nd)) x.nd.kids.length j ((x.nd.kids.drop 1).drop j)=b):=⟨_,fun _ _ _=>Iff.rfl⟩;refine ko 152 (x.nd.kids.length - 1) I (by simp) ((hI _ _ _).2 ⟨⟨by simp [a.r0],by simp [a.r4],by simp [a.r7]⟩,by simp,by simp,h,Y⟩) ?_;clear a Y h c0 c1 c2 c3 c4 c5 q;rintro j H w' hj rj hIw;obtain ⟨a,E,y,h,Y⟩:=(hI _ _ _).1 hIw;obtain ⟨c0,c1,c2,c3,c4,c5⟩:=h.cX;have q:=qig h.kv 1 (by simpa using h1);rw [Z,hkv] at q;have hkl1:qh kv=x.nd.kids.length - 1:=by have:=q.len;simpa using this.symm
    by_cases J:j<x.nd.kids.length - 1
    ·have hjl:j<(x.nd.kids.drop 1).length:=by simpa using J
     have hj1:j+1<x.nd.kids.length:=by omega
     have o:=q.cell j (by simpa using J);have ae:(List.drop 1 (List.map encI x.nd.kids))[j]'(by simpa using J)=encI (x.nd.kids[j+1]):=by simp
     rw [ae] at o;have hin:=hh.hin x.nd.kids[j+1] (List.getElem_mem _);have hdr:(x.nd.kids.drop 1).drop j=x.nd.kids[j+1]::(x.nd.kids.drop 1).drop (j+1):=by
      rw [List.drop_eq_getElem_cons hjl];simp [List.drop_drop]
     rw [hdr] at Y;have c:((qo (yU (xs.map (·.nd)) x.nd.kids[j+1])|| !(!decide (yU (xs.map (·.nd)) x.nd.kids[j+1]=[])||decide (j+2<x.nd.kids.length)))&&yd (xs.map (·.nd)) x.nd.kids.length (j+1) ((x.nd.kids.drop 1).drop (j+1)))=b:=Y;rw [qwp hin] at c;generalize hk:x.nd.kids[j+1]=k at o hin c;have ad:k.toNat<xs.length:=by omega
     have hkz:((k.toNat:Nat):Int)=k:=by omega
     have cn:w'.cell? (qM lv (k.toNat*6+1))=some (.string (qb (xs[k.toNat]).nd.d.name)):=by rw [h.rd.cell ad (by omega)];rfl
     have z:(j:Int)<((x.nd.kids.length - 1:Nat):Int):=by omega
     simp -implicitDefEqProofs [qg9,rj,y,z,qoO,E,U,hkl1,J,o,encI,a.r0,h.rd.cells.is,h.rd.len,hin.1,hin.2,cn];refine (L01.Qf h.g _).mono ?_;rintro _ w2 ⟨rfl,hE⟩;have h2:=h.to hE;obtain ⟨_,_,_,_,_,c5'⟩:=h2.cX;have V:∀t:qa,t 0=lv→t 4= .pointer (some ⟨X,0,none⟩)→t 7= .pointer (some ⟨Rw,0,none⟩)→t 150=kv→t 151= .int .i64 ((x.nd.kids.length - 1:Nat):Int)→yd (xs.map (·.nd)) x.nd.kids.length (j+1) ((x.nd.kids.drop 1).drop (j+1))=b→I (j+1) t w2:=
      fun t a0 a4 a7 ah ac hb2=>(hI _ _ _).2 ⟨⟨a0,a4,a7⟩,ah,ac,h2,hb2⟩
     have hw:IntKind.i64.wrap ((x.nd.kids.length:Int) - 2)=(x.nd.kids.length:Int) - 2:=jG (by omega);have ab:IntKind.i64.wrap ((j:Int)+1)=(j:Int)+1:=jG (by omega);generalize (xs[k.toNat]'ad).nd.d.name=nm at c cn;cases hn:qo nm with
     |true=>
      rw [hn] at c;simp -implicitDefEqProofs [qhc,rj,ab];exact V _ (by simp [a.r0]) (by simp [a.r4]) (by simp [a.r7]) (by simp [E]) (by simp [y]) (by simpa using c)
     |false=>
      rw [hn] at c;by_cases aa:nm=[]
      ·subst aa;by_cases ag:j+2<x.nd.kids.length
       ·have O:(j:Int)<(x.nd.kids.length:Int) - 2:=by omega
        simp -implicitDefEqProofs [e0,a.r4,c5',h.kv.is,Z,hw,O,RB];refine ⟨?_,h2.ext⟩;rw [←c];simp [ag]
       ·have O:¬(j:Int)<(x.nd.kids.length:Int) - 2:=by omega
        simp -implicitDefEqProofs [e0,a.r4,c5',h.kv.is,Z,hw,O,qhc,rj,ab];exact V _ (by simp [a.r0]) (by simp [a.r4]) (by simp [a.r7]) (by simp [E]) (by simp [y]) (by simpa [ag] using c)
      ·simp -implicitDefEqProofs [e0,xH,aa,RB];refine ⟨?_,h2.ext⟩;rw [←c];simp [aa]
    ·have z:¬(j:Int)<((x.nd.kids.length - 1:Nat):Int):=by omega
     have hd0:(x.nd.kids.drop 1).drop j=[]:=by rw [List.drop_eq_nil_iff];simp;omega
     rw [hd0] at Y;simp -implicitDefEqProofs [qg9,rj,y,z,J,qhb,RB];exact ⟨Y.symm,h.ext⟩
   ·have es:vJ (xs.map (·.nd)) x.nd=true:=by unfold vJ;rw [if_neg k5,if_neg k6,if_neg S]
    rw [es];have k5':¬(x.nd.d.kind:Int)=5:=by omega
    have k6':¬(x.nd.d.kind:Int)=6:=by omega
    have af:¬(x.nd.d.kind:Int)=32:=by omega
    simp -implicitDefEqProofs [k5',k6',af,qhb,RB];exact h.ext
theorem qwo {w:World} {v:Value} {l:List (Nat→Bool)} (h:xr w v l) {i:Nat} (a:i<l.length):qt v=true∧qh v=l.length∧∃u,w.cell? (qM v i)=some u∧vz w u l[i]:=by
 rcases h with ⟨_,rfl⟩|⟨B,cs,rfl,j,c⟩
 ·simp at a
 ·have g:=c.len;refine ⟨by simp [qt],rfl,cs[i]'(by omega), ?_,c.get i (by omega) a⟩;simp only [qM,Nat.zero_add];rw [j.cell];simp [g,a]
theorem qwn {w:World} {v:Value} {l:List (Nat→Bool)} (h:xr w v l):qt v=true∧qh v=l.length:=by
 rcases h with ⟨rfl,rfl⟩|⟨B,cs,rfl,c,a⟩
 ·exact ⟨rfl,rfl⟩
 ·exact ⟨by simp [qt],rfl⟩
theorem qtT (hh:RtH xs x r) (h:RtS w W lv xs x X Rw nm vr ty nu fi mo r) (a:RtK ρ lv X Rw) (h1:r.least≤x.nd.kids.length) (h2:x.nd.kids.length≤r.most):
  qha.wp ⟨Tryz.prog,178,x7,[]⟩ (qz [.tmp 6] (RB w (kH (xs.map (·.nd)) r 0 x.nd.kids&&vJ (xs.map (·.nd)) x.nd))) (jd [.tmp 6] (RB w (kH (xs.map (·.nd)) r 0 x.nd.kids&&vJ (xs.map (·.nd)) x.nd))) ρ W:=by
 obtain ⟨c0,c1,c2,c3,c4,c5⟩:=h.cX;have hl:=h.kl;have hmost:r.most≤400:=qtU _ _ hh.row;have h32:x.nd.d.kind=32→1≤x.nd.kids.length:=fun e=>by
  have:=hh.row;rw [e] at this;have hr:r.least=2:=by
   have h3:xu 32=some {first:=[vy 20],more:=some (vy 33),least:=2,most:=400}:=rfl;rw [h3] at this;cases this;rfl
  omega
 generalize Y:(kH (xs.map (·.nd)) r 0 x.nd.kids&&vJ (xs.map (·.nd)) x.nd)=b;simp -implicitDefEqProofs [qha,a.r4,c5,h.kv.is,hl];obtain ⟨I,hI⟩:∃I:Nat→qa→World→Prop,∀j J w',I j J w'↔(RtK J lv X Rw∧J 97=x.kv∧J 98= .int .i64 (x.nd.kids.length:Int)∧RtS w w' lv xs x X Rw nm vr ty nu fi mo r∧(kH (xs.map (·.nd)) r j (x.nd.kids.drop j)&&vJ (xs.map (·.nd)) x.nd)=b):=⟨_,fun _ _ _=>Iff.rfl⟩;refine ko 99 x.nd.kids.length I (by simp) ((hI _ _ _).2 ⟨⟨by simp [a.r0],by simp [a.r4],by simp [a.r7]⟩,by simp,by simp,h,Y⟩) ?_;clear a Y h c0 c1 c2 c3 c4 c5;rintro j J w' hj rj hIw;obtain ⟨a,V,S,h,Y⟩:=(hI _ _ _).1 hIw;obtain ⟨d0,d1,d2,d3,d4,d5,d6,d7⟩:=h.cR;have hwj:IntKind.i64.wrap ((j:Int)+1)=(j:Int)+1:=jG (by omega);by_cases q:j<x.nd.kids.length
 ·have c:=h.kv.cell j (by simpa using q);have hget:(List.map encI x.nd.kids)[j]'(by simpa using q)=encI (x.nd.kids[j]):=by simp
  rw [hget] at c;have hin:=hh.hin x.nd.kids[j] (List.getElem_mem _);rw [List.drop_eq_getElem_cons q] at Y;have y:(((match r.first[j]? with|some f=>f (yV (xs.map (·.nd)) x.nd.kids[j])|none=>(match r.more with|some f=>f (yV (xs.map (·.nd)) x.nd.kids[j])|none=>false))&&kH (xs.map (·.nd)) r (j+1) (x.nd.kids.drop (j+1)))&&vJ (xs.map (·.nd)) x.nd)=b:=Y;rw [qwq hin] at y;generalize hk:x.nd.kids[j]=k at c hin y;have Z:k.toNat<xs.length:=by omega
  have hkz:((k.toNat:Nat):Int)=k:=by omega
  have hrow:=h.rd.row Z;obtain ⟨hfi,hfl⟩:=qwn h.rc.first;have z:(j:Int)<(x.nd.kids.length:Int):=by omega
  have go:∀(o:qa) (u:Value) (f:Nat→Bool),RtK o lv X Rw→o 97=x.kv→o 98= .int .i64 (x.nd.kids.length:Int)→o 99= .int .i64 (j:Int)→o 10= .int .i64 k→o 11=u→vz w' u f→((f (xs[k.toNat]'Z).nd.d.kind&&kH (xs.map (·.nd)) r (j+1) (x.nd.kids.drop (j+1)))&&vJ (xs.map (·.nd)) x.nd)=b→
    qhg.wp ⟨Tryz.prog,178,x7,[]⟩ (qdW.wp ⟨Tryz.prog,178,x7,[]⟩ (fun g aa=>g 99= .int .i64 ((j:Int)+1)∧I (j+1) g aa) (((jd [.tmp 6] (RB w b)).blk 0 (qaH.wp ⟨Tryz.prog,178,x7,[]⟩ (qz [.tmp 6] (RB w b)) (jd [.tmp 6] (RB w b)))))) ((((jd [.tmp 6] (RB w b)).blk 0 (qaH.wp ⟨Tryz.prog,178,x7,[]⟩ (qz [.tmp 6] (RB w b)) (jd [.tmp 6] (RB w b))))).blk 1 (qdW.wp ⟨Tryz.prog,178,x7,[]⟩ (fun g aa=>g 99= .int .i64 ((j:Int)+1)∧I (j+1) g aa) (((jd [.tmp 6] (RB w b)).blk 0 (qaH.wp ⟨Tryz.prog,178,x7,[]⟩ (qz [.tmp 6] (RB w b)) (jd [.tmp 6] (RB w b))))))) o w':=by
   intro o u f E a97 a98 a99 a10 a11 hu H;obtain ⟨F,caps,rfl,hcb,hc⟩:=hu.fn;simp -implicitDefEqProofs [qhg,a11,qF,E.r0,a10,h.rd.cells.is,h.rd.len,hin.1,hin.2,hrow];refine xT hcb (t:=122) (fs:= #[]) (caps:=caps) (by simp) ?_;simp -implicitDefEqProofs;refine (hc w' (qV _) xs[k.toNat] (h.rd.kids _ (List.getElem_mem _)).is (hh.ds _ (List.getElem_mem _)).kind).mono ?_;rintro _ w2 ⟨rfl,hE⟩;have h2:=h.to hE;cases hf:f (xs[k.toNat]'Z).nd.d.kind with
   |false=>
    rw [hf] at H;simp -implicitDefEqProofs [RB];exact ⟨by rw [←H];rfl,h2.ext⟩
   |true=>
    rw [hf] at H;simp -implicitDefEqProofs [qdW,a99,hwj,q];exact (hI _ _ _).2 ⟨⟨by simp [E.r0],by simp [E.r4],by simp [E.r7]⟩,by simp [a97],by simp [a98],h2,by simpa using H⟩
  by_cases U:j<r.first.length
  ·have O:(j:Int)<(r.first.length:Int):=by omega
   obtain ⟨_,_,u,hu,hku⟩:=qwo h.rc.first U;have e1:r.first[j]? =some r.first[j]:=List.getElem?_eq_getElem U;rw [e1] at y;simp -implicitDefEqProofs [qdT,rj,S,V,z,q,qhd,h.kv.is,hl,c,encI,a.r7,d4,d5,hfi,hfl,O,U,hu];exact go _ u _ ⟨by simp [a.r0],by simp [a.r4],by simp [a.r7]⟩ (by simp [V]) (by simp [S]) (by simp [rj]) (by simp) (by simp) hku y
  ·have O:¬(j:Int)<(r.first.length:Int):=by omega
   have e1:r.first[j]? =none:=List.getElem?_eq_none (by omega);rw [e1] at y;cases hm:r.more with
   |none=>
    have:=qtV _ _ hh.row hm;omega
   |some f=>
    rw [hm] at y;have hmo:=h.rc.more;rw [hm] at hmo;simp -implicitDefEqProofs [qdT,rj,S,V,z,q,qhd,h.kv.is,hl,c,encI,a.r7,d4,d5,hfi,hfl,O,U];exact go _ mo f ⟨by simp [a.r0],by simp [a.r4],by simp [a.r7]⟩ (by simp [V]) (by simp [S]) (by simp [rj]) (by simp) (by simp) hmo y
 ·have z:¬(j:Int)<(x.nd.kids.length:Int):=by omega
  have hd0:x.nd.kids.drop j=[]:=List.drop_eq_nil_iff.2 (by omega);rw [hd0] at Y;have H:vJ (xs.map (·.nd)) x.nd=b:=by simpa [kH] using Y
  simp -implicitDefEqProofs [qdT,rj,S,z,q];rw [←H];exact qtR hh h ⟨by simp [a.r0],by simp [a.r4],by simp [a.r7]⟩ h32 (by omega)
theorem qkm {num:Bool} (H:RtH xs x r) (h:RtS w W lv xs x X Rw nm vr ty nu fi mo r) (c:RtK ρ lv X Rw) (J:ρ 8= .bool num) {b:Bool}
  (k:(vQ x.nd.d.name r.name&&vQ x.nd.d.vr r.vr&&vQ x.nd.d.typ r.typ&&num&&(decide (r.least≤x.nd.kids.length)&&decide (x.nd.kids.length≤r.most))&&kH (xs.map (·.nd)) r 0 x.nd.kids&&vJ (xs.map (·.nd)) x.nd)=b):
  qhf.wp ⟨Tryz.prog,178,x7,[]⟩ (qz [.tmp 6] (RB w b)) (jd [.tmp 6] (RB w b)) ρ W:=by
 obtain ⟨c0,c1,c2,c3,c4,c5⟩:=h.cX;obtain ⟨d0,V,S,d3,d4,d5,Y,Z⟩:=h.cR;have hl:=h.kl;have fin:∀(q:qa) (W2:World),qc W W2→q 95= .bool true→b=false→qdV.wp ⟨Tryz.prog,178,x7,[]⟩ (qz [.tmp 6] (RB w b)) (jd [.tmp 6] (RB w b)) q W2:=by
  intro q W2 o O U;subst U;simp -implicitDefEqProofs [qdV,O,RB];exact h.ext.trans' o
 simp -implicitDefEqProofs [-qX,x0,x4,xZ,qhf,c.r4,c.r7,c1,d0];refine qbA (.bool (vQ x.nd.d.name r.name)) qih (fun w' a=> ?_) ?_
 ·simp;refine (qf2 (h.to a).g _ H.d.name (h.to a).rc.name).mono ?_;rintro _ w2 ⟨rfl,o⟩;exact ⟨rfl,a.trans' o⟩
 cases t:vQ x.nd.d.name r.name with
 |false=>
  rw [t] at k;simp -implicitDefEqProofs [-qX,x0,x4,xZ];intro W2 j;exact fin _ W2 j (by simp) (by rw [←k];rfl)
 |true=>
 simp -implicitDefEqProofs [-qX,x0,x4,xZ,c.r4,c.r7,c2,V];refine qbA (.bool (vQ x.nd.d.vr r.vr)) qih (fun w' a=> ?_) ?_
 ·simp;refine (qf2 (h.to a).g _ H.d.vr (h.to a).rc.vr).mono ?_;rintro _ w2 ⟨rfl,o⟩;exact ⟨rfl,a.trans' o⟩
 cases z:vQ x.nd.d.vr r.vr with
 |false=>
  rw [t,z] at k;simp -implicitDefEqProofs [-qX,x0,x4,xZ];intro W2 j;exact fin _ W2 j (by simp) (by rw [←k];rfl)
 |true=>
 simp -implicitDefEqProofs [-qX,x0,x4,xZ,c.r4,c.r7,c3,S];refine qbA (.bool (vQ x.nd.d.typ r.typ)) qih (fun w' a=> ?_) ?_
 ·simp;refine (qf2 (h.to a).g _ H.d.typ (h.to a).rc.typ).mono ?_;rintro _ w2 ⟨rfl,o⟩;exact ⟨rfl,a.trans' o⟩
 cases E:vQ x.nd.d.typ r.typ with
 |false=>
  rw [t,z,E] at k;simp -implicitDefEqProofs [-qX,x0,x4,xZ];intro W2 j;exact fin _ W2 j (by simp) (by rw [←k];rfl)
 |true=>
 cases num with
 |false=>
  rw [t,z,E] at k;simp -implicitDefEqProofs [-qX,x0,x4,xZ,J];intro W2 j;exact fin _ W2 j (by simp) (by rw [←k];rfl)
 |true=>
 simp -implicitDefEqProofs [-qX,x0,x4,xZ,J,c.r4,c.r7,c5,h.kv.is,hl,Y,Z];refine qbA (.bool (decide (r.least≤x.nd.kids.length)&&decide (x.nd.kids.length≤r.most))) qAM (fun w' a=> ?_) ?_
 ·simp;refine (qbJ w' _ _ _).mono ?_;rintro _ _ ⟨rfl,rfl⟩;refine ⟨?_,a⟩;simp
 cases y:(decide (r.least≤x.nd.kids.length)&&decide (x.nd.kids.length≤r.most)) with
 |false=>
  rw [t,z,E,y] at k;simp -implicitDefEqProofs [-qX,x0,x4,xZ];intro W2 j;exact fin _ W2 j (by simp) (by rw [←k];rfl)
 |true=>
  rw [t,z,E,y] at k;simp only [Bool.and_eq_true,decide_eq_true_eq] at y;simp -implicitDefEqProofs [-qX,x0,x4,xZ];intro W2 j;have I:(kH (xs.map (·.nd)) r 0 x.nd.kids&&vJ (xs.map (·.nd)) x.nd)=b:=k;simp -implicitDefEqProofs [qdV];rw [←I];exact qtT H (h.to j) ⟨by simp [c.r0],by simp [c.r4],by simp [c.r7]⟩ y.1 y.2
theorem qtS (j:RtH xs x r) (h:RtS w W lv xs x X Rw nm vr ty nu fi mo r) (a:RtK ρ lv X Rw):
  qhe.wp ⟨Tryz.prog,178,x7,[]⟩ (qz [.tmp 6] (RB w (xF (xs.map (·.nd)) x.nd))) (jd [.tmp 6] (RB w (xF (xs.map (·.nd)) x.nd))) ρ W:=by
 obtain ⟨c0,c1,c2,c3,c4,c5⟩:=h.cX;obtain ⟨d0,U,S,H,J,V,Y,Z⟩:=h.cR;generalize k:xF (xs.map (·.nd)) x.nd=b;unfold xF at k;rw [j.row] at k;simp -implicitDefEqProofs [qhe,a.r4,a.r7,c4,H];cases hn:r.n with
 |none=>
  have c:=h.rc.n;rw [hn] at c;cases c;refine qpU qpB (v:= .nilFunc) (by simp) (.inl rfl) ?_;simp -implicitDefEqProofs [wu];refine qkm (num:=decide (x.nd.d.n=0)) j h ⟨by simp [a.r0],by simp [a.r4],by simp [a.r7]⟩ (by simp;rw [Bool.eq_iff_iff];simp) ?_;simpa [hn] using k
 |some f=>
  have c:=h.rc.n;rw [hn] at c;obtain ⟨F,caps,rfl,o,E⟩:=kb.fn c;refine qpU qpB (v:=qF F caps) (by simp) (qq5 _ _) ?_;simp -implicitDefEqProofs [wu,qF];refine vS qyR (fun W'=>Blk W' X (qj x).toArray 44∧Blk W' Rw (vv nm vr ty (qF F caps) fi mo r) 241) fun w3 g _=>⟨⟨h.bX.ext g,h.bR.ext g⟩, ?_⟩;have q:=h.to g;have I:∀W',(Blk W' X (qj x).toArray 44∧Blk W' Rw (vv nm vr ty (qF F caps) fi mo r) 241)→W'.cell? ⟨X,4,none⟩=some (.int .i64 x.nd.d.n)∧W'.cell? ⟨Rw,3,none⟩=some (qF F caps):=fun W' j=>⟨by rw [j.1.cell];rfl,by rw [j.2.cell];rfl⟩;have y:Blk w3 X (qj x).toArray 44∧Blk w3 Rw (vv nm vr ty (qF F caps) fi mo r) 241:=⟨q.bX,q.bR⟩;simp+contextual -implicitDefEqProofs [qoM,I,y,a.r4,a.r7];refine xT o (t:=45) (fs:= #[]) (caps:=caps) (by simp [qF]) ?_;simp -implicitDefEqProofs;refine (E w3 g x.nd.d.n).mono ?_;rintro _ O ⟨rfl,z⟩;simp -implicitDefEqProofs;refine qkm (num:=f x.nd.d.n) j (q.to z) ⟨by simp [a.r0],by simp [a.r4],by simp [a.r7]⟩ (by simp) ?_;simpa [hn] using k
end
section
variable {w:World} {lv:Value} {xs:List NV} {x:NV} {A:Nat} {cs:List Value} {R:Ending→World→Prop}
theorem quz (hG:L01.G w) (hM:xA w) (hR:Rd w lv xs) (hx:Cells w x.kv 1 (x.nd.kids.map encI)) (hd:DOk x.nd.d) (hds:∀y∈xs,DOk y.nd.d) (aa:xs.length≤400) (hin:∀k∈x.nd.kids,0≤k∧k<xs.length) (hA:Blk w A cs.toArray 175) (hT:yc w cs):
  Calls Tryz.prog 147 #[lv,xb x, .pointer (some ⟨A,0,none⟩)] w (RB w (xF (xs.map (·.nd)) x.nd)):=by
 generalize H:RB w (xF (xs.map (·.nd)) x.nd)=R;have E:=hd.kind;refine qyU fun ρ r0 r1 r2=> ?_;simp -implicitDefEqProofs [qoQ];refine vY fun X w1 hX j I _=> ?_;rw [show qd ρ (.tmp 1)=xb x by simp [r1],Qy hx.is] at I;simp -implicitDefEqProofs;refine vS qyT (fun W=>Blk W X (qj x).toArray 44) fun w2 c _=>⟨I.ext c, ?_⟩;have z:=I.ext c;have O:=hA.ext (j.trans' c);have cX:∀W,Blk W X (qj x).toArray 44→W.cell? ⟨X,0,none⟩=some (.int .u8 (x.nd.d.kind:Int)):=fun W h=>by rw [h.cell];rfl
 by_cases hk:38≤x.nd.d.kind
 ·have t:(38:Int)≤(x.nd.d.kind:Int):=by omega
  simp+contextual -implicitDefEqProofs [qg8,cX,z,k8 E,t,r2,qdU];rw [←H];refine ⟨?_,j.trans' c⟩;simp [xF,qtW hk]
 ·have t:¬(38:Int)≤(x.nd.d.kind:Int):=by omega
  obtain ⟨inf,S,U⟩:=qzl;simp+contextual -implicitDefEqProofs [qg8,cX,z,k8 E,t,r2];refine y0 qi0 S U (B:=A) (o:=0) (k:=x.nd.d.kind) (by simp) (by simp;rfl) (by omega) ?_;have J:x.nd.d.kind<cs.length:=by rw [hT.1];omega
  have cA:∀W,Blk W A cs.toArray 175→W.cell? ⟨A,x.nd.d.kind,none⟩=some (cs.getD x.nd.d.kind undef):=fun W h=>by
   rw [h.cell,List.getD_eq_getElem?_getD,List.getElem?_eq_getElem J];simp [J]
  have g:=hT.2 x.nd.d.kind (by omega);simp -implicitDefEqProofs [cA w2 O];cases hr:xu x.nd.d.kind with
  |none=>
   rw [hr] at g;have e:cs.getD x.nd.d.kind undef= .pointer none:=g;refine qpV qi1 (p:=none) (by simp;simpa using e) ?_;simp -implicitDefEqProofs [qdU];rw [←H];refine ⟨?_,j.trans' c⟩;simp [xF,hr]
  |some r=>
   rw [hr] at g;obtain ⟨Rw,nm,vr,ty,nu,fi,mo,e,hbR,hRC⟩:=g;refine qpV qi1 (p:=some ⟨Rw,0,none⟩) (by simp;simpa using e) ?_;simp -implicitDefEqProofs [qdU,qoP];refine vS qyS (fun W=>Blk W X (qj x).toArray 44) fun w3 q _=>⟨z.ext q, ?_⟩;have Y:=z.ext q;have hA3:=O.ext q;simp+contextual -implicitDefEqProofs [qoN,cX,Y,k8 E,t,r2];refine y0 qi0 S U (B:=A) (o:=0) (k:=x.nd.d.kind) (by simp) (by simp;rfl) (by omega) ?_;have Z:=cA w3 hA3;rw [e] at Z;have V:=hbR.ext (((j.trans' c).trans' q));have a:=(j.trans' c).trans' q;simp -implicitDefEqProofs [Z];rw [←H];exact qtS ⟨hd,hds,aa,hin,hr⟩ ⟨a,hR.ext a,Y,V,hRC.at' (qv.ext a),hx.ext a,hG.ext a,hM.ext a⟩ ⟨by simp [r0],by simp,by simp⟩
end
@[simp] theorem qAN:qf Tryz.prog 50=true:=by kernel_rfl
theorem quU {w:World} {a b:Value} {xs ys:List Int} (t:Cells w a 1 (xs.map encI)) (H:Cells w b 1 (ys.map encI)) (aa:xs.length<4611686018427387904):Calls Tryz.prog 50 #[a,b] w fun e w'=>e= .returned (.bool (decide (xs=ys)))∧qc w w':=by
 have o:qh a=xs.length:=by simpa using t.len.symm
 have E:qh b=ys.length:=by simpa using H.len.symm
 refine qxc fun ρ r0 r1=> ?_;simp -implicitDefEqProofs [qmZ,r0,r1,t.is,H.is,o,E];by_cases y:xs.length=ys.length
 ·simp -implicitDefEqProofs [y,qmV,r0,t.is,o];obtain ⟨I,U⟩:∃I:Nat→qa→World→Prop,∀j c w',I j c w'↔(c 0=a∧c 1=b∧c 12= .int .i64 (ys.length:Int)∧qc w w'∧xs.take j=ys.take j):=⟨_,fun _ _ _=>Iff.rfl⟩;refine ko 13 ys.length I (by simp) ((U _ _ _).2 ⟨by simp [r0],by simp [r1],by simp,qV _,by simp⟩) ?_;rintro j c w' hj S V;obtain ⟨r0,r1,h,q,k⟩:=(U _ _ _).1 V;have O:IntKind.i64.wrap ((j:Int)+1)=(j:Int)+1:=jG (by omega);by_cases g:j<ys.length
  ·have Z:=(t.ext q).cell j (by simpa [y] using g);have Y:=(H.ext q).cell j (by simpa using g);simp only [List.getElem_map,encI] at Z Y;simp -implicitDefEqProofs [qgI,S,h,g,qmX,r0,r1,t.is,o,H.is,E,y,Z,Y];intro w2 z;by_cases J:xs[j]=ys[j]
   ·simp -implicitDefEqProofs [qgJ,qmY,J,S,O];refine (U _ _ _).2 ⟨by simp [r0],by simp [r1],by simp [h],q.trans' z, ?_⟩;rw [List.take_succ_eq_append_getElem (by omega),List.take_succ_eq_append_getElem (by omega),k,J]
   ·simp -implicitDefEqProofs [qgJ,J];exact ⟨fun e=>J (by simp [e]),q.trans' z⟩
  ·simp -implicitDefEqProofs [qgI,S,h,g,qmW];refine ⟨?_,q⟩;rw [List.take_of_length_le (by omega),List.take_of_length_le (by omega)] at k;exact k
 ·simp -implicitDefEqProofs [y];exact ⟨fun e=>y (by rw [e]),qV _⟩
theorem qvf {base e:Nat} {w:World} {v:Value} {xs:List Value} (h:Own base e 1 w v xs) (l:Nat) (o:l≤xs.length):Own base e 1 w (qL v 1 0 l l) (xs.take l):=by
 rcases h with ⟨rfl,rfl⟩|⟨g,off,n,cap,cur,rfl,k,j,a,t,y,q,c⟩
 ·have:l=0:=by simpa using o
  subst this;exact .inl ⟨by simp [qL],rfl⟩
 ·have hn:n=xs.length:=by omega
  have es:qL (.slice (some ⟨g,off,none⟩) n cap) 1 0 l l= .slice (some ⟨g,off,none⟩) l l:=by
   simp [qL]
  rw [es];refine .inr ⟨g,off,l,l,cur,rfl,k,j,by simp;omega,Nat.le_refl _,by omega,by omega, ?_⟩;rw [←c,List.take_take];congr 1;omega
def wP:Option (List Int)→Bool|some o=>decide (o.length=1)|none=>false
theorem qeF:vh Tryz.prog 44=some #[.int .u8 0, .string ⟨#[]⟩, .string ⟨#[]⟩, .string ⟨#[]⟩, .int .i64 0, .slice none 0 0]:=by kernel_rfl
theorem quB {w:World} {lv:Value} {xs:List NV} (hR:Rd w lv xs) (hlen:xs.length≤1000000) (hkl:∀x∈xs,x.nd.kids.length≤1000000):Calls Tryz.prog 98 #[lv] w fun e w'=>e= .returned (.bool (kX (xs.map (·.nd))))∧qc w w':=by
 have hl:=hR.len;have his:=hR.cells.is;generalize J:zW (xs.map (·.nd)) 0 []=b;have hp:kX (xs.map (·.nd))=wP b:=by unfold kX;rw [J];cases b<;>rfl
 rw [hp];clear hp;refine qwD fun ρ r0=> ?_;simp -implicitDefEqProofs [qmg,r0,his,hl];generalize Y:(fun (e:Ending) (w':World)=>e= .returned (.bool (wP b))∧qc w w')=R;obtain ⟨I,hI⟩:∃I:Nat→qa→World→Prop,∀j g w',I j g w'↔(g 7=lv∧g 8= .int .i64 (xs.length:Int)∧∃os:List Int,Own w.heap.size 3 1 w' (g 3) (os.map encI)∧os.length≤j∧qc w w'∧zW ((xs.drop j).map (·.nd)) j os=b):=⟨_,fun _ _ _=>Iff.rfl⟩;refine ko 9 xs.length I (by simp) ((hI _ _ _).2 ⟨by simp,by simp,[],by simpa using Own.nil _ _ _ _,Nat.le_refl _,qV _,J⟩) ?_;clear J r0;rintro j g w' hj rj hIw;obtain ⟨r7,r8,os,O,hol,hE,J⟩:=(hI _ _ _).1 hIw;have V:=hR.ext hE;generalize H:g 3=v3 at O;have t:=O.isl;have hoc:=L01.vB O;have y:qh v3=os.length:=by simpa using hoc.len.symm
 have hwj:IntKind.i64.wrap ((j:Int)+1)=(j:Int)+1:=jG (by omega);by_cases E:j<xs.length
 ·rw [List.drop_eq_getElem_cons E] at J;have U:=V.row E;have hk:=V.kids xs[j] (List.getElem_mem _);have hkL:qh xs[j].kv=xs[j].nd.kids.length:=by simpa using hk.len.symm
  have hklj:=hkl xs[j] (List.getElem_mem _);have z:=zH hk.is;have hko:=xO hk.is;generalize xs[j]=x at U hk hkL hklj z hko J;have a:(if x.nd.kids.length≤os.length∧os.drop (os.length - x.nd.kids.length)=x.nd.kids then zW ((xs.drop (j+1)).map (·.nd)) (j+1) (os.take (os.length - x.nd.kids.length)++[(j:Int)]) else none)=b:=J;have o:(j:Int)<(xs.length:Int):=by omega
  simp -implicitDefEqProofs [qgA,rj,r8,o,E,qmd,r7,V.cells.is,hl,U];refine qK qeF fun X w1 hX hE1 hb1 _=> ?_;simp -implicitDefEqProofs;refine jg (B:=X) (by simp) hb1 (by simp [Value.cells,qj,z]) (by simp [Value.cells,qj,z,hko]) (by simpa [Value.cells,qj,z] using qe9) fun w2 hO2 hb2=> ?_;simp -implicitDefEqProofs [Value.cells,qj,z] at hb2;have k:qc w' w2:=hO2.ext hE1 hX;have c5:w2.cell? ⟨X,5,none⟩=some x.kv:=by rw [hb2.cell];rfl
  have hw:IntKind.i64.wrap ((os.length:Int) - (x.nd.kids.length:Int))=(os.length:Int) - (x.nd.kids.length:Int):=jG (by omega);simp -implicitDefEqProofs [-qX,x0,x4,xZ,H,t,y,c5,hk.is,hkL,hw];by_cases q:x.nd.kids.length≤os.length
  ·have hn:¬((os.length:Int) - (x.nd.kids.length:Int)<0):=by omega
   have hn0:(0:Int)≤(os.length:Int) - (x.nd.kids.length:Int):=by omega
   have hn1:(os.length:Int) - (x.nd.kids.length:Int)≤(os.length:Int):=by omega
   have hnn:((os.length:Int) - (x.nd.kids.length:Int)).toNat=os.length - x.nd.kids.length:=by omega
   simp -implicitDefEqProofs [-qX,x0,x4,xZ,q,hn,H,t,y,hn0,hn1,hnn,c5];refine qbA (.bool (decide (os.drop (os.length - x.nd.kids.length)=x.nd.kids))) qAN (fun w3 aa=> ?_) ?_
   ·simp;have hd:=qig (hoc.ext (k.trans' aa)) (os.length - x.nd.kids.length) (by simp);rw [y,←List.map_drop] at hd;refine (quU hd (hk.ext (k.trans' aa)) (by simp;omega)).mono ?_;rintro _ w4 ⟨rfl,S⟩;exact ⟨rfl,aa.trans' S⟩
   by_cases he:os.drop (os.length - x.nd.kids.length)=x.nd.kids
   ·rw [if_pos ⟨q,he⟩] at a;simp -implicitDefEqProofs [-qX,x0,x4,xZ,he];intro w3 c;have hE03:=(hE.trans' k).trans' c;have ho3:=qvf ((O.ext k).ext c) (os.length - x.nd.kids.length) (by simp);have hcap:=qgy t;rw [y] at hcap;have hn2:(os.length:Int) - (x.nd.kids.length:Int)≤(qx v3:Int):=by omega
    simp -implicitDefEqProofs [qdH,qmf,H,t,q,hn0,hnn,hn2];refine xc qbl (by decide) (by decide) (by simp [Value.cells]) fun Z w4 hZ S hb4 _=> ?_;simp -implicitDefEqProofs [Value.cells] at hb4⊢;refine qzX qkw (W0:=w) (hE03.trans' S) (sv:=qL v3 1 0 (os.length - x.nd.kids.length) (os.length - x.nd.kids.length)) (xv:= .slice (some ⟨Z,0,none⟩) 1 1) (by simp) (by simp) (ho3.ext S) (Blk.cells (cs:=[encI (j:Int)]) (by simpa [encI] using hb4) rfl) (by simp [encI,Value.oneCell']) (by simp;omega) (by simp;omega) fun v' w5 hE5 ho5 _ _=> ?_;simp -implicitDefEqProofs [qme,rj,hwj,E];exact (hI _ _ _).2 ⟨by simp [r7],by simp [r8],os.take (os.length - x.nd.kids.length)++[(j:Int)],by simpa [List.map_take] using ho5,by simp;omega,hE5,a⟩
   ·rw [if_neg (fun h=>he h.2)] at a;subst a;simp -implicitDefEqProofs [-qX,x0,x4,xZ,he];intro w3 c;simp -implicitDefEqProofs [qdH];rw [←Y];exact ⟨rfl,(hE.trans' k).trans' c⟩
  ·rw [if_neg (fun h=>q h.1)] at a;subst a;have hn:((os.length:Int) - (x.nd.kids.length:Int)<0):=by omega
   simp -implicitDefEqProofs [-qX,x0,x4,xZ,hn,q];intro w3 c;simp -implicitDefEqProofs [qdH];rw [←Y];exact ⟨rfl,(hE.trans' k).trans' c⟩
 ·have hd0:xs.drop j=[]:=List.drop_eq_nil_iff.2 (by omega);rw [hd0] at J;have a:some os=b:=J;subst a;have o:¬(j:Int)<(xs.length:Int):=by omega
  simp -implicitDefEqProofs [qgA,rj,r8,o,E,qmc,H,t,y];rw [←Y];refine ⟨?_,hE⟩;simp only [wP];congr 2;rw [Bool.eq_iff_iff];simp;omega
theorem quR {w:World} {lv:Value} {xs:List NV} (O:Rd w lv xs) (V:xs.length≤1000000) {F:FuncId} {caps:Array Value} (E:qf Tryz.prog F=true) {p:NV→Bool} (hc:∀W,qc w W→∀x∈xs,Calls Tryz.prog F (#[xb x]++caps) W fun e w'=>e= .returned (.bool (p x))∧qc W w'):
  Calls Tryz.prog 224 #[lv,qF F caps] w fun e w'=>∃n:Int,e= .returned (.int .i64 n)∧decide (0≤n)=xs.any p∧qc w w':=by
 have Y:=O.len;refine qye fun ρ r0 r1=> ?_;simp -implicitDefEqProofs [qn4,r0,O.cells.is,Y];generalize q:(fun (e:Ending) (w':World)=>∃n:Int,e= .returned (.int .i64 n)∧decide (0≤n)=xs.any p∧qc w w')=R;obtain ⟨I,S⟩:∃I:Nat→qa→World→Prop,∀j a w',I j a w'↔(a 0=lv∧a 1=qF F caps∧a 7= .int .i64 (xs.length:Int)∧qc w w'∧(xs.take j).any p=false):=⟨_,fun _ _ _=>Iff.rfl⟩;refine ko 8 xs.length I (by simp) ((S _ _ _).2 ⟨by simp [r0],by simp [r1],by simp,qV _,by simp⟩) ?_;clear r0 r1;rintro j a w' hj J U;obtain ⟨r0,r1,r7,o,h⟩:=(S _ _ _).1 U;have H:IntKind.i64.wrap ((j:Int)+1)=(j:Int)+1:=jG (by omega);have y:=O.ext o;by_cases g:j<xs.length
 ·have c:(j:Int)<(xs.length:Int):=by omega
  have k:=y.row g;simp -implicitDefEqProofs [qgZ,J,r7,c,g,qn2,r0,r1,y.cells.is,Y,k];refine xT E (t:=11) (fs:= #[]) (caps:=caps) (by simp [qF]) ?_;simp -implicitDefEqProofs;refine (hc w' o xs[j] (List.getElem_mem _)).mono ?_;rintro _ w2 ⟨rfl,z⟩;cases Z:p xs[j] with
  |true=>
   simp -implicitDefEqProofs;rw [←q];refine ⟨j,rfl, ?_,o.trans' z⟩;rw [List.any_eq_true.2 ⟨xs[j],List.getElem_mem _,Z⟩];simp
  |false=>
   simp -implicitDefEqProofs [qn3,J,H,g];refine (S _ _ _).2 ⟨by simp [r0],by simp [r1],by simp [r7],o.trans' z, ?_⟩;rw [List.take_succ_eq_append_getElem g,List.any_append,h];simp [Z]
 ·have c:¬(j:Int)<(xs.length:Int):=by omega
  rw [List.take_of_length_le (by omega)] at h;simp -implicitDefEqProofs [qgZ,J,r7,c,g,qn1];rw [←q];exact ⟨-1,rfl,by rw [h];rfl,o⟩
theorem quV {w:World} {lv:Value} {xs:List NV} (j:Rd w lv xs) (a:xs.length≤1000000) {F:FuncId} {caps:Array Value} (c:qf Tryz.prog F=true) {p:NV→Bool} (g:∀W,qc w W→∀x∈xs,Calls Tryz.prog F (#[xb x]++caps) W fun e w'=>e= .returned (.bool (p x))∧qc W w'):
  Calls Tryz.prog 145 #[lv,qF F caps] w fun e w'=>e= .returned (.bool (xs.any p))∧qc w w':=by
 refine qyX fun ρ r0 r1=> ?_;simp -implicitDefEqProofs [qoS,r0,r1];refine (quR j a c g).mono ?_;rintro _ w2 ⟨n,rfl,hn,h⟩;simp -implicitDefEqProofs;exact ⟨hn,h⟩
theorem qkP:∀(l:List Nd) (i:Nat) (o:List Int),(∀k∈o,0≤k∧k<i)→zW l i o≠none→∀x∈l,∀k∈x.kids,0≤k∧k<i+l.length
 |[],_,_,_,_,x,c,_,_=>by cases c
 |y::l,i,o,g,h,x,c,k,a=>by
  rw [qjO] at h;split at h
  ·rename_i j;rcases List.mem_cons.1 c with rfl|c
   ·rw [←j.2] at a;have:=g k (List.mem_of_mem_drop a);simp;omega
   ·have:=qkP l (i+1) _ (fun k a=>by
     rcases List.mem_append.1 a with a|a
     ·have:=g k (List.mem_of_mem_take a);omega
     ·rw [List.mem_singleton.1 a];omega) h x c k a
    simp;omega
  ·exact absurd rfl h
theorem qum {l:List Nd} (h:kX l=true):∀x∈l,∀k∈x.kids,0≤k∧k<(l.length:Int):=by
 intro x a k c;have g:zW l 0 []≠none:=fun e=>by unfold kX at h;rw [e] at h;cases h
 have:=qkP l 0 [] (by simp) g x a k c;omega
theorem quy {w:World} {lv:Value} {xs:List NV} {x:NV} {A Lb:Nat} {cs:List Value} (J:L01.G w) (O:xA w) (E:Rd w lv xs) (t:Blk w Lb #[lv] 29) (q:x∈xs) (h:∀y∈xs,DOk y.nd.d) (j:xs.length≤400) (U:kX (xs.map (·.nd))=true) (H:Blk w A cs.toArray 175) (V:yc w cs):
  Calls Tryz.prog 146 #[xb x, .pointer (some ⟨Lb,0,none⟩), .pointer (some ⟨A,0,none⟩)] w fun e w'=>e= .returned (.bool (!xF (xs.map (·.nd)) x.nd))∧qc w w':=by
 have o:=E.kids x q;refine qyV fun ρ r0 r1 r2=> ?_;simp -implicitDefEqProofs [qoR];refine vY fun X w1 Y a g _=> ?_;rw [show qd ρ (.tmp 0)=xb x by simp [r0],Qy o.is] at g;have S:w1.cell? ⟨Lb,0,none⟩=some lv:=by rw [(t.ext a).cell];rfl
 have c:Eng.jq w1 ⟨X,0,none⟩ 0 6=some (qj x):=by
  have:=kW g;simpa [qj] using this
 simp -implicitDefEqProofs [r1,r2,S,c];refine (quz (J.ext a) (O.ext a) (E.ext a) (o.ext a) (h x q) h j (fun k I=> ?_) (H.ext a) (V.at' (qv.ext a))).mono ?_
 ·have:=qum U x.nd (List.mem_map.2 ⟨x,q,rfl⟩) k I;simpa using this
 rintro _ w2 ⟨rfl,z⟩;simp -implicitDefEqProofs;exact a.trans' z
theorem yc.cells {w:World} {cs:List Value} (g:yc w cs):∀c∈cs,c.cells= #[c]∧c.oneCell=true:=fun c o=>by
 obtain ⟨k,j,rfl⟩:=List.mem_iff_getElem.1 o;have a:=g.2 k (by rw [←g.1];exact j);rw [List.getD_eq_getElem?_getD,List.getElem?_eq_getElem j] at a;simp only [Option.getD_some] at a;generalize cs[k]=c at a;cases h:xu k with
 |none=>rw [h] at a;cases a;exact ⟨rfl,rfl⟩
 |some r=>
  rw [h] at a;obtain ⟨X,_,_,_,_,_,_,rfl,_⟩:=a;exact ⟨rfl,rfl⟩
theorem qkY {w:World} {lv rv:Value} {xs:List NV} {root:Nat→Bool} (hG:L01.G w) (hM:xA w) (V:Rd w lv xs) (hds:∀y∈xs,DOk y.nd.d) (hkl:∀x∈xs,x.nd.kids.length≤1000000) (hr:vz w rv root):
  Calls Tryz.prog 64 #[lv,rv] w fun e w'=>e= .returned (.bool (whole (xs.map (·.nd)) root))∧qc w w':=by
 have hl:=V.len;have aa:=V.cells.is;obtain ⟨F,caps,hrv,hcb,hc⟩:=hr.fn;refine qwZ fun ρ r0 r1=> ?_;simp -implicitDefEqProofs [qmH];refine vY fun B w1 hB S hb1 _=> ?_;have O:Blk w1 B #[lv] 29:=by simpa [r0,zH aa] using hb1
 have cB:∀W,qc w1 W→W.cell? ⟨B,0,none⟩=some lv:=fun W hE=>by rw [(O.ext hE).cell];rfl
 simp -implicitDefEqProofs [cB w1 (qV _),aa,hl];refine (qbJ w1 _ 1 400).mono ?_;rintro _ w1' ⟨rfl,hw1⟩;obtain rfl:=hw1.symm;generalize o:whole (xs.map (·.nd)) root=b;unfold whole at o;rw [List.length_map] at o;have hin:((decide (1≤(xs.length:Int))&&decide ((xs.length:Int)≤400)):Bool)=(decide (1≤xs.length)&&decide (xs.length≤400)):=by
  congr 1<;>exact decide_eq_decide.2 (by omega)
 cases Y:(decide (1≤xs.length)&&decide (xs.length≤400)) with
 |false=>
  rw [Y] at o hin;subst o;simp -implicitDefEqProofs [hin];exact S
 |true=>
 rw [Y] at hin;have h:=Y;simp only [Bool.and_eq_true,decide_eq_true_eq] at h;rw [h.1|>decide_eq_true,h.2|>decide_eq_true] at o;simp -implicitDefEqProofs [hin,cB w1 (qV _)];refine (quB (V.ext S) (by omega) hkl).mono ?_;rintro _ w2 ⟨rfl,E⟩;have j:=S.trans' E;cases hp:kX (xs.map (·.nd)) with
 |false=>
  rw [hp] at o;have ab:b=false:=by rw [←o];rfl
  subst ab;simp -implicitDefEqProofs;exact j
 |true=>
 rw [hp] at o;have hrow:=(V.ext j).row (k:=xs.length - 1) (by omega);have hwl:IntKind.i64.wrap ((xs.length:Int) - 1)=((xs.length - 1:Nat):Int):=by rw [jG (by omega)];omega
 have hltl:((xs.length - 1:Nat):Int)<(xs.length:Int):=by omega
 have g:xs.length - 1<xs.length:=by omega
 simp -implicitDefEqProofs [r1,hrv,cB w2 E,aa,hl,hwl,hltl,g,hrow];refine xT hcb (t:=16) (fs:= #[]) (caps:=caps) (by simp [qF]) ?_;simp -implicitDefEqProofs;have I:=List.getElem_mem g;refine (hc w2 j xs[xs.length - 1] (V.kids _ I).is (hds _ I).kind).mono ?_;rintro _ w3 ⟨rfl,U⟩;have H:=j.trans' U;have hrk:qbv (xs.map (·.nd))=(xs[xs.length - 1]'g).nd.d.kind:=by
  unfold qbv;rw [List.getLast?_eq_getElem?,List.length_map,List.getElem?_map,List.getElem?_eq_getElem g];rfl
 cases hro:root (xs[xs.length - 1]'g).nd.d.kind with
 |false=>
  rw [hrk,hro] at o;have ab:b=false:=by rw [←o];rfl
  subst ab;simp -implicitDefEqProofs;exact H
 |true=>
 rw [hrk,hro] at o;simp -implicitDefEqProofs [qmG];refine qux.mono ?_;rintro _ w4 ⟨cs,rfl,hT,Z⟩;simp -implicitDefEqProofs;refine qK qiH fun A w5 hA hE5 hbA _=> ?_;simp -implicitDefEqProofs;have J:=hT.cells;have z:=qq1 fun c hc=>(J c hc).1;refine jg (B:=A) (by simp) hbA (by simp [z,hT.1]) ?_ (by simp [z,hT.1];kernel_rfl) fun w6 hO6 hb6=> ?_
 ·simp only [qd,qk,qn];simpa [z] using fun c hc=>(J c hc).2
 have hb6':Blk w6 A cs.toArray 175:=by simpa [z] using hb6
 have q:qc w4 w6:=hO6.ext hE5 hA;have a:=(H.trans' Z).trans' q;have cB6:=cB w6 (((E.trans' U).trans' Z).trans' q);have hB6:=O.ext (((E.trans' U).trans' Z).trans' q);simp -implicitDefEqProofs [cB6];refine (quV (p:=fun y=> !xF (xs.map (·.nd)) y.nd) (F:=146) (caps:= #[.pointer (some ⟨B,0,none⟩), .pointer (some ⟨A,0,none⟩)]) (V.ext a) (by omega) (by kernel_rfl) fun W hW y hy=> ?_).mono ?_
 ·simpa using quy (hG.ext (a.trans' hW)) (hM.ext (a.trans' hW)) (V.ext (a.trans' hW)) (hB6.ext hW) hy hds h.2 hp (hb6'.ext hW) (hT.at' (qv.ext (q.trans' hW)))
 rintro _ w7 ⟨rfl,hE7⟩;simp -implicitDefEqProofs;refine ⟨?_,a.trans' hE7⟩;rw [←o];simp [List.all_map,Function.comp_def];rw [List.any_eq_not_all_not];simp
end Go.L02
namespace Go.L02
open Go.Eng
open Go.L01 (Bs Tok)
def Sh (s:Bs):Prop:=s.length≤1000000
structure DS (d:D):Prop where
 kind:d.kind≤37
 name:Sh d.name
 vr:Sh d.vr
 typ:Sh d.typ
inductive TOk:T→Prop
 |mk {d:D} {ks:List T}:DS d→(∀t∈ks,TOk t)→TOk (T.mk d ks)
theorem kT:Sh []:=by simp [Sh]
def Al {α:Type} (P:α→Prop) (m:M α):Prop:=∀i f a j f',m i f= .ok a j f'→P a
section
variable {L:List Tok} {α β:Type} {P:α→Prop} {Q:β→Prop}
theorem qBE {m:M α}:Al (fun _=>True) m:=fun _ _ _ _ _ _=>trivial
theorem zJ {a:α} (h:P a):Al P (ret a):=fun i f b j c e=>by
 simp only [ret,Rs.ok.injEq] at e;obtain ⟨rfl,_,_⟩:=e;exact h
theorem qit:Al P (oof:M α):=fun i f b j a e=>by cases e
theorem vp {m:M α} {k:α→M β} (o:Al P m) (q:∀a,P a→Al Q (k a)):Al Q (bnd m k):=by
 intro i f b j t h;cases c:m i f with
 |oof=>rw [vg c] at h;cases h
 |no g=>rw [jJ c] at h;cases h
 |ok a l g=>
  rw [qT c] at h;exact q a (o _ _ _ _ _ c) _ _ _ _ _ h
theorem y9 {m:M α} {k:α→M β} (c:∀a,Al Q (k a)):Al Q (bnd m k):=vp qBE fun a _=>c a
theorem wz {s:Bs} {x y:M β} (c:Al Q x) (a:Al Q y):Al Q (qe L s x y):=by
 intro i f b j g h;unfold qe at h;split at h
 ·exact c _ _ _ _ _ h
 ·exact a _ _ _ _ _ h
end
section
variable {L:List Tok} (hL:xf L) (hn:L.length≤20000)
include hL in
theorem qje (i:Nat):(tk L i).text.length≤20:=by
 unfold tk;rw [List.getD_eq_getElem?_getD];by_cases h:i<L.length
 ·rw [List.getElem?_eq_getElem h];exact hL _ (List.getElem_mem h)
 ·rw [List.getElem?_eq_none (by omega)];simp
include hL in
theorem qeX (i:Nat):Sh (tk L i).text:=Nat.le_trans (qje hL i) (by omega)
include hL in
theorem qiu:Al (fun s:Bs=>s.length≤20) (name L):=by
 intro i f a j c h;unfold name at h;split at h
 ·simp only [Rs.ok.injEq] at h;obtain ⟨rfl,_,_⟩:=h;exact qje hL i
 ·cases h
include hL in
theorem qqX:Al Sh (name L):=fun i f a j c h=>Nat.le_trans (qiu hL i f a j c h) (by omega)
theorem qma:∀(l:List Tok),(∀t∈l,t.text.length≤20)→(vm l).length≤20*l.length
 |[],_=>by simp [vm]
 |t::l,h=>by
  have g:=qma l fun t a=>h t (by simp [a]);have c:=h t (by simp);have e:vm (t::l)=t.text++vm l:=by simp [vm]
  rw [e,List.length_append,List.length_cons];omega
include hL hn in
theorem qqU (n:Nat):Al Sh (jw L n):=by
 intro i f a j q h;unfold jw at h;cases c:kind L n i f with
 |oof=>rw [c] at h;cases h
 |no g=>rw [c] at h;cases h
 |ok u l g=>
  rw [c] at h;simp only [Rs.andThen,Rs.ok.injEq] at h;obtain ⟨rfl,_,_⟩:=h;have y:(vZ L i l).length≤20000:=by simp [vZ];omega
  have o:=qma (vZ L i l) fun t k=>hL t (List.mem_of_mem_take (List.mem_of_mem_drop k));unfold Sh;omega
include hL hn in
theorem qqV (n:Nat):Al Sh (q7 L n):=vp (qqU hL hn n) fun _ h=>y9 fun _=>zJ h
include hL in
theorem qBA:Al Sh (op L):=by
 intro i f a j g h;unfold op at h;split at h
 ·simp only [Rs.ok.injEq] at h;obtain ⟨rfl,_,_⟩:=h;exact qeX hL i
 ·refine vp (Q:=Sh) (qiu hL) (fun s c=>wz (vp (qiu hL) fun u k=>zJ ?_) (zJ ?_)) _ _ _ _ _ h
  ·unfold Sh;simp;omega
  ·unfold Sh;omega
def wg (l:List T):Prop:=∀t∈l,TOk t
theorem Qe:wg []:=by simp [wg]
theorem ts1 {t:T} (h:TOk t):wg [t]:=by simpa [wg] using h
theorem tsC {t:T} {l:List T} (h:TOk t) (c:wg l):wg (t::l):=by
 intro u a;rcases List.mem_cons.1 a with rfl|a
 ·exact h
 ·exact c u a
theorem ts2 {t u:T} (h:TOk t) (a:TOk u):wg [t,u]:=tsC h (ts1 a)
theorem tok {d:D} {ks:List T} (h:DS d) (a:wg ks):TOk (T.mk d ks):= .mk h a
theorem TOk.ks {t:T} (h:TOk t):wg t.kids:=by cases h with|mk c a=>exact a
theorem TOk.ds {t:T} (h:TOk t):DS t.d:=by cases h with|mk a c=>exact a
theorem ds0 {k:Nat} (h:k≤37:=by decide) {n:Int}:DS {kind:=k,n:=n}:=⟨h,kT,kT,kT⟩
theorem dsN {k:Nat} {s:Bs} (a:Sh s) (h:k≤37:=by decide):DS {kind:=k,name:=s}:=⟨h,a,kT,kT⟩
section
variable {e b s:M T} {p:M (T×Nat)}
theorem qqY (c:Al TOk e):∀n,Al wg (more L e n)
 |0=>qit
 |n+1=>wz (vp c fun a g=>vp (qqY c n) fun _ h=>zJ (tsC g h)) (zJ Qe)
theorem qiv (c:Al TOk e) (n:Nat):Al wg (vM L n e):=y9 fun _=>wz (zJ Qe) (vp (vp c fun a g=>vp (qqY c n) fun _ j=>zJ (tsC g j)) fun _ h=>y9 fun _=>zJ h)
include hL hn in
theorem qBC (c:Al TOk e) (n:Nat):Al TOk (x6 L n e):=vp (qqX hL) fun _ g=>wz (vp (qqU hL hn n) fun _ h=>y9 fun _=>vp (qiv c n) fun _ a=>zJ (tok ⟨by simp,g,kT,h⟩ a))
 (vp (qiv c n) fun _ a=>zJ (tok ⟨by simp,g,kT,kT⟩ a))
include hL in
theorem qqW (g:Al TOk e) (n:Nat) {o:Bs} (c:Sh o):Al TOk (vk L n e o):=vp (qBA hL) fun _ h=>vp (qiv g n) fun _ a=>zJ (tok ⟨by simp,h,c,kT⟩ a)
include hL hn in
theorem qBz (a:Al TOk e) (n:Nat):Al TOk (bnd (q7 L n) (vk L n e)):=vp (qqV hL hn n) fun _ h=>qqW hL a n h
theorem qew {b:Bool} {m:M T} (h:Al TOk m):Al (fun x:T×Bool=>TOk x.1) (q8 b m):=vp h fun _ h=>zJ h
include hL hn in
theorem qBB (o:Al TOk e) (n:Nat):Al (fun x:T×Bool=>TOk x.1) (jp L n e):=by
 have vr:∀i,TOk (T.mk {kind:=4,name:=(tk L i).text} []):=fun i=>tok (dsN (qeX hL i)) Qe;intro i f a j q h;unfold jp at h;split at h
 ·exact qew (qBC hL hn o n) _ _ _ _ _ h
 ·split at h
  ·cases c:q7 L n i f with
   |oof=>rw [c] at h;cases h
   |no g=>rw [c] at h;simp only [Rs.ok.injEq] at h;obtain ⟨rfl,_,_⟩:=h;exact vr i
   |ok s k g=>
    rw [c] at h;exact qew (b:=true) (qqW hL o n (qqV hL hn n _ _ _ _ _ c)) _ _ _ _ _ h
  ·split at h
   ·simp only [Rs.ok.injEq] at h;obtain ⟨rfl,_,_⟩:=h;exact vr i
   ·exact qew (qBz hL hn o n) _ _ _ _ _ h
include hL hn in
theorem qBx (c:Al TOk e) (n:Nat):Al (fun x:T×Bool=>TOk x.1) (jz L n e):=by
 intro i f a j o h;unfold jz at h;split at h
 ·simp only [Rs.ok.injEq] at h;obtain ⟨rfl,_,_⟩:=h;exact tok ds0 Qe
 ·refine wz (Q:=fun x:T×Bool=>TOk x.1) (zJ (tok ds0 Qe)) (wz (zJ (tok ds0 Qe)) (wz (zJ (tok ds0 Qe)) ?_)) _ _ _ _ _ h;intro i f a j o h;by_cases k:qg L i [[117,112],[100,111,119,110]]=true
  ·simp only [k,if_true] at h;have q:q8 false (xC L e) i f=bnd (needs L [[40]]) (fun _=>bnd e fun t=>bnd (needs L [[41]]) fun _=>ret (T.mk {kind:=if qg L i [[100,111,119,110]] then 10 else 9} [t],false)) (i+1) f:=by
    show bnd (bnd _ _) _ (i+1) f=_;simp only [sq,x9,wc]
   rw [q] at h;refine y9 (Q:=fun x:T×Bool=>TOk x.1) (fun _=>vp c fun t g=>y9 fun _=>zJ (tok ⟨?_,kT,kT,kT⟩ (ts1 g))) _ _ _ _ _ h;show (if _ then 10 else 9)≤37;split<;>decide
  ·simp only [k,Bool.false_eq_true,if_false] at h;exact wz (Q:=fun x:T×Bool=>TOk x.1) (qew (vp c fun _ g=>y9 fun _=>zJ g)) (qBB hL hn c n) _ _ _ _ _ h
include hL in
theorem qis (a:Al TOk e):∀n t fm,TOk t→Al (fun x:T×Nat=>TOk x.1) (zC L e n t fm)
 |0,_,_,_=>qit
 |n+1,t,fm,c=>wz (vp a fun k h=>y9 fun _=>qis a n _ _ (tok ds0 (ts2 c h))) (wz (vp (qqX hL) fun s g=>qis a n _ _ (tok (dsN g) (ts1 c))) (zJ c))
include hL hn in
theorem qBy (a:Al TOk e) (n:Nat):Al (fun x:T×Nat=>TOk x.1) (zZ L n e):=vp (qBx hL hn a n) fun p c=>qis hL a n _ _ c
include hL in
theorem qBD (g:Al (fun x:T×Nat=>TOk x.1) p):Al TOk (xR L p):=wz (vp g fun x c=>zJ (tok (dsN (by simp [Sh])) (ts1 c))) (vp g fun x c=>by
 intro i f a j q h;by_cases k:qg L i xx=true
 ·simp only [k,if_true] at h;exact vp (Q:=TOk) g (fun y o=>zJ (tok (dsN (qeX hL i)) (ts2 c o))) _ _ _ _ _ h
 ·simp only [k,Bool.false_eq_true,if_false,Rs.ok.injEq] at h;obtain ⟨rfl,_,_⟩:=h;exact c)
include hL hn in
theorem qqZ:∀n,Al TOk (qH L n)
 |0=>qit
 |n+1=>qBD hL (qBy hL hn (qqZ n) n)
end
mutual
theorem qjb:∀(t:T) (b:Nat),TOk t→∀x∈t.flat b,DS x.d
 | .mk d ks,b,h,x,a=>by
  simp only [T.flat,List.mem_append,List.mem_singleton] at a;rcases a with a|rfl
  ·exact tok_flats ks b h.ks x a
  ·exact h.ds
theorem tok_flats:∀(c:List T) (b:Nat),wg c→∀x∈flats b c,DS x.d
 |[],_,_,x,a=>by simp [flats] at a
 |t::c,b,h,x,a=>by
  simp only [flats,List.mem_append] at a;rcases a with a|a
  ·exact qjb t b (h t (by simp)) x a
  ·exact tok_flats c _ (fun u g=>h u (by simp [g])) x a
end
mutual
theorem qgt:∀(t:T) (b:Nat),∀x∈t.flat b,x.kids.length<t.size
 | .mk d ks,b,x,a=>by
  simp only [T.flat,List.mem_append,List.mem_singleton] at a;rcases a with a|rfl
  ·have:=kids_flats ks b x a;simp only [T.size];omega
  ·have:(qu b ks).length≤sizes ks:=roots_sizes ks b;simp only [T.size];omega
theorem kids_flats:∀(c:List T) (b:Nat),∀x∈flats b c,x.kids.length<sizes c
 |[],_,x,a=>by simp [flats] at a
 |t::c,b,x,a=>by
  simp only [flats,List.mem_append] at a;simp only [sizes];rcases a with a|a
  ·have:=qgt t b x a;omega
  ·have:=kids_flats c _ x a;omega
theorem roots_sizes:∀(a:List T) (b:Nat),(qu b a).length≤sizes a
 |[],_=>by simp [qu]
 |t::a,b=>by
  have:=roots_sizes a (b+t.size);have:=t.size_pos;simp only [qu,sizes,List.length_cons];omega
end
end
end Go.L02
namespace Go.L02
open Go Go.Eng Go.RowKit
open Go.Proofs hiding encI
open Go.L01 (Bd Bs Own.same SlK Tok fV jE jM jO jT jn jx qB qP qR qcj qi qr vE vx)
set_option maxRecDepth 100000
set_option maxHeartbeats 2000000
def Src (L:List Tok) (n:Nat) (m:Mod):Prop:=∃i f j g,qvo L n i f= .ok m j g∧j≤L.length
structure PaS (L:List Tok) (n:Nat) (B P Lv Ln Ou:Nat) (w:World) (tv:Value) (i f:Nat) (nv lv rv:Value) (xs:List NV) (css:List (List Value)) (ls:List Int) (ms:List Mod) (w':World):Prop where
 st:PSt B B w' tv nv L i f xs
 ln:xs.length≤2*i+2
 sp:j9 lv xs
 bP:Blk w' P #[.pointer (some ⟨B,0,none⟩)] 83
 bL:Blk w' Lv #[tv] 48
 bN:Blk w' Ln #[lv] 40
 bO:Blk w' Ou #[rv] 23
 ol:Own w.heap.size 3 1 w' lv (ls.map encI)
 oo:Own w.heap.size 66 7 w' rv css.flatten
 all:vq (yx (xU (fun k=>lv.ownBlock≠some k) w' nv xs) w') css ms
 sm:qv (fun k T=>qcA k T∧k<w.heap.size) w w'
 bl:Below B w w'
 src:∀m∈ms,Src L n m
section
variable {L:List Tok} {n B P Lv Ln Ou:Nat} {w w1 w2 w3:World} {tv nv lv lv' rv rv':Value} {i f:Nat} {xs:List NV} {css:List (List Value)} {ls:List Int} {ms:List Mod}
theorem PaS.ext (h:PaS L n B P Lv Ln Ou w tv i f nv lv rv xs css ls ms w1) (a:qc w1 w2):PaS L n B P Lv Ln Ou w tv i f nv lv rv xs css ls ms w2:=by
 have c:qv (fun _ _=>True) w1 w2:=qv.ext a;refine ⟨h.st.ext a,h.ln,h.sp,h.bP.ext a,h.bL.ext a,h.bN.ext a,h.bO.ext a,h.ol.ext a,h.oo.ext a, ?_,h.sm.trans (qv.ext a),h.bl.trans (qhr a (Nat.le_of_lt h.st.blk.lt)),h.src⟩;exact h.all.imp fun _ _ h=>h.at' c (fun _=>trivial) (fun _=>trivial) (fun _=>trivial) (fun _=>trivial) fun _ _ h=>h.at' c (fun _=>trivial) fun _ _=>trivial
theorem PaS.line (h:PaS L n B P Lv Ln Ou w tv i f nv lv rv xs css ls ms w1) {x:Int} (q:w1.grownBy w2 lv.ownBlock) (U:Own w.heap.size 3 1 w2 lv' ((ls++[x]).map encI)) (O:lv'.ownBlock=lv.ownBlock∨lv'.ownBlock=some w1.heap.size) (S:B≤Ln) (Z:B≤w.heap.size) (E:Only Ln w2 w3) (Y:Blk w3 Ln #[lv'] 40):
  PaS L n B P Lv Ln Ou w tv i f nv lv' rv xs css (ls++[x]) ms w3:=by
 have a:=qv.grown h.ol q;have o:=h.bN.at' a (.inr (by decide));have c:=qv.only E o;have j:=h.st.kidLt;have I:∀k,k<w1.heap.size→lv.ownBlock≠some k→(lv.ownBlock≠some k∧lv'.ownBlock≠some k):=fun k g t=>⟨t,fun e=>by
  rcases O with z|z
  ·exact t (z▸e)
  ·rw [z] at e;cases e;omega⟩
 refine ⟨(h.st.grown h.ol q h.sp (by decide) (by decide) (by decide)).only (cs:= #[lv]) (T:=40) E (fun _=>o.heap) (by decide) (by decide) (by decide) (by decide),h.ln,fun y J k g=>(I k (j y J k g) (h.sp y J k g)).2,
  (h.bP.at' a (.inr (by decide))).at' c (.inr (by decide)),(h.bL.at' a (.inr (by decide))).at' c (.inr (by decide)),Y,(h.bO.at' a (.inr (by decide))).at' c (.inr (by decide)),
  U.at' c fun k _=> .inr (by decide),(h.oo.at' a fun k _=> .inr (by decide)).at' c fun k _=> .inr (by decide), ?_, ?_,(h.bl.trans (qpw (v:=lv) q (fun k g=>Nat.le_trans Z (h.ol.blk k g).1) (Nat.le_of_lt h.st.blk.lt))).trans (kY E S),h.src⟩
 ·refine h.all.imp fun _ _ hm=> ?_;have t:yx (xU (fun k=>lv.ownBlock≠some k∧lv'.ownBlock≠some k) w2 nv xs) w2 _ _:=hm.at' a (fun _=> .inr (by decide)) (fun _=> .inr (by decide)) (fun _=> .inr (by decide)) (fun _=> .inr (by decide)) fun v l H=>
   (xU.mono (q':=fun k=>lv.ownBlock≠some k∧lv'.ownBlock≠some k) H j I).at2 a (fun k g=> .inl g.1) fun k _=> .inr (by decide)
  exact t.at' c (fun _=> .inr (by decide)) (fun _=> .inr (by decide)) (fun _=> .inr (by decide)) (fun _=> .inr (by decide)) fun v l H=>
   (H.mono (fun x V k g=>Nat.lt_of_lt_of_le (j x V k g) q.size) fun k _ g=>g.2).at2 c (fun k _=> .inr (by decide)) fun k _=> .inr (by decide)
 ·refine (h.sm.trans ((a.mono fun k T g=> ?_).trans (c.mono fun k T g=> ?_)))
  ·exact .inl fun e=>by have:=(h.ol.blk k e).1;have:=g.2;omega
  ·rcases g.1 with rfl|rfl|rfl<;>exact .inr (by decide)
end
@[simp] theorem qDN:qf Tryz.prog 17=true:=by kernel_rfl
def wb (e l:Int):Value:= .agg #[.int .i64 e, .int .i64 l]
def RdN (w:World) (v:Value) (l:List Nd):Prop:=∃xs:List NV,xs.map (·.nd)=l∧Rd w v xs
def vG (w:World) (v:Value) (l:List Nd):Prop:=∃(xs:List NV) (b b':Nat),xs.map (·.nd)=l∧Own b 44 6 w v (ji xs)∧∀x∈xs,Own b' 3 1 w x.kv (x.nd.kids.map encI)
theorem vG.rdN {w:World} {v:Value} {l:List Nd} (h:vG w v l):RdN w v l:=by
 obtain ⟨xs,b,k,c,j,a⟩:=h;exact ⟨xs,c,L01.vB j,fun x g=>L01.vB (a x g)⟩
theorem vG.at' {w w':World} {v:Value} {l:List Nd} {p:Nat→TypeId→Prop} (h:vG w v l) (c:qv p w w') (a:∀k,p k 44) (g:∀k,p k 3):vG w' v l:=by
 obtain ⟨xs,b,t,y,j,q⟩:=h;exact ⟨xs,b,t,y,j.at' c fun k _=>a k,fun x o=>(q x o).at' c fun k _=>g k⟩
theorem vG.ext {w w':World} {v:Value} {l:List Nd} (h:vG w v l) (a:qc w w'):vG w' v l:=by
 obtain ⟨xs,b,c,g,k,o⟩:=h;exact ⟨xs,b,c,g,k.ext a,fun x j=>(o x j).ext a⟩
def NOk (l:List Nd):Prop:=(∀x∈l,DOk x.d)∧∀x∈l,x.kids.length≤1000000
theorem DS.ok {d:D} (h:DS d):DOk d:=by
 obtain ⟨j,g,a,c⟩:=h;unfold Sh at g a c;exact ⟨by omega,by omega,by omega,by omega⟩
theorem qvy {t:T} (h:TOk t) (c:t.size≤1000000):NOk (t.flat 0):=⟨fun x a=>(qjb t 0 h x a).ok,fun x a=>by have:=qgt t 0 x a;omega⟩
theorem NOk.ds {xs:List NV} {l:List Nd} (h:NOk l) (e:xs.map (·.nd)=l):∀y∈xs,DOk y.nd.d:=fun y a=>h.1 y.nd (by rw [←e];exact List.mem_map.2 ⟨y,a,rfl⟩)
theorem NOk.kl {xs:List NV} {l:List Nd} (h:NOk l) (e:xs.map (·.nd)=l):∀y∈xs,y.nd.kids.length≤1000000:=fun y a=>h.2 y.nd (by rw [←e];exact List.mem_map.2 ⟨y,a,rfl⟩)
theorem qky {w:World} {v:Value} {b a:Nat} {xs:List NV} (h:Own b 44 6 w v (ji xs)) (g:∀x∈xs,Own a 3 1 w x.kv (x.nd.kids.map encI)):Rd w v xs:=⟨L01.vB h,fun x c=>L01.vB (g x c)⟩
def vX (ts:List Tok):Rs T:=bnd (qH ts (ts.length+3)) (fun t=>bnd (fin ts) fun _=>ret t) 0 0
def qG (s:Bs):List Nd×Int×Int:=
 match qr s with
 | .bad e l=>([],e,l)
 | .ok ts _=>match vX ts with
  | .ok t _ _=>if whole (t.flat 0) js then (t.flat 0,0,0) else ([],21,1)
  | .no g=>([],20,Qz ts g)
  | .oof=>([],0,0)
theorem QY:vh Tryz.prog 26=some #[.int .i64 0, .int .i64 0]:=by kernel_rfl
theorem yj:jo Tryz.prog 26 2=true:=by kernel_rfl
theorem qil:Tryz.prog.built 26 []=some #[.int .i64 0, .int .i64 0]:=by kernel_rfl
theorem qqz (a b:Int):Tryz.prog.built 26 [(0, .int .i64 a),(1, .int .i64 b)]=some #[.int .i64 a, .int .i64 b]:=by kernel_rfl
theorem QX.more {B P:Nat} {tv:Value} {W w2:World} {ok:Bool} {g:Nat} {Ok:World→Prop} {e:Ending} {L:List Tok} {cs:Array Value} (o:∀w2,Ok w2→∃(i f:Nat) (nv:Value) (ys:List NV),PSt B B w2 tv nv L i f ys) (J:Blk W P cs 83) (h:QX B tv W ok g Ok e w2):
  QX B tv W ok g (fun w2=>Ok w2∧Blk w2 P cs 83∧(ok=false→g≤L.length)) e w2:=by
 obtain ⟨z,I,E⟩:=h;have k:=J.at' z (.inr (.inr rfl));refine ⟨z,I, ?_⟩;rcases E with ⟨a,b,c⟩|⟨a,b,j,q,t,H,c⟩
 ·exact .inl ⟨a,b,c,k,fun e=>by rw [a] at e;cases e⟩
 ·refine .inr ⟨a,b,j,q,t,H,c,k,fun _=> ?_⟩;obtain ⟨i,f,nv,ys,y⟩:=o w2 c;have e:=y.blk.heap;rw [t.heap] at e;simp only [Option.some.injEq,Obj.cells.injEq] at e;have O:=congrArg (fun a:Array Value=>a[2]?) e.1;simp at O;have:=y.fl;omega
theorem qvp (c:List Tok):(vl c (qH c (c.length+3))=true∧∃t j g,vX c= .ok t j g)∨(vl c (qH c (c.length+3))=false∧((∃g,vX c= .no g∧vW c (qH c (c.length+3))=g)∨vX c= .oof)):=by
 have h:vl c (qH c (c.length+3))=(match vX c with| .ok _ _ _=>true|_=>false):=by
  unfold vl;rw [show bnd (qH c (c.length+3)) (fun a=>bnd (fin c) fun _=>ret a) 0 0=vX c from rfl];cases vX c<;>rfl
 have k:vW c (qH c (c.length+3))=(match vX c with| .no g=>g| .ok _ _ g=>g| .oof=>0):=by
  unfold vW;rw [show bnd (qH c (c.length+3)) (fun a=>bnd (fin c) fun _=>ret a) 0 0=vX c from rfl];cases vX c<;>rfl
 rw [h,k];cases vX c with
 |ok t j g=>exact .inl ⟨rfl,t,j,g,rfl⟩
 |no g=>exact .inr ⟨rfl, .inl ⟨g,rfl,rfl⟩⟩
 |oof=>exact .inr ⟨rfl, .inr rfl⟩
theorem qpQ (a:List Tok):vX a≠ .oof:=by
 intro h;unfold vX at h;cases c:qH a (a.length+3) 0 0 with
 |oof=>exact qhs (Nat.le_refl _) 0 c
 |no g=>rw [jJ c] at h;cases h
 |ok t j g=>
  rw [qT c] at h;unfold bnd fin at h;by_cases k:j<a.length
  ·simp [k,Rs.andThen] at h
  ·simp [k,Rs.andThen,ret] at h
theorem qpP {a:List Tok} {t:T} {j g:Nat} (h:vX a= .ok t j g):∃k,qH a (a.length+3) 0 0= .ok t j k:=by
 unfold vX at h;cases c:qH a (a.length+3) 0 0 with
 |oof=>rw [vg c] at h;cases h
 |no g=>rw [jJ c] at h;cases h
 |ok y q k=>
  rw [qT c] at h;unfold bnd fin at h;by_cases o:q<a.length
  ·simp [o,Rs.andThen] at h
  ·simp [o,Rs.andThen,ret] at h;obtain ⟨rfl,rfl,_⟩:=h;exact ⟨k,rfl⟩
theorem qde {w:World} (hG:L01.G w) (hM:xA w) (s:Bs) (hs:s.length<4611686018427387904):Calls Tryz.prog 17 #[.string (qb s)] w fun e w'=>∃v,e= .returned (.tuple #[v,wb (qG s).2.1 (qG s).2.2])∧vG w' v (qG s).1∧qc w w':=by
 generalize hRR:(fun (e:Ending) (w':World)=>∃v,e= .returned (.tuple #[v,wb (qG s).2.1 (qG s).2.2])∧vG w' v (qG s).1∧qc w w')=R;have Z:∀W,vG W (.slice none 0 0) []:=fun W=>⟨[],0,0,rfl,Own.nil _ _ _ _,by simp⟩;refine qyz fun ρ r0=> ?_;simp -implicitDefEqProofs [qov];refine qK QY fun Fr w0 hFr hE0 hb0 _=> ?_;simp -implicitDefEqProofs [r0];refine (L01.qe4 (hG.ext hE0) s hs).mono ?_;rintro _ w1 ⟨v,rfl,hv,hE1⟩;simp -implicitDefEqProofs [fV];refine qK QY fun F w2 hF hE2 hb2 _=> ?_;simp -implicitDefEqProofs;refine jg (B:=F) (by simp) hb2 (by simp [Value.cells]) (by simp [Value.cells]) (by simpa [Value.cells] using yj) fun w3 hO3 ac=> ?_;simp [Value.cells] at ac;have J:qc w1 w3:=hO3.ext hE2 hF;have hE3:qc w w3:=(hE0.trans' hE1).trans' J;have U:=(hb0.ext hE1).ext J;have hc0:w3.cell? ⟨F,0,none⟩=some (.int .i64 (qr s).err):=by rw [ac.cell];rfl
 have fin:∀(ρ2:qa) (W W':World) (e l:Int) (v:Value),qc w W→ρ2 2=v→ρ2 3= .pointer (some ⟨Fr,0,none⟩)→Only Fr W W'→Blk W' Fr #[.int .i64 e, .int .i64 l] 26→(qG s).2=(e,l)→vG W' v (qG s).1→qz [.tmp 2, .cellN 3 2] R ρ2 W':=by
  intro ρ2 W W' e l v hE e2 e3 hO hb h1 h2;refine L01.jE e2 e3 hb (by simp) ?_;rw [←hRR];refine ⟨v, ?_,h2,hO.ext hE hFr⟩;rw [h1];rfl
 simp -implicitDefEqProofs [hc0];cases E:qr s with
 |bad e l=>
  have he:=qft E;have Y:qG s=([],e,l):=by unfold qG;rw [E]
  simp -implicitDefEqProofs [L01.Res.err,he];refine vS qyy (fun W=>Blk W F #[.int .i64 e, .int .i64 l] 26) fun w4 ab _=> ?_;rw [E] at ac;have hF4:Blk w4 F #[.int .i64 e, .int .i64 l] 26:=ac.ext ab;refine ⟨hF4, ?_⟩;have cF:∀W,Blk W F #[.int .i64 e, .int .i64 l] 26→Eng.jq W ⟨F,0,none⟩ 0 2=some [.int .i64 e, .int .i64 l]:=fun W h=>by
   have:=kW h;simpa using this
  simp+contextual -implicitDefEqProofs [qoo,cF,hF4];refine jg (B:=Fr) (by simp) (U.ext ab) (by simp [Value.cells]) (by simp [Value.cells]) (by simpa [Value.cells] using yj) fun w5 hO5 hb5=> ?_;simp [Value.cells] at hb5;simp -implicitDefEqProofs [qos];exact fin _ w4 w5 e l (.slice none 0 0) (hE3.trans' ab) (by simp) (by simp) hO5 hb5 (by rw [Y]) (by rw [Y];exact Z _)
 |ok a cs=>
  rw [E] at hv;have hv':Own w0.heap.size 53 3 w1 v (qB a):=hv;have aa:=qd2 E;have hL:=qjY aa;have hNum:=qvx aa;have htl:a.length≤20000:=by have:=(L01.qj6 s).1;rw [E] at this;exact this
  have his:=hv'.isl;have hic:=zH his;have Y:qG s=(match vX a with| .ok t _ _=>if whole (t.flat 0) js then (t.flat 0,0,0) else ([],21,1)| .no g=>([],20,Qz a g)| .oof=>([],0,0)):=by unfold qG;rw [E]
  simp -implicitDefEqProofs [L01.Res.err,qop,qqw his];refine vY fun B w4 hB ab hb4 _=> ?_;simp -implicitDefEqProofs [Value.cells,hic] at hb4⊢;refine qK z83 fun P w5 hP hE5 hb5 _=> ?_;simp -implicitDefEqProofs;refine jg (B:=P) (by simp) hb5 (by simp [Value.cells]) (by simp [Value.cells]) (by simpa [Value.cells] using qjw) fun w6 hO6 hb6=> ?_;simp -implicitDefEqProofs [Value.cells] at hb6;have cP:w6.cell? ⟨P,0,none⟩=some (.pointer (some ⟨B,0,none⟩)):=by rw [hb6.cell];rfl
  have hE46:qc w4 w6:=hO6.ext hE5 hP;have hE36:qc w3 w6:=ab.trans' hE46;have hv6:=(hv'.ext J).ext hE36;have hB6:=hb4.ext hE46;have hS:PSt B B w6 v (.slice none 0 0) a 0 0 []:=⟨hB6,Own.down hv6 (Nat.zero_le _),Own.nil _ _ _ _,by simp,Nat.le_refl _,Nat.le_of_lt hB6.lt,htl,Nat.zero_le _,Nat.zero_le _⟩;simp -implicitDefEqProofs [cP];have hkn:qH a (a.length+3) 0 0≠ .oof:=qhs (Nat.le_refl _) 0;have hB3:w3.heap.size≤B:=hB;have hFB:F<B:=by have:=ac.lt;omega
  have hFrB:Fr<B:=by have:=U.lt;omega
  refine (qk0 hS (ok:=vl a (qH a (a.length+3))) (g:=vW a (qH a (a.length+3))) (Ok:=fun w2=>qiD aT a B v (qH a (a.length+3)) w2∧Blk w2 P #[.pointer (some ⟨B,0,none⟩)] 83∧(vl a (qH a (a.length+3))=false→vW a (qH a (a.length+3))≤a.length)) (by kernel_rfl) fun W hE=>
   (qu2 (qk7 hL hNum (a.length+3)) hkn (hS.ext hE) (hb6.ext hE)).mono fun e w2 h=>QX.more (fun w2 ⟨i,f,nv,ys,h,_⟩=>⟨i,f,nv,ys,h⟩) (hb6.ext hE) h).mono ?_
  rintro _ w7 ⟨rfl,hBl,w8,⟨⟨i8,f8,nv8,ys,ad,hnd8⟩,hP8,hfl⟩,o,hfar⟩;have S:qc w3 w7:=qpO hE36 hBl hB3;have O:qc w w7:=hE3.trans' S;have I:=U.ext S;rcases qvp a with ⟨z,t,j,g,hT⟩|⟨z,hno⟩
  ·rw [z] at o;obtain ⟨g',hex⟩:=qpP hT;obtain ⟨V,hjl⟩:=hnd8 t j g' z hex;change ys.map (·.nd)=t.flat 0 at V;have hP7:=hP8.at' o ⟨by decide, .inl rfl⟩;have hB7:=ad.blk.at' o ⟨by decide, .inl rfl⟩;have cP7:w7.cell? ⟨P,0,none⟩=some (.pointer (some ⟨B,0,none⟩)):=by rw [hP7.cell];rfl
   have cB7:w7.cell? ⟨B,3,none⟩=some nv8:=by rw [hB7.cell];rfl
   have hrd:Rd w7 nv8 ys:=qky (ad.own.at' o fun k _=>⟨by decide, .inl rfl⟩) fun x hx=>(ad.kid x hx).at' o fun k _=>⟨by decide, .inl rfl⟩;have htk:TOk t:=qqZ hL htl _ _ _ _ _ _ hex;have hsz:=qcH (L:=a) (a.length+3) 0 0 t j g' hex;have hnok:=qvy htk (by omega);have hds:=hnok.ds V;have hkl:=hnok.kl V;simp -implicitDefEqProofs [z,qoq,cP7,cB7];refine (qkY (hG.ext O) (hM.ext O) hrd hds hkl (qgu (w:=w7))).mono ?_;rintro _ w9 ⟨rfl,q⟩;rw [V];have c:qG s=if whole (t.flat 0) js then (t.flat 0,0,0) else ([],21,1):=by rw [Y,hT]
   cases hw:whole (t.flat 0) js with
   |true=>
    rw [hw] at c;have cP9:=q.cell cP7;have cB9:=q.cell cB7;simp -implicitDefEqProofs [qor,cP9,cB9,qil];refine jg (B:=Fr) (by simp) (I.ext q) (by simp [Value.cells]) (by simp [Value.cells]) (by simpa [Value.cells] using yj) fun w10 H y=> ?_;simp [Value.cells] at y;simp -implicitDefEqProofs;refine fin _ w9 w10 0 0 nv8 (O.trans' q) (by simp) (by simp) H y (by rw [c];rfl) ?_;rw [c];have smF:=qv.only H (I.ext q);exact ⟨ys,_,_,V,((ad.own.at' o fun k _=>⟨by decide, .inl rfl⟩).ext q).at' smF fun k _=> .inr (by decide),fun x hx=>(((ad.kid x hx).at' o fun k _=>⟨by decide, .inl rfl⟩).ext q).at' smF fun k _=> .inr (by decide)⟩
   |false=>
    rw [hw] at c;simp -implicitDefEqProofs [qqz];refine jg (B:=Fr) (by simp) (I.ext q) (by simp [Value.cells]) (by simp [Value.cells]) (by simpa [Value.cells] using yj) fun w10 H y=> ?_;simp [Value.cells] at y;simp -implicitDefEqProofs;exact fin _ w9 w10 21 1 (.slice none 0 0) (O.trans' q) (by simp) (by simp) H y (by rw [c];rfl) (by rw [c];exact Z _)
  ·obtain ⟨g,hT,hg⟩:∃g,vX a= .no g∧vW a (qH a (a.length+3))=g:=hno.resolve_right (qpQ a);obtain ⟨a8,b8,hB7⟩:=hfar z;rw [z] at o;have hP7:=hP8.at' o ⟨by decide, .inr (by decide)⟩;have cP7:w7.cell? ⟨P,0,none⟩=some (.pointer (some ⟨B,0,none⟩)):=by rw [hP7.cell];rfl
   have cB7:w7.cell? ⟨B,2,none⟩=some (.int .i64 (vW a (qH a (a.length+3)):Int)):=by rw [hB7.cell];rfl
   have hv7:Own w0.heap.size 53 3 w7 v (qB a):=(hv'.ext J).ext S;have c:qG s=([],20,Qz a g):=by rw [Y,hT]
   simp -implicitDefEqProofs [z,cP7,cB7];refine (quL hv7 htl (hfl z)).mono ?_;rintro _ w8' ⟨rfl,hw8⟩;obtain rfl:=hw8.symm;simp -implicitDefEqProofs [qqz];refine jg (B:=Fr) (by simp) I (by simp [Value.cells]) (by simp [Value.cells]) (by simpa [Value.cells] using yj) fun w9 hO9 hb9=> ?_;simp [Value.cells] at hb9;simp -implicitDefEqProofs;exact fin _ w7 w9 20 (Qz a g) (.slice none 0 0) O (by simp) (by simp) hO9 (by rw [←hg];exact hb9) (by rw [c]) (by rw [c];exact Z _)
end Go.L02
namespace Go.Eng
end Go.Eng
namespace Go.L02
open Go Go.Eng Go.RowKit
open Go.Proofs hiding encI
open Go.L01 (Bs Own.same Tok qP qR qi qo)
set_option maxRecDepth 100000
set_option maxHeartbeats 2000000
def xq {α:Type} (sz:Nat) (C:List Value→α→Prop) (w:World) (v:Value) (l:List α):Prop:=∃css:List (List Value),Cells w v sz css.flatten∧vq C css l
def wB (w:World) (cs:List Value) (s:Sig):Prop:=∃av sv,cs=[.bool s.iter,av, .string (qb s.result),sv]∧Cells w av 1 (s.args.map qi)∧Cells w sv 1 (s.signals.map qi)
def QU (w:World) (cs:List Value) (n:Need):Prop:=∃c,cs= .string (qb n.op)::c∧wB w c n.sig
def QT (w:World) (cs:List Value) (o:Opn):Prop:=∃c,cs= .string (qb o.name)::c∧wB w c o.sig
def QR (w:World) (cs:List Value) (r:Rout):Prop:=∃c pv ndv,cs= .string (qb r.name)::(c++[pv,ndv])∧wB w c r.sig∧Cells w pv 1 (r.params.map qi)∧RdN w ndv r.nodes
def QV (w:World) (cs:List Value) (m:Mod):Prop:=∃needv opv rv,cs=[.string (qb m.face.name), .int .u8 (m.face.kind:Int), .bool m.face.param,needv,opv, .string (qb m.rep),rv]∧xq 5 (QU w) w needv m.face.needs∧xq 5 (QT w) w opv m.face.ops∧xq 7 (QR w) w rv m.routs
section
variable {w w':World} {cs:List Value} {v:Value}
theorem wB.ext {s:Sig} (h:wB w cs s) (a:qc w w'):wB w' cs s:=by
 obtain ⟨c,sv,e,j,g⟩:=h;exact ⟨c,sv,e,j.ext a,g.ext a⟩
theorem QU.ext {s:Need} (h:QU w cs s) (a:qc w w'):QU w' cs s:=by
 obtain ⟨c,e,g⟩:=h;exact ⟨c,e,g.ext a⟩
theorem QT.ext {s:Opn} (h:QT w cs s) (a:qc w w'):QT w' cs s:=by
 obtain ⟨c,e,g⟩:=h;exact ⟨c,e,g.ext a⟩
theorem RdN.ext {l:List Nd} (h:RdN w v l) (a:qc w w'):RdN w' v l:=by
 obtain ⟨xs,e,h⟩:=h;exact ⟨xs,e,h.ext a⟩
theorem QR.ext {s:Rout} (h:QR w cs s) (a:qc w w'):QR w' cs s:=by
 obtain ⟨c,j,g,e,q,o,k⟩:=h;exact ⟨c,j,g,e,q.ext a,o.ext a,k.ext a⟩
theorem xq.ext {α:Type} {sz:Nat} {C C':List Value→α→Prop} {l:List α} (h:xq sz C w v l) (g:qc w w') (j:∀c a,C c a→C' c a):xq sz C' w' v l:=by
 obtain ⟨css,o,k⟩:=h;exact ⟨css,o.ext g,k.imp j⟩
theorem QV.ext {m:Mod} (h:QV w cs m) (g:qc w w'):QV w' cs m:=by
 obtain ⟨a,b,c,e,o,k,j⟩:=h;exact ⟨a,b,c,e,o.ext g fun _ _ h=>h.ext g,k.ext g fun _ _ h=>h.ext g,j.ext g fun _ _ h=>h.ext g⟩
end
theorem wB.len {w:World} {cs:List Value} {s:Sig} (h:wB w cs s):cs.length=4:=by obtain ⟨a,sv,rfl,_⟩:=h;rfl
theorem wB.row {w:World} {cs:List Value} {s:Sig} (h:wB w cs s):∀c∈cs,c.cells= #[c]∧c.oneCell=true:=by
 obtain ⟨k,sv,rfl,j,g⟩:=h;intro c a;simp only [List.mem_cons,List.mem_nil_iff,or_false] at a;rcases a with rfl|rfl|rfl|rfl
 ·exact ⟨rfl,rfl⟩
 ·exact ⟨zH j.is,xO j.is⟩
 ·exact ⟨rfl,rfl⟩
 ·exact ⟨zH g.is,xO g.is⟩
theorem qpC {α:Type} {sz:Nat}:∀{css:List (List α)},(∀c∈css,c.length=sz)→∀{k j:Nat} (a:k<css.length),j<sz→css.flatten[k*sz+j]? =css[k][j]?
 |[],_,k,_,a,_=>by simp at a
 |c::css,h,k,j,a,o=>by
  have q:=h c (by simp);rw [List.flatten_cons];cases k with
  |zero=>rw [List.getElem?_append_left (by omega)];simp
  |succ k=>
   have e:(k+1)*sz+j=c.length+(k*sz+j):=by rw [Nat.succ_mul];omega
   rw [e,List.getElem?_append_right (by omega),Nat.add_sub_cancel_left];simpa using qpC (css:=css) (fun d g=>h d (by simp [g])) (k:=k) (by simpa using a) o
section
variable {α:Type} {sz:Nat} {C:List Value→α→Prop} {w:World} {v:Value} {l:List α}
theorem xq.is (h:xq sz C w v l):qt v=true:=by obtain ⟨css,a,_⟩:=h;exact a.is
theorem xq.len (h:xq sz C w v l) (o:∀c a,C c a→c.length=sz) (q:0<sz):qh v=l.length:=by
 obtain ⟨css,t,g⟩:=h;have k:=qho (n:=sz) (vq.left (P:=fun c=>c.length=sz) o g);have j:=t.len;rw [k,g.len] at j;exact (Nat.eq_of_mul_eq_mul_right q j).symm
theorem xq.at (h:xq sz C w v l) (J:∀c a,C c a→c.length=sz) {k:Nat} (O:k<l.length):∃c,C c l[k]∧c.length=sz∧Eng.jq w (qM v (k*sz)) 0 sz=some c∧∀j,j<sz→w.cell? (qM v (k*sz+j))=c[j]? :=by
 obtain ⟨css,S,z⟩:=h;have g:=vq.left (P:=fun c=>c.length=sz) J z;have I:=z.len;have q:k<css.length:=by omega
 have o:∀j,j<sz→w.cell? (qM v (k*sz+j))=css[k][j]? :=fun j H=>by
  have y:=qho (n:=sz) g;have t:k*sz+j<css.flatten.length:=by
   rw [y];have:(k+1)*sz≤css.length*sz:=Nat.mul_le_mul_right _ q;rw [Nat.succ_mul] at this;omega
  rw [S.cell _ t,←List.getElem?_eq_getElem t,qpC g q H]
 refine ⟨css[k],z.get k q O,g _ (List.getElem_mem _), ?_,o⟩;have E:=g _ (List.getElem_mem q);have:=qal (w:=w) (a:=qM v (k*sz)) (l:=css[k]) (i:=0) fun j H=>by
  rw [qfm,Nat.zero_add,o j (by omega),List.getElem?_eq_getElem H]
 rw [E] at this;exact this
end
theorem QU.len {w:World} {c:List Value} {n:Need} (h:QU w c n):c.length=5:=by obtain ⟨c,rfl,h⟩:=h;simp [h.len]
theorem QT.len {w:World} {c:List Value} {n:Opn} (h:QT w c n):c.length=5:=by obtain ⟨c,rfl,h⟩:=h;simp [h.len]
theorem QR.len {w:World} {c:List Value} {n:Rout} (h:QR w c n):c.length=7:=by obtain ⟨c,g,a,rfl,h,_⟩:=h;simp [h.len]
structure FmS (w W:World) (m:Mod) (X F:Nat) (needv opv rv:Value):Prop where
 ext:qc w W
 bX:Blk W X #[.string (qb m.face.name), .int .u8 (m.face.kind:Int), .bool m.face.param,needv,opv, .string (qb m.rep),rv] 66
 bF:Blk W F #[.string (qb m.face.name), .int .u8 (m.face.kind:Int), .bool m.face.param,needv,opv] 63
 needs:xq 5 (QU W) W needv m.face.needs
 ops:xq 5 (QT W) W opv m.face.ops
 routs:xq 7 (QR W) W rv m.routs
 g:L01.G W
 m:xA W
section
variable {w W W':World} {m:Mod} {X F:Nat} {needv opv rv:Value} {ρ:qa} {b:Bool}
theorem FmS.cX (h:FmS w W m X F needv opv rv):W.cell? ⟨X,5,none⟩=some (.string (qb m.rep))∧W.cell? ⟨X,6,none⟩=some rv:=⟨by rw [h.bX.cell];rfl,by rw [h.bX.cell];rfl⟩
theorem FmS.cF (h:FmS w W m X F needv opv rv):W.cell? ⟨F,0,none⟩=some (.string (qb m.face.name))∧W.cell? ⟨F,1,none⟩=some (.int .u8 (m.face.kind:Int))∧W.cell? ⟨F,3,none⟩=some needv∧W.cell? ⟨F,4,none⟩=some opv:=⟨by rw [h.bF.cell];rfl,by rw [h.bF.cell];rfl,by rw [h.bF.cell];rfl,by rw [h.bF.cell];rfl⟩
theorem FmS.ol (h:FmS w W m X F needv opv rv):qh opv=m.face.ops.length:=h.ops.len (fun _ _ h=>h.len) (by decide)
theorem FmS.nl (h:FmS w W m X F needv opv rv):qh needv=m.face.needs.length:=h.needs.len (fun _ _ h=>h.len) (by decide)
end
theorem qAK {w:World} {Mb:Nat} {ps:List (ByteArray×Value)} (h:MapB w Mb ps) (a:Addr) (g:a.block=Mb):w.cell? a=none:=by
 obtain ⟨es,c,j,_⟩:=h.ex;subst g;unfold World.cell?;rw [j]
theorem qAJ {w w':World} {Mb:Nat} {ps:List (ByteArray×Value)} (h:MapB w Mb ps) (j:Only Mb w w') {a:Addr} {v:Value} (c:w.cell? a=some v):w'.cell? a=some v:=by
 have g:a.block≠Mb:=fun e=>by rw [qAK h a e] at c;cases c
 rw [←c];unfold World.cell?;rw [j.block a.block g]
theorem Cells.map {w w':World} {Mb:Nat} {ps:List (ByteArray×Value)} {v:Value} {sz:Nat} {xs:List Value} (h:Cells w v sz xs) (a:MapB w Mb ps) (c:Only Mb w w'):Cells w' v sz xs:=⟨h.is,h.len,fun j g=>qAJ a c (h.cell j g)⟩
section
variable {w w0 W W':World} {m:Mod} {X F:Nat} {needv opv rv:Value} {ρ:qa} {b:Bool}
end
section
variable {w w0 W W':World} {m:Mod} {X F:Nat} {needv opv rv nsv:Value} {ρ:qa} {b:Bool}
end
theorem QV.row {w:World} {cs:List Value} {m:Mod} (h:QV w cs m):cs.length=7∧∀c∈cs,c.cells= #[c]∧c.oneCell=true:=by
 obtain ⟨needv,opv,rv,rfl,k,j,g⟩:=h;refine ⟨rfl, ?_⟩;intro c a;simp only [List.mem_cons,List.mem_nil_iff,or_false] at a;rcases a with rfl|rfl|rfl|rfl|rfl|rfl|rfl
 ·exact ⟨rfl,rfl⟩
 ·exact ⟨rfl,rfl⟩
 ·exact ⟨rfl,rfl⟩
 ·exact ⟨zH k.is,xO k.is⟩
 ·exact ⟨zH j.is,xO j.is⟩
 ·exact ⟨rfl,rfl⟩
 ·exact ⟨zH g.is,xO g.is⟩
end Go.L02
namespace Go.L02
open Go.Eng
open Go.L01 (Bs Tok je qY qo qr qy right)
def xV (l:List Nd) (i:Nat) (u:T):Prop:=∃pre post,l=pre++(u.flat pre.length++post)∧i+1=pre.length+u.size
theorem T.flat_eq (u:T) (b:Nat):u.flat b=flats b u.kids++[⟨u.d,qu b u.kids⟩]:=by cases u;rfl
theorem T.size_eq (u:T):u.size=sizes u.kids+1:=by cases u;rfl
section
variable {l:List Nd} {i:Nat} {u:T}
theorem xV.lt (h:xV l i u):i<l.length:=by
 obtain ⟨a,post,rfl,h⟩:=h;rw [List.length_append,List.length_append,T.flat_len];omega
theorem xV.le (h:xV l i u):u.size≤i+1:=by obtain ⟨a,post,rfl,h⟩:=h;omega
theorem xV.node (h:xV l i u):l[i]? =some ⟨u.d,qu (i+1 - u.size) u.kids⟩:=by
 obtain ⟨a,post,rfl,h⟩:=h;have j:=u.size_eq;rw [List.getElem?_append_right (by omega),u.flat_eq,List.append_assoc,List.getElem?_append_right (by rw [flats_len];omega),flats_len];have c:i - a.length - sizes u.kids=0:=by omega
 have g:i+1 - u.size=a.length:=by omega
 rw [c,g];rfl
theorem qfK:∀(ks:List T) (b j:Nat) (h:j<ks.length),(qu b ks)[j]? =some (((b+sizes (ks.take (j+1)):Nat):Int) - 1)
 |[],_,_,h=>by simp at h
 |k::ks,b,0,_=>by simp [qu,sizes]
 |k::ks,b,j+1,h=>by
  simp only [qu,List.getElem?_cons_succ];rw [qfK ks (b+k.size) j (by simpa using h),List.take_succ_cons,sizes];congr 2;omega
theorem xV.kid (h:xV l i u) {j:Nat} (g:j<u.kids.length):xV l (i+sizes (u.kids.take (j+1)) - u.size) u.kids[j]:=by
 have o:=h.le;obtain ⟨a,post,rfl,h⟩:=h;have e:u.kids=u.kids.take j++(u.kids[j]::u.kids.drop (j+1)):=by rw [←List.drop_eq_getElem_cons g,List.take_append_drop]
 have k:sizes (u.kids.take (j+1))=sizes (u.kids.take j)+u.kids[j].size:=by rw [List.take_succ_eq_append_getElem g,wM];simp [sizes]
 have q:u.size=sizes u.kids+1:=u.size_eq;have t:sizes u.kids=sizes (u.kids.take j)+(u.kids[j].size+sizes (u.kids.drop (j+1))):=by conv=>lhs;rw [e,wM,sizes]
 have c:=u.kids[j].size_pos;refine ⟨a++flats a.length (u.kids.take j),flats (a.length+(sizes (u.kids.take j)+u.kids[j].size)) (u.kids.drop (j+1))++([⟨u.d,qu a.length u.kids⟩]++post), ?_, ?_⟩
 ·rw [u.flat_eq]
  conv=>lhs;rw [e]
  rw [qd3,flats,List.length_append,flats_len];simp only [List.append_assoc,Nat.add_assoc];rw [←e]
 ·rw [List.length_append,flats_len,k];omega
theorem xV.uniq:∀(n:Nat) {i:Nat} {u v:T},u.size≤n→xV l i u→xV l i v→u=v
 |0,_,u,_,hn,_,_=>by have:=u.size_pos;omega
 |n+1,i,u,v,hn,h,g=>by
  have e:=h.node.symm.trans g.node;simp only [Option.some.injEq,Nd.mk.injEq] at e;obtain ⟨t,er⟩:=e;have c:u.kids.length=v.kids.length:=by
   have:=congrArg List.length er
   rwa [wn,wn] at this
  have y:u.kids=v.kids:=by
   refine List.ext_getElem c fun j k q=> ?_;have a:=h.kid k;have b:=g.kid q;have g1:=qfK u.kids (i+1 - u.size) j k;have H:=qfK v.kids (i+1 - v.size) j q;rw [er,H] at g1;have l1:=h.le;have J:=g.le;have E:i+sizes (u.kids.take (j+1)) - u.size=i+sizes (v.kids.take (j+1)) - v.size:=by
    have U:0<sizes (u.kids.take (j+1)):=by rw [List.take_succ_eq_append_getElem k,wM];have:=u.kids[j].size_pos;simp [sizes];omega
    have S:0<sizes (v.kids.take (j+1)):=by rw [List.take_succ_eq_append_getElem q,wM];have:=v.kids[j].size_pos;simp [sizes];omega
    have O:sizes (u.kids.take (j+1))≤sizes u.kids:=by have:=congrArg sizes (List.take_append_drop (j+1) u.kids);rw [wM] at this;omega
    simp only [Option.some.injEq] at g1;have Y:=h.le;have I:=g.le;have z:=u.size_eq;have V:=v.size_eq;omega
   rw [←E] at b;have o:u.kids[j].size≤n:=by
    have z:=u.size_eq;have:u.kids[j].size≤sizes u.kids:=by
     conv=>rhs;rw [←List.take_append_drop j u.kids,List.drop_eq_getElem_cons k,wM,sizes]
     omega
    omega
   exact xV.uniq n o a b
  cases u;cases v;simp only [T.d,T.kids] at t y;rw [t,y]
end
def ind (a b k:Int):Nat:=if a≤k∧k<b then 1 else 0
def kZ (sep:Bs):List Bs→Bs
 |[]=>[]
 |[x]=>x
 |x::y::ys=>x++(sep++kZ sep (y::ys))
def yO (ss:List Bs) (i:Nat):Bs:=ss.getD i []
def qbV (ks:List T) (i:Nat):Nat:=match ks[i]? with|some t=>t.d.kind|none=>0
def opd (k:Nat) (s:Bs):Bs:=if k=6 then [40]++(s++[41]) else s
def qAU (d:D):Bs:=if d.vr≠[] then d.vr++([36]++d.name) else if d.typ≠[] then d.name++([123]++(d.typ++[125])) else d.name
def xtD (d:D) (ks:List T) (ss:List Bs):Bs:=
 if d.kind=1 then Lib.itoa d.n
 else if d.kind=2 then (if d.n=1 then [116,114,117,101] else [102,97,108,115,101])
 else if d.kind=3 then [110,105,108]
 else if d.kind=4 then d.name
 else if d.kind=5 then qAU d++([40]++(kZ [44,32] ss++[41]))
 else if d.kind=6 then (if ks.length=1 then [110,111,116,32]++opd (qbV ks 0) (yO ss 0) else opd (qbV ks 0) (yO ss 0)++([32]++(d.name++([32]++opd (qbV ks 1) (yO ss 1)))))
 else if d.kind=7 then opd (qbV ks 0) (yO ss 0)++([91]++(yO ss 1++[93]))
 else if d.kind=8 then opd (qbV ks 0) (yO ss 0)++([46]++d.name)
 else if d.kind=9 then [117,112,40]++(yO ss 0++[41])
 else [100,111,119,110,40]++(yO ss 0++[41])
mutual
def xt:T→Bs| .mk d ks=>xtD d ks (xts ks)
def xts:List T→List Bs|[]=>[] |t::ts=>xt t::xts ts
end
def ot (t:T):Bs:=opd t.d.kind (xt t)
def qs2 (l:List Bs):List Bs:=l.dropLast++(match l.getLast? with|some s=>[s++[59]] |none=>[])
def qbn:List (List Bs)→List Bs
 |[]=>[]
 |[l]=>l
 |l::m::ls=>qs2 l++qbn (m::ls)
def qd1 (l:List Bs):List Bs:=l.map ([32,32]++ ·)
def xk (ks:List T) (i:Nat):Bs:=match ks[i]? with|some t=>xt t|none=>[]
def ok (ks:List T) (i:Nat):Bs:=match ks[i]? with|some t=>ot t|none=>[]
def qv9 (d:D) (ks:List T):Bs:=
 if d.kind=21 then [118,97,114,32]++(d.name++([58,32]++(d.typ++([32,58,61,32]++xk ks 0))))
 else if d.kind=22 then d.name++([32,58,61,32]++xk ks 0)
 else if d.kind=23 then ok ks 0++([91]++(xk ks 1++([93,32,58,61,32]++xk ks 2)))
 else if d.kind=24 then ok ks 0++([46]++(d.name++([32,58,61,32]++xk ks 1)))
 else if d.kind=25 then xk ks 0
 else if d.kind=37 then [112,117,116,32]++xk ks 0
 else if d.kind=30 then [121,105,101,108,100,32]++xk ks 0
 else if d.kind=31 then [115,105,103,110,97,108,32]++d.name
 else if d.kind=34 then [98,114,101,97,107]
 else if ks.length=0 then [114,101,116,117,114,110] else [114,101,116,117,114,110,32]++xk ks 0
def qrv (s:Bs):Bs:=if s=[] then [111,116,104,101,114,115] else s
mutual
def stL:T→List Bs
 | .mk d ks=>
  if d.kind=26 then condL [105,102] ks++[[101,110,100]]
  else if d.kind=27 then ([119,104,105,108,101,32]++(xk ks 0++[32,100,111]))::(blkL 1 ks++[[101,110,100]])
  else if d.kind=28 then ([102,111,114,32]++(d.name++([58,32]++(d.typ++([32,105,110,32]++(xk ks 0++[32,100,111]))))))::(blkL 1 ks++[[101,110,100]])
  else if d.kind=32 then [98,101,103,105,110]::(blkL 0 ks++([101,120,99,101,112,116]::(whensT ks++[[101,110,100]])))
  else if d.kind=35 then ([116,97,103,99,97,115,101,32]++xk ks 0)::(armsT ks++[[101,110,100]])
  else [qv9 d ks]
def qbj:List T→List (List Bs)|[]=>[] |t::ts=>stL t::qbj ts
def blkL:Nat→List T→List Bs
 |_,[]=>[]
 |0, .mk _ qs::_=>qd1 (qbn (qbj qs))
 |i+1,_::ks=>blkL i ks
def condL:Bs→List T→List Bs
 |word,[c, .mk _ qs]=>(word++([32]++(xt c++[32,116,104,101,110])))::qd1 (qbn (qbj qs))
 |word,[c, .mk _ qs, .mk _ rs]=>(word++([32]++(xt c++[32,116,104,101,110])))::(qd1 (qbn (qbj qs))++elseL (qd1 (qbn (qbj rs))) rs)
 |_,_=>[]
def elseL:List Bs→List T→List Bs
 |ls,[.mk d ks]=>if d.kind=26 then condL [101,108,115,101,105,102] ks else [101,108,115,101]::ls
 |ls,_=>[101,108,115,101]::ls
def whensT:List T→List Bs|[]=>[] |_::ts=>whensL ts
def armsT:List T→List Bs|[]=>[] |_::ts=>armsL ts
def whensL:List T→List Bs
 |[]=>[]
 | .mk d ks::ts=>([119,104,101,110,32]++(qrv d.name++[58]))::(blkL 0 ks++whensL ts)
def armsL:List T→List Bs
 |[]=>[]
 | .mk d ks::ts=>([116,97,103,32]++(d.name++([40]++(d.vr++([58,32]++(d.typ++[41,58]))))))::(blkL 0 ks++armsL ts)
end
end Go.L02
